/-
  HeadRefuses: the walk (printed by genRefuses11.py).
-/
import Derived.Test.YthnhpnmopjbaoaaDoorHLive11
namespace Go.Proofs.YthnhpnmopjbaoaaDoor
open Go.RowKit

section
variable {B : Nat} {w : World} {h : Nat} {code : Int} {ls : List ByteArray}
theorem act_0 (l : HLive B w h false code ls) (ht : TabsR w) (hsz : Small ls) {a : HA} (ha : a.Ok) (hk : kindOf a.kind = 0) {n c2 : Int} {l2 : List ByteArray} (hA : actP code ls a = (n, c2, l2)) :
    Calls Tryd.prog 30 #[.pointer (some ⟨h, 0, none⟩), .string a.s, .bool a.r, .int .i64 a.n] w (HLPost B w h false (.int .i64 n) c2 l2) := by
  have := live_line l ht hsz a.s (by have := ha.s; omega) a.r a.n
  unfold actP at hA
  rw [if_pos hk] at hA
  rw [hA] at this
  exact this
theorem act_1 (l : HLive B w h false code ls) {a : HA} (hk : kindOf a.kind = 1) {n c2 : Int} {l2 : List ByteArray} (hA : actP code ls a = (n, c2, l2)) :
    Calls Tryd.prog 33 #[.pointer (some ⟨h, 0, none⟩), .int .i64 a.n] w (HLPost B w h false (.int .i64 n) c2 l2) := by
  have := live_status l a.n
  unfold actP at hA
  rw [if_neg (by omega), if_pos hk] at hA
  by_cases hc : 100 ≤ a.n ∧ a.n ≤ 599
  · rw [if_pos hc] at hA
    cases hA
    rw [if_neg (by simp), if_pos hc, if_pos ⟨rfl, hc⟩] at this
    exact this
  · rw [if_neg hc] at hA
    cases hA
    rw [if_neg (by simp), if_neg hc, if_neg (fun e => hc e.2)] at this
    exact this
theorem act_2 (l : HLive B w h false code ls) (ht : TabsR w) {a : HA} (ha : a.Ok) (hk : kindOf a.kind = 2) {n c2 : Int} {l2 : List ByteArray} (hA : actP code ls a = (n, c2, l2)) :
    Calls Tryd.prog 34 #[.pointer (some ⟨h, 0, none⟩), .string a.s, .string a.t, .string a.u, .int .i64 a.n] w (HLPost B w h false (.int .i64 n) c2 l2) := by
  have := live_cookie l ht.t a.s a.t a.u a.n ha.lo ha.hi (by have := ha.s; omega) (by have := ha.t; omega) (by have := ha.u; omega)
  unfold actP at hA
  rw [if_neg (by omega), if_neg (by omega), if_pos hk] at hA
  cases hA
  exact this
theorem act_3 (l : HLive B w h false code ls) (hsz : Small ls) {a : HA} (ha : a.Ok) (hk : kindOf a.kind = 3) {n c2 : Int} {l2 : List ByteArray} (hA : actP code ls a = (n, c2, l2)) :
    Calls Tryd.prog 32 #[.pointer (some ⟨h, 0, none⟩), .string a.s] w (HLPost B w h false (.int .i64 n) c2 l2) := by
  have := live_remove l hsz a.s (by have := ha.s; omega)
  unfold actP at hA
  rw [if_neg (by omega), if_neg (by omega), if_neg (by omega), if_pos hk] at hA
  cases hA
  exact this
theorem act_4 {a : HA} (hk : kindOf a.kind = 4) {n c2 : Int} {l2 : List ByteArray} (hA : actP code ls a = (n, c2, l2)) : n = 0 ∧ c2 = code ∧ l2 = ls := by
  unfold actP at hA
  rw [if_neg (by omega), if_neg (by omega), if_neg (by omega), if_neg (by omega)] at hA
  cases hA
  exact ⟨rfl, rfl, rfl⟩
end
set_option maxHeartbeats 12800000 in
set_option maxRecDepth 100000 in
theorem refuses_any (cap : Nat) (ao : Option Addr) (acts : List HA) (W : World) (hl : Lies W 6 ao (acts.map HA.cells)) (hn : acts.length ≤ 1048576) (hok : ∀ a ∈ acts, a.Ok) (ht : TabsR W) :
    Calls Tryd.prog 9 #[.slice ao acts.length cap] W (BoolPost W true) := by
  have HL := Lib.hid hl
  have HT := Lib.hid ht
  have HOK := Lib.hid hok
  clear hl ht hok
  go_enter Tryd.func9, Tryd.ntmps9
  go_wp2_with fail
  refine (live_new W).mono ?_
  rintro e w1 ⟨rfl, l1, b1, -⟩
  have L1 := Lib.hid l1
  have B1 := Lib.hid b1
  have HA := halive_any w1 (HT.out.t.mono b1)
  clear l1 b1
  go_wp2_with fail
  refine HA.mono ?_
  rintro e w2 ⟨rfl, hb⟩
  have L2 : Hid (∃ code ls, HLive W.heap.size w2 W.heap.size false code ls ∧ Small ls) := Lib.hid ⟨_, _, L1.out.below hb, fun s hs => by cases hs⟩
  have B2 := Lib.hid (B1.out.trans (hb.mono B1.out.size))
  clear HA hb L1 B1
  go_wp2_with fail
  go_loopw [6, 7, 8, 18] (fun _ _ _ kv wr => ∃ k : Nat, k ≤ acts.length ∧ kv = .int .i64 k ∧ Hid (∃ code ls, HLive W.heap.size wr W.heap.size false code ls ∧ Small ls) ∧ Hid (Below W.heap.size W wr)) (fun _ _ _ kv _ => acts.length - (intOf kv).toNat)
  case atStart => exact ⟨0, Nat.zero_le _, rfl, L2, B2⟩
  case round =>
    obtain ⟨k, hk, rfl, LL, BL⟩ := hrel
    clear L2 B2
    by_cases hlt : k < acts.length
    · obtain ⟨code, ls, lL, lS⟩ := LL.out
      obtain ⟨g, off, rfl, hg, c0, c1, c2, c3, c4, c5⟩ := ha_cells HL.out hlt BL.out rfl
      have hkr := kind_range acts[k].kind
      have HAOK := Lib.hid (HOK.out acts[k] (List.getElem_mem hlt))
      have hi : (k : Int) < (acts.length : Int) := by omega
      have hw : IntKind.i64.wrap ((k : Int) + 1) = (k : Int) + 1 := by rw [IntKind.wrap_i64]; omega
      have hw' : wrap64 ((k : Int) + 1) = (k : Int) + 1 := wr64 (by omega) (by omega)
      generalize acts[k] = a at c0 c1 c2 c3 c4 c5 hkr HAOK
      have hkw := kind_wrap (kind := a.kind)
      obtain ⟨q, hq⟩ : ∃ q, (a.kind.tmod 5 + 5).tmod 5 = q := ⟨_, rfl⟩
      have hkq : kindOf a.kind = q := hq
      rw [hkq] at hkr
      have L6 := Lib.hid (lL.below (below_alloc1 wr (.cells #[.int .i64 a.kind, .string a.s, .string a.t, .string a.u, .bool a.r, .int .i64 a.n] 55)))
      have B6 := Lib.hid (BL.out.alloc BL.out.size (.cells #[.int .i64 a.kind, .string a.s, .string a.t, .string a.u, .bool a.r, .int .i64 a.n] 55))
      have bk := heap_alloc_new wr (.cells #[.int .i64 a.kind, .string a.s, .string a.t, .string a.u, .bool a.r, .int .i64 a.n] 55)
      have BK := Lib.hid bk
      have HLT := Lib.hid hlt
      have HS := Lib.hid lS
      obtain ⟨n, cd, l2, hA⟩ : ∃ n cd l2, actP code ls a = (n, cd, l2) := ⟨_, _, _, rfl⟩
      have HAC := Lib.hid hA
      have HCo := live_code L6.out
      have HLi := live_lines L6.out
      clear lL lS hlt hA bk LL
      go_wp2_with fail
      generalize wr.alloc _ = w6 at L6 B6 BK HCo HLi ⊢
      refine HCo.mono ?_
      rintro e w7 ⟨rfl, rfl⟩
      clear HCo c0 c1 c2 c3 c4 c5
      go_wp2_with fail
      refine HLi.mono ?_
      rintro e w7 ⟨v7, rfl, o7, hb, n7⟩
      have N7 : Hid (∀ g, v7.ownBlock = some g → g ≠ W.heap.size) := Lib.hid (fun g e => by have := n7 g e; have := L6.out.lt; omega)
      have L7 := Lib.hid (L6.out.below hb)
      have O7 := Lib.hid o7
      have B7 := Lib.hid (B6.out.trans (hb.mono B6.out.size))
      have bk7 := (Mod.of_below (F := fun _ => False) hb).blk BK.out (fun x => x)
      have d0 := cell_blk bk7 0
      have d1 := cell_blk bk7 1
      have d2 := cell_blk bk7 2
      have d3 := cell_blk bk7 3
      have d4 := cell_blk bk7 4
      have d5 := cell_blk bk7 5
      have T7 := Lib.hid (HT.out.mono B7.out)
      obtain ⟨a7, c7, hv7, -⟩ := o7.any
      rw [List.length_map] at hv7
      subst hv7
      clear HLi hb o7 L6 B6 BK bk7 n7
      rcases (show q = 0 ∨ q = 1 ∨ q = 2 ∨ q = 3 ∨ q = 4 by omega) with rfl | rfl | rfl | rfl | rfl
      · have HAct := act_0 L7.out T7.out HS.out HAOK.out hkq HAC.out
        clear hkr
        go_wp2_with fail
        refine HAct.mono ?_
        rintro e w8 ⟨rfl, l8, b8, m8⟩
        have L8 := Lib.hid l8
        have B8 := Lib.hid (B7.out.trans b8)
        have M78 : Hid (∀ w9, Below w8.heap.size w8 w9 → Lies w9 1 a7 (ls.map sR)) := Lib.hid (fun w9 hb => by
          have o8 := O7.out.mod m8 (fun g e x => N7.out g e x)
          have o9 := o8.mod (Mod.of_below (F := fun _ => False) hb) (fun _ _ x => x)
          obtain ⟨a, c, hv, _, _, hl, _, _⟩ := o9.any
          rw [List.length_map] at hv
          cases hv
          exact hl)
        clear HAct l8 b8 m8 d0 d1 d2 d3 d4 d5
        have HS8 : Hid (Small l2) := Lib.hid (by have := HS.out.act (code := code) HAOK.out; rw [HAC.out] at this; exact this)
        by_cases hn0 : n = 0
        · subst hn0
          have HCo := live_code L8.out
          have HLi := live_lines L8.out
          have e1 : decide (cd < 100) = false := by have := L8.out.range; simp; omega
          have e2 : decide (599 < cd) = false := by have := L8.out.range; simp; omega
          have e3 : decide (64 < (l2.length : Int)) = false := by have := L8.out.len; simp; omega
          go_wp2_with fail
          refine HCo.mono ?_
          rintro e w9 ⟨rfl, rfl⟩
          go_wp2_with fail
          refine HCo.mono ?_
          rintro e w9 ⟨rfl, rfl⟩
          go_wp2_with fail
          refine HLi.mono ?_
          rintro e w9 ⟨v9, rfl, o9, hb, -⟩
          have L9 : Hid (∃ code ls, HLive W.heap.size w9 W.heap.size false code ls ∧ Small ls) := Lib.hid ⟨_, _, L8.out.below hb, HS8.out⟩
          have B9 := Lib.hid (B8.out.trans (hb.mono B8.out.size))
          obtain ⟨a9, c9, hv9, -⟩ := o9.any
          rw [List.length_map] at hv9
          subst hv9
          clear HCo HLi hb o9
          go_wp2_with fail
          go_roundw
          case rel => exact ⟨k + 1, HLT.out, by go_num, L9, B9⟩
          case measure => have := HLT.out; simp [intOf]; omega
        · have hR := actP_refused (code := code) (ls := ls) (a := a) (by rw [HAC.out]; exact hn0)
          rw [HAC.out] at hR
          cases hR
          have dn : (n != 0) = true := by simp [hn0]
          have HCo := live_code L8.out
          have HLi := live_lines L8.out
          have e1 : decide (code < 100) = false := by have := L8.out.range; simp; omega
          have e2 : decide (599 < code) = false := by have := L8.out.range; simp; omega
          have e3 : decide (64 < (ls.length : Int)) = false := by have := L8.out.len; simp; omega
          have HLN := Lib.hid L8.out.len
          clear hn0
          go_wp2_with fail
          refine HCo.mono ?_
          rintro e w9 ⟨rfl, rfl⟩
          go_wp2_with fail
          refine HLi.mono ?_
          rintro e w9 ⟨v9, rfl, o9, hb, -⟩
          have L9 := Lib.hid (L8.out.below hb)
          have B9 := Lib.hid (B8.out.trans (hb.mono B8.out.size))
          have hl7 := M78.out _ hb
          obtain ⟨a9, c9, hv9, -, -, hl9, -, -⟩ := o9.any
          rw [List.length_map] at hv9
          subst hv9
          have HSm := same_any (ca := c9) (cb := c7) hl9 hl7 (by have := HLN.out; omega) (by have := HLN.out; omega)
          rw [decide_eq_true rfl] at HSm
          clear HCo HLi hb o9 hl7 hl9
          go_wp2_with fail
          refine HSm.mono ?_
          rintro e w10 ⟨rfl, hb⟩
          have L10 := Lib.hid (L9.out.below hb)
          have B10 := Lib.hid (B9.out.trans (hb.mono B9.out.size))
          have HCo := live_code L10.out
          have HLi := live_lines L10.out
          clear HSm hb
          go_wp2_with fail
          refine HCo.mono ?_
          rintro e w11 ⟨rfl, rfl⟩
          go_wp2_with fail
          refine HCo.mono ?_
          rintro e w11 ⟨rfl, rfl⟩
          go_wp2_with fail
          refine HLi.mono ?_
          rintro e w11 ⟨v11, rfl, o11, hb, -⟩
          have L11 : Hid (∃ code ls, HLive W.heap.size w11 W.heap.size false code ls ∧ Small ls) := Lib.hid ⟨_, _, L10.out.below hb, HS8.out⟩
          have B11 := Lib.hid (B10.out.trans (hb.mono B10.out.size))
          obtain ⟨a11, c11, hv11, -⟩ := o11.any
          rw [List.length_map] at hv11
          subst hv11
          clear HCo HLi hb o11
          go_wp2_with fail
          go_roundw
          case rel => exact ⟨k + 1, HLT.out, by go_num, L11, B11⟩
          case measure => have := HLT.out; simp [intOf]; omega
      · have HAct := act_1 L7.out hkq HAC.out
        clear hkr
        go_wp2_with fail
        refine HAct.mono ?_
        rintro e w8 ⟨rfl, l8, b8, m8⟩
        have L8 := Lib.hid l8
        have B8 := Lib.hid (B7.out.trans b8)
        have M78 : Hid (∀ w9, Below w8.heap.size w8 w9 → Lies w9 1 a7 (ls.map sR)) := Lib.hid (fun w9 hb => by
          have o8 := O7.out.mod m8 (fun g e x => N7.out g e x)
          have o9 := o8.mod (Mod.of_below (F := fun _ => False) hb) (fun _ _ x => x)
          obtain ⟨a, c, hv, _, _, hl, _, _⟩ := o9.any
          rw [List.length_map] at hv
          cases hv
          exact hl)
        clear HAct l8 b8 m8 d0 d1 d2 d3 d4 d5
        have HS8 : Hid (Small l2) := Lib.hid (by have := HS.out.act (code := code) HAOK.out; rw [HAC.out] at this; exact this)
        by_cases hn0 : n = 0
        · subst hn0
          have HCo := live_code L8.out
          have HLi := live_lines L8.out
          have e1 : decide (cd < 100) = false := by have := L8.out.range; simp; omega
          have e2 : decide (599 < cd) = false := by have := L8.out.range; simp; omega
          have e3 : decide (64 < (l2.length : Int)) = false := by have := L8.out.len; simp; omega
          go_wp2_with fail
          refine HCo.mono ?_
          rintro e w9 ⟨rfl, rfl⟩
          go_wp2_with fail
          refine HCo.mono ?_
          rintro e w9 ⟨rfl, rfl⟩
          go_wp2_with fail
          refine HLi.mono ?_
          rintro e w9 ⟨v9, rfl, o9, hb, -⟩
          have L9 : Hid (∃ code ls, HLive W.heap.size w9 W.heap.size false code ls ∧ Small ls) := Lib.hid ⟨_, _, L8.out.below hb, HS8.out⟩
          have B9 := Lib.hid (B8.out.trans (hb.mono B8.out.size))
          obtain ⟨a9, c9, hv9, -⟩ := o9.any
          rw [List.length_map] at hv9
          subst hv9
          clear HCo HLi hb o9
          go_wp2_with fail
          go_roundw
          case rel => exact ⟨k + 1, HLT.out, by go_num, L9, B9⟩
          case measure => have := HLT.out; simp [intOf]; omega
        · have hR := actP_refused (code := code) (ls := ls) (a := a) (by rw [HAC.out]; exact hn0)
          rw [HAC.out] at hR
          cases hR
          have dn : (n != 0) = true := by simp [hn0]
          have HCo := live_code L8.out
          have HLi := live_lines L8.out
          have e1 : decide (code < 100) = false := by have := L8.out.range; simp; omega
          have e2 : decide (599 < code) = false := by have := L8.out.range; simp; omega
          have e3 : decide (64 < (ls.length : Int)) = false := by have := L8.out.len; simp; omega
          have HLN := Lib.hid L8.out.len
          clear hn0
          go_wp2_with fail
          refine HCo.mono ?_
          rintro e w9 ⟨rfl, rfl⟩
          go_wp2_with fail
          refine HLi.mono ?_
          rintro e w9 ⟨v9, rfl, o9, hb, -⟩
          have L9 := Lib.hid (L8.out.below hb)
          have B9 := Lib.hid (B8.out.trans (hb.mono B8.out.size))
          have hl7 := M78.out _ hb
          obtain ⟨a9, c9, hv9, -, -, hl9, -, -⟩ := o9.any
          rw [List.length_map] at hv9
          subst hv9
          have HSm := same_any (ca := c9) (cb := c7) hl9 hl7 (by have := HLN.out; omega) (by have := HLN.out; omega)
          rw [decide_eq_true rfl] at HSm
          clear HCo HLi hb o9 hl7 hl9
          go_wp2_with fail
          refine HSm.mono ?_
          rintro e w10 ⟨rfl, hb⟩
          have L10 := Lib.hid (L9.out.below hb)
          have B10 := Lib.hid (B9.out.trans (hb.mono B9.out.size))
          have HCo := live_code L10.out
          have HLi := live_lines L10.out
          clear HSm hb
          go_wp2_with fail
          refine HCo.mono ?_
          rintro e w11 ⟨rfl, rfl⟩
          go_wp2_with fail
          refine HCo.mono ?_
          rintro e w11 ⟨rfl, rfl⟩
          go_wp2_with fail
          refine HLi.mono ?_
          rintro e w11 ⟨v11, rfl, o11, hb, -⟩
          have L11 : Hid (∃ code ls, HLive W.heap.size w11 W.heap.size false code ls ∧ Small ls) := Lib.hid ⟨_, _, L10.out.below hb, HS8.out⟩
          have B11 := Lib.hid (B10.out.trans (hb.mono B10.out.size))
          obtain ⟨a11, c11, hv11, -⟩ := o11.any
          rw [List.length_map] at hv11
          subst hv11
          clear HCo HLi hb o11
          go_wp2_with fail
          go_roundw
          case rel => exact ⟨k + 1, HLT.out, by go_num, L11, B11⟩
          case measure => have := HLT.out; simp [intOf]; omega
      · have HAct := act_2 L7.out T7.out HAOK.out hkq HAC.out
        clear hkr
        go_wp2_with fail
        refine HAct.mono ?_
        rintro e w8 ⟨rfl, l8, b8, m8⟩
        have L8 := Lib.hid l8
        have B8 := Lib.hid (B7.out.trans b8)
        have M78 : Hid (∀ w9, Below w8.heap.size w8 w9 → Lies w9 1 a7 (ls.map sR)) := Lib.hid (fun w9 hb => by
          have o8 := O7.out.mod m8 (fun g e x => N7.out g e x)
          have o9 := o8.mod (Mod.of_below (F := fun _ => False) hb) (fun _ _ x => x)
          obtain ⟨a, c, hv, _, _, hl, _, _⟩ := o9.any
          rw [List.length_map] at hv
          cases hv
          exact hl)
        clear HAct l8 b8 m8 d0 d1 d2 d3 d4 d5
        have HS8 : Hid (Small l2) := Lib.hid (by have := HS.out.act (code := code) HAOK.out; rw [HAC.out] at this; exact this)
        by_cases hn0 : n = 0
        · subst hn0
          have HCo := live_code L8.out
          have HLi := live_lines L8.out
          have e1 : decide (cd < 100) = false := by have := L8.out.range; simp; omega
          have e2 : decide (599 < cd) = false := by have := L8.out.range; simp; omega
          have e3 : decide (64 < (l2.length : Int)) = false := by have := L8.out.len; simp; omega
          go_wp2_with fail
          refine HCo.mono ?_
          rintro e w9 ⟨rfl, rfl⟩
          go_wp2_with fail
          refine HCo.mono ?_
          rintro e w9 ⟨rfl, rfl⟩
          go_wp2_with fail
          refine HLi.mono ?_
          rintro e w9 ⟨v9, rfl, o9, hb, -⟩
          have L9 : Hid (∃ code ls, HLive W.heap.size w9 W.heap.size false code ls ∧ Small ls) := Lib.hid ⟨_, _, L8.out.below hb, HS8.out⟩
          have B9 := Lib.hid (B8.out.trans (hb.mono B8.out.size))
          obtain ⟨a9, c9, hv9, -⟩ := o9.any
          rw [List.length_map] at hv9
          subst hv9
          clear HCo HLi hb o9
          go_wp2_with fail
          go_roundw
          case rel => exact ⟨k + 1, HLT.out, by go_num, L9, B9⟩
          case measure => have := HLT.out; simp [intOf]; omega
        · have hR := actP_refused (code := code) (ls := ls) (a := a) (by rw [HAC.out]; exact hn0)
          rw [HAC.out] at hR
          cases hR
          have dn : (n != 0) = true := by simp [hn0]
          have HCo := live_code L8.out
          have HLi := live_lines L8.out
          have e1 : decide (code < 100) = false := by have := L8.out.range; simp; omega
          have e2 : decide (599 < code) = false := by have := L8.out.range; simp; omega
          have e3 : decide (64 < (ls.length : Int)) = false := by have := L8.out.len; simp; omega
          have HLN := Lib.hid L8.out.len
          clear hn0
          go_wp2_with fail
          refine HCo.mono ?_
          rintro e w9 ⟨rfl, rfl⟩
          go_wp2_with fail
          refine HLi.mono ?_
          rintro e w9 ⟨v9, rfl, o9, hb, -⟩
          have L9 := Lib.hid (L8.out.below hb)
          have B9 := Lib.hid (B8.out.trans (hb.mono B8.out.size))
          have hl7 := M78.out _ hb
          obtain ⟨a9, c9, hv9, -, -, hl9, -, -⟩ := o9.any
          rw [List.length_map] at hv9
          subst hv9
          have HSm := same_any (ca := c9) (cb := c7) hl9 hl7 (by have := HLN.out; omega) (by have := HLN.out; omega)
          rw [decide_eq_true rfl] at HSm
          clear HCo HLi hb o9 hl7 hl9
          go_wp2_with fail
          refine HSm.mono ?_
          rintro e w10 ⟨rfl, hb⟩
          have L10 := Lib.hid (L9.out.below hb)
          have B10 := Lib.hid (B9.out.trans (hb.mono B9.out.size))
          have HCo := live_code L10.out
          have HLi := live_lines L10.out
          clear HSm hb
          go_wp2_with fail
          refine HCo.mono ?_
          rintro e w11 ⟨rfl, rfl⟩
          go_wp2_with fail
          refine HCo.mono ?_
          rintro e w11 ⟨rfl, rfl⟩
          go_wp2_with fail
          refine HLi.mono ?_
          rintro e w11 ⟨v11, rfl, o11, hb, -⟩
          have L11 : Hid (∃ code ls, HLive W.heap.size w11 W.heap.size false code ls ∧ Small ls) := Lib.hid ⟨_, _, L10.out.below hb, HS8.out⟩
          have B11 := Lib.hid (B10.out.trans (hb.mono B10.out.size))
          obtain ⟨a11, c11, hv11, -⟩ := o11.any
          rw [List.length_map] at hv11
          subst hv11
          clear HCo HLi hb o11
          go_wp2_with fail
          go_roundw
          case rel => exact ⟨k + 1, HLT.out, by go_num, L11, B11⟩
          case measure => have := HLT.out; simp [intOf]; omega
      · have HAct := act_3 L7.out HS.out HAOK.out hkq HAC.out
        clear hkr
        go_wp2_with fail
        refine HAct.mono ?_
        rintro e w8 ⟨rfl, l8, b8, m8⟩
        have L8 := Lib.hid l8
        have B8 := Lib.hid (B7.out.trans b8)
        have M78 : Hid (∀ w9, Below w8.heap.size w8 w9 → Lies w9 1 a7 (ls.map sR)) := Lib.hid (fun w9 hb => by
          have o8 := O7.out.mod m8 (fun g e x => N7.out g e x)
          have o9 := o8.mod (Mod.of_below (F := fun _ => False) hb) (fun _ _ x => x)
          obtain ⟨a, c, hv, _, _, hl, _, _⟩ := o9.any
          rw [List.length_map] at hv
          cases hv
          exact hl)
        clear HAct l8 b8 m8 d0 d1 d2 d3 d4 d5
        have HS8 : Hid (Small l2) := Lib.hid (by have := HS.out.act (code := code) HAOK.out; rw [HAC.out] at this; exact this)
        by_cases hn0 : n = 0
        · subst hn0
          have HCo := live_code L8.out
          have HLi := live_lines L8.out
          have e1 : decide (cd < 100) = false := by have := L8.out.range; simp; omega
          have e2 : decide (599 < cd) = false := by have := L8.out.range; simp; omega
          have e3 : decide (64 < (l2.length : Int)) = false := by have := L8.out.len; simp; omega
          go_wp2_with fail
          refine HCo.mono ?_
          rintro e w9 ⟨rfl, rfl⟩
          go_wp2_with fail
          refine HCo.mono ?_
          rintro e w9 ⟨rfl, rfl⟩
          go_wp2_with fail
          refine HLi.mono ?_
          rintro e w9 ⟨v9, rfl, o9, hb, -⟩
          have L9 : Hid (∃ code ls, HLive W.heap.size w9 W.heap.size false code ls ∧ Small ls) := Lib.hid ⟨_, _, L8.out.below hb, HS8.out⟩
          have B9 := Lib.hid (B8.out.trans (hb.mono B8.out.size))
          obtain ⟨a9, c9, hv9, -⟩ := o9.any
          rw [List.length_map] at hv9
          subst hv9
          clear HCo HLi hb o9
          go_wp2_with fail
          go_roundw
          case rel => exact ⟨k + 1, HLT.out, by go_num, L9, B9⟩
          case measure => have := HLT.out; simp [intOf]; omega
        · have hR := actP_refused (code := code) (ls := ls) (a := a) (by rw [HAC.out]; exact hn0)
          rw [HAC.out] at hR
          cases hR
          have dn : (n != 0) = true := by simp [hn0]
          have HCo := live_code L8.out
          have HLi := live_lines L8.out
          have e1 : decide (code < 100) = false := by have := L8.out.range; simp; omega
          have e2 : decide (599 < code) = false := by have := L8.out.range; simp; omega
          have e3 : decide (64 < (ls.length : Int)) = false := by have := L8.out.len; simp; omega
          have HLN := Lib.hid L8.out.len
          clear hn0
          go_wp2_with fail
          refine HCo.mono ?_
          rintro e w9 ⟨rfl, rfl⟩
          go_wp2_with fail
          refine HLi.mono ?_
          rintro e w9 ⟨v9, rfl, o9, hb, -⟩
          have L9 := Lib.hid (L8.out.below hb)
          have B9 := Lib.hid (B8.out.trans (hb.mono B8.out.size))
          have hl7 := M78.out _ hb
          obtain ⟨a9, c9, hv9, -, -, hl9, -, -⟩ := o9.any
          rw [List.length_map] at hv9
          subst hv9
          have HSm := same_any (ca := c9) (cb := c7) hl9 hl7 (by have := HLN.out; omega) (by have := HLN.out; omega)
          rw [decide_eq_true rfl] at HSm
          clear HCo HLi hb o9 hl7 hl9
          go_wp2_with fail
          refine HSm.mono ?_
          rintro e w10 ⟨rfl, hb⟩
          have L10 := Lib.hid (L9.out.below hb)
          have B10 := Lib.hid (B9.out.trans (hb.mono B9.out.size))
          have HCo := live_code L10.out
          have HLi := live_lines L10.out
          clear HSm hb
          go_wp2_with fail
          refine HCo.mono ?_
          rintro e w11 ⟨rfl, rfl⟩
          go_wp2_with fail
          refine HCo.mono ?_
          rintro e w11 ⟨rfl, rfl⟩
          go_wp2_with fail
          refine HLi.mono ?_
          rintro e w11 ⟨v11, rfl, o11, hb, -⟩
          have L11 : Hid (∃ code ls, HLive W.heap.size w11 W.heap.size false code ls ∧ Small ls) := Lib.hid ⟨_, _, L10.out.below hb, HS8.out⟩
          have B11 := Lib.hid (B10.out.trans (hb.mono B10.out.size))
          obtain ⟨a11, c11, hv11, -⟩ := o11.any
          rw [List.length_map] at hv11
          subst hv11
          clear HCo HLi hb o11
          go_wp2_with fail
          go_roundw
          case rel => exact ⟨k + 1, HLT.out, by go_num, L11, B11⟩
          case measure => have := HLT.out; simp [intOf]; omega
      · obtain ⟨rfl, rfl, rfl⟩ := act_4 hkq HAC.out
        have HCo := live_code L7.out
        have HLi := live_lines L7.out
        have e1 : decide (cd < 100) = false := by have := L7.out.range; simp; omega
        have e2 : decide (599 < cd) = false := by have := L7.out.range; simp; omega
        have e3 : decide (64 < (l2.length : Int)) = false := by have := L7.out.len; simp; omega
        go_wp2_with fail
        refine HCo.mono ?_
        rintro e w9 ⟨rfl, rfl⟩
        go_wp2_with fail
        refine HCo.mono ?_
        rintro e w9 ⟨rfl, rfl⟩
        go_wp2_with fail
        refine HLi.mono ?_
        rintro e w9 ⟨v9, rfl, o9, hb, -⟩
        have L9 : Hid (∃ code ls, HLive W.heap.size w9 W.heap.size false code ls ∧ Small ls) := Lib.hid ⟨_, _, L7.out.below hb, HS.out⟩
        have B9 := Lib.hid (B7.out.trans (hb.mono B7.out.size))
        obtain ⟨a9, c9, hv9, -⟩ := o9.any
        rw [List.length_map] at hv9
        subst hv9
        clear HCo HLi hb o9
        go_wp2_with fail
        go_roundw
        case rel => exact ⟨k + 1, HLT.out, by go_num, L9, B9⟩
        case measure => have := HLT.out; simp [intOf]; omega
    · obtain rfl : k = acts.length := by omega
      go_wp2_with fail
      go_ret
      exact ⟨rfl, BL.out⟩
end Go.Proofs.YthnhpnmopjbaoaaDoor
