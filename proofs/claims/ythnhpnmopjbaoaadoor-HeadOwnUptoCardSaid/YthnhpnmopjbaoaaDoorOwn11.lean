/-
  HeadOwn: the walk.
-/
import Derived.Test.YthnhpnmopjbaoaaDoorSent11
namespace Go.Proofs.YthnhpnmopjbaoaaDoor
open Go.RowKit

abbrev spoilt : ByteArray := ⟨#[115, 112, 111, 105, 108, 116]⟩
theorem same_owned {w : World} {a b : Option Addr} {ca cb : Nat} {ls : List ByteArray} (oa : Owns w 9 1 (.slice a ls.length ca) (ls.map sR)) (ob : Owns w 9 1 (.slice b ls.length cb) (ls.map sR)) (hl : ls.length ≤ 64) :
    Calls Tryd.prog 28 #[.slice a ls.length ca, .slice b ls.length cb] w fun e w' => e = .returned (.bool true) ∧ Below w.heap.size w w' := by
  obtain ⟨a1, c1, h1, -, -, l1, -, -⟩ := oa.any
  rw [List.length_map] at h1
  cases h1
  obtain ⟨a2, c2, h2, -, -, l2, -, -⟩ := ob.any
  rw [List.length_map] at h2
  cases h2
  have := same_any (ca := ca) (cb := cb) l1 l2 (by omega) (by omega)
  rw [decide_eq_true rfl] at this
  exact this
set_option maxHeartbeats 1600000 in
set_option maxRecDepth 100000 in
theorem stands_any {B : Nat} {w : World} {h r : Nat} {s : Bool} {c : Int} {ls : List ByteArray} (hl : HLive B w h s c ls) (rl : RLive B w r s c ls) : Calls Tryd.prog 35 #[.pointer (some ⟨h, 0, none⟩), .pointer (some ⟨r, 0, none⟩)] w (BoolPost w true) := by
  have hd := belowD (Below.refl w.heap.size w)
  have HCo := live_code (hl.below hd)
  have HSe := live_sent (hl.below hd)
  have HLi := live_lines (hl.below hd)
  have HLN := Lib.hid hl.len
  obtain ⟨-, v, i, -⟩ := rl.below hd
  obtain ⟨a0, c0, hv0, -⟩ := i.own.any
  rw [List.length_map] at hv0
  subst hv0
  have I := Lib.hid i
  obtain ⟨y0, y1, y2⟩ := i.cells
  have HS0 := Lib.hid i.cells
  have d1 : (c == c) = true := by simp
  have d2 : (s == s) = true := by simp
  clear hl rl i hd
  go_enter Tryd.func35, Tryd.ntmps35
  go_wp2_with fail
  go_region_held3 (fun V => V.cell? ⟨r, 0, none⟩ = some (.int .i64 c) ∧ V.cell? ⟨r, 1, none⟩ = some (.slice a0 ls.length c0) ∧ V.cell? ⟨r, 2, none⟩ = some (.bool s))
    (first
      | exact HS0.out
      | exact HS1.out
      | exact HS2.out)
    (first
      | (go_at_call 26; refine HCo.mono ?_; rintro e w1 ⟨rfl, rfl⟩)
      | (go_at_call 29; refine HSe.mono ?_; rintro e w1 ⟨rfl, rfl⟩)
      | (go_at_call 27; refine HLi.mono ?_; rintro e w1 ⟨v1, rfl, o1, hb, -⟩; obtain ⟨a1, c1, hv1, -⟩ := o1.any; rw [List.length_map] at hv1; subst hv1; have O1 := Lib.hid o1; have I1 := Lib.hid (I.out.below hb); have HS1 := Lib.hid I1.out.cells; have B1 := Lib.hid ((belowD (Below.refl w.heap.size w)).trans hb); clear o1 hb)
      | (go_at_call 28; refine (same_owned O1.out I1.out.own HLN.out).mono ?_; rintro e w2 ⟨rfl, hb⟩; have HS2 := Lib.hid (I1.out.below hb).cells; have B2 := Lib.hid (B1.out.trans (hb.mono B1.out.size)); clear hb))
  go_wp2_with fail
  go_ret
  exact ⟨rfl, B2.out⟩
set_option maxHeartbeats 12800000 in
set_option maxRecDepth 100000 in
theorem own_holds_any (cap : Nat) (ao : Option Addr) (acts : List HA) (W : World) (hl : Lies W 6 ao (acts.map HA.cells)) (hn : acts.length ≤ 1048576) (hok : ∀ a ∈ acts, a.Ok) (ht : TabsR W) :
    Calls Tryd.prog 10 #[.slice ao acts.length cap] W (BoolPost W true) := by
  have HL := Lib.hid hl
  have HT := Lib.hid (fun W' hb => ht.mono hb : ∀ W', Below W.heap.size W W' → TabsR W')
  have HOK := Lib.hid hok
  clear hl ht hok
  go_enter Tryd.func10, Tryd.ntmps10
  go_wp2_with fail
  refine (live_new W).mono ?_
  rintro e w1 ⟨rfl, l1, b1, -⟩
  have L1 := Lib.hid l1
  have B1 := Lib.hid b1
  clear l1 b1
  go_wp2_with fail
  refine (rnew_any w1).mono ?_
  rintro e w3 ⟨rfl, hb⟩
  have L3 := Lib.hid (L1.out.below hb)
  have B3 := Lib.hid (B1.out.trans (hb.mono B1.out.size))
  clear hb L1 B1
  have A4 : Hid (Alike W.heap.size (w3.alloc (.cells #[.int .i64 200, .slice none 0 0, .bool false] 52)) W.heap.size w3.heap.size) := Lib.hid ⟨(false, 200, []), L3.out.below (below_alloc1 _ _), ⟨B3.out.size, _, ⟨heap_alloc_new _ _, Owns.empty _ _ _, by simp [Value.ownBlock], by simp⟩, fun g e => by simp [Value.ownBlock] at e⟩, fun s hs => by cases hs⟩
  have B4 := Lib.hid (B3.out.alloc B3.out.size (.cells #[.int .i64 200, .slice none 0 0, .bool false] 52))
  have HA := halive_any (w3.alloc (.cells #[.int .i64 200, .slice none 0 0, .bool false] 52)) (HT.out _ B4.out).t
  clear L3 B3
  go_wp2_with fail
  generalize w3.alloc _ = w4 at A4 B4 HA ⊢
  generalize w3.heap.size = r at A4 ⊢
  refine HA.mono ?_
  rintro e w5 ⟨rfl, hb⟩
  have A5 : Hid (Alike W.heap.size w5 W.heap.size r) := Lib.hid (by obtain ⟨H, x, y, z⟩ := A4.out; exact ⟨H, x.below hb, y.below hb, z⟩)
  have B5 := Lib.hid (B4.out.trans (hb.mono B4.out.size))
  clear HA hb A4 B4
  go_wp2_with fail
  go_loopw [7, 8, 19] (fun _ _ kv wr => ∃ k : Nat, k ≤ acts.length ∧ kv = .int .i64 k ∧ Hid (Alike W.heap.size wr W.heap.size r) ∧ Hid (Below W.heap.size W wr)) (fun _ _ kv _ => acts.length - (intOf kv).toNat)
  case atStart => exact ⟨0, Nat.zero_le _, rfl, A5, B5⟩
  case round =>
    obtain ⟨k, hk, rfl, LL, BL⟩ := hrel
    clear A5 B5
    by_cases hlt : k < acts.length
    · obtain ⟨H, lH, lR, lS⟩ := LL.out
      obtain ⟨g, off, rfl, hg, c0, c1, c2, c3, c4, c5⟩ := ha_cells HL.out hlt BL.out rfl
      have HAOK := Lib.hid (HOK.out acts[k] (List.getElem_mem hlt))
      have hi : (k : Int) < (acts.length : Int) := by omega
      have hw : IntKind.i64.wrap ((k : Int) + 1) = (k : Int) + 1 := by rw [IntKind.wrap_i64]; omega
      have hw' : wrap64 ((k : Int) + 1) = (k : Int) + 1 := wr64 (by omega) (by omega)
      generalize acts[k] = a at c0 c1 c2 c3 c4 c5 HAOK
      have B6 := Lib.hid (BL.out.alloc BL.out.size (HAB a))
      have HD := does_same (B := W.heap.size) HT.out B6.out (lH.below (below_alloc1 wr (HAB a))) (lR.below (below_alloc1 wr (HAB a))) lS HAOK.out
      have HNS := Lib.hid (lS.next HAOK.out)
      have HLT := Lib.hid hlt
      generalize nextS H a = H2 at HD HNS
      obtain ⟨sn, cd, ls⟩ := H2
      have bk := heap_alloc_new wr (HAB a)
      have d0 := cell_blk bk 0
      have d1 := cell_blk bk 1
      have d2 := cell_blk bk 2
      have d3 := cell_blk bk 3
      have d4 := cell_blk bk 4
      have d5 := cell_blk bk 5
      clear lH lR lS hlt LL bk
      go_wp2_with fail
      refine HD.mono ?_
      rintro e w5 ⟨rfl, l5, r5, b5, -⟩
      have HLi := live_lines l5
      have L5 := Lib.hid (⟨l5, r5, b5⟩ : _ ∧ _ ∧ _)
      clear HD l5 r5 b5 d0 d1 d2 d3 d4 d5
      go_wp2_with fail
      refine HLi.mono ?_
      rintro e w6 ⟨v6, rfl, o6, hb, n6⟩
      obtain ⟨a6, c6, hv6, -⟩ := o6.any
      rw [List.length_map] at hv6
      subst hv6
      have O6 : Hid (∃ cur : List ByteArray, cur.length = ls.length ∧ Owns w6 9 1 (.slice a6 ls.length c6) (cur.map sR)) := Lib.hid ⟨ls, rfl, o6⟩
      have B7 := Lib.hid hb
      have N6 := Lib.hid n6
      have HLN := Lib.hid L5.out.1.len
      clear HLi o6 hb n6
      go_wp2_with fail
      go_loopw [8, 30] (fun _ iv wx => ∃ i : Nat, i ≤ ls.length ∧ iv = .int .i64 i ∧ Hid (Below w5.heap.size w5 wx) ∧ Hid (∃ cur : List ByteArray, cur.length = ls.length ∧ Owns wx 9 1 (.slice a6 ls.length c6) (cur.map sR))) (fun _ iv _ => ls.length - (intOf iv).toNat)
      case atStart => exact ⟨0, Nat.zero_le _, rfl, B7, O6⟩
      case round =>
        obtain ⟨i, hil, rfl, BX, OX⟩ := hrel
        clear B7 O6
        by_cases hlt2 : i < ls.length
        · have hii : (i : Int) < (ls.length : Int) := by omega
          obtain ⟨hwi', hwi⟩ : wrap64 ((i : Int) + 1) = (i : Int) + 1 ∧ IntKind.i64.wrap ((i : Int) + 1) = (i : Int) + 1 := wr_sm (by have := HLN.out; omega) (by have := HLN.out; omega)
          obtain ⟨cur, hcl, ho⟩ := OX.out
          obtain ⟨ao2, cp2, hv2, -, -, hl2, -, hown2⟩ := ho.any
          rw [List.length_map, hcl] at hv2
          cases hv2
          obtain ⟨g2, o2, rfl, hg2, hc2⟩ := line_at hl2 (show i < cur.length by omega)
          obtain ⟨rfl, hown3⟩ := hown2 g2 o2 rfl
          rw [Nat.zero_add] at hc2
          obtain ⟨x2, hx2⟩ : ∃ x : ByteArray, wr.cell? ⟨g2, i, none⟩ = some (.string x) := ⟨_, hc2⟩
          clear hc2
          have f2 := ho.free hown3 i
          have hge := N6.out g2 hown3
          rw [sR_map] at ho
          have ho2 := (ho.setOne i (.string spoilt) rfl).1
          rw [← List.map_set, ← sR_map] at ho2
          have HN2 : Hid (Below w5.heap.size w5 (wr.setCell ⟨g2, i, none⟩ (.string spoilt)) ∧ ∃ cur : List ByteArray, cur.length = ls.length ∧ Owns (wr.setCell ⟨g2, i, none⟩ (.string spoilt)) 9 1 (.slice (some ⟨g2, 0, none⟩) ls.length c6) (cur.map sR)) := Lib.hid ⟨BX.out.setCell hge _, cur.set i spoilt, by rw [List.length_set, hcl], ho2⟩
          have HLT2 := Lib.hid hlt2
          clear ho ho2 hcl hl2 hown2 hown3 hge hlt2
          go_wp2_with fail
          go_roundw
          case rel => exact ⟨i + 1, HLT2.out, by go_num, Lib.hid HN2.out.1, Lib.hid HN2.out.2⟩
          case measure => have := HLT2.out; simp [intOf]; omega
        · obtain rfl : i = ls.length := by omega
          obtain ⟨cur, hcl, ho⟩ := OX.out
          have HO8 := Lib.hid (ho.mod (Mod.of_below (F := fun _ => False) (below_alloc1 wr (.cells #[.string spoilt] 9))) (fun _ _ x => x))
          have HLen : Hid (((cur.map sR).length + 1 ≤ maxLen) ∧ ((cur.map sR).length + 1) * 16 ≤ 140737488355328) := Lib.hid (by rw [List.length_map, hcl]; have := HLN.out; unfold maxLen; omega)
          have hL := Lib.hid (lies_new wr [.string spoilt] 9 rfl)
          have B8 := Lib.hid (BX.out.alloc BX.out.size (.cells #[.string spoilt] 9))
          clear ho hcl
          go_wp2_with (at_builtin; refine wpList_append_rows rfl (.tmp 37) (.tmp 38) 50 rfl 9 _ 1 16 Tryd.underlying50 info9 rfl (by decide) (.slice a6 ls.length c6) (cur.map sR) (by rfl) HO8.out (some ⟨wr.heap.size, 0, none⟩) 1 1 [[.string spoilt]] (by rfl) rfl (fun e => by cases e) hL.out (by simp [Value.oneCell']) (by simp) HLen.out.1 HLen.out.2 ?_; intro v9 w9 o9 g9 n9; have B9 := Lib.hid (B8.out.trans ⟨g9.os, g9.tape, g9.output, g9.size, fun k hk => g9.block k (Nat.lt_of_lt_of_le hk B8.out.size) (fun e => by have := N6.out k e.symm; omega)⟩); clear o9 g9 n9)
          have A9 : Hid (Alike W.heap.size w9 W.heap.size r) := Lib.hid ⟨(sn, cd, ls), L5.out.1.below B9.out, L5.out.2.1.below B9.out, HNS.out⟩
          have B10 := Lib.hid (L5.out.2.2.trans (B9.out.mono L5.out.2.2.size))
          go_roundw
          case rel => exact ⟨k + 1, HLT.out, by go_num, A9, B10⟩
          case measure => have := HLT.out; simp [intOf]; omega
    · obtain rfl : k = acts.length := by omega
      obtain ⟨H, lH, lR, lS⟩ := LL.out
      have HSt := stands_any lH lR
      clear lH lR LL
      go_wp2_with fail
      refine HSt.mono ?_
      rintro e w6 ⟨rfl, hb⟩
      have B6 := Lib.hid (BL.out.trans (hb.mono BL.out.size))
      clear hb HSt
      go_wp2_with fail
      go_ret
      exact ⟨rfl, B6.out⟩
end Go.Proofs.YthnhpnmopjbaoaaDoor
