/-
  LinkKeeps: the law's walk (printed by genKeeps17.py).
-/
import Derived.Test.YtobjmajkcfhpoaaDoorAlive17
import Derived.Test.YtobjmajkcfhpoaaDoorLawP17
import Derived.Test.YtobjmajkcfhpoaaDoorTemp17
import Derived.Deep.CutRange
namespace Go.Proofs.YtobjmajkcfhpoaaDoor
open Go.RowKit

attribute [local go_sem] yld_undef
/-- The classes that the law has linked so far. -/
structure KS (W wr : World) (v : Value) (kn : List KC) : Prop where
  or : OR W wr 29 11 v (kn.map KC.row)
  cls : ∀ x ∈ kn, ClIn (NT wr) wr x.1 x.2
theorem KS.same {W wr w1 : World} {v : Value} {kn : List KC} (h : KS W wr v kn) (hb : Below wr.heap.size wr w1) : KS W w1 v kn := ⟨h.or.same hb, fun x hx => nt_under (h.cls x hx) hb⟩
theorem KS.known {W wr : World} {v : Value} {kn : List KC} (h : KS W wr v kn) : KnIn AnyB (NT wr) wr v kn := ⟨RIn.of_owns h.or.own (fun _ _ => trivial), h.cls⟩
theorem KS.nil (W : World) : KS W W (.slice none 0 0) [] := ⟨OR.nil, fun _ h => by cases h⟩
theorem nt_grown {w w3 : World} {v : Value} {size : Nat} {rows : List (List Value)} {c : ClP} {V : VS6} (ho : Owns w 29 size v rows) (hg : w.grownBy w3 v.ownBlock) (h : ClIn (NT w) w c V) : ClIn (NT w3) w3 c V :=
  h.kept fun g ⟨c, t, fr, h1, ht⟩ hgl => by
    have hne : ¬ (v.ownBlock = some g) := fun e => by
      obtain ⟨cur, h2⟩ := own_ty ho e
      rw [h2] at h1
      cases h1
      exact ht rfl
    have e := hg.block g hgl (fun e => hne e.symm)
    exact ⟨e, Nat.lt_of_lt_of_le hgl hg.size, c, t, fr, e.trans h1, ht⟩
theorem KS.push {W wr w3 : World} {v v3 : Value} {kn : List KC} {c : ClP} {V : VS6} (h : KS W wr v kn) (hc : ClIn (NT wr) wr c V) (o3 : Owns w3 29 11 v3 (kn.map KC.row ++ [KC.row (c, V)])) (g3 : wr.grownBy w3 v.ownBlock) (n3 : v3.ownBlock = v.ownBlock ∨ ∃ k, v3.ownBlock = some k ∧ wr.heap.size ≤ k) : KS W w3 v3 (kn ++ [(c, V)]) := by
  have e : kn.map KC.row ++ [KC.row (c, V)] = (kn ++ [(c, V)]).map KC.row := by rw [List.map_append]; rfl
  rw [e] at o3
  refine ⟨h.or.next o3 g3 n3, fun x hx => ?_⟩
  rcases List.mem_append.1 hx with hx | hx
  · exact nt_grown h.or.own g3 (h.cls x hx)
  · rw [List.mem_singleton.1 hx]
    exact nt_grown h.or.own g3 hc
theorem KS.temp {W wr w3 : World} {v : Value} {kn : List KC} (h : KS W wr v kn) (o3 : Owns w3 29 11 v (kn.map KC.row)) (g3 : wr.grownBy w3 v.ownBlock) : KS W w3 v kn :=
  ⟨h.or.next o3 g3 (.inl rfl), fun x hx => nt_grown h.or.own g3 (h.cls x hx)⟩
/-- What the law keeps of the classes. -/
structure KL (U : List ByteArray) (kn : List KC) : Prop where
  fine : ∀ x ∈ kn, KnU U x.1
  nd : (kn.map fun x => x.1.nm).Nodup
  ne : ∀ x ∈ kn, emT x.1.nm = false
theorem KL.push {U : List ByteArray} {kn : List KC} {d c : ClP} {V : VS6} (h : KL U kn) (hM : Made U d kn c) : KL U (kn ++ [(c, V)]) := by
  refine ⟨fun x hx => ?_, nodup_snoc h.nd (by rw [hM.nm]; exact hM.new), fun x hx => ?_⟩
  · rcases List.mem_append.1 hx with hx | hx
    · exact h.fine x hx
    · rw [List.mem_singleton.1 hx]; exact hM.fine
  · rcases List.mem_append.1 hx with hx | hx
    · exact h.ne x hx
    · rw [List.mem_singleton.1 hx]; exact hM.named
theorem k_fits {r : List Value} {kn : List KC} (h : kn.length ≤ 1048576) : (kn.map KC.row).length + ([r] : List (List Value)).length ≤ maxLen ∧ ((kn.map KC.row).length + ([r] : List (List Value)).length) * 192 ≤ 140737488355328 := by
  rw [List.length_map]
  unfold maxLen
  simp only [List.length_cons, List.length_nil]
  omega
theorem pm_in {w : World} {p : KC} (h : ClIn (NT w) w p.1 p.2) : RIn (NT w) w 6 (.slice p.2.m.o p.2.m.n p.2.m.c) (p.1.ms.map MtP.row) := h.hm
set_option maxHeartbeats 51200000 in
set_option maxRecDepth 100000 in
theorem keeps_any {A B : Nat → Prop} {w : World} {U : List ByteArray} (hU : SmU U) (ao : Option Addr) (cap : Nat) (xs : List KC) (hk : KnIn A B w (.slice ao xs.length cap) xs) (hD : ∀ x ∈ xs, DeU U x.1) (hxs : xs.length ≤ 1048576) (ht : Tabs w) :
    Calls Tryd.prog 3 #[.slice ao xs.length cap] w (BoolPost w true) := by
  have HK := Lib.hid hk
  have HD := Lib.hid hD
  have HT := Lib.hid ht
  have S0 : Hid (KS w w (.slice none 0 0) []) := Lib.hid (KS.nil w)
  have L0 : Hid (KL U []) := Lib.hid ⟨fun _ h => (by cases h), List.nodup_nil, fun _ h => (by cases h)⟩
  clear hk hD ht
  go_enter Tryd.func3, Tryd.ntmps3
  go_wp2_with fail
  go_loopw [3, 5, 6, 7, 9, 11, 12, 13, 15, 18] (fun kv _ _ _ _ _ _ _ _ iv wr => ∃ (i : Nat) (uo : Option Addr) (uc : Nat) (kn : List KC), i ≤ xs.length ∧ iv = .int .i64 i ∧ kv = .slice uo kn.length uc ∧ Hid (KS w wr (.slice uo kn.length uc) kn) ∧ Hid (KL U kn) ∧ Hid (kn.length ≤ i)) (fun _ _ _ _ _ _ _ _ _ iv _ => xs.length - (intOf iv).toNat)
  case atStart => exact ⟨0, none, 0, [], Nat.zero_le _, rfl, rfl, S0, L0, Lib.hid (Nat.le_refl _)⟩
  case round =>
    clear S0 L0
    obtain ⟨i, uo, uc, kn, hi, rfl, rfl, HS, HL, HI⟩ := hrel
    by_cases hlt : i < xs.length
    · have hi2 : (i : Int) < (xs.length : Int) := by omega
      obtain ⟨hw', hw⟩ := wr_sm (x := (i : Int) + 1) (by omega) (by omega)
      have HKB : Hid (kn.length ≤ 1048576) := Lib.hid (Nat.le_trans HI.out (Nat.le_trans hi hxs))
      obtain ⟨x, g, off, cp, hx, hxm, -, e, hg, -, hc⟩ := kc_cells (HK.out.rows.under HS.out.or.below) hlt
      cases e
      obtain ⟨d0, d1, d2, d3, d4, d5, d6, d7, d8, d9, d10⟩ := hc _ (Below.refl _ _)
      have Hlt := Lib.hid hlt
      have HXM := Lib.hid hxm
      have HB1 := Lib.hid (below_alloc1 wr (.cells #[.string x.1.nm, .int .i64 x.1.kd, .bool x.1.ab, .bool x.1.fi, .string x.1.pa, .slice x.2.f.o x.2.f.n x.2.f.c, .slice x.2.t.o x.2.t.n x.2.t.c, .slice x.2.a.o x.2.a.n x.2.a.c, .slice x.2.c.o x.2.c.n x.2.c.c, .slice x.2.p.o x.2.p.n x.2.p.c, .slice x.2.m.o x.2.m.n x.2.m.c] 29))
      have HS1 := Lib.hid (HS.out.same HB1.out)
      have HLK := Lib.hid (link_any hU x ⟨uo, kn.length, uc⟩ kn ((HK.out.cls x hxm).under HS1.out.or.below) HS1.out.known (HD.out x hxm) HL.out.fine HKB.out (HT.out.mono HS1.out.or.below))
      clear hc hx hxm hlt hg HS
      go_wp2_with fail
      refine HLK.out.mono ?_
      intro e1 w1 hp
      have HP := Lib.hid hp
      clear hp d0 d1 d2 d3 d4 d5 d6 d7 d8 d9 d10 HLK
      obtain ⟨q, hq⟩ : ∃ q, q = linkP x.1 kn := ⟨_, rfl⟩
      rw [← hq] at HP
      have HQ := Lib.hid hq
      clear hq
      cases q with
      | error ec =>
        obtain ⟨rfl, hne, hb⟩ := HP.out
        have HS2 := Lib.hid (HS1.out.same hb)
        have hc0 : (ec != 0) = true := by simpa using hne
        have hc1 : (ec == 0) = false := by simpa using hne
        have HI2 : Hid (kn.length ≤ i + 1) := Lib.hid (Nat.le_succ_of_le HI.out)
        have HS3 := Lib.hid (HS2.out.same (below_alloc1 w1 (.cells #[.string ⟨#[]⟩, .int .i64 0, .bool false, .bool false, .string ⟨#[]⟩, .slice none 0 0, .slice none 0 0, .slice none 0 0, .slice none 0 0, .slice none 0 0, .slice none 0 0] 29)))
        clear hne hb HP
        simp only [KC.v, KC.nil, ClP.nil, VS6.nil]
        go_wp2_with fail
        go_roundw
        case rel => exact ⟨i + 1, _, _, kn, Hlt.out, by go_num, rfl, HS3, HL, HI2⟩
        case measure => exact meas_lt Hlt.out
      | ok c =>
        obtain ⟨V, rfl, hb, hcl⟩ := HP.out
        have HM := Lib.hid (linkP_made HL.out.fine (HD.out x HXM.out) HQ.out.symm)
        have HSa := Lib.hid (HS1.out.same hb)
        have HCa := Lib.hid hcl
        clear hb hcl HP HS1 HB1
        have B2 := Lib.hid (below_alloc1 w1 (.cells #[.string c.nm, .int .i64 c.kd, .bool c.ab, .bool c.fi, .string c.pa, .slice V.f.o V.f.n V.f.c, .slice V.t.o V.t.n V.t.c, .slice V.a.o V.a.n V.a.c, .slice V.c.o V.c.n V.c.c, .slice V.p.o V.p.n V.p.c, .slice V.m.o V.m.n V.m.c] 29))
        have HS2 := Lib.hid (HSa.out.same B2.out)
        have HC2 := Lib.hid (nt_under HCa.out B2.out)
        have X2 : Hid ((w1.alloc (.cells #[.string c.nm, .int .i64 c.kd, .bool c.ab, .bool c.fi, .string c.pa, .slice V.f.o V.f.n V.f.c, .slice V.t.o V.t.n V.t.c, .slice V.a.o V.a.n V.a.c, .slice V.c.o V.c.n V.c.c, .slice V.p.o V.p.n V.p.c, .slice V.m.o V.m.n V.m.c] 29)).heap[w1.heap.size]? = some (.cells #[.string c.nm, .int .i64 c.kd, .bool c.ab, .bool c.fi, .string c.pa, .slice V.f.o V.f.n V.f.c, .slice V.t.o V.t.n V.t.c, .slice V.a.o V.a.n V.a.c, .slice V.c.o V.c.n V.c.c, .slice V.p.o V.p.n V.p.c, .slice V.m.o V.m.n V.m.c] 29 (0, 0))) := Lib.hid (heap_alloc_new w1 _)
        have HBQ : Hid ((Value.slice uo kn.length uc).ownBlock ≠ some w1.heap.size) := Lib.hid (fun e => by have := Owns.lt HSa.out.or.own e; omega)
        simp only [KC.v]
        go_upto_region 7 with fail
        obtain ⟨w2, hw2⟩ : ∃ w2, w2 = w1.alloc (.cells #[.string c.nm, .int .i64 c.kd, .bool c.ab, .bool c.fi, .string c.pa, .slice V.f.o V.f.n V.f.c, .slice V.t.o V.t.n V.t.c, .slice V.a.o V.a.n V.a.c, .slice V.c.o V.c.n V.c.c, .slice V.p.o V.p.n V.p.c, .slice V.m.o V.m.n V.m.c] 29) := ⟨_, rfl⟩
        rw [← hw2] at HS2 HC2 X2 ⊢
        obtain ⟨cb, hcb⟩ : ∃ cb, cb = w1.heap.size := ⟨_, rfl⟩
        rw [← hcb] at X2 HBQ ⊢
        clear hw2 B2 HSa HCa hcb
        go_wp2_with fail
        have HB0 : Hid (Below w2.heap.size w2 w2) := Lib.hid (Below.refl _ _)
        obtain ⟨wa, hwa⟩ : ∃ wa, wa = wr := ⟨_, rfl⟩
        subst hwa
        go_loopw [9, 11, 12, 13, 32] (fun _ _ _ _ jv wr => ∃ (j : Nat), j ≤ kn.length ∧ jv = .int .i64 j ∧ Hid (Below w2.heap.size w2 wr)) (fun _ _ _ _ jv _ => kn.length - (intOf jv).toNat)
        case atStart => exact ⟨0, Nat.zero_le _, rfl, HB0⟩
        case round =>
          clear HB0
          obtain ⟨j, hj, rfl, HB⟩ := hrel
          have hkb := HKB.out
          have HS3 := Lib.hid (HS2.out.same HB.out)
          have HC3 := Lib.hid (nt_under HC2.out HB.out)
          have X3 : Hid (wr.heap[cb]? = some (.cells #[.string c.nm, .int .i64 c.kd, .bool c.ab, .bool c.fi, .string c.pa, .slice V.f.o V.f.n V.f.c, .slice V.t.o V.t.n V.t.c, .slice V.a.o V.a.n V.a.c, .slice V.c.o V.c.n V.c.c, .slice V.p.o V.p.n V.p.c, .slice V.m.o V.m.n V.m.c] 29 (0, 0))) := Lib.hid ((HB.out.block _ (lt_of_block X2.out)).trans X2.out)
          by_cases hlt : j < kn.length
          · have hj2 : (j : Int) < (kn.length : Int) := by omega
            obtain ⟨hw2', hw2⟩ := wr_sm (x := (j : Int) + 1) (by omega) (by omega)
            obtain ⟨p, g2, off2, cp2, hp, hpm, -, e, hg, -, hc⟩ := kc_cells HS3.out.known.rows hlt
            cases e
            obtain ⟨d0, d1, d2, d3, d4, d5, d6, d7, d8, d9, d10⟩ := hc _ (Below.refl _ _)
            have HJL := Lib.hid hlt
            have HPM := Lib.hid hpm
            have HPN : Hid (p.2.m.n = p.1.ms.length) := Lib.hid (by have h9 := rin_n (HS3.out.cls p hpm).hm; rw [List.length_map] at h9; exact h9)
            rw [HPN.out] at d10
            obtain ⟨mo, hmo⟩ : ∃ mo, mo = p.2.m.o := ⟨_, rfl⟩
            rw [← hmo] at d10
            have HMO := Lib.hid hmo
            have HPB : Hid (p.1.ms.length ≤ 1048576) := Lib.hid ((HL.out.fine p hpm).lms hU)
            have B4 := Lib.hid (below_alloc1 wr (.cells #[.string p.1.nm, .int .i64 p.1.kd, .bool p.1.ab, .bool p.1.fi, .string p.1.pa, .slice p.2.f.o p.2.f.n p.2.f.c, .slice p.2.t.o p.2.t.n p.2.t.c, .slice p.2.a.o p.2.a.n p.2.a.c, .slice p.2.c.o p.2.c.n p.2.c.c, .slice p.2.p.o p.2.p.n p.2.p.c, .slice mo p.1.ms.length p.2.m.c] 29))
            have HB4 := Lib.hid (HB.out.trans (B4.out.mono HB.out.size))
            have P4 : Hid ((wr.alloc (.cells #[.string p.1.nm, .int .i64 p.1.kd, .bool p.1.ab, .bool p.1.fi, .string p.1.pa, .slice p.2.f.o p.2.f.n p.2.f.c, .slice p.2.t.o p.2.t.n p.2.t.c, .slice p.2.a.o p.2.a.n p.2.a.c, .slice p.2.c.o p.2.c.n p.2.c.c, .slice p.2.p.o p.2.p.n p.2.p.c, .slice mo p.1.ms.length p.2.m.c] 29)).heap[wr.heap.size]? = some (.cells #[.string p.1.nm, .int .i64 p.1.kd, .bool p.1.ab, .bool p.1.fi, .string p.1.pa, .slice p.2.f.o p.2.f.n p.2.f.c, .slice p.2.t.o p.2.t.n p.2.t.c, .slice p.2.a.o p.2.a.n p.2.a.c, .slice p.2.c.o p.2.c.n p.2.c.c, .slice p.2.p.o p.2.p.n p.2.p.c, .slice mo p.1.ms.length p.2.m.c] 29 (0, 0))) := Lib.hid (heap_alloc_new wr _)
            clear hc hp hpm hlt hg HS3 HC3 X3 hmo
            go_upto_region 10 with fail
            clear d0 d1 d2 d3 d4 d5 d6 d7 d8 d9 d10
            obtain ⟨w4, hw4⟩ : ∃ w4, w4 = wr.alloc (.cells #[.string p.1.nm, .int .i64 p.1.kd, .bool p.1.ab, .bool p.1.fi, .string p.1.pa, .slice p.2.f.o p.2.f.n p.2.f.c, .slice p.2.t.o p.2.t.n p.2.t.c, .slice p.2.a.o p.2.a.n p.2.a.c, .slice p.2.c.o p.2.c.n p.2.c.c, .slice p.2.p.o p.2.p.n p.2.p.c, .slice mo p.1.ms.length p.2.m.c] 29) := ⟨_, rfl⟩
            rw [← hw4] at HB4 P4 ⊢
            obtain ⟨pb, hpb⟩ : ∃ pb, pb = wr.heap.size := ⟨_, rfl⟩
            rw [← hpb] at P4 ⊢
            clear hw4 hpb B4
            have x10 := cell_blk P4.out 10
            go_wp2_with fail
            clear x10
            have HB0 : Hid (Below w4.heap.size w4 w4) := Lib.hid (Below.refl _ _)
            obtain ⟨wb, hwb⟩ : ∃ wb, wb = wr := ⟨_, rfl⟩
            subst hwb
            go_loopw [11, 12, 13, 39] (fun _ _ _ lv wr => ∃ (l : Nat), l ≤ p.1.ms.length ∧ lv = .int .i64 l ∧ Hid (Below w4.heap.size w4 wr)) (fun _ _ _ lv _ => p.1.ms.length - (intOf lv).toNat)
            case atStart => exact ⟨0, Nat.zero_le _, rfl, HB0⟩
            case round =>
              clear HB0
              obtain ⟨l, hl, rfl, HBb⟩ := hrel
              have hpb := HPB.out
              have HB5 := Lib.hid (HB4.out.trans (HBb.out.mono HB4.out.size))
              by_cases hlt : l < p.1.ms.length
              · have hl2 : (l : Int) < (p.1.ms.length : Int) := by omega
                obtain ⟨hw3', hw3⟩ := wr_sm (x := (l : Int) + 1) (by omega) (by omega)
                have HS5 := Lib.hid (HS2.out.same HB5.out)
                obtain ⟨m, g3, off3, cp3, hm, hmm, -, e, -, -, hc⟩ := mt_cells (HS5.out.cls p HPM.out).hm hlt
                simp only [Value.slice.injEq] at e
                obtain ⟨e1, -, -⟩ := e
                obtain rfl : mo = some ⟨g3, off3, none⟩ := by rw [HMO.out]; exact e1
                clear e1
                obtain ⟨d0, d1, d2, d3, d4, d5⟩ := hc _ (Below.refl _ _)
                have HLL := Lib.hid hlt
                have HMM := Lib.hid hmm
                have B6 := Lib.hid (below_alloc1 wr (.cells #[.string m.nm, .bool m.st, .bool m.ab, .bool m.fi, .string m.fr, .int .i64 m.cd] 34))
                have HB6 := Lib.hid (HB5.out.trans (B6.out.mono HB5.out.size))
                have M6 : Hid ((wr.alloc (.cells #[.string m.nm, .bool m.st, .bool m.ab, .bool m.fi, .string m.fr, .int .i64 m.cd] 34)).heap[wr.heap.size]? = some (.cells #[.string m.nm, .bool m.st, .bool m.ab, .bool m.fi, .string m.fr, .int .i64 m.cd] 34 (0, 0))) := Lib.hid (heap_alloc_new wr _)
                clear hc hm hmm hlt HS5
                go_upto_region 13 with fail
                clear d0 d1 d2 d3 d4 d5
                obtain ⟨w6, hw6⟩ : ∃ w6, w6 = wr.alloc (.cells #[.string m.nm, .bool m.st, .bool m.ab, .bool m.fi, .string m.fr, .int .i64 m.cd] 34) := ⟨_, rfl⟩
                rw [← hw6] at HB6 M6 ⊢
                obtain ⟨mb, hmb⟩ : ∃ mb, mb = wr.heap.size := ⟨_, rfl⟩
                have HB46 : Hid (Below w4.heap.size w4 w6) := Lib.hid (HBb.out.trans ((hw6 ▸ B6.out : Below wr.heap.size wr w6).mono HBb.out.size))
                rw [← hmb] at M6 ⊢
                clear hw6 hmb B6
                have X6 : Hid (w6.heap[cb]? = some (.cells #[.string c.nm, .int .i64 c.kd, .bool c.ab, .bool c.fi, .string c.pa, .slice V.f.o V.f.n V.f.c, .slice V.t.o V.t.n V.t.c, .slice V.a.o V.a.n V.a.c, .slice V.c.o V.c.n V.c.c, .slice V.p.o V.p.n V.p.c, .slice V.m.o V.m.n V.m.c] 29 (0, 0))) := Lib.hid ((HB6.out.block _ (lt_of_block X2.out)).trans X2.out)
                have P6 : Hid (w6.heap[pb]? = some (.cells #[.string p.1.nm, .int .i64 p.1.kd, .bool p.1.ab, .bool p.1.fi, .string p.1.pa, .slice p.2.f.o p.2.f.n p.2.f.c, .slice p.2.t.o p.2.t.n p.2.t.c, .slice p.2.a.o p.2.a.n p.2.a.c, .slice p.2.c.o p.2.c.n p.2.c.c, .slice p.2.p.o p.2.p.n p.2.p.c, .slice (some ⟨g3, off3, none⟩) p.1.ms.length p.2.m.c] 29 (0, 0))) := Lib.hid ((HB46.out.block _ (lt_of_block P4.out)).trans P4.out)
                have HC6 := Lib.hid (nt_under HC2.out HB6.out)
                have c0 := cell_blk X6.out 0; have c1 := cell_blk X6.out 1; have c2 := cell_blk X6.out 2; have c3 := cell_blk X6.out 3; have c4 := cell_blk X6.out 4; have c5 := cell_blk X6.out 5; have c6 := cell_blk X6.out 6; have c7 := cell_blk X6.out 7; have c8 := cell_blk X6.out 8; have c9 := cell_blk X6.out 9; have c10 := cell_blk X6.out 10
                have m0 := cell_blk M6.out 0
                have HMC := Lib.hid (method_any (x := (c, V)) m.nm HC6.out (Nat.le_trans (HM.out.fine.lms hU) (by decide)))
                obtain ⟨n, hn⟩ : ∃ n, n = (methP c.ms m.nm).getD ⟨⟨#[]⟩, false, false, false, ⟨#[]⟩, 0⟩ := ⟨_, rfl⟩
                obtain ⟨is, his⟩ : ∃ is, is = (methP c.ms m.nm).isSome := ⟨_, rfl⟩
                have HMD : Hid (Calls Tryd.prog 6 #[.agg #[.string c.nm, .int .i64 c.kd, .bool c.ab, .bool c.fi, .string c.pa, .slice V.f.o V.f.n V.f.c, .slice V.t.o V.t.n V.t.c, .slice V.a.o V.a.n V.a.c, .slice V.c.o V.c.n V.c.c, .slice V.p.o V.p.n V.p.c, .slice V.m.o V.m.n V.m.c], .string m.nm] w6 (fun e w' => Below w6.heap.size w6 w' ∧ e = .returned (.tuple #[.agg #[.string n.nm, .bool n.st, .bool n.ab, .bool n.fi, .string n.fr, .int .i64 n.cd], .bool is]))) := Lib.hid (by rw [hn, his]; exact HMC.out)
                have HLW : Hid (eqB c.pa p.1.nm = true → is = true ∧ (m.fi = true → n = m)) := Lib.hid (fun he => by
                  obtain ⟨n9, h1, h2⟩ := keep_law HL.out.fine HL.out.nd HL.out.ne HM.out HPM.out he HMM.out
                  rw [his, hn, h1]
                  exact ⟨rfl, h2⟩)
                clear hn his HMC
                go_wp2_with fail
                refine HMD.out.mono ?_
                rintro _ w7 ⟨hb7, rfl⟩
                have B8 := Lib.hid (below_alloc1 w7 (.cells #[.string n.nm, .bool n.st, .bool n.ab, .bool n.fi, .string n.fr, .int .i64 n.cd] 34))
                have HB8 := Lib.hid ((hb7.trans (B8.out.mono hb7.size) : Below w6.heap.size w6 _))
                clear hb7 HMD c0 c1 c2 c3 c4 c5 c6 c7 c8 c9 c10 m0
                go_upto_region 14 with fail
                have N8 : Hid ((w7.alloc (.cells #[.string n.nm, .bool n.st, .bool n.ab, .bool n.fi, .string n.fr, .int .i64 n.cd] 34)).heap[w7.heap.size]? = some (.cells #[.string n.nm, .bool n.st, .bool n.ab, .bool n.fi, .string n.fr, .int .i64 n.cd] 34 (0, 0))) := Lib.hid (heap_alloc_new w7 _)
                obtain ⟨w8, hw8⟩ : ∃ w8, w8 = w7.alloc (.cells #[.string n.nm, .bool n.st, .bool n.ab, .bool n.fi, .string n.fr, .int .i64 n.cd] 34) := ⟨_, rfl⟩
                rw [← hw8] at HB8 N8 ⊢
                clear hw8 B8
                have HB48 := Lib.hid (HB46.out.trans (HB8.out.mono HB46.out.size))
                have x4 := cell_blk ((HB8.out.block _ (lt_of_block X6.out)).trans X6.out) 4
                have p0 := cell_blk ((HB8.out.block _ (lt_of_block P6.out)).trans P6.out) 0
                have M8 := Lib.hid ((HB8.out.block _ (lt_of_block M6.out)).trans M6.out)
                obtain ⟨y1, hy1⟩ : ∃ y, (c.pa.toList == p.1.nm.toList) = y := ⟨_, rfl⟩
                have HY1 : Hid (eqB c.pa p.1.nm = y1) := Lib.hid hy1
                cases y1 with
                | false =>
                  clear HLW
                  go_wp2_with fail
                  go_roundw
                  case rel => exact ⟨l + 1, HLL.out, by go_num, HB48⟩
                  case measure => exact meas_lt HLL.out
                | true =>
                  obtain ⟨his, hnm⟩ := HLW.out HY1.out
                  subst his
                  have HNM := Lib.hid hnm
                  clear hnm HLW
                  obtain ⟨fi, hfi⟩ : ∃ fi, m.fi = fi := ⟨_, rfl⟩
                  have HFI := Lib.hid hfi
                  cases fi with
                  | false =>
                    have m3 : w8.cell? ⟨mb, 3, none⟩ = some (.bool false) := by rw [← hfi]; exact cell_blk M8.out 3
                    clear hfi
                    go_wp2_with fail
                    go_roundw
                    case rel => exact ⟨l + 1, HLL.out, by go_num, HB48⟩
                    case measure => exact meas_lt HLL.out
                  | true =>
                    have hnm : n = m := HNM.out HFI.out
                    subst hnm
                    clear hfi hy1 HY1
                    obtain ⟨mn, mst, mab, mfi, mfr, mcd⟩ := n
                    obtain rfl : mfi = true := HFI.out
                    have m0 : w8.cell? ⟨mb, 0, none⟩ = some (.string mn) := cell_blk M8.out 0
                    have m1 : w8.cell? ⟨mb, 1, none⟩ = some (.bool mst) := cell_blk M8.out 1
                    have m2 : w8.cell? ⟨mb, 2, none⟩ = some (.bool mab) := cell_blk M8.out 2
                    have m3 : w8.cell? ⟨mb, 3, none⟩ = some (.bool true) := cell_blk M8.out 3
                    have m4 : w8.cell? ⟨mb, 4, none⟩ = some (.string mfr) := cell_blk M8.out 4
                    have m5 : w8.cell? ⟨mb, 5, none⟩ = some (.int .i64 mcd) := cell_blk M8.out 5
                    have n0 : w8.cell? ⟨w7.heap.size, 0, none⟩ = some (.string mn) := cell_blk N8.out 0
                    have n1 : w8.cell? ⟨w7.heap.size, 1, none⟩ = some (.bool mst) := cell_blk N8.out 1
                    have n2 : w8.cell? ⟨w7.heap.size, 2, none⟩ = some (.bool mab) := cell_blk N8.out 2
                    have n3 : w8.cell? ⟨w7.heap.size, 3, none⟩ = some (.bool true) := cell_blk N8.out 3
                    have n4 : w8.cell? ⟨w7.heap.size, 4, none⟩ = some (.string mfr) := cell_blk N8.out 4
                    have n5 : w8.cell? ⟨w7.heap.size, 5, none⟩ = some (.int .i64 mcd) := cell_blk N8.out 5
                    obtain ⟨y9, hy9⟩ : ∃ y, (c.pa.toList == p.1.nm.toList) = y := ⟨_, rfl⟩
                    cases y9 with
                    | false =>
                      go_wp2_with fail
                      go_roundw
                      case rel => exact ⟨l + 1, HLL.out, by go_num, HB48⟩
                      case measure => exact meas_lt HLL.out
                    | true =>
                      go_wp2_with fail
                      go_roundw
                      case rel => exact ⟨l + 1, HLL.out, by go_num, HB48⟩
                      case measure => exact meas_lt HLL.out
              · obtain rfl : l = p.1.ms.length := by omega
                go_wp2_with fail
                go_roundw
                case rel => exact ⟨j + 1, HJL.out, by go_num, HB5⟩
                case measure => exact meas_lt HJL.out
          · obtain rfl : j = kn.length := by omega
            have HNO : Hid (findK kn c.nm = none) := Lib.hid (by rw [HM.out.nm]; exact HM.out.new)
            obtain ⟨pe, hpe⟩ : ∃ pe, c.pa.toList.isEmpty = pe := ⟨_, rfl⟩
            have HPE : Hid (emT c.pa = pe) := Lib.hid hpe
            have HFL : Hid (c.fs.length ≤ 1048576) := Lib.hid (HM.out.fine.lfs hU)
            clear HB
            go_upto_region 18 with fail
            go_cut [84] from 70 to 84 (fun s84 wx => s84 = .bool false ∧ Hid (KS w wx (.slice uo kn.length uc) kn ∧ wx.heap[cb]? = some (.cells #[.string c.nm, .int .i64 c.kd, .bool c.ab, .bool c.fi, .string c.pa, .slice V.f.o V.f.n V.f.c, .slice V.t.o V.t.n V.t.c, .slice V.a.o V.a.n V.a.c, .slice V.c.o V.c.n V.c.c, .slice V.p.o V.p.n V.p.c, .slice V.m.o V.m.n V.m.c] 29 (0, 0)) ∧ ClIn (NT wx) wx c V))
            case first =>
              have hS0 : (fun Vw => Vw.heap[cb]? = some (.cells #[.string c.nm, .int .i64 c.kd, .bool c.ab, .bool c.fi, .string c.pa, .slice V.f.o V.f.n V.f.c, .slice V.t.o V.t.n V.t.c, .slice V.a.o V.a.n V.a.c, .slice V.c.o V.c.n V.c.c, .slice V.p.o V.p.n V.p.c, .slice V.m.o V.m.n V.m.c] 29 (0, 0))) wr.drew := X3.out
              cases pe with
              | true =>
                refine wp_region_noPanic ?_
                refine wp_region_held_drew (S := (fun Vw => Vw.heap[cb]? = some (.cells #[.string c.nm, .int .i64 c.kd, .bool c.ab, .bool c.fi, .string c.pa, .slice V.f.o V.f.n V.f.c, .slice V.t.o V.t.n V.t.c, .slice V.a.o V.a.n V.a.c, .slice V.c.o V.c.n V.c.c, .slice V.p.o V.p.n V.p.c, .slice V.m.o V.m.n V.m.c] 29 (0, 0)))) (by kernel_rfl) (by exact hS0) (fun hHeld => ?_)
                refine wpAnyH_take (i := 0) (oi := ?oz1_) (v := ?vz1_) ?hiz1_ (by kernel_rfl) (by kernel_rfl) (by kernel_rfl) (fun _ _ _ h => h) ?hyz1_ (by assumption) ?restz1_
                case hiz1_ => simp only [gA, gZ]; rfl
                case hyz1_ =>
                  refine Or.inl ⟨by rfl, ?_⟩
                  intro w hSw; (try dsimp only at hSw); have u0 := cell_blk hSw 0; have u1 := cell_blk hSw 1; have u2 := cell_blk hSw 2; have u3 := cell_blk hSw 3; have u4 := cell_blk hSw 4; have u5 := cell_blk hSw 5; have u6 := cell_blk hSw 6; have u7 := cell_blk hSw 7; have u8 := cell_blk hSw 8; have u9 := cell_blk hSw 9; have u10 := cell_blk hSw 10; go_simp <;> (with_reducible rfl)
                (try simp only [Act.put, pA, pZ, pS])
                refine wpAnyH_take (i := 1) (oi := ?oz2_) (v := ?vz2_) ?hiz2_ (by kernel_rfl) (by kernel_rfl) (by kernel_rfl) (fun _ _ _ h => h) ?hyz2_ (by assumption) ?restz2_
                case hiz2_ => simp only [gA, gS, gZ]; rfl
                case hyz2_ =>
                  refine Or.inl ⟨by rfl, ?_⟩
                  intro w hSw; (try dsimp only at hSw); have u0 := cell_blk hSw 0; have u1 := cell_blk hSw 1; have u2 := cell_blk hSw 2; have u3 := cell_blk hSw 3; have u4 := cell_blk hSw 4; have u5 := cell_blk hSw 5; have u6 := cell_blk hSw 6; have u7 := cell_blk hSw 7; have u8 := cell_blk hSw 8; have u9 := cell_blk hSw 9; have u10 := cell_blk hSw 10; go_simp <;> (with_reducible rfl)
                (try simp only [Act.put, pA, pZ, pS])
                refine wpAnyH_take (i := 2) (oi := ?oz3_) (v := ?vz3_) ?hiz3_ (by kernel_rfl) (by kernel_rfl) (by kernel_rfl) (fun _ _ _ h => h) ?hyz3_ (by assumption) ?restz3_
                case hiz3_ => simp only [gA, gS, gZ]; rfl
                case hyz3_ =>
                  refine Or.inl ⟨by rfl, ?_⟩
                  intro w hSw; (try dsimp only at hSw); have u0 := cell_blk hSw 0; have u1 := cell_blk hSw 1; have u2 := cell_blk hSw 2; have u3 := cell_blk hSw 3; have u4 := cell_blk hSw 4; have u5 := cell_blk hSw 5; have u6 := cell_blk hSw 6; have u7 := cell_blk hSw 7; have u8 := cell_blk hSw 8; have u9 := cell_blk hSw 9; have u10 := cell_blk hSw 10; go_simp <;> (with_reducible rfl)
                (try simp only [Act.put, pA, pZ, pS])
                refine wpAnyH_take (i := 3) (oi := ?oz4_) (v := ?vz4_) ?hiz4_ (by kernel_rfl) (by kernel_rfl) (by kernel_rfl) (fun _ _ _ h => h) ?hyz4_ (by assumption) ?restz4_
                case hiz4_ => simp only [gA, gS, gZ]; rfl
                case hyz4_ =>
                  refine Or.inl ⟨by rfl, ?_⟩
                  intro w hSw; (try dsimp only at hSw); have u0 := cell_blk hSw 0; have u1 := cell_blk hSw 1; have u2 := cell_blk hSw 2; have u3 := cell_blk hSw 3; have u4 := cell_blk hSw 4; have u5 := cell_blk hSw 5; have u6 := cell_blk hSw 6; have u7 := cell_blk hSw 7; have u8 := cell_blk hSw 8; have u9 := cell_blk hSw 9; have u10 := cell_blk hSw 10; go_simp <;> (with_reducible rfl)
                (try simp only [Act.put, pA, pZ, pS])
                refine wpAnyH_take (i := 4) (oi := ?oz5_) (v := undef) ?hiz5_ (by kernel_rfl) (by kernel_rfl) (by kernel_rfl) (fun _ _ _ h => h) ?hyz5_ (by assumption) ?restz5_
                case hiz5_ => simp only [gA, gS, gZ]; rfl
                case hyz5_ => exact Or.inr ⟨by rfl, rfl⟩
                (try simp only [Act.put, pA, pZ, pS])
                refine wpAnyH_take (i := 5) (oi := ?oz6_) (v := undef) ?hiz6_ (by kernel_rfl) (by kernel_rfl) (by kernel_rfl) (fun _ _ _ h => h) ?hyz6_ (by assumption) ?restz6_
                case hiz6_ => simp only [gA, gS, gZ]; rfl
                case hyz6_ => exact Or.inr ⟨by rfl, rfl⟩
                (try simp only [Act.put, pA, pZ, pS])
                refine wpAnyH_take (i := 6) (oi := ?oz7_) (v := undef) ?hiz7_ (by kernel_rfl) (by kernel_rfl) (by kernel_rfl) (fun _ _ _ h => h) ?hyz7_ (by assumption) ?restz7_
                case hiz7_ => simp only [gA, gS, gZ]; rfl
                case hyz7_ => exact Or.inr ⟨by rfl, rfl⟩
                (try simp only [Act.put, pA, pZ, pS])
                refine wpAnyH_take (i := 7) (oi := ?oz8_) (v := undef) ?hiz8_ (by kernel_rfl) (by kernel_rfl) (by kernel_rfl) (fun _ _ _ h => h) ?hyz8_ (by assumption) ?restz8_
                case hiz8_ => simp only [gA, gS, gZ]; rfl
                case hyz8_ => exact Or.inr ⟨by rfl, rfl⟩
                (try simp only [Act.put, pA, pZ, pS])
                refine wpAnyH_take (i := 8) (oi := ?oz9_) (v := undef) ?hiz9_ (by kernel_rfl) (by kernel_rfl) (by kernel_rfl) (fun _ _ _ h => h) ?hyz9_ (by assumption) ?restz9_
                case hiz9_ => simp only [gA, gS, gZ]; rfl
                case hyz9_ => exact Or.inr ⟨by rfl, rfl⟩
                (try simp only [Act.put, pA, pZ, pS])
                refine wpAnyH_take (i := 9) (oi := ?oz10_) (v := undef) ?hiz10_ (by kernel_rfl) (by kernel_rfl) (by kernel_rfl) (fun _ _ _ h => h) ?hyz10_ (by assumption) ?restz10_
                case hiz10_ => simp only [gA, gS, gZ]; rfl
                case hyz10_ => exact Or.inr ⟨by rfl, rfl⟩
                (try simp only [Act.put, pA, pZ, pS])
                refine wpAnyH_take (i := 10) (oi := ?oz11_) (v := undef) ?hiz11_ (by kernel_rfl) (by kernel_rfl) (by kernel_rfl) (fun _ _ _ h => h) ?hyz11_ (by assumption) ?restz11_
                case hiz11_ => simp only [gA, gS, gZ]; rfl
                case hyz11_ => exact Or.inr ⟨by rfl, rfl⟩
                (try simp only [Act.put, pA, pZ, pS])
                refine wpAnyH_take (i := 11) (oi := ?oz12_) (v := undef) ?hiz12_ (by kernel_rfl) (by kernel_rfl) (by kernel_rfl) (fun _ _ _ h => h) ?hyz12_ (by assumption) ?restz12_
                case hiz12_ => simp only [gA, gS, gZ]; rfl
                case hyz12_ => exact Or.inr ⟨by rfl, rfl⟩
                (try simp only [Act.put, pA, pZ, pS])
                refine wpAnyH_take (i := 12) (oi := ?oz13_) (v := undef) ?hiz13_ (by kernel_rfl) (by kernel_rfl) (by kernel_rfl) (fun _ _ _ h => h) ?hyz13_ (by assumption) ?restz13_
                case hiz13_ => simp only [gA, gS, gZ]; rfl
                case hyz13_ => exact Or.inr ⟨by rfl, rfl⟩
                (try simp only [Act.put, pA, pZ, pS])
                refine wpAnyH_take (i := 13) (oi := ?oz14_) (v := undef) ?hiz14_ (by kernel_rfl) (by kernel_rfl) (by kernel_rfl) (fun _ _ _ h => h) ?hyz14_ (by assumption) ?restz14_
                case hiz14_ => simp only [gA, gS, gZ]; rfl
                case hyz14_ => exact Or.inr ⟨by rfl, rfl⟩
                (try simp only [Act.put, pA, pZ, pS])
                refine wpAnyH_take (i := 14) (oi := ?oz15_) (v := ?vz15_) ?hiz15_ (by kernel_rfl) (by kernel_rfl) (by kernel_rfl) (fun _ _ _ h => h) ?hyz15_ (by assumption) ?restz15_
                case hiz15_ => simp only [gA, gS, gZ]; rfl
                case hyz15_ =>
                  refine Or.inl ⟨by rfl, ?_⟩
                  intro w hSw; (try dsimp only at hSw); have u0 := cell_blk hSw 0; have u1 := cell_blk hSw 1; have u2 := cell_blk hSw 2; have u3 := cell_blk hSw 3; have u4 := cell_blk hSw 4; have u5 := cell_blk hSw 5; have u6 := cell_blk hSw 6; have u7 := cell_blk hSw 7; have u8 := cell_blk hSw 8; have u9 := cell_blk hSw 9; have u10 := cell_blk hSw 10; go_simp <;> (with_reducible rfl)
                (try simp only [Act.put, pA, pZ, pS])
                refine wpAnyH_done (by kernel_rfl) ?_ _
                refine NoPanic.normal ?_
                go_wp2_with fail
                go_meet
                exact ⟨rfl, Lib.hid ⟨HS3.out.same (Below.refl _ _).drew, X3.out, nt_under HC3.out (Below.refl _ _).drew⟩⟩
              | false =>
                have HS5 : Hid (KS w (wr.drew.alloc (.cells #[.string c.nm, .int .i64 c.kd, .bool c.ab, .bool c.fi, .string c.pa, .slice V.f.o V.f.n V.f.c, .slice V.t.o V.t.n V.t.c, .slice V.a.o V.a.n V.a.c, .slice V.c.o V.c.n V.c.c, .slice V.p.o V.p.n V.p.c, .slice V.m.o V.m.n V.m.c] 29)) (.slice uo kn.length uc) kn) := Lib.hid (HS3.out.same ((Below.refl _ wr).drew.alloc (Nat.le_refl _) _))
                have HC5 : Hid (ClIn (NT (wr.drew.alloc (.cells #[.string c.nm, .int .i64 c.kd, .bool c.ab, .bool c.fi, .string c.pa, .slice V.f.o V.f.n V.f.c, .slice V.t.o V.t.n V.t.c, .slice V.a.o V.a.n V.a.c, .slice V.c.o V.c.n V.c.c, .slice V.p.o V.p.n V.p.c, .slice V.m.o V.m.n V.m.c] 29))) (wr.drew.alloc (.cells #[.string c.nm, .int .i64 c.kd, .bool c.ab, .bool c.fi, .string c.pa, .slice V.f.o V.f.n V.f.c, .slice V.t.o V.t.n V.t.c, .slice V.a.o V.a.n V.a.c, .slice V.c.o V.c.n V.c.c, .slice V.p.o V.p.n V.p.c, .slice V.m.o V.m.n V.m.c] 29)) c V) := Lib.hid (nt_under HC3.out ((Below.refl _ wr).drew.alloc (Nat.le_refl _) _))
                have X5 : Hid ((wr.drew.alloc (.cells #[.string c.nm, .int .i64 c.kd, .bool c.ab, .bool c.fi, .string c.pa, .slice V.f.o V.f.n V.f.c, .slice V.t.o V.t.n V.t.c, .slice V.a.o V.a.n V.a.c, .slice V.c.o V.c.n V.c.c, .slice V.p.o V.p.n V.p.c, .slice V.m.o V.m.n V.m.c] 29)).heap[cb]? = some (.cells #[.string c.nm, .int .i64 c.kd, .bool c.ab, .bool c.fi, .string c.pa, .slice V.f.o V.f.n V.f.c, .slice V.t.o V.t.n V.t.c, .slice V.a.o V.a.n V.a.c, .slice V.c.o V.c.n V.c.c, .slice V.p.o V.p.n V.p.c, .slice V.m.o V.m.n V.m.c] 29 (0, 0))) := Lib.hid (alloc_blk (w := wr.drew) X3.out _)
                have hL : Hid (Lies (wr.drew.alloc (.cells #[.string c.nm, .int .i64 c.kd, .bool c.ab, .bool c.fi, .string c.pa, .slice V.f.o V.f.n V.f.c, .slice V.t.o V.t.n V.t.c, .slice V.a.o V.a.n V.a.c, .slice V.c.o V.c.n V.c.c, .slice V.p.o V.p.n V.p.c, .slice V.m.o V.m.n V.m.c] 29)) 11 (some ⟨wr.heap.size, 0, none⟩) ([[.string c.nm, .int .i64 c.kd, .bool c.ab, .bool c.fi, .string c.pa, .slice V.f.o V.f.n V.f.c, .slice V.t.o V.t.n V.t.c, .slice V.a.o V.a.n V.a.c, .slice V.c.o V.c.n V.c.c, .slice V.p.o V.p.n V.p.c, .slice V.m.o V.m.n V.m.c]] : List (List Value))) := Lib.hid (lies_new wr.drew [.string c.nm, .int .i64 c.kd, .bool c.ab, .bool c.fi, .string c.pa, .slice V.f.o V.f.n V.f.c, .slice V.t.o V.t.n V.t.c, .slice V.a.o V.a.n V.a.c, .slice V.c.o V.c.n V.c.c, .slice V.p.o V.p.n V.p.c, .slice V.m.o V.m.n V.m.c] 29 rfl)
                have HF := Lib.hid (k_fits (r := [.string c.nm, .int .i64 c.kd, .bool c.ab, .bool c.fi, .string c.pa, .slice V.f.o V.f.n V.f.c, .slice V.t.o V.t.n V.t.c, .slice V.a.o V.a.n V.a.c, .slice V.c.o V.c.n V.c.c, .slice V.p.o V.p.n V.p.c, .slice V.m.o V.m.n V.m.c]) HKB.out)
                refine wp_region_noPanic ?_
                refine wp_region_held_drew (S := (fun Vw => Vw.heap[cb]? = some (.cells #[.string c.nm, .int .i64 c.kd, .bool c.ab, .bool c.fi, .string c.pa, .slice V.f.o V.f.n V.f.c, .slice V.t.o V.t.n V.t.c, .slice V.a.o V.a.n V.a.c, .slice V.c.o V.c.n V.c.c, .slice V.p.o V.p.n V.p.c, .slice V.m.o V.m.n V.m.c] 29 (0, 0)))) (by kernel_rfl) (by exact hS0) (fun hHeld => ?_)
                refine wpAnyH_take (i := 0) (oi := ?oz16_) (v := ?vz16_) ?hiz16_ (by kernel_rfl) (by kernel_rfl) (by kernel_rfl) (fun _ _ _ h => h) ?hyz16_ (by assumption) ?restz16_
                case hiz16_ => simp only [gA, gZ]; rfl
                case hyz16_ =>
                  refine Or.inl ⟨by rfl, ?_⟩
                  intro w hSw; (try dsimp only at hSw); have u0 := cell_blk hSw 0; have u1 := cell_blk hSw 1; have u2 := cell_blk hSw 2; have u3 := cell_blk hSw 3; have u4 := cell_blk hSw 4; have u5 := cell_blk hSw 5; have u6 := cell_blk hSw 6; have u7 := cell_blk hSw 7; have u8 := cell_blk hSw 8; have u9 := cell_blk hSw 9; have u10 := cell_blk hSw 10; go_simp <;> (with_reducible rfl)
                (try simp only [Act.put, pA, pZ, pS])
                refine wpAnyH_take (i := 1) (oi := ?oz17_) (v := ?vz17_) ?hiz17_ (by kernel_rfl) (by kernel_rfl) (by kernel_rfl) (fun _ _ _ h => h) ?hyz17_ (by assumption) ?restz17_
                case hiz17_ => simp only [gA, gS, gZ]; rfl
                case hyz17_ =>
                  refine Or.inl ⟨by rfl, ?_⟩
                  intro w hSw; (try dsimp only at hSw); have u0 := cell_blk hSw 0; have u1 := cell_blk hSw 1; have u2 := cell_blk hSw 2; have u3 := cell_blk hSw 3; have u4 := cell_blk hSw 4; have u5 := cell_blk hSw 5; have u6 := cell_blk hSw 6; have u7 := cell_blk hSw 7; have u8 := cell_blk hSw 8; have u9 := cell_blk hSw 9; have u10 := cell_blk hSw 10; go_simp <;> (with_reducible rfl)
                (try simp only [Act.put, pA, pZ, pS])
                refine wpAnyH_take (i := 2) (oi := ?oz18_) (v := ?vz18_) ?hiz18_ (by kernel_rfl) (by kernel_rfl) (by kernel_rfl) (fun _ _ _ h => h) ?hyz18_ (by assumption) ?restz18_
                case hiz18_ => simp only [gA, gS, gZ]; rfl
                case hyz18_ =>
                  refine Or.inl ⟨by rfl, ?_⟩
                  intro w hSw; (try dsimp only at hSw); have u0 := cell_blk hSw 0; have u1 := cell_blk hSw 1; have u2 := cell_blk hSw 2; have u3 := cell_blk hSw 3; have u4 := cell_blk hSw 4; have u5 := cell_blk hSw 5; have u6 := cell_blk hSw 6; have u7 := cell_blk hSw 7; have u8 := cell_blk hSw 8; have u9 := cell_blk hSw 9; have u10 := cell_blk hSw 10; go_simp <;> (with_reducible rfl)
                (try simp only [Act.put, pA, pZ, pS])
                refine wpAnyH_take (i := 3) (oi := ?oz19_) (v := ?vz19_) ?hiz19_ (by kernel_rfl) (by kernel_rfl) (by kernel_rfl) (fun _ _ _ h => h) ?hyz19_ (by assumption) ?restz19_
                case hiz19_ => simp only [gA, gS, gZ]; rfl
                case hyz19_ =>
                  refine Or.inl ⟨by rfl, ?_⟩
                  intro w hSw; (try dsimp only at hSw); have u0 := cell_blk hSw 0; have u1 := cell_blk hSw 1; have u2 := cell_blk hSw 2; have u3 := cell_blk hSw 3; have u4 := cell_blk hSw 4; have u5 := cell_blk hSw 5; have u6 := cell_blk hSw 6; have u7 := cell_blk hSw 7; have u8 := cell_blk hSw 8; have u9 := cell_blk hSw 9; have u10 := cell_blk hSw 10; go_simp <;> (with_reducible rfl)
                (try simp only [Act.put, pA, pZ, pS])
                refine wpAnyH_take (i := 4) (oi := ?oz20_) (v := ?vz20_) ?hiz20_ (by kernel_rfl) (by kernel_rfl) (by kernel_rfl) (fun _ _ _ h => h) ?hyz20_ (by assumption) ?restz20_
                case hiz20_ => simp only [gA, gS, gZ]; rfl
                case hyz20_ =>
                  refine Or.inl ⟨by rfl, ?_⟩
                  intro w hSw; (try dsimp only at hSw); have u0 := cell_blk hSw 0; have u1 := cell_blk hSw 1; have u2 := cell_blk hSw 2; have u3 := cell_blk hSw 3; have u4 := cell_blk hSw 4; have u5 := cell_blk hSw 5; have u6 := cell_blk hSw 6; have u7 := cell_blk hSw 7; have u8 := cell_blk hSw 8; have u9 := cell_blk hSw 9; have u10 := cell_blk hSw 10; go_simp <;> (with_reducible rfl)
                (try simp only [Act.put, pA, pZ, pS])
                refine wpAnyH_take (i := 5) (oi := ?oz21_) (v := ?vz21_) ?hiz21_ (by kernel_rfl) (by kernel_rfl) (by kernel_rfl) (fun _ _ _ h => h) ?hyz21_ (by assumption) ?restz21_
                case hiz21_ => simp only [gA, gS, gZ]; rfl
                case hyz21_ =>
                  refine Or.inl ⟨by rfl, ?_⟩
                  intro w hSw; (try dsimp only at hSw); have u0 := cell_blk hSw 0; have u1 := cell_blk hSw 1; have u2 := cell_blk hSw 2; have u3 := cell_blk hSw 3; have u4 := cell_blk hSw 4; have u5 := cell_blk hSw 5; have u6 := cell_blk hSw 6; have u7 := cell_blk hSw 7; have u8 := cell_blk hSw 8; have u9 := cell_blk hSw 9; have u10 := cell_blk hSw 10; go_simp <;> (with_reducible rfl)
                (try simp only [Act.put, pA, pZ, pS])
                refine wpAnyH_take (i := 6) (oi := ?oz22_) (v := ?vz22_) ?hiz22_ (by kernel_rfl) (by kernel_rfl) (by kernel_rfl) (fun _ _ _ h => h) ?hyz22_ (by assumption) ?restz22_
                case hiz22_ => simp only [gA, gS, gZ]; rfl
                case hyz22_ =>
                  refine Or.inl ⟨by rfl, ?_⟩
                  intro w hSw; (try dsimp only at hSw); have u0 := cell_blk hSw 0; have u1 := cell_blk hSw 1; have u2 := cell_blk hSw 2; have u3 := cell_blk hSw 3; have u4 := cell_blk hSw 4; have u5 := cell_blk hSw 5; have u6 := cell_blk hSw 6; have u7 := cell_blk hSw 7; have u8 := cell_blk hSw 8; have u9 := cell_blk hSw 9; have u10 := cell_blk hSw 10; go_simp <;> (with_reducible rfl)
                (try simp only [Act.put, pA, pZ, pS])
                refine wpAnyH_take (i := 7) (oi := ?oz23_) (v := ?vz23_) ?hiz23_ (by kernel_rfl) (by kernel_rfl) (by kernel_rfl) (fun _ _ _ h => h) ?hyz23_ (by assumption) ?restz23_
                case hiz23_ => simp only [gA, gS, gZ]; rfl
                case hyz23_ =>
                  refine Or.inl ⟨by rfl, ?_⟩
                  intro w hSw; (try dsimp only at hSw); have u0 := cell_blk hSw 0; have u1 := cell_blk hSw 1; have u2 := cell_blk hSw 2; have u3 := cell_blk hSw 3; have u4 := cell_blk hSw 4; have u5 := cell_blk hSw 5; have u6 := cell_blk hSw 6; have u7 := cell_blk hSw 7; have u8 := cell_blk hSw 8; have u9 := cell_blk hSw 9; have u10 := cell_blk hSw 10; go_simp <;> (with_reducible rfl)
                (try simp only [Act.put, pA, pZ, pS])
                refine wpAnyH_take (i := 8) (oi := ?oz24_) (v := ?vz24_) ?hiz24_ (by kernel_rfl) (by kernel_rfl) (by kernel_rfl) (fun _ _ _ h => h) ?hyz24_ (by assumption) ?restz24_
                case hiz24_ => simp only [gA, gS, gZ]; rfl
                case hyz24_ =>
                  refine Or.inl ⟨by rfl, ?_⟩
                  intro w hSw; (try dsimp only at hSw); have u0 := cell_blk hSw 0; have u1 := cell_blk hSw 1; have u2 := cell_blk hSw 2; have u3 := cell_blk hSw 3; have u4 := cell_blk hSw 4; have u5 := cell_blk hSw 5; have u6 := cell_blk hSw 6; have u7 := cell_blk hSw 7; have u8 := cell_blk hSw 8; have u9 := cell_blk hSw 9; have u10 := cell_blk hSw 10; go_simp <;> (with_reducible rfl)
                (try simp only [Act.put, pA, pZ, pS])
                refine wpAnyH_take (i := 9) (oi := ?oz25_) (v := ?vz25_) ?hiz25_ (by kernel_rfl) (by kernel_rfl) (by kernel_rfl) (fun _ _ _ h => h) ?hyz25_ (by assumption) ?restz25_
                case hiz25_ => simp only [gA, gS, gZ]; rfl
                case hyz25_ =>
                  refine Or.inl ⟨by rfl, ?_⟩
                  intro w hSw; (try dsimp only at hSw); have u0 := cell_blk hSw 0; have u1 := cell_blk hSw 1; have u2 := cell_blk hSw 2; have u3 := cell_blk hSw 3; have u4 := cell_blk hSw 4; have u5 := cell_blk hSw 5; have u6 := cell_blk hSw 6; have u7 := cell_blk hSw 7; have u8 := cell_blk hSw 8; have u9 := cell_blk hSw 9; have u10 := cell_blk hSw 10; go_simp <;> (with_reducible rfl)
                (try simp only [Act.put, pA, pZ, pS])
                refine wpAnyH_ready (rs := [10]) (by kernel_rfl) (by simp) ?_
                refine AllReadyH.cons rfl (fun K hK => ?_) AllReadyH.nil
                go_simp
                refine hK.out _ _ (by exact X5.out) (fun hHeld10 => ?_)
                clear hK K
                (try simp only [Act.put, pA, pZ, pS])
                refine wpAnyH_ready (rs := [11]) (by kernel_rfl) (by simp) ?_
                refine AllReadyH.cons rfl (fun K hK => ?_) AllReadyH.nil
                refine step_append_keep (by rfl) (.tmp 78) (.tmp 80) 22 rfl 29 _ 11 192 Tryd.underlying22 info29 rfl (by decide) (.slice uo kn.length uc) (kn.map KC.row) (by simp [Act.eval]) HS5.out.or.own (some ⟨wr.heap.size, 0, none⟩) 1 1 ([[.string c.nm, .int .i64 c.kd, .bool c.ab, .bool c.fi, .string c.pa, .slice V.f.o V.f.n V.f.c, .slice V.t.o V.t.n V.t.c, .slice V.a.o V.a.n V.a.c, .slice V.c.o V.c.n V.c.c, .slice V.p.o V.p.n V.p.c, .slice V.m.o V.m.n V.m.c]] : List (List Value)) (by simp [Act.eval]) rfl (fun e => by cases e) hL.out (by simp [Value.oneCell']) (by simp) (by simp) HF.out.1 (by have h := HF.out.2; omega) ?_
                intro v6 w6 o6 g6 n6 k6
                have S6 : Hid (w6.heap[cb]? = some (.cells #[.string c.nm, .int .i64 c.kd, .bool c.ab, .bool c.fi, .string c.pa, .slice V.f.o V.f.n V.f.c, .slice V.t.o V.t.n V.t.c, .slice V.a.o V.a.n V.a.c, .slice V.c.o V.c.n V.c.c, .slice V.p.o V.p.n V.p.c, .slice V.m.o V.m.n V.m.c] 29 (0, 0))) := Lib.hid ((g6.block _ (lt_of_block X5.out) (fun e => HBQ.out e.symm)).trans X5.out)
                have HS6 := Lib.hid (HS5.out.temp k6 g6)
                have HC6 := Lib.hid (nt_grown HS5.out.or.own g6 HC5.out)
                have HK6 : Hid (KnIn AnyB (NT w6) w6 v6 (kn ++ [(c, V)])) := Lib.hid ⟨RIn.of_owns (A := AnyB) (by rw [List.map_append]; exact o6) (fun _ _ => trivial), fun x hx => by
                  rcases List.mem_append.1 hx with hx | hx
                  · exact HS6.out.cls x hx
                  · rw [List.mem_singleton.1 hx]; exact HC6.out⟩
                have HIS := Lib.hid (is_any c.nm c.pa HK6.out (by rw [List.length_append]; have := HKB.out; simp; omega) (fun x hx => by
                  rcases List.mem_append.1 hx with hx | hx
                  · exact Nat.le_trans ((HL.out.fine x hx).lfs hU) (by decide)
                  · rw [List.mem_singleton.1 hx]; exact Nat.le_trans HFL.out (by decide)))
                rw [is_parent HNO.out HPE.out] at HIS
                clear o6 g6 n6 k6
                refine hK.out _ _ (by exact S6.out) (fun hHeld11 => ?_)
                clear hK K
                (try simp only [Act.put, pA])
                refine wpAnyH_ready (rs := [12]) (by kernel_rfl) (by simp) ?_
                refine AllReadyH.cons rfl (fun K hK => ?_) AllReadyH.nil
                go_simp
                refine HIS.out.mono ?_
                rintro _ w7 ⟨rfl, hb⟩
                have HS8 := Lib.hid (HS6.out.same hb)
                have HC8 := Lib.hid (nt_under HC6.out hb)
                have S8 : Hid (w7.heap[cb]? = some (.cells #[.string c.nm, .int .i64 c.kd, .bool c.ab, .bool c.fi, .string c.pa, .slice V.f.o V.f.n V.f.c, .slice V.t.o V.t.n V.t.c, .slice V.a.o V.a.n V.a.c, .slice V.c.o V.c.n V.c.c, .slice V.p.o V.p.n V.p.c, .slice V.m.o V.m.n V.m.c] 29 (0, 0))) := Lib.hid ((hb.block _ (lt_of_block S6.out)).trans S6.out)
                clear hb
                refine hK.out _ _ (by exact S8.out) (fun hHeld12 => ?_)
                clear hK K
                (try simp only [Act.put, pA, pZ, pS])
                refine wpAnyH_take (i := 13) (oi := ?oz26_) (v := ?vz26_) ?hiz26_ (by kernel_rfl) (by kernel_rfl) (by kernel_rfl) (fun _ _ _ h => h) ?hyz26_ (by assumption) ?restz26_
                case hiz26_ => simp only [gA, gS, gZ]; rfl
                case hyz26_ =>
                  refine Or.inl ⟨by rfl, ?_⟩
                  intro w hSw; (try dsimp only at hSw); have u0 := cell_blk hSw 0; have u1 := cell_blk hSw 1; have u2 := cell_blk hSw 2; have u3 := cell_blk hSw 3; have u4 := cell_blk hSw 4; have u5 := cell_blk hSw 5; have u6 := cell_blk hSw 6; have u7 := cell_blk hSw 7; have u8 := cell_blk hSw 8; have u9 := cell_blk hSw 9; have u10 := cell_blk hSw 10; go_simp <;> (with_reducible rfl)
                (try simp only [Act.put, pA, pZ, pS])
                refine wpAnyH_take (i := 14) (oi := ?oz27_) (v := ?vz27_) ?hiz27_ (by kernel_rfl) (by kernel_rfl) (by kernel_rfl) (fun _ _ _ h => h) ?hyz27_ (by assumption) ?restz27_
                case hiz27_ => simp only [gA, gS, gZ]; rfl
                case hyz27_ =>
                  refine Or.inl ⟨by rfl, ?_⟩
                  intro w hSw; (try dsimp only at hSw); have u0 := cell_blk hSw 0; have u1 := cell_blk hSw 1; have u2 := cell_blk hSw 2; have u3 := cell_blk hSw 3; have u4 := cell_blk hSw 4; have u5 := cell_blk hSw 5; have u6 := cell_blk hSw 6; have u7 := cell_blk hSw 7; have u8 := cell_blk hSw 8; have u9 := cell_blk hSw 9; have u10 := cell_blk hSw 10; go_simp <;> (with_reducible rfl)
                (try simp only [Act.put, pA, pZ, pS])
                refine wpAnyH_done (by kernel_rfl) ?_ _
                refine NoPanic.normal ?_
                go_wp2_with fail
                go_meet
                exact ⟨rfl, Lib.hid ⟨HS8.out, S8.out, HC8.out⟩⟩
            case rest =>
              obtain ⟨rfl, hst⟩ := hcut
              obtain ⟨hs1, hs2, hs3⟩ := hst.out
              have HS1 := Lib.hid hs1
              have X1 := Lib.hid hs2
              have HC1 := Lib.hid hs3
              clear hst hs1 hs2 hs3 HS3 X3 HC3 hpe HPE
              obtain ⟨fo, hfo⟩ : ∃ fo, fo = V.f.o := ⟨_, rfl⟩
              have HFO := Lib.hid hfo
              have x5 : wc.cell? ⟨cb, 5, none⟩ = some (.slice fo c.fs.length V.f.c) := by
                have h9 : wc.cell? ⟨cb, 5, none⟩ = some (.slice V.f.o V.f.n V.f.c) := cell_blk X1.out 5
                have h8 := rin_n HC1.out.hf
                rw [List.length_map] at h8
                rw [h8, ← hfo] at h9
                exact h9
              clear hfo
              go_wp2_with fail
              clear x5
              go_loopw [15, 88] (fun _ jv wr => ∃ (j : Nat), j ≤ c.fs.length ∧ jv = .int .i64 j ∧ Hid (KS w wr (.slice uo kn.length uc) kn ∧ wr.heap[cb]? = some (.cells #[.string c.nm, .int .i64 c.kd, .bool c.ab, .bool c.fi, .string c.pa, .slice V.f.o V.f.n V.f.c, .slice V.t.o V.t.n V.t.c, .slice V.a.o V.a.n V.a.c, .slice V.c.o V.c.n V.c.c, .slice V.p.o V.p.n V.p.c, .slice V.m.o V.m.n V.m.c] 29 (0, 0)) ∧ ClIn (NT wr) wr c V)) (fun _ jv _ => c.fs.length - (intOf jv).toNat)
              case atStart => exact ⟨0, Nat.zero_le _, rfl, Lib.hid ⟨HS1.out, X1.out, HC1.out⟩⟩
              case round =>
                clear HS1 X1 HC1
                obtain ⟨j, hj, rfl, HST⟩ := hrel
                have HS3 := Lib.hid HST.out.1
                have X3 := Lib.hid HST.out.2.1
                have HC3 := Lib.hid HST.out.2.2
                have hfl := HFL.out
                clear HST
                by_cases hlt : j < c.fs.length
                · have hj2 : (j : Int) < (c.fs.length : Int) := by omega
                  obtain ⟨hw2', hw2⟩ := wr_sm (x := (j : Int) + 1) (by omega) (by omega)
                  obtain ⟨f, g2, off2, cp2, hf, hfm, -, e, hg, -, hc⟩ := s_cells HC3.out.hf hlt
                  simp only [Value.slice.injEq] at e
                  obtain ⟨e1, -, -⟩ := e
                  obtain rfl : fo = some ⟨g2, off2, none⟩ := by rw [HFO.out]; exact e1
                  clear e1
                  have d0 := hc _ (Below.refl _ _)
                  have HJL := Lib.hid hlt
                  have HFM := Lib.hid hfm
                  clear hc hf hfm hlt hg
                  go_upto_region 23 with fail
                  clear d0
                  have hS0 : (fun Vw => Vw.heap[cb]? = some (.cells #[.string c.nm, .int .i64 c.kd, .bool c.ab, .bool c.fi, .string c.pa, .slice V.f.o V.f.n V.f.c, .slice V.t.o V.t.n V.t.c, .slice V.a.o V.a.n V.a.c, .slice V.c.o V.c.n V.c.c, .slice V.p.o V.p.n V.p.c, .slice V.m.o V.m.n V.m.c] 29 (0, 0))) wr.drew := X3.out
                  have HS5 : Hid (KS w (wr.drew.alloc (.cells #[.string c.nm, .int .i64 c.kd, .bool c.ab, .bool c.fi, .string c.pa, .slice V.f.o V.f.n V.f.c, .slice V.t.o V.t.n V.t.c, .slice V.a.o V.a.n V.a.c, .slice V.c.o V.c.n V.c.c, .slice V.p.o V.p.n V.p.c, .slice V.m.o V.m.n V.m.c] 29)) (.slice uo kn.length uc) kn) := Lib.hid (HS3.out.same ((Below.refl _ wr).drew.alloc (Nat.le_refl _) _))
                  have HC5 : Hid (ClIn (NT (wr.drew.alloc (.cells #[.string c.nm, .int .i64 c.kd, .bool c.ab, .bool c.fi, .string c.pa, .slice V.f.o V.f.n V.f.c, .slice V.t.o V.t.n V.t.c, .slice V.a.o V.a.n V.a.c, .slice V.c.o V.c.n V.c.c, .slice V.p.o V.p.n V.p.c, .slice V.m.o V.m.n V.m.c] 29))) (wr.drew.alloc (.cells #[.string c.nm, .int .i64 c.kd, .bool c.ab, .bool c.fi, .string c.pa, .slice V.f.o V.f.n V.f.c, .slice V.t.o V.t.n V.t.c, .slice V.a.o V.a.n V.a.c, .slice V.c.o V.c.n V.c.c, .slice V.p.o V.p.n V.p.c, .slice V.m.o V.m.n V.m.c] 29)) c V) := Lib.hid (nt_under HC3.out ((Below.refl _ wr).drew.alloc (Nat.le_refl _) _))
                  have X5 : Hid ((wr.drew.alloc (.cells #[.string c.nm, .int .i64 c.kd, .bool c.ab, .bool c.fi, .string c.pa, .slice V.f.o V.f.n V.f.c, .slice V.t.o V.t.n V.t.c, .slice V.a.o V.a.n V.a.c, .slice V.c.o V.c.n V.c.c, .slice V.p.o V.p.n V.p.c, .slice V.m.o V.m.n V.m.c] 29)).heap[cb]? = some (.cells #[.string c.nm, .int .i64 c.kd, .bool c.ab, .bool c.fi, .string c.pa, .slice V.f.o V.f.n V.f.c, .slice V.t.o V.t.n V.t.c, .slice V.a.o V.a.n V.a.c, .slice V.c.o V.c.n V.c.c, .slice V.p.o V.p.n V.p.c, .slice V.m.o V.m.n V.m.c] 29 (0, 0))) := Lib.hid (alloc_blk (w := wr.drew) X3.out _)
                  have hL : Hid (Lies (wr.drew.alloc (.cells #[.string c.nm, .int .i64 c.kd, .bool c.ab, .bool c.fi, .string c.pa, .slice V.f.o V.f.n V.f.c, .slice V.t.o V.t.n V.t.c, .slice V.a.o V.a.n V.a.c, .slice V.c.o V.c.n V.c.c, .slice V.p.o V.p.n V.p.c, .slice V.m.o V.m.n V.m.c] 29)) 11 (some ⟨wr.heap.size, 0, none⟩) ([[.string c.nm, .int .i64 c.kd, .bool c.ab, .bool c.fi, .string c.pa, .slice V.f.o V.f.n V.f.c, .slice V.t.o V.t.n V.t.c, .slice V.a.o V.a.n V.a.c, .slice V.c.o V.c.n V.c.c, .slice V.p.o V.p.n V.p.c, .slice V.m.o V.m.n V.m.c]] : List (List Value))) := Lib.hid (lies_new wr.drew [.string c.nm, .int .i64 c.kd, .bool c.ab, .bool c.fi, .string c.pa, .slice V.f.o V.f.n V.f.c, .slice V.t.o V.t.n V.t.c, .slice V.a.o V.a.n V.a.c, .slice V.c.o V.c.n V.c.c, .slice V.p.o V.p.n V.p.c, .slice V.m.o V.m.n V.m.c] 29 rfl)
                  have HF := Lib.hid (k_fits (r := [.string c.nm, .int .i64 c.kd, .bool c.ab, .bool c.fi, .string c.pa, .slice V.f.o V.f.n V.f.c, .slice V.t.o V.t.n V.t.c, .slice V.a.o V.a.n V.a.c, .slice V.c.o V.c.n V.c.c, .slice V.p.o V.p.n V.p.c, .slice V.m.o V.m.n V.m.c]) HKB.out)
                  refine wp_region_noPanic ?_
                  refine wp_region_held_drew (S := (fun Vw => Vw.heap[cb]? = some (.cells #[.string c.nm, .int .i64 c.kd, .bool c.ab, .bool c.fi, .string c.pa, .slice V.f.o V.f.n V.f.c, .slice V.t.o V.t.n V.t.c, .slice V.a.o V.a.n V.a.c, .slice V.c.o V.c.n V.c.c, .slice V.p.o V.p.n V.p.c, .slice V.m.o V.m.n V.m.c] 29 (0, 0)))) (by kernel_rfl) (by exact hS0) (fun hHeld => ?_)
                  refine wpAnyH_take (i := 0) (oi := ?oz28_) (v := ?vz28_) ?hiz28_ (by kernel_rfl) (by kernel_rfl) (by kernel_rfl) (fun _ _ _ h => h) ?hyz28_ (by assumption) ?restz28_
                  case hiz28_ => simp only [gA, gZ]; rfl
                  case hyz28_ =>
                    refine Or.inl ⟨by rfl, ?_⟩
                    intro w hSw; (try dsimp only at hSw); have u0 := cell_blk hSw 0; have u1 := cell_blk hSw 1; have u2 := cell_blk hSw 2; have u3 := cell_blk hSw 3; have u4 := cell_blk hSw 4; have u5 := cell_blk hSw 5; have u6 := cell_blk hSw 6; have u7 := cell_blk hSw 7; have u8 := cell_blk hSw 8; have u9 := cell_blk hSw 9; have u10 := cell_blk hSw 10; go_simp <;> (with_reducible rfl)
                  (try simp only [Act.put, pA, pZ, pS])
                  refine wpAnyH_take (i := 1) (oi := ?oz29_) (v := ?vz29_) ?hiz29_ (by kernel_rfl) (by kernel_rfl) (by kernel_rfl) (fun _ _ _ h => h) ?hyz29_ (by assumption) ?restz29_
                  case hiz29_ => simp only [gA, gS, gZ]; rfl
                  case hyz29_ =>
                    refine Or.inl ⟨by rfl, ?_⟩
                    intro w hSw; (try dsimp only at hSw); have u0 := cell_blk hSw 0; have u1 := cell_blk hSw 1; have u2 := cell_blk hSw 2; have u3 := cell_blk hSw 3; have u4 := cell_blk hSw 4; have u5 := cell_blk hSw 5; have u6 := cell_blk hSw 6; have u7 := cell_blk hSw 7; have u8 := cell_blk hSw 8; have u9 := cell_blk hSw 9; have u10 := cell_blk hSw 10; go_simp <;> (with_reducible rfl)
                  (try simp only [Act.put, pA, pZ, pS])
                  refine wpAnyH_take (i := 2) (oi := ?oz30_) (v := ?vz30_) ?hiz30_ (by kernel_rfl) (by kernel_rfl) (by kernel_rfl) (fun _ _ _ h => h) ?hyz30_ (by assumption) ?restz30_
                  case hiz30_ => simp only [gA, gS, gZ]; rfl
                  case hyz30_ =>
                    refine Or.inl ⟨by rfl, ?_⟩
                    intro w hSw; (try dsimp only at hSw); have u0 := cell_blk hSw 0; have u1 := cell_blk hSw 1; have u2 := cell_blk hSw 2; have u3 := cell_blk hSw 3; have u4 := cell_blk hSw 4; have u5 := cell_blk hSw 5; have u6 := cell_blk hSw 6; have u7 := cell_blk hSw 7; have u8 := cell_blk hSw 8; have u9 := cell_blk hSw 9; have u10 := cell_blk hSw 10; go_simp <;> (with_reducible rfl)
                  (try simp only [Act.put, pA, pZ, pS])
                  refine wpAnyH_take (i := 3) (oi := ?oz31_) (v := ?vz31_) ?hiz31_ (by kernel_rfl) (by kernel_rfl) (by kernel_rfl) (fun _ _ _ h => h) ?hyz31_ (by assumption) ?restz31_
                  case hiz31_ => simp only [gA, gS, gZ]; rfl
                  case hyz31_ =>
                    refine Or.inl ⟨by rfl, ?_⟩
                    intro w hSw; (try dsimp only at hSw); have u0 := cell_blk hSw 0; have u1 := cell_blk hSw 1; have u2 := cell_blk hSw 2; have u3 := cell_blk hSw 3; have u4 := cell_blk hSw 4; have u5 := cell_blk hSw 5; have u6 := cell_blk hSw 6; have u7 := cell_blk hSw 7; have u8 := cell_blk hSw 8; have u9 := cell_blk hSw 9; have u10 := cell_blk hSw 10; go_simp <;> (with_reducible rfl)
                  (try simp only [Act.put, pA, pZ, pS])
                  refine wpAnyH_take (i := 4) (oi := ?oz32_) (v := ?vz32_) ?hiz32_ (by kernel_rfl) (by kernel_rfl) (by kernel_rfl) (fun _ _ _ h => h) ?hyz32_ (by assumption) ?restz32_
                  case hiz32_ => simp only [gA, gS, gZ]; rfl
                  case hyz32_ =>
                    refine Or.inl ⟨by rfl, ?_⟩
                    intro w hSw; (try dsimp only at hSw); have u0 := cell_blk hSw 0; have u1 := cell_blk hSw 1; have u2 := cell_blk hSw 2; have u3 := cell_blk hSw 3; have u4 := cell_blk hSw 4; have u5 := cell_blk hSw 5; have u6 := cell_blk hSw 6; have u7 := cell_blk hSw 7; have u8 := cell_blk hSw 8; have u9 := cell_blk hSw 9; have u10 := cell_blk hSw 10; go_simp <;> (with_reducible rfl)
                  (try simp only [Act.put, pA, pZ, pS])
                  refine wpAnyH_ready (rs := [5]) (by kernel_rfl) (by simp) ?_
                  refine AllReadyH.cons rfl (fun K hK => ?_) AllReadyH.nil
                  go_simp
                  refine hK.out _ _ (by exact X5.out) (fun hHeld5 => ?_)
                  clear hK K
                  (try simp only [Act.put, pA, pZ, pS])
                  refine wpAnyH_ready (rs := [6]) (by kernel_rfl) (by simp) ?_
                  refine AllReadyH.cons rfl (fun K hK => ?_) AllReadyH.nil
                  refine step_append_keep (by rfl) (.tmp 95) (.tmp 97) 22 rfl 29 _ 11 192 Tryd.underlying22 info29 rfl (by decide) (.slice uo kn.length uc) (kn.map KC.row) (by simp [Act.eval]) HS5.out.or.own (some ⟨wr.heap.size, 0, none⟩) 1 1 ([[.string c.nm, .int .i64 c.kd, .bool c.ab, .bool c.fi, .string c.pa, .slice V.f.o V.f.n V.f.c, .slice V.t.o V.t.n V.t.c, .slice V.a.o V.a.n V.a.c, .slice V.c.o V.c.n V.c.c, .slice V.p.o V.p.n V.p.c, .slice V.m.o V.m.n V.m.c]] : List (List Value)) (by simp [Act.eval]) rfl (fun e => by cases e) hL.out (by simp [Value.oneCell']) (by simp) (by simp) HF.out.1 (by have h := HF.out.2; omega) ?_
                  intro v6 w6 o6 g6 n6 k6
                  have S6 : Hid (w6.heap[cb]? = some (.cells #[.string c.nm, .int .i64 c.kd, .bool c.ab, .bool c.fi, .string c.pa, .slice V.f.o V.f.n V.f.c, .slice V.t.o V.t.n V.t.c, .slice V.a.o V.a.n V.a.c, .slice V.c.o V.c.n V.c.c, .slice V.p.o V.p.n V.p.c, .slice V.m.o V.m.n V.m.c] 29 (0, 0))) := Lib.hid ((g6.block _ (lt_of_block X5.out) (fun e => HBQ.out e.symm)).trans X5.out)
                  have HS6 := Lib.hid (HS5.out.temp k6 g6)
                  have HC6 := Lib.hid (nt_grown HS5.out.or.own g6 HC5.out)
                  have HK6 : Hid (KnIn AnyB (NT w6) w6 v6 (kn ++ [(c, V)])) := Lib.hid ⟨RIn.of_owns (A := AnyB) (by rw [List.map_append]; exact o6) (fun _ _ => trivial), fun x hx => by
                    rcases List.mem_append.1 hx with hx | hx
                    · exact HS6.out.cls x hx
                    · rw [List.mem_singleton.1 hx]; exact HC6.out⟩
                  have HIS := Lib.hid (is_any c.nm f HK6.out (by rw [List.length_append]; have := HKB.out; simp; omega) (fun x hx => by
                    rcases List.mem_append.1 hx with hx | hx
                    · exact Nat.le_trans ((HL.out.fine x hx).lfs hU) (by decide)
                    · rw [List.mem_singleton.1 hx]; exact Nat.le_trans HFL.out (by decide)))
                  rw [is_face HNO.out HFM.out] at HIS
                  clear o6 g6 n6 k6
                  refine hK.out _ _ (by exact S6.out) (fun hHeld6 => ?_)
                  clear hK K
                  (try simp only [Act.put, pA])
                  refine wpAnyH_ready (rs := [7]) (by kernel_rfl) (by simp) ?_
                  refine AllReadyH.cons rfl (fun K hK => ?_) AllReadyH.nil
                  go_simp
                  refine HIS.out.mono ?_
                  rintro _ w7 ⟨rfl, hb⟩
                  have HS8 := Lib.hid (HS6.out.same hb)
                  have HC8 := Lib.hid (nt_under HC6.out hb)
                  have S8 : Hid (w7.heap[cb]? = some (.cells #[.string c.nm, .int .i64 c.kd, .bool c.ab, .bool c.fi, .string c.pa, .slice V.f.o V.f.n V.f.c, .slice V.t.o V.t.n V.t.c, .slice V.a.o V.a.n V.a.c, .slice V.c.o V.c.n V.c.c, .slice V.p.o V.p.n V.p.c, .slice V.m.o V.m.n V.m.c] 29 (0, 0))) := Lib.hid ((hb.block _ (lt_of_block S6.out)).trans S6.out)
                  clear hb
                  refine hK.out _ _ (by exact S8.out) (fun hHeld7 => ?_)
                  clear hK K
                  (try simp only [Act.put, pA, pZ, pS])
                  refine wpAnyH_take (i := 8) (oi := ?oz33_) (v := ?vz33_) ?hiz33_ (by kernel_rfl) (by kernel_rfl) (by kernel_rfl) (fun _ _ _ h => h) ?hyz33_ (by assumption) ?restz33_
                  case hiz33_ => simp only [gA, gS, gZ]; rfl
                  case hyz33_ =>
                    refine Or.inl ⟨by rfl, ?_⟩
                    intro w hSw; (try dsimp only at hSw); have u0 := cell_blk hSw 0; have u1 := cell_blk hSw 1; have u2 := cell_blk hSw 2; have u3 := cell_blk hSw 3; have u4 := cell_blk hSw 4; have u5 := cell_blk hSw 5; have u6 := cell_blk hSw 6; have u7 := cell_blk hSw 7; have u8 := cell_blk hSw 8; have u9 := cell_blk hSw 9; have u10 := cell_blk hSw 10; go_simp <;> (with_reducible rfl)
                  (try simp only [Act.put, pA, pZ, pS])
                  refine wpAnyH_done (by kernel_rfl) ?_ _
                  refine NoPanic.normal ?_
                  go_wp2_with fail
                  go_roundw
                  case rel => exact ⟨j + 1, HJL.out, by go_num, Lib.hid ⟨HS8.out, S8.out, HC8.out⟩⟩
                  case measure => exact meas_lt HJL.out
                · obtain rfl : j = c.fs.length := by omega
                  have c0 := cell_blk X3.out 0; have c1 := cell_blk X3.out 1; have c2 := cell_blk X3.out 2; have c3 := cell_blk X3.out 3; have c4 := cell_blk X3.out 4; have c5 := cell_blk X3.out 5; have c6 := cell_blk X3.out 6; have c7 := cell_blk X3.out 7; have c8 := cell_blk X3.out 8; have c9 := cell_blk X3.out 9; have c10 := cell_blk X3.out 10
                  have B4 := Lib.hid (below_alloc1 wr (.cells #[.string c.nm, .int .i64 c.kd, .bool c.ab, .bool c.fi, .string c.pa, .slice V.f.o V.f.n V.f.c, .slice V.t.o V.t.n V.t.c, .slice V.a.o V.a.n V.a.c, .slice V.c.o V.c.n V.c.c, .slice V.p.o V.p.n V.p.c, .slice V.m.o V.m.n V.m.c] 29))
                  have HS4 := Lib.hid (HS3.out.same B4.out)
                  have HC4 := Lib.hid (nt_under HC3.out B4.out)
                  have hL := Lib.hid (lies_new wr [.string c.nm, .int .i64 c.kd, .bool c.ab, .bool c.fi, .string c.pa, .slice V.f.o V.f.n V.f.c, .slice V.t.o V.t.n V.t.c, .slice V.a.o V.a.n V.a.c, .slice V.c.o V.c.n V.c.c, .slice V.p.o V.p.n V.p.c, .slice V.m.o V.m.n V.m.c] 29 (size := 11) rfl)
                  have HF := Lib.hid (k_fits (r := [.string c.nm, .int .i64 c.kd, .bool c.ab, .bool c.fi, .string c.pa, .slice V.f.o V.f.n V.f.c, .slice V.t.o V.t.n V.t.c, .slice V.a.o V.a.n V.a.c, .slice V.c.o V.c.n V.c.c, .slice V.p.o V.p.n V.p.c, .slice V.m.o V.m.n V.m.c]) HKB.out)
                  go_wp2_with (at_builtin; refine wpList_append_rows rfl (.tmp 102) (.tmp 104) 22 rfl 29 _ 11 192 Tryd.underlying22 info29 rfl (by decide) (.slice uo kn.length uc) (kn.map KC.row) (by rfl) HS4.out.or.own (some ⟨wr.heap.size, 0, none⟩) 1 1 ([[.string c.nm, .int .i64 c.kd, .bool c.ab, .bool c.fi, .string c.pa, .slice V.f.o V.f.n V.f.c, .slice V.t.o V.t.n V.t.c, .slice V.a.o V.a.n V.a.c, .slice V.c.o V.c.n V.c.c, .slice V.p.o V.p.n V.p.c, .slice V.m.o V.m.n V.m.c]] : List (List Value)) (by rfl) rfl (fun e => by cases e) hL.out (by simp [Value.oneCell']) (by simp) HF.out.1 (by have h := HF.out.2; omega) ?_; intro v5 w5 o5 g5 n5; obtain ⟨a8, L8, c8, hv8, hl8⟩ := owns_slice o5; subst hv8; have R8 := Lib.hid (HS4.out.push HC4.out o5 g5 n5); have HL8 := Lib.hid hl8; clear o5 g5 n5 hl8)
                  have HLE : L8 = (kn ++ [(c, V)]).length := by rw [HL8.out]; simp
                  subst HLE
                  go_roundw
                  case rel => exact ⟨i + 1, _, _, _, Hlt.out, by go_num, rfl, R8, Lib.hid (HL.out.push HM.out), Lib.hid (by rw [List.length_append]; exact Nat.succ_le_succ HI.out)⟩
                  case measure => exact meas_lt Hlt.out
    · obtain rfl : i = xs.length := by omega
      have HAL := Lib.hid (alive_any wr (HT.out.mono HS.out.or.below))
      have HBB := Lib.hid HS.out.or.below
      go_wp2_with fail
      refine HAL.out.mono ?_
      rintro _ w2 ⟨rfl, hb⟩
      have HB2 := Lib.hid (HBB.out.trans (hb.mono HBB.out.size))
      clear hb HAL
      go_wp2_with fail
      go_ret
      exact ⟨rfl, HB2.out⟩
end Go.Proofs.YtobjmajkcfhpoaaDoor
