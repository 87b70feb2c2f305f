/-
  The walks of the document's Few, Same at like values.
-/
import Derived.Test.YtnaefnojmiolbaaGreatDoorJp18
import Derived.Test.YtnaefnojmiolbaaGreatDoorJp7
import Derived.Deep.Cut
namespace Go.Proofs.YtnaefnojmiolbaaGreatDoor
open Go.RowKit

attribute [local go_sem] yld_undef
set_option maxHeartbeats 1600000 in
set_option maxRecDepth 100000 in
theorem rleft_any (v : VT) : ∀ (w : World) (c : Value) (n : Int), VIn w c v.xs → 0 ≤ n → n ≤ 2048 → Calls Tryz.prog 76 #[v.v c, .int .i64 n] w (IntPost w (leftV v n)) := by
  refine VT.ind (P := fun v => ∀ (w : World) (c : Value) (n : Int), VIn w c v.xs → 0 ≤ n → n ≤ 2048 → Calls Tryz.prog 76 #[v.v c, .int .i64 n] w (IntPost w (leftV v n))) ?_ v
  intro k m t l ih w c n hv h0 h1
  have hv : VIn w c l := hv
  have hfit := hv.fits
  obtain ⟨ao, cap, rfl, hlen⟩ := hv.form
  have HV := Lib.hid hv
  have IH := Lib.hid ih
  have HF := Lib.hid hfit
  have HB := Lib.hid (below_alloc1 w (VB (.mk k m t l) (.slice ao l.length cap)))
  have HX0 := Lib.hid (heap_alloc_new w (VB (.mk k m t l) (.slice ao l.length cap)))
  obtain ⟨a0, a1, a2, a3⟩ := vb_cells (heap_alloc_new w (VB (.mk k m t l) (.slice ao l.length cap)))
  obtain ⟨hw', hw⟩ := wr_sm (x := n - (l.length : Int)) (by omega) (by omega)
  obtain ⟨r, hr⟩ : ∃ r, r = leftV (.mk k m t l) n := ⟨_, rfl⟩
  have HR : Hid (r = leftL (l.drop 0) (n - l.length)) := Lib.hid (by rw [hr, leftV]; rfl)
  have HL := Lib.hid hlen
  have HN := Lib.hid h0
  rw [← hr]
  clear hv ih hfit hr hlen h0
  show Calls Tryz.prog 76 #[.agg #[.int .i64 k, .int .i64 m, .string t, .slice ao l.length cap], .int .i64 n] w (IntPost w r)
  go_enter Tryz.func76, Tryz.ntmps76
  go_wp2_with fail
  go_loopw [1, 5] (fun nv kv wr => ∃ (j : Nat) (x : Int), j ≤ l.length ∧ nv = .int .i64 x ∧ kv = .int .i64 j ∧ Hid (r = leftL (l.drop j) x ∧ x ≤ 2048 ∧ -140737488355328 ≤ x) ∧ Hid (Below w.heap.size w wr ∧ wr.heap[w.heap.size]? = some (VB (.mk k m t l) (.slice ao l.length cap)))) (fun _ kv _ => l.length - (intOf kv).toNat)
  case atStart => exact ⟨0, n - l.length, Nat.zero_le _, rfl, rfl, Lib.hid ⟨HR.out, by omega, by have := HL.out; have := HN.out; omega⟩, Lib.hid ⟨HB.out, HX0.out⟩⟩
  case round =>
    obtain ⟨j, x, hj, rfl, rfl, HX, BX⟩ := hrel
    have x3 : wr.cell? ⟨w.heap.size, 3, none⟩ = some (.slice ao l.length cap) := (vb_cells BX.out.2).2.2.2
    clear a0 a1 a2 a3
    obtain ⟨ex, hex⟩ : ∃ e, decide (0 ≤ x) = e := ⟨_, rfl⟩
    by_cases hlt : j < l.length
    · have hi : (j : Int) < (l.length : Int) := by omega
      cases ex
      · have hx : x < 0 := by have := of_decide_eq_false hex; omega
        have hrx : r = x := by rw [HX.out.1, leftL_neg hx]
        subst hrx
        clear hx
        go_wp2_with fail
        go_ret
        exact ⟨rfl, BX.out.1⟩
      · have hx : 0 ≤ x := of_decide_eq_true hex
        obtain ⟨q, v, g, off, co, cc, hq, hm, rfl, hc, d0, d1, d2, d3, d4, d5, d6⟩ := HV.out.getB hlt BX.out.1 rfl
        obtain ⟨hwi', hwi⟩ : wrap64 ((j : Int) + 1) = (j : Int) + 1 ∧ IntKind.i64.wrap ((j : Int) + 1) = (j : Int) + 1 := wr_sm (by omega) (by have := HL.out; omega)
        have HC : Calls Tryz.prog 76 #[.agg #[.int .i64 v.k, .int .i64 v.n, .string v.t, .slice co v.xs.length cc], .int .i64 x] wr (IntPost wr (leftV v x)) := IH.out (q, v) hm _ (.slice co v.xs.length cc) x hc hx HX.out.2.1
        have HD : Hid (leftL (l.drop j) x = leftL (l.drop (j + 1)) (leftV v x)) := Lib.hid (by rw [drop_at hq, leftL_cons, if_neg (by omega)])
        have HG := Lib.hid (leftV_ge v hc.fits x hx)
        have HGe := Lib.hid (leftV_le v x hx (fun _ _ => trivial))
        have HLT := Lib.hid hlt
        generalize leftV v x = y at HC HD HG HGe
        clear hc hq hm hlt hx
        go_wp2_with fail
        refine HC.mono ?_
        rintro e w5 ⟨rfl, hb⟩
        have B5 : Hid (Below w.heap.size w w5 ∧ w5.heap[w.heap.size]? = some (VB (.mk k m t l) (.slice (some ⟨g, off, none⟩) l.length cap))) := Lib.hid ⟨BX.out.1.trans (hb.mono BX.out.1.size), (hb.block _ (lt_of_block BX.out.2)).trans BX.out.2⟩
        clear hb HC
        go_wp2_with fail
        go_roundw
        case rel => exact ⟨j + 1, y, HLT.out, rfl, by go_num, Lib.hid ⟨by rw [HX.out.1, HD.out], by have := HGe.out; have := HX.out.2.1; omega, HG.out⟩, B5⟩
        case measure => have := HLT.out; simp [intOf]; omega
    · obtain rfl : j = l.length := by omega
      have hrx : r = x := by rw [HX.out.1, List.drop_length]; rfl
      subst hrx
      go_wp2_with fail
      go_ret
      exact ⟨rfl, BX.out.1⟩
set_option maxRecDepth 100000 in
theorem few_any (v : VT) (hc : countV v ≤ 2048) (w : World) (c : Value) (hv : VIn w c v.xs) : Calls Tryz.prog 36 #[v.v c] w (BoolPost w true) := by
  obtain ⟨ao, cap, rfl, hlen⟩ := hv.form
  have HB := Lib.hid (below_alloc1 w (VB v (.slice ao v.xs.length cap)))
  obtain ⟨a0, a1, a2, a3⟩ := vb_cells (heap_alloc_new w (VB v (.slice ao v.xs.length cap)))
  have HL := rleft_any v (w.alloc (VB v (.slice ao v.xs.length cap))) (.slice ao v.xs.length cap) 2048 (hv.under HB.out) (by omega) (by omega)
  rw [left_count v 2048 (by omega)] at HL
  have hp : decide ((countV v : Int) ≤ 2048) = true := by simp; omega
  clear hv hlen hc
  simp only [VT.v] at HL ⊢
  go_enter Tryz.func36, Tryz.ntmps36
  go_wp2_with fail
  refine HL.mono ?_
  rintro e w1 ⟨rfl, hb⟩
  go_wp2_with fail
  go_ret
  exact ⟨rfl, HB.out.trans (hb.mono HB.out.size)⟩
/-- Which values are plain. -/
theorem rplain_at (k n : Int) (t : ByteArray) (ao : Option Addr) (m cap : Nat) (w : World) (h0 : decide (0 ≤ k) = true) {b : Bool} (h1 : decide (k ≤ 3) = b) : Calls Tryz.prog 77 #[.agg #[.int .i64 k, .int .i64 n, .string t, .slice ao m cap]] w (BoolPost w b) := by
  go_enter Tryz.func77, Tryz.ntmps77
  go_wp2_with fail
  go_ret
  exact ⟨rfl, below_alloc1 _ _⟩
set_option maxHeartbeats 1600000 in
set_option maxRecDepth 100000 in
theorem rsame_0 (n : Int) (t : ByteArray) (ao bo : Option Addr) (m m2 cap cap2 : Nat) (w : World) : Calls Tryz.prog 78 #[.agg #[.int .i64 0, .int .i64 n, .string t, .slice ao m cap], .agg #[.int .i64 0, .int .i64 n, .string t, .slice bo m2 cap2]] w (BoolPost w true) := by
  have HP := fun W => rplain_at 0 n t ao m cap W (by decide) (b := true) (by decide)
  have A0 := Lib.hid (at2_start w (.cells #[.int .i64 0, .int .i64 n, .string t, .slice ao m cap] 24) (.cells #[.int .i64 0, .int .i64 n, .string t, .slice bo m2 cap2] 24))
  obtain ⟨c0, c1, c2, c3⟩ := vb4 A0.out.a
  obtain ⟨d0, d1, d2, d3⟩ := vb4 A0.out.b
  have hn : (n == n) = true := by simp
  have ht : (t.toList == t.toList) = true := by simp
  have hb : ((n == 0) == (n == 0)) = true := by simp
  go_enter Tryz.func78, Tryz.ntmps78
  go_wp2_with fail
  refine (HP _).mono ?_
  rintro e w1 ⟨rfl, hb1⟩
  have A1 := Lib.hid (A0.out.mono hb1)
  clear c0 c1 c2 c3 d0 d1 d2 d3
  obtain ⟨c0, c1, c2, c3⟩ := vb4 A1.out.a
  obtain ⟨d0, d1, d2, d3⟩ := vb4 A1.out.b
  clear hb1 HP
  go_wp2_with fail
  go_ret
  exact ⟨rfl, A1.out.below⟩
set_option maxHeartbeats 1600000 in
set_option maxRecDepth 100000 in
theorem rsame_1 (n : Int) (t : ByteArray) (ao bo : Option Addr) (m m2 cap cap2 : Nat) (w : World) : Calls Tryz.prog 78 #[.agg #[.int .i64 1, .int .i64 n, .string t, .slice ao m cap], .agg #[.int .i64 1, .int .i64 n, .string t, .slice bo m2 cap2]] w (BoolPost w true) := by
  have HP := fun W => rplain_at 1 n t ao m cap W (by decide) (b := true) (by decide)
  have A0 := Lib.hid (at2_start w (.cells #[.int .i64 1, .int .i64 n, .string t, .slice ao m cap] 24) (.cells #[.int .i64 1, .int .i64 n, .string t, .slice bo m2 cap2] 24))
  obtain ⟨c0, c1, c2, c3⟩ := vb4 A0.out.a
  obtain ⟨d0, d1, d2, d3⟩ := vb4 A0.out.b
  have hn : (n == n) = true := by simp
  have ht : (t.toList == t.toList) = true := by simp
  have hb : ((n == 0) == (n == 0)) = true := by simp
  go_enter Tryz.func78, Tryz.ntmps78
  go_wp2_with fail
  refine (HP _).mono ?_
  rintro e w1 ⟨rfl, hb1⟩
  have A1 := Lib.hid (A0.out.mono hb1)
  clear c0 c1 c2 c3 d0 d1 d2 d3
  obtain ⟨c0, c1, c2, c3⟩ := vb4 A1.out.a
  obtain ⟨d0, d1, d2, d3⟩ := vb4 A1.out.b
  clear hb1 HP
  go_wp2_with fail
  go_ret
  exact ⟨rfl, A1.out.below⟩
set_option maxHeartbeats 1600000 in
set_option maxRecDepth 100000 in
theorem rsame_2 (n : Int) (t : ByteArray) (ao bo : Option Addr) (m m2 cap cap2 : Nat) (w : World) : Calls Tryz.prog 78 #[.agg #[.int .i64 2, .int .i64 n, .string t, .slice ao m cap], .agg #[.int .i64 2, .int .i64 n, .string t, .slice bo m2 cap2]] w (BoolPost w true) := by
  have HP := fun W => rplain_at 2 n t ao m cap W (by decide) (b := true) (by decide)
  have A0 := Lib.hid (at2_start w (.cells #[.int .i64 2, .int .i64 n, .string t, .slice ao m cap] 24) (.cells #[.int .i64 2, .int .i64 n, .string t, .slice bo m2 cap2] 24))
  obtain ⟨c0, c1, c2, c3⟩ := vb4 A0.out.a
  obtain ⟨d0, d1, d2, d3⟩ := vb4 A0.out.b
  have hn : (n == n) = true := by simp
  have ht : (t.toList == t.toList) = true := by simp
  have hb : ((n == 0) == (n == 0)) = true := by simp
  go_enter Tryz.func78, Tryz.ntmps78
  go_wp2_with fail
  refine (HP _).mono ?_
  rintro e w1 ⟨rfl, hb1⟩
  have A1 := Lib.hid (A0.out.mono hb1)
  clear c0 c1 c2 c3 d0 d1 d2 d3
  obtain ⟨c0, c1, c2, c3⟩ := vb4 A1.out.a
  obtain ⟨d0, d1, d2, d3⟩ := vb4 A1.out.b
  clear hb1 HP
  go_wp2_with fail
  go_ret
  exact ⟨rfl, A1.out.below⟩
set_option maxHeartbeats 1600000 in
set_option maxRecDepth 100000 in
theorem rsame_3 (n : Int) (t : ByteArray) (ao bo : Option Addr) (m m2 cap cap2 : Nat) (w : World) : Calls Tryz.prog 78 #[.agg #[.int .i64 3, .int .i64 n, .string t, .slice ao m cap], .agg #[.int .i64 3, .int .i64 n, .string t, .slice bo m2 cap2]] w (BoolPost w true) := by
  have HP := fun W => rplain_at 3 n t ao m cap W (by decide) (b := true) (by decide)
  have A0 := Lib.hid (at2_start w (.cells #[.int .i64 3, .int .i64 n, .string t, .slice ao m cap] 24) (.cells #[.int .i64 3, .int .i64 n, .string t, .slice bo m2 cap2] 24))
  obtain ⟨c0, c1, c2, c3⟩ := vb4 A0.out.a
  obtain ⟨d0, d1, d2, d3⟩ := vb4 A0.out.b
  have hn : (n == n) = true := by simp
  have ht : (t.toList == t.toList) = true := by simp
  have hb : ((n == 0) == (n == 0)) = true := by simp
  go_enter Tryz.func78, Tryz.ntmps78
  go_wp2_with fail
  refine (HP _).mono ?_
  rintro e w1 ⟨rfl, hb1⟩
  have A1 := Lib.hid (A0.out.mono hb1)
  clear c0 c1 c2 c3 d0 d1 d2 d3
  obtain ⟨c0, c1, c2, c3⟩ := vb4 A1.out.a
  obtain ⟨d0, d1, d2, d3⟩ := vb4 A1.out.b
  clear hb1 HP
  go_wp2_with fail
  go_ret
  exact ⟨rfl, A1.out.below⟩
theorem rsame_like (k n : Int) (t : ByteArray) (hk : 0 ≤ k ∧ k ≤ 3) (ao bo : Option Addr) (m m2 cap cap2 : Nat) (w : World) : Calls Tryz.prog 78 #[.agg #[.int .i64 k, .int .i64 n, .string t, .slice ao m cap], .agg #[.int .i64 k, .int .i64 n, .string t, .slice bo m2 cap2]] w (BoolPost w true) := by
  have h : k = 0 ∨ k = 1 ∨ k = 2 ∨ k = 3 := by omega
  rcases h with rfl | rfl | rfl | rfl
  · exact rsame_0 n t ao bo m m2 cap cap2 w
  · exact rsame_1 n t ao bo m m2 cap cap2 w
  · exact rsame_2 n t ao bo m m2 cap cap2 w
  · exact rsame_3 n t ao bo m m2 cap cap2 w
/-- Two values that are the same, next numbers aside. -/
inductive AlikeV : VT → VT → Prop
  | plain (k n : Int) (t : ByteArray) (l l' : List It) (hk : 0 ≤ k ∧ k ≤ 3) : AlikeV (.mk k n t l) (.mk k n t l')
  | obj (n : Int) (t t' : ByteArray) (l l' : List It) : AlikeV (.mk 5 n t l) (.mk 5 n t' l')
  | list (n n' : Int) (t t' : ByteArray) (l l' : List It) (hl : l.length = l'.length) (hk : ∀ (j : Nat) (h1 : j < l.length) (h2 : j < l'.length), (l[j]).1 = (l'[j]).1) (h : ∀ (j : Nat) (h1 : j < l.length) (h2 : j < l'.length), AlikeV (l[j]).2 (l'[j]).2) : AlikeV (.mk 4 n t l) (.mk 4 n' t' l')
/-- Two boxes, and what lies under both. -/
structure AL (w : World) (a b : VT) (c d : Value) (V : World) : Prop where
  below : Below w.heap.size w V
  a : V.heap[w.heap.size]? = some (VB a c)
  b : V.heap[w.heap.size + 1]? = some (VB b d)
theorem AL.mono {w V V' : World} {a b : VT} {c d : Value} (h : AL w a b c d V) (hb : Below V.heap.size V V') : AL w a b c d V' :=
  ⟨h.below.trans (hb.mono h.below.size), (hb.block _ (lt_of_block h.a)).trans h.a, (hb.block _ (lt_of_block h.b)).trans h.b⟩
set_option maxHeartbeats 6400000 in
set_option maxRecDepth 100000 in
theorem alike_any {a b : VT} (hab : AlikeV a b) : ∀ (w : World) (c d : Value), VIn w c a.xs → VIn w d b.xs → Calls Tryz.prog 37 #[a.v c, b.v d] w (BoolPost w true) := by
  induction hab with
  | plain k n t l l' hk =>
    intro w c d hv hv2
    obtain ⟨ao, cap, rfl, hlen⟩ := hv.form
    obtain ⟨bo, cap2, rfl, -⟩ := hv2.form
    have A0 : Hid (AL w (.mk k n t l) (.mk k n t l') (.slice ao (VT.mk k n t l).xs.length cap) (.slice bo (VT.mk k n t l').xs.length cap2) ((w.alloc (VB (.mk k n t l) (.slice ao (VT.mk k n t l).xs.length cap))).alloc (VB (.mk k n t l') (.slice bo (VT.mk k n t l').xs.length cap2)))) := Lib.hid ⟨(at2_start w _ _).below, (at2_start w _ _).a, (at2_start w _ _).b⟩
    obtain ⟨a0, a1, a2, a3⟩ := vb_cells A0.out.a
    obtain ⟨b0, b1, b2, b3⟩ := vb_cells A0.out.b
    have hkk : (k == k) = true := by simp
    have HP := fun W => rplain_at k n t ao l.length cap W (decide_eq_true hk.1) (decide_eq_true hk.2)
    have HS := fun W => rsame_like k n t hk ao bo l.length l'.length cap cap2 W
    clear hv hv2 hlen
    simp only [VT.v, VT.k, VT.n, VT.t, VT.xs] at a0 a1 a2 a3 b0 b1 b2 b3 ⊢
    go_enter Tryz.func37, Tryz.ntmps37
    go_wp2_with fail
    refine (HP _).mono ?_
    rintro e w1 ⟨rfl, hb1⟩
    have A1 := Lib.hid (A0.out.mono hb1)
    obtain ⟨a0, a1, a2, a3⟩ := vb_cells A1.out.a
    obtain ⟨b0, b1, b2, b3⟩ := vb_cells A1.out.b
    simp only [VT.k, VT.n, VT.t, VT.xs] at a0 a1 a2 a3 b0 b1 b2 b3
    clear hb1
    go_wp2_with fail
    refine (HS _).mono ?_
    rintro e w2 ⟨rfl, hb2⟩
    go_wp2_with fail
    go_ret
    exact ⟨rfl, (A1.out.mono hb2).below⟩
  | obj n t t' l l' =>
    intro w c d hv hv2
    obtain ⟨ao, cap, rfl, hlen⟩ := hv.form
    obtain ⟨bo, cap2, rfl, -⟩ := hv2.form
    have A0 : Hid (AL w (.mk 5 n t l) (.mk 5 n t' l') (.slice ao (VT.mk 5 n t l).xs.length cap) (.slice bo (VT.mk 5 n t' l').xs.length cap2) ((w.alloc (VB (.mk 5 n t l) (.slice ao (VT.mk 5 n t l).xs.length cap))).alloc (VB (.mk 5 n t' l') (.slice bo (VT.mk 5 n t' l').xs.length cap2)))) := Lib.hid ⟨(at2_start w _ _).below, (at2_start w _ _).a, (at2_start w _ _).b⟩
    obtain ⟨a0, a1, a2, a3⟩ := vb_cells A0.out.a
    obtain ⟨b0, b1, b2, b3⟩ := vb_cells A0.out.b
    have hnn : (n == n) = true := by simp
    have HP := fun W => rplain_at 5 n t ao l.length cap W (by decide) (b := false) (by decide)
    clear hv hv2 hlen
    simp only [VT.v, VT.k, VT.n, VT.t, VT.xs] at a0 a1 a2 a3 b0 b1 b2 b3 ⊢
    go_enter Tryz.func37, Tryz.ntmps37
    go_wp2_with fail
    refine (HP _).mono ?_
    rintro e w1 ⟨rfl, hb1⟩
    have A1 := Lib.hid (A0.out.mono hb1)
    obtain ⟨a0, a1, a2, a3⟩ := vb_cells A1.out.a
    obtain ⟨b0, b1, b2, b3⟩ := vb_cells A1.out.b
    simp only [VT.k, VT.n, VT.t, VT.xs] at a0 a1 a2 a3 b0 b1 b2 b3
    clear hb1
    go_wp2_with fail
    go_ret
    exact ⟨rfl, A1.out.below⟩
  | list n n' t t' l l' hl h _ ih =>
    intro w c d hv hv2
    have hv : VIn w c l := hv
    have hv2 : VIn w d l' := hv2
    obtain ⟨ao, cap, rfl, hlen⟩ := hv.form
    obtain ⟨bo, cap2, rfl, -⟩ := hv2.form
    rw [← hl] at hv2 ⊢
    have A0 : Hid (AL w (.mk 4 n t l) (.mk 4 n' t' l') (.slice ao l.length cap) (.slice bo l.length cap2) ((w.alloc (VB (.mk 4 n t l) (.slice ao l.length cap))).alloc (VB (.mk 4 n' t' l') (.slice bo l.length cap2)))) := Lib.hid ⟨(at2_start w _ _).below, (at2_start w _ _).a, (at2_start w _ _).b⟩
    obtain ⟨a0, a1, a2, a3⟩ := vb_cells A0.out.a
    obtain ⟨b0, b1, b2, b3⟩ := vb_cells A0.out.b
    have hll : ((l.length : Int) == (l.length : Int)) = true := by simp
    have HP := fun W => rplain_at 4 n t ao l.length cap W (by decide) (b := false) (by decide)
    have HV := Lib.hid hv
    have HV2 := Lib.hid hv2
    have IH := Lib.hid ih
    have HK := Lib.hid h
    have HLL := Lib.hid hl
    have HL := Lib.hid hlen
    clear hv hv2 ih hlen h hl
    simp only [VT.v, VT.k, VT.n, VT.t] at a0 a1 a2 a3 b0 b1 b2 b3 ⊢
    go_enter Tryz.func37, Tryz.ntmps37
    go_wp2_with fail
    refine (HP _).mono ?_
    rintro e w1 ⟨rfl, hb1⟩
    have A1 := Lib.hid (A0.out.mono hb1)
    obtain ⟨a0, a1, a2, a3⟩ := vb_cells A1.out.a
    obtain ⟨b0, b1, b2, b3⟩ := vb_cells A1.out.b
    simp only [VT.k, VT.n, VT.t] at a0 a1 a2 a3 b0 b1 b2 b3
    clear hb1 HP A0
    go_wp2_with fail
    go_loopw [5] (fun kv wr => ∃ (j : Nat), j ≤ l.length ∧ kv = .int .i64 j ∧ Hid (AL w (.mk 4 n t l) (.mk 4 n' t' l') (.slice ao l.length cap) (.slice bo l.length cap2) wr)) (fun kv _ => l.length - (intOf kv).toNat)
    case atStart => exact ⟨0, Nat.zero_le _, rfl, A1⟩
    case round =>
      obtain ⟨j, hj, rfl, BX⟩ := hrel
      have x3 : wr.cell? ⟨w.heap.size, 3, none⟩ = some (.slice ao l.length cap) := (vb_cells BX.out.a).2.2.2
      clear a0 a1 a2 a3 b0 b1 b2 b3
      by_cases hlt : j < l.length
      · have hi : (j : Int) < (l.length : Int) := by omega
        have hlt2 : j < l'.length := by rw [← HLL.out]; exact hlt
        obtain ⟨q, x, g, off, co, cc, hq, hm, rfl, hc, r0, r1, r2, r3, r4, r5, r6⟩ := HV.out.getB hlt BX.out.below rfl
        obtain ⟨q', y, g2, off2, co2, cc2, hq', -, rfl, hc2, s0, s1, s2, s3, s4, s5, s6⟩ := HV2.out.getB hlt2 BX.out.below rfl
        have k1 := HK.out j hlt hlt2
        have i1 := IH.out j hlt hlt2
        rw [List.getElem?_eq_getElem hlt] at hq
        rw [List.getElem?_eq_getElem hlt2] at hq'
        rw [Option.some.inj hq, Option.some.inj hq'] at i1 k1
        simp only at i1 k1
        subst k1
        obtain ⟨hwi', hwi⟩ : wrap64 ((j : Int) + 1) = (j : Int) + 1 ∧ IntKind.i64.wrap ((j : Int) + 1) = (j : Int) + 1 := wr_sm (by omega) (by have := HL.out; omega)
        have hN : ∀ w, (binOp .neq 62 (.agg #[.bool q.b, .int .i64 q.n, .string q.t]) (.agg #[.bool q.b, .int .i64 q.n, .string q.t])).run Tryz.prog w = .ok (.bool false) w := fun w => by have := key_neq q q w; rw [K.same_self] at this; exact this
        have HC : ∀ V, VIn V (.slice co x.xs.length cc) x.xs → VIn V (.slice co2 y.xs.length cc2) y.xs → Calls Tryz.prog 37 #[.agg #[.int .i64 x.k, .int .i64 x.n, .string x.t, .slice co x.xs.length cc], .agg #[.int .i64 y.k, .int .i64 y.n, .string y.t, .slice co2 y.xs.length cc2]] V (BoolPost V true) := fun V h1 h2 => i1 V _ _ h1 h2
        have hg : g < wr.heap.size := cell_lt r0
        have hg2 : g2 < wr.heap.size := cell_lt s0
        have six : ∀ {V : World}, Below wr.heap.size wr V → ((fun V => V.cell? ⟨w.heap.size, 3, none⟩ = some (.slice (some ⟨g, off, none⟩) l.length cap) ∧ V.cell? ⟨w.heap.size + 1, 3, none⟩ = some (.slice (some ⟨g2, off2, none⟩) l.length cap2) ∧ V.cell? ⟨g, off + j * 7, none⟩ = some (.bool q.b) ∧ V.cell? ⟨g, off + j * 7 + 1, none⟩ = some (.int .i64 q.n) ∧ V.cell? ⟨g, off + j * 7 + 2, none⟩ = some (.string q.t) ∧ V.cell? ⟨g, off + j * 7 + 3, none⟩ = some (.int .i64 x.k) ∧ V.cell? ⟨g, off + j * 7 + 4, none⟩ = some (.int .i64 x.n) ∧ V.cell? ⟨g, off + j * 7 + 5, none⟩ = some (.string x.t) ∧ V.cell? ⟨g, off + j * 7 + 6, none⟩ = some (.slice co x.xs.length cc) ∧ V.cell? ⟨g2, off2 + j * 7, none⟩ = some (.bool q.b) ∧ V.cell? ⟨g2, off2 + j * 7 + 1, none⟩ = some (.int .i64 q.n) ∧ V.cell? ⟨g2, off2 + j * 7 + 2, none⟩ = some (.string q.t) ∧ V.cell? ⟨g2, off2 + j * 7 + 3, none⟩ = some (.int .i64 y.k) ∧ V.cell? ⟨g2, off2 + j * 7 + 4, none⟩ = some (.int .i64 y.n) ∧ V.cell? ⟨g2, off2 + j * 7 + 5, none⟩ = some (.string y.t) ∧ V.cell? ⟨g2, off2 + j * 7 + 6, none⟩ = some (.slice co2 y.xs.length cc2)) V) := fun {V} hb =>
          ⟨(vb_cells (BX.out.mono hb).a).2.2.2, (vb_cells (BX.out.mono hb).b).2.2.2, (hb.cell (p := ⟨g, _, none⟩) hg).trans r0, (hb.cell (p := ⟨g, _, none⟩) hg).trans r1, (hb.cell (p := ⟨g, _, none⟩) hg).trans r2, (hb.cell (p := ⟨g, _, none⟩) hg).trans r3, (hb.cell (p := ⟨g, _, none⟩) hg).trans r4, (hb.cell (p := ⟨g, _, none⟩) hg).trans r5, (hb.cell (p := ⟨g, _, none⟩) hg).trans r6, (hb.cell (p := ⟨g2, _, none⟩) hg2).trans s0, (hb.cell (p := ⟨g2, _, none⟩) hg2).trans s1, (hb.cell (p := ⟨g2, _, none⟩) hg2).trans s2, (hb.cell (p := ⟨g2, _, none⟩) hg2).trans s3, (hb.cell (p := ⟨g2, _, none⟩) hg2).trans s4, (hb.cell (p := ⟨g2, _, none⟩) hg2).trans s5, (hb.cell (p := ⟨g2, _, none⟩) hg2).trans s6⟩
        have HSX := @Lib.hid _ @six
        have HS0 := Lib.hid (six (Below.refl wr.heap.size wr).drew)
        have HC1 := Lib.hid hc
        have HC2 := Lib.hid hc2
        have HLT := Lib.hid hlt
        clear hc hc2 hq hm hq' hlt hlt2 i1 six r0 r1 r2 r3 r4 r5 r6 s0 s1 s2 s3 s4 s5 s6
        go_wp2_with fail
        refine wp_region_noPanic ?_
        refine wp_region_held_drew (S := (fun V => V.cell? ⟨w.heap.size, 3, none⟩ = some (.slice (some ⟨g, off, none⟩) l.length cap) ∧ V.cell? ⟨w.heap.size + 1, 3, none⟩ = some (.slice (some ⟨g2, off2, none⟩) l.length cap2) ∧ V.cell? ⟨g, off + j * 7, none⟩ = some (.bool q.b) ∧ V.cell? ⟨g, off + j * 7 + 1, none⟩ = some (.int .i64 q.n) ∧ V.cell? ⟨g, off + j * 7 + 2, none⟩ = some (.string q.t) ∧ V.cell? ⟨g, off + j * 7 + 3, none⟩ = some (.int .i64 x.k) ∧ V.cell? ⟨g, off + j * 7 + 4, none⟩ = some (.int .i64 x.n) ∧ V.cell? ⟨g, off + j * 7 + 5, none⟩ = some (.string x.t) ∧ V.cell? ⟨g, off + j * 7 + 6, none⟩ = some (.slice co x.xs.length cc) ∧ V.cell? ⟨g2, off2 + j * 7, none⟩ = some (.bool q.b) ∧ V.cell? ⟨g2, off2 + j * 7 + 1, none⟩ = some (.int .i64 q.n) ∧ V.cell? ⟨g2, off2 + j * 7 + 2, none⟩ = some (.string q.t) ∧ V.cell? ⟨g2, off2 + j * 7 + 3, none⟩ = some (.int .i64 y.k) ∧ V.cell? ⟨g2, off2 + j * 7 + 4, none⟩ = some (.int .i64 y.n) ∧ V.cell? ⟨g2, off2 + j * 7 + 5, none⟩ = some (.string y.t) ∧ V.cell? ⟨g2, off2 + j * 7 + 6, none⟩ = some (.slice co2 y.xs.length cc2))) (by kernel_rfl) (by exact HS0.out) (fun hHeld => ?_)
        refine wpAnyH_take (i := 0) (oi := ?o0) (v := ?v0) ?hi0 (by kernel_rfl) (by kernel_rfl) (by kernel_rfl) (fun _ _ _ h => h) ?hy0 (by assumption) ?rest0
        case hi0 => simp only [gA, gZ]; rfl
        case hy0 =>
          refine Or.inl ⟨by rfl, ?_⟩
          intro w hSw; (try dsimp only at hSw); go_simp <;> (with_reducible rfl)
        (try simp only [Act.put, pA, pZ, pS])
        refine wpAnyH_take (i := 1) (oi := ?o1) (v := ?v1) ?hi1 (by kernel_rfl) (by kernel_rfl) (by kernel_rfl) (fun _ _ _ h => h) ?hy1 (by assumption) ?rest1
        case hi1 => simp only [gA, gS, gZ]; rfl
        case hy1 =>
          refine Or.inl ⟨by rfl, ?_⟩
          intro w hSw; (try dsimp only at hSw); go_simp <;> (with_reducible rfl)
        (try simp only [Act.put, pA, pZ, pS])
        refine wpAnyH_take (i := 2) (oi := ?o2) (v := ?v2) ?hi2 (by kernel_rfl) (by kernel_rfl) (by kernel_rfl) (fun _ _ _ h => h) ?hy2 (by assumption) ?rest2
        case hi2 => simp only [gA, gS, gZ]; rfl
        case hy2 =>
          refine Or.inl ⟨by rfl, ?_⟩
          intro w hSw; (try dsimp only at hSw); go_simp <;> (with_reducible rfl)
        (try simp only [Act.put, pA, pZ, pS])
        refine wpAnyH_take (i := 3) (oi := ?o3) (v := ?v3) ?hi3 (by kernel_rfl) (by kernel_rfl) (by kernel_rfl) (fun _ _ _ h => h) ?hy3 (by assumption) ?rest3
        case hi3 => simp only [gA, gS, gZ]; rfl
        case hy3 =>
          refine Or.inl ⟨by rfl, ?_⟩
          intro w hSw; (try dsimp only at hSw); go_simp <;> (with_reducible rfl)
        (try simp only [Act.put, pA, pZ, pS])
        refine wpAnyH_take (i := 4) (oi := ?o4) (v := ?v4) ?hi4 (by kernel_rfl) (by kernel_rfl) (by kernel_rfl) (fun _ _ _ h => h) ?hy4 (by assumption) ?rest4
        case hi4 => simp only [gA, gS, gZ]; rfl
        case hy4 =>
          refine Or.inl ⟨by rfl, ?_⟩
          intro w hSw; (try dsimp only at hSw); go_simp <;> (with_reducible rfl)
        (try simp only [Act.put, pA, pZ, pS])
        refine wpAnyH_take (i := 5) (oi := ?o5) (v := ?v5) ?hi5 (by kernel_rfl) (by kernel_rfl) (by kernel_rfl) (fun _ _ _ h => h) ?hy5 (by assumption) ?rest5
        case hi5 => simp only [gA, gS, gZ]; rfl
        case hy5 =>
          refine Or.inl ⟨by rfl, ?_⟩
          intro w hSw; (try dsimp only at hSw); go_simp <;> (with_reducible rfl)
        (try simp only [Act.put, pA, pZ, pS])
        refine wpAnyH_take (i := 6) (oi := ?o6) (v := ?v6) ?hi6 (by kernel_rfl) (by kernel_rfl) (by kernel_rfl) (fun _ _ _ h => h) ?hy6 (by assumption) ?rest6
        case hi6 => simp only [gA, gS, gZ]; rfl
        case hy6 =>
          refine Or.inl ⟨by rfl, ?_⟩
          intro w hSw; (try dsimp only at hSw); go_simp <;> (with_reducible rfl)
        (try simp only [Act.put, pA, pZ, pS])
        refine wpAnyH_take (i := 7) (oi := ?o7) (v := ?v7) ?hi7 (by kernel_rfl) (by kernel_rfl) (by kernel_rfl) (fun _ _ _ h => h) ?hy7 (by assumption) ?rest7
        case hi7 => simp only [gA, gS, gZ]; rfl
        case hy7 =>
          refine Or.inl ⟨by rfl, ?_⟩
          intro w hSw; (try dsimp only at hSw); go_simp <;> (with_reducible rfl)
        (try simp only [Act.put, pA, pZ, pS])
        refine wpAnyH_take (i := 8) (oi := ?o8) (v := ?v8) ?hi8 (by kernel_rfl) (by kernel_rfl) (by kernel_rfl) (fun _ _ _ h => h) ?hy8 (by assumption) ?rest8
        case hi8 => simp only [gA, gS, gZ]; rfl
        case hy8 =>
          refine Or.inl ⟨by rfl, ?_⟩
          intro w hSw; (try dsimp only at hSw); go_simp <;> (with_reducible rfl)
        (try simp only [Act.put, pA, pZ, pS])
        refine wpAnyH_take (i := 9) (oi := ?o9) (v := ?v9) ?hi9 (by kernel_rfl) (by kernel_rfl) (by kernel_rfl) (fun _ _ _ h => h) ?hy9 (by assumption) ?rest9
        case hi9 => simp only [gA, gS, gZ]; rfl
        case hy9 =>
          refine Or.inl ⟨by rfl, ?_⟩
          intro w hSw; (try dsimp only at hSw); go_simp <;> (with_reducible rfl)
        (try simp only [Act.put, pA, pZ, pS])
        refine wpAnyH_take (i := 10) (oi := ?o10) (v := ?v10) ?hi10 (by kernel_rfl) (by kernel_rfl) (by kernel_rfl) (fun _ _ _ h => h) ?hy10 (by assumption) ?rest10
        case hi10 => simp only [gA, gS, gZ]; rfl
        case hy10 =>
          refine Or.inl ⟨by rfl, ?_⟩
          intro w hSw; (try dsimp only at hSw); go_simp <;> (with_reducible rfl)
        (try simp only [Act.put, pA, pZ, pS])
        refine wpAnyH_take (i := 11) (oi := ?o11) (v := ?v11) ?hi11 (by kernel_rfl) (by kernel_rfl) (by kernel_rfl) (fun _ _ _ h => h) ?hy11 (by assumption) ?rest11
        case hi11 => simp only [gA, gS, gZ]; rfl
        case hy11 =>
          refine Or.inl ⟨by rfl, ?_⟩
          intro w hSw; (try dsimp only at hSw); go_simp <;> (with_reducible rfl)
        (try simp only [Act.put, pA, pZ, pS])
        refine wpAnyH_take (i := 12) (oi := ?o12) (v := ?v12) ?hi12 (by kernel_rfl) (by kernel_rfl) (by kernel_rfl) (fun _ _ _ h => h) ?hy12 (by assumption) ?rest12
        case hi12 => simp only [gA, gS, gZ]; rfl
        case hy12 =>
          refine Or.inl ⟨by rfl, ?_⟩
          intro w hSw; (try dsimp only at hSw); go_simp <;> (with_reducible rfl)
        (try simp only [Act.put, pA, pZ, pS])
        refine wpAnyH_take (i := 13) (oi := ?o13) (v := ?v13) ?hi13 (by kernel_rfl) (by kernel_rfl) (by kernel_rfl) (fun _ _ _ h => h) ?hy13 (by assumption) ?rest13
        case hi13 => simp only [gA, gS, gZ]; rfl
        case hy13 =>
          refine Or.inl ⟨by rfl, ?_⟩
          intro w hSw; (try dsimp only at hSw); go_simp <;> (with_reducible rfl)
        (try simp only [Act.put, pA, pZ, pS])
        refine wpAnyH_take (i := 14) (oi := ?o14) (v := ?v14) ?hi14 (by kernel_rfl) (by kernel_rfl) (by kernel_rfl) (fun _ _ _ h => h) ?hy14 (by assumption) ?rest14
        case hi14 => simp only [gA, gS, gZ]; rfl
        case hy14 =>
          refine Or.inl ⟨by rfl, ?_⟩
          intro w hSw; (try dsimp only at hSw); go_simp <;> (with_reducible rfl)
        (try simp only [Act.put, pA, pZ, pS])
        refine wpAnyH_take (i := 15) (oi := ?o15) (v := ?v15) ?hi15 (by kernel_rfl) (by kernel_rfl) (by kernel_rfl) (fun _ _ _ h => h) ?hy15 (by assumption) ?rest15
        case hi15 => simp only [gA, gS, gZ]; rfl
        case hy15 =>
          refine Or.inl ⟨by rfl, ?_⟩
          intro w hSw; (try dsimp only at hSw); go_simp <;> (with_reducible rfl)
        (try simp only [Act.put, pA, pZ, pS])
        refine wpAnyH_take (i := 16) (oi := ?o16) (v := ?v16) ?hi16 (by kernel_rfl) (by kernel_rfl) (by kernel_rfl) (fun _ _ _ h => h) ?hy16 (by assumption) ?rest16
        case hi16 => simp only [gA, gS, gZ]; rfl
        case hy16 =>
          refine Or.inl ⟨by rfl, ?_⟩
          intro w hSw; (try dsimp only at hSw); go_simp <;> (with_reducible rfl)
        (try simp only [Act.put, pA, pZ, pS])
        refine wpAnyH_take (i := 17) (oi := ?o17) (v := ?v17) ?hi17 (by kernel_rfl) (by kernel_rfl) (by kernel_rfl) (fun _ _ _ h => h) ?hy17 (by assumption) ?rest17
        case hi17 => simp only [gA, gS, gZ]; rfl
        case hy17 =>
          refine Or.inl ⟨by rfl, ?_⟩
          intro w hSw; (try dsimp only at hSw); go_simp <;> (with_reducible rfl)
        (try simp only [Act.put, pA, pZ, pS])
        refine wpAnyH_take (i := 18) (oi := ?o18) (v := ?v18) ?hi18 (by kernel_rfl) (by kernel_rfl) (by kernel_rfl) (fun _ _ _ h => h) ?hy18 (by assumption) ?rest18
        case hi18 => simp only [gA, gS, gZ]; rfl
        case hy18 =>
          refine Or.inl ⟨by rfl, ?_⟩
          intro w hSw; (try dsimp only at hSw); go_simp <;> (with_reducible rfl)
        (try simp only [Act.put, pA, pZ, pS])
        refine wpAnyH_take (i := 19) (oi := ?o19) (v := ?v19) ?hi19 (by kernel_rfl) (by kernel_rfl) (by kernel_rfl) (fun _ _ _ h => h) ?hy19 (by assumption) ?rest19
        case hi19 => simp only [gA, gS, gZ]; rfl
        case hy19 =>
          refine Or.inl ⟨by rfl, ?_⟩
          intro w hSw; (try dsimp only at hSw); go_simp <;> (with_reducible rfl)
        (try simp only [Act.put, pA, pZ, pS])
        refine wpAnyH_take (i := 20) (oi := ?o20) (v := ?v20) ?hi20 (by kernel_rfl) (by kernel_rfl) (by kernel_rfl) (fun _ _ _ h => h) ?hy20 (by assumption) ?rest20
        case hi20 => simp only [gA, gS, gZ]; rfl
        case hy20 =>
          refine Or.inl ⟨by rfl, ?_⟩
          intro w hSw; (try dsimp only at hSw); go_simp <;> (with_reducible rfl)
        (try simp only [Act.put, pA, pZ, pS])
        refine wpAnyH_take (i := 21) (oi := ?o21) (v := ?v21) ?hi21 (by kernel_rfl) (by kernel_rfl) (by kernel_rfl) (fun _ _ _ h => h) ?hy21 (by assumption) ?rest21
        case hi21 => simp only [gA, gS, gZ]; rfl
        case hy21 =>
          refine Or.inl ⟨by rfl, ?_⟩
          intro w hSw; (try dsimp only at hSw); go_simp <;> (with_reducible rfl)
        (try simp only [Act.put, pA, pZ, pS])
        refine wpAnyH_take (i := 22) (oi := ?o22) (v := ?v22) ?hi22 (by kernel_rfl) (by kernel_rfl) (by kernel_rfl) (fun _ _ _ h => h) ?hy22 (by assumption) ?rest22
        case hi22 => simp only [gA, gS, gZ]; rfl
        case hy22 =>
          refine Or.inl ⟨by rfl, ?_⟩
          intro w hSw; (try dsimp only at hSw); go_simp <;> (with_reducible rfl)
        (try simp only [Act.put, pA, pZ, pS])
        refine wpAnyH_take (i := 23) (oi := ?o23) (v := ?v23) ?hi23 (by kernel_rfl) (by kernel_rfl) (by kernel_rfl) (fun _ _ _ h => h) ?hy23 (by assumption) ?rest23
        case hi23 => simp only [gA, gS, gZ]; rfl
        case hy23 =>
          refine Or.inl ⟨by rfl, ?_⟩
          intro w hSw; (try dsimp only at hSw); go_simp <;> (with_reducible rfl)
        (try simp only [Act.put, pA, pZ, pS])
        refine wpAnyH_take (i := 24) (oi := ?o24) (v := ?v24) ?hi24 (by kernel_rfl) (by kernel_rfl) (by kernel_rfl) (fun _ _ _ h => h) ?hy24 (by assumption) ?rest24
        case hi24 => simp only [gA, gS, gZ]; rfl
        case hy24 =>
          refine Or.inl ⟨by rfl, ?_⟩
          intro w hSw; (try dsimp only at hSw); go_simp <;> (with_reducible rfl)
        (try simp only [Act.put, pA, pZ, pS])
        refine wpAnyH_take (i := 25) (oi := ?o25) (v := ?v25) ?hi25 (by kernel_rfl) (by kernel_rfl) (by kernel_rfl) (fun _ _ _ h => h) ?hy25 (by assumption) ?rest25
        case hi25 => simp only [gA, gS, gZ]; rfl
        case hy25 =>
          refine Or.inl ⟨by rfl, ?_⟩
          intro w hSw; (try dsimp only at hSw); go_simp <;> (with_reducible rfl)
        (try simp only [Act.put, pA, pZ, pS])
        refine wpAnyH_ready (rs := [26]) (by kernel_rfl) (by simp) ?_
        refine AllReadyH.cons rfl (fun K hK => ?_) AllReadyH.nil
        go_simp
        refine (HC _ (HC1.out.under (Below.refl wr.heap.size wr).drew) (HC2.out.under (Below.refl wr.heap.size wr).drew)).mono ?_; rintro _ w5 ⟨rfl, hb⟩; have HB5 : Hid (Below wr.heap.size wr w5) := Lib.hid ((Below.refl wr.heap.size wr).drew.trans hb); clear hb
        refine hK.out _ _ (HSX.out HB5.out) (fun hHeld26 => ?_)
        clear hK K
        (try simp only [Act.put, pA, pZ, pS])
        refine wpAnyH_take (i := 27) (oi := ?o27) (v := ?v27) ?hi27 (by kernel_rfl) (by kernel_rfl) (by kernel_rfl) (fun _ _ _ h => h) ?hy27 (by assumption) ?rest27
        case hi27 => simp only [gA, gS, gZ]; rfl
        case hy27 =>
          refine Or.inl ⟨by rfl, ?_⟩
          intro w hSw; (try dsimp only at hSw); go_simp <;> (with_reducible rfl)
        (try simp only [Act.put, pA, pZ, pS])
        refine wpAnyH_take (i := 28) (oi := ?o28) (v := ?v28) ?hi28 (by kernel_rfl) (by kernel_rfl) (by kernel_rfl) (fun _ _ _ h => h) ?hy28 (by assumption) ?rest28
        case hi28 => simp only [gA, gS, gZ]; rfl
        case hy28 =>
          refine Or.inl ⟨by rfl, ?_⟩
          intro w hSw; (try dsimp only at hSw); go_simp <;> (with_reducible rfl)
        (try simp only [Act.put, pA, pZ, pS])
        refine wpAnyH_done (by kernel_rfl) ?_ _
        refine NoPanic.normal ?_
        go_wp2_with fail
        go_roundw
        case rel => exact ⟨j + 1, HLT.out, by go_num, Lib.hid (BX.out.mono HB5.out)⟩
        case measure => have := HLT.out; simp [intOf]; omega
      · obtain rfl : j = l.length := by omega
        go_wp2_with fail
        go_ret
        exact ⟨rfl, BX.out.below⟩
set_option maxRecDepth 100000 in
theorem vsame_any {a b : VT} (hab : AlikeV a b) (ha : countV a ≤ 2048) (hb : countV b ≤ 2048) (w : World) (c d : Value) (hv : VIn w c a.xs) (hv2 : VIn w d b.xs) : Calls Tryz.prog 13 #[a.v c, b.v d] w (BoolPost w true) := by
  have H1 := fun W h => few_any a ha W c h
  have H2 := fun W h => few_any b hb W d h
  have H3 := fun W h1 h2 => alike_any hab W c d h1 h2
  obtain ⟨ao, cap, rfl, hlen⟩ := hv.form
  obtain ⟨bo, cap2, rfl, -⟩ := hv2.form
  have A0 : Hid (AL w a b (.slice ao a.xs.length cap) (.slice bo b.xs.length cap2) ((w.alloc (VB a (.slice ao a.xs.length cap))).alloc (VB b (.slice bo b.xs.length cap2)))) := Lib.hid ⟨(at2_start w _ _).below, (at2_start w _ _).a, (at2_start w _ _).b⟩
  obtain ⟨a0, a1, a2, a3⟩ := vb_cells A0.out.a
  obtain ⟨b0, b1, b2, b3⟩ := vb_cells A0.out.b
  have HV := Lib.hid hv
  have HV2 := Lib.hid hv2
  clear hv hv2 hlen ha hb
  simp only [VT.v] at H1 H2 H3 ⊢
  go_enter Tryz.func13, Tryz.ntmps13
  go_wp2_with fail
  refine (H1 _ (HV.out.under A0.out.below)).mono ?_
  rintro e w1 ⟨rfl, hb1⟩
  have A1 := Lib.hid (A0.out.mono hb1)
  obtain ⟨a0, a1, a2, a3⟩ := vb_cells A1.out.a
  obtain ⟨b0, b1, b2, b3⟩ := vb_cells A1.out.b
  clear hb1 A0
  go_wp2_with fail
  refine (H2 _ (HV2.out.under A1.out.below)).mono ?_
  rintro e w2 ⟨rfl, hb2⟩
  have A2 := Lib.hid (A1.out.mono hb2)
  obtain ⟨a0, a1, a2, a3⟩ := vb_cells A2.out.a
  obtain ⟨b0, b1, b2, b3⟩ := vb_cells A2.out.b
  clear hb2 A1
  go_wp2_with fail
  refine (H3 _ (HV.out.under A2.out.below) (HV2.out.under A2.out.below)).mono ?_
  rintro e w3 ⟨rfl, hb3⟩
  go_wp2_with fail
  go_ret
  exact ⟨rfl, (A2.out.mono hb3).below⟩
end Go.Proofs.YtnaefnojmiolbaaGreatDoor
