/-
  may and Right at every value.
-/
import Derived.Test.YtnaefnojmiolbaaGreatDoorItemsZ
namespace Go.Proofs.YtnaefnojmiolbaaGreatDoor
open Go.RowKit

theorem half_zero (n : Int) : (n / 2 == 0) = decide (n = 0 ∨ n = 1) := by
  by_cases h : n = 0 ∨ n = 1
  · have : n / 2 = 0 := by omega
    simp [h, this]
  · have : ¬ n / 2 = 0 := by omega
    simp [h, this]
theorem beq_dec (a b : Int) : (a == b) = decide (a = b) := by
  by_cases h : a = b <;> simp [h]
theorem may_any (v : VT) : v.Good → ∀ (d : Int), 0 ≤ d → d ≤ 64 → ∀ (w : World) (c : Value), VIn w c v.xs → Tabs w → Calls Tryz.prog 52 #[v.v c, .int .i64 d] w (BoolPost w (mayV v d)) := by
  refine VT.ind (P := fun v => v.Good → ∀ (d : Int), 0 ≤ d → d ≤ 64 → ∀ (w : World) (c : Value), VIn w c v.xs → Tabs w → Calls Tryz.prog 52 #[v.v c, .int .i64 d] w (BoolPost w (mayV v d))) ?_ v
  intro k n t l ih hg d h0 h1 w c hv ht
  have hv : VIn w c l := hv
  obtain ⟨ao, cap, rfl, -⟩ := hv.form
  show Calls Tryz.prog 52 #[.agg #[.int .i64 k, .int .i64 n, .string t, .slice ao l.length cap], .int .i64 d] w _
  rw [mayV]
  split
  · subst k; rw [nil_len, ← beq_dec]; exact may_0 n t ao l.length cap d w _ _ _ rfl rfl rfl
  split
  · subst k; rw [nil_len, ← half_zero]; exact may_1 n t ao l.length cap d w _ _ _ rfl rfl rfl
  split
  · subst k; rw [nil_len]; exact may_2 n t ao l.length cap d w _ _ rfl rfl
  split
  · subst k; rw [nil_len, ← beq_dec]; exact may_3 n t ao l.length cap d w _ _ _ rfl rfl (by by_cases h : t.size ≤ 65536 <;> simp [h] <;> omega)
  split
  · subst k; rw [nil_len]; exact may_5 n t ao l.length cap d w _ _ _ rfl rfl rfl
  split
  · subst k
    refine may_4 n t ao l.length cap d w _ fun w1 hb => ?_
    have hg' := VT.Good.parts hg
    exact items_any 4 n t l (goodL_iff.2 hg'.2.2.2) d h0 h1 (fun x hx w c hc ht hd => ih x hx (hg'.2.2.2 x hx).2 (d + 1) (by omega) (by omega) w c hc ht) ao cap w1 (hv.under hb) (ht.mono hb)
  · refine may_other k n t ao l.length cap d w ?_ ?_ ?_ ?_ ?_ ?_ <;> simp [*]
/-- May a value be? -/
def rightV (v : VT) : Bool := decide (0 ≤ leftV v 2048) && mayV v 0
set_option maxRecDepth 100000 in
theorem right_any (v : VT) (hg : v.Good) (w : World) (c : Value) (hv : VIn w c v.xs) (ht : Tabs w) : Calls Tryz.prog 24 #[v.v c] w (BoolPost w (rightV v)) := by
  obtain ⟨ao, cap, rfl, -⟩ := hv.form
  have hb := below_alloc1 w (VB v (.slice ao v.xs.length cap))
  have HL := left_any v _ (.slice ao v.xs.length cap) 2048 (hv.under hb) (by omega) (by omega)
  have HM : ∀ w1, Below w.heap.size w w1 → Calls Tryz.prog 52 #[v.v (.slice ao v.xs.length cap), .int .i64 0] w1 (BoolPost w1 (mayV v 0)) := fun w1 h => may_any v hg 0 (by omega) (by omega) w1 _ (hv.under h) (ht.mono h)
  have HB := Lib.hid hb
  obtain ⟨b0, b1, b2, b3⟩ := vb_cells (heap_alloc_new w (VB v (.slice ao v.xs.length cap)))
  have HX := Lib.hid (heap_alloc_new w (VB v (.slice ao v.xs.length cap)))
  unfold rightV
  generalize mayV v 0 = m at HM ⊢
  obtain ⟨e, he⟩ : ∃ e, decide (0 ≤ leftV v 2048) = e := ⟨_, rfl⟩
  rw [he]
  generalize leftV v 2048 = n at HL he
  unfold VT.v at HL HM ⊢
  clear hv ht hb hg
  cases e
  · go_enter Tryz.func24, Tryz.ntmps24
    go_wp2_with fail
    refine HL.mono ?_
    rintro e w1 ⟨rfl, hb⟩
    have B1 := Lib.hid (HB.out.trans (hb.mono HB.out.size))
    clear hb HL
    go_wp2_with fail
    go_ret
    exact ⟨rfl, B1.out⟩
  · go_enter Tryz.func24, Tryz.ntmps24
    go_wp2_with fail
    refine HL.mono ?_
    rintro e w1 ⟨rfl, hb⟩
    have B1 := Lib.hid (HB.out.trans (hb.mono HB.out.size))
    obtain ⟨x0, x1, x2, x3⟩ := vb_cells ((hb.block _ (lt_of_block HX.out)).trans HX.out)
    have HN := HM w1 B1.out
    clear hb HL HM b0 b1 b2 b3
    go_wp2_with fail
    refine HN.mono ?_
    rintro e w2 ⟨rfl, hb⟩
    have B2 := Lib.hid (B1.out.trans (hb.mono B1.out.size))
    clear hb HN
    go_wp2_with fail
    go_ret
    exact ⟨rfl, B2.out⟩
end Go.Proofs.YtnaefnojmiolbaaGreatDoor
