/-
  The walk of ConvMeans.
-/
import Derived.Test.YtgpdhmgbmhfooaaDoorHeld06
namespace Go.Proofs.YtgpdhmgbmhfooaaDoor
open Go.RowKit
set_option maxRecDepth 100000 in
set_option maxHeartbeats 6400000 in
theorem means_any (k n : Int) (t : ByteArray) (ao : Option Addr) (m cap : Nat) (h0 : -9223372036854775808 ≤ n) (h1 : n ≤ 9223372036854775807) (hs : t.size ≤ 140737488351232) (w : World) (ht : Tabs w) : Calls Tryd.prog 12 #[V4 k n t ao m cap] w (BoolPost w true) := by
  have HX : ∀ w, Tabs w → Calls Tryd.prog 37 #[V4 k n t ao m cap] w (TextErrPost w (textP k n t.toList)) := text_any k n t ao m cap h0 h1
  have HY : ∀ w, Calls Tryd.prog 38 #[V4 k n t ao m cap] w (TextErrPost w (textP k n t.toList)) := rtext_any k n t ao m cap h0 h1
  have HT : ∀ w, Calls Tryd.prog 39 #[V4 k n t ao m cap] w (BoolPost w (truthP k n t.toList m)) := truth_any k n t ao m cap
  have HU : ∀ w, Calls Tryd.prog 40 #[V4 k n t ao m cap] w (BoolPost w (truthP k n t.toList m)) := rtruth_any k n t ao m cap
  have HN : ∀ w, Tabs w → Calls Tryd.prog 41 #[V4 k n t ao m cap] w (IntPost w (numberP k n t.toList m)) := number_any k n t ao m cap hs
  have HM : ∀ w, Calls Tryd.prog 42 #[V4 k n t ao m cap] w (IntPost w (numberP k n t.toList m)) := rnumber_any k n t ao m cap hs
  have HK : ∀ w, Calls Tryd.prog 43 #[V4 k n t ao m cap] w (TextPost w (kindP k)) := kind_any k n t ao m cap
  have HL : ∀ w, Calls Tryd.prog 44 #[V4 k n t ao m cap] w (TextPost w (kindP k)) := rkind_any k n t ao m cap
  have HA := alive_any
  generalize textP k n t.toList = x at HX HY
  obtain ⟨x, y⟩ := x
  generalize truthP k n t.toList m = b at HT HU
  generalize numberP k n t.toList m = z at HN HM
  generalize kindP k = l at HK HL
  have HTS := Lib.hid ht
  clear ht hs h0 h1
  have A0 := Lib.hid (at1_start w (VB k n t ao m cap))
  go_enter Tryd.func12, Tryd.ntmps12
  go_wp2_with fail
  refine (HX _ (HTS.out.mono A0.out.below)).mono ?_; rintro e w1 ⟨rfl, hb⟩; have A1 := Lib.hid (A0.out.mono hb); clear A0 hb HX; obtain ⟨c0, c1, c2, c3⟩ := cells4 A1.out.a
  go_wp2_with fail
  refine (HY _).mono ?_; rintro e w2 ⟨rfl, hb⟩; have A2 := Lib.hid (A1.out.mono hb); clear A1 hb HY c0 c1 c2 c3; obtain ⟨c0, c1, c2, c3⟩ := cells4 A2.out.a
  go_wp2_with fail
  have HS : S1 w w.heap.size (VB k n t ao m cap) w2 := ⟨HTS.out, A2.out⟩
  clear A2 c0 c1 c2 c3
  go_region_held3 (fun W => W.cell? ⟨w.heap.size, 0, none⟩ = some (.int .i64 k) ∧ W.cell? ⟨w.heap.size, 1, none⟩ = some (.int .i64 n) ∧ W.cell? ⟨w.heap.size, 2, none⟩ = some (.string t) ∧ W.cell? ⟨w.heap.size, 3, none⟩ = some (.slice ao m cap) ∧ S1 w w.heap.size (VB k n t ao m cap) W)
    (first
      | assumption
      | (refine cellsV (S1.mono (last5 ?_) hb); assumption)
      | (refine cellsV (S1.drew ?_); assumption))
    (first
      | (go_at_call 39; refine (HT _).mono ?_; rintro e wq ⟨rfl, hb⟩)
      | (go_at_call 40; refine (HU _).mono ?_; rintro e wq ⟨rfl, hb⟩)
      | (go_at_call 41; refine (HN _ (S1.tabs (w := w) (last5 (k := k) (n := n) (t := t) (ao := ao) (m := m) (cap := cap) (B := w.heap.size) ?_))).mono ?_; assumption; rintro e wq ⟨rfl, hb⟩)
      | (go_at_call 42; refine (HM _).mono ?_; rintro e wq ⟨rfl, hb⟩)
      | (go_at_call 43; refine (HK _).mono ?_; rintro e wq ⟨rfl, hb⟩)
      | (go_at_call 44; refine (HL _).mono ?_; rintro e wq ⟨rfl, hb⟩)
      | (go_at_call 34; refine (HA _ (S1.tabs (w := w) (last5 (k := k) (n := n) (t := t) (ao := ao) (m := m) (cap := cap) (B := w.heap.size) ?_))).mono ?_; assumption; rintro e wq ⟨rfl, hb⟩))
  all_goals trace_state
  all_goals go_wp2_with fail
  all_goals go_ret
  all_goals exact ⟨rfl, S1.below (last5 (by assumption))⟩
end Go.Proofs.YtgpdhmgbmhfooaaDoor
