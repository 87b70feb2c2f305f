/-
  The walk of ConvOrders.
-/
import Derived.Test.YtgpdhmgbmhfooaaDoorHeld06
import Derived.Test.YtgpdhmgbmhfooaaDoorOrder06
import Derived.Test.YtgpdhmgbmhfooaaDoorROrder06
import Derived.Test.YtgpdhmgbmhfooaaDoorSame06
namespace Go.Proofs.YtgpdhmgbmhfooaaDoor
open Go.RowKit
set_option maxRecDepth 100000 in
set_option maxHeartbeats 6400000 in
theorem orders_any (k1 n1 : Int) (t1 : ByteArray) (ao1 : Option Addr) (m1 cap1 : Nat) (k2 n2 : Int) (t2 : ByteArray) (ao2 : Option Addr) (m2 cap2 : Nat) (hn1 : -9223372036854775808 ≤ n1 ∧ n1 ≤ 9223372036854775807) (hn2 : -9223372036854775808 ≤ n2 ∧ n2 ≤ 9223372036854775807) (hs1 : t1.size ≤ 140737488351232) (hs2 : t2.size ≤ 140737488351232) (w : World) (ht : Tabs w) :
    Calls Tryd.prog 13 #[V4 k1 n1 t1 ao1 m1 cap1, V4 k2 n2 t2 ao2 m2 cap2] w (BoolPost w true) := by
  have HO : ∀ w, Tabs w → Calls Tryd.prog 36 #[V4 k1 n1 t1 ao1 m1 cap1, V4 k2 n2 t2 ao2 m2 cap2] w (TwoPost w (orderP k1 n1 t1.toList m1 k2 n2 t2.toList m2)) := order_any k1 n1 t1 ao1 m1 cap1 k2 n2 t2 ao2 m2 cap2 hn1 hn2 hs1 hs2
  have HR : ∀ w, Calls Tryd.prog 45 #[V4 k1 n1 t1 ao1 m1 cap1, V4 k2 n2 t2 ao2 m2 cap2] w (TwoPost w (orderP k1 n1 t1.toList m1 k2 n2 t2.toList m2)) := rorder_any k1 n1 t1 ao1 m1 cap1 k2 n2 t2 ao2 m2 cap2 hn1 hn2 hs1 hs2
  have HS : ∀ w, Calls Tryd.prog 46 #[V4 k1 n1 t1 ao1 m1 cap1, V4 k2 n2 t2 ao2 m2 cap2] w (BoolPost w (sameP k1 n1 t1.toList k2 n2 t2.toList)) := same_any k1 n1 t1 ao1 m1 cap1 k2 n2 t2 ao2 m2 cap2
  have HT : ∀ w, Calls Tryd.prog 47 #[V4 k1 n1 t1 ao1 m1 cap1, V4 k2 n2 t2 ao2 m2 cap2] w (BoolPost w (sameP k1 n1 t1.toList k2 n2 t2.toList)) := rsame_any k1 n1 t1 ao1 m1 cap1 k2 n2 t2 ao2 m2 cap2
  have HA := alive_any
  generalize orderP k1 n1 t1.toList m1 k2 n2 t2.toList m2 = x at HO HR
  obtain ⟨x, y⟩ := x
  generalize sameP k1 n1 t1.toList k2 n2 t2.toList = b at HS HT
  have HTS := Lib.hid ht
  clear ht hs1 hs2 hn1 hn2
  have A0 := Lib.hid (at2_start w (VB k1 n1 t1 ao1 m1 cap1) (VB k2 n2 t2 ao2 m2 cap2))
  go_enter Tryd.func13, Tryd.ntmps13
  go_wp2_with fail
  refine (HO _ (HTS.out.mono A0.out.below)).mono ?_; rintro e w1 ⟨rfl, hb⟩; have A1 := Lib.hid (A0.out.mono hb); clear A0 hb HO; obtain ⟨c0, c1, c2, c3⟩ := cells4 A1.out.a; obtain ⟨d0, d1, d2, d3⟩ := cells4 A1.out.b
  go_wp2_with fail
  refine (HR _).mono ?_; rintro e w2 ⟨rfl, hb⟩; have A2 := Lib.hid (A1.out.mono hb); clear A1 hb HR c0 c1 c2 c3 d0 d1 d2 d3; obtain ⟨c0, c1, c2, c3⟩ := cells4 A2.out.a; obtain ⟨d0, d1, d2, d3⟩ := cells4 A2.out.b
  go_wp2_with fail
  have HS0 : S2 w w.heap.size (VB k1 n1 t1 ao1 m1 cap1) (VB k2 n2 t2 ao2 m2 cap2) w2 := ⟨HTS.out, A2.out⟩
  clear A2 c0 c1 c2 c3 d0 d1 d2 d3
  go_region_held3 (fun W => W.cell? ⟨w.heap.size, 0, none⟩ = some (.int .i64 k1) ∧ W.cell? ⟨w.heap.size, 1, none⟩ = some (.int .i64 n1) ∧ W.cell? ⟨w.heap.size, 2, none⟩ = some (.string t1) ∧ W.cell? ⟨w.heap.size, 3, none⟩ = some (.slice ao1 m1 cap1) ∧ W.cell? ⟨w.heap.size + 1, 0, none⟩ = some (.int .i64 k2) ∧ W.cell? ⟨w.heap.size + 1, 1, none⟩ = some (.int .i64 n2) ∧ W.cell? ⟨w.heap.size + 1, 2, none⟩ = some (.string t2) ∧ W.cell? ⟨w.heap.size + 1, 3, none⟩ = some (.slice ao2 m2 cap2) ∧ S2 w w.heap.size (VB k1 n1 t1 ao1 m1 cap1) (VB k2 n2 t2 ao2 m2 cap2) W)
    (first
      | assumption
      | (refine cellsV2 (S2.mono (last9 ?_) hb); assumption)
      | (refine cellsV2 (S2.drew ?_); assumption))
    (first
      | (go_at_call 46; refine (HS _).mono ?_; rintro e wq ⟨rfl, hb⟩)
      | (go_at_call 47; refine (HT _).mono ?_; rintro e wq ⟨rfl, hb⟩)
      | (go_at_call 34; refine (HA _ (S2.tabs (w := w) (last9 (k := k1) (n := n1) (t := t1) (ao := ao1) (m := m1) (cap := cap1) (k' := k2) (n' := n2) (t' := t2) (ao' := ao2) (m' := m2) (cap' := cap2) (B := w.heap.size) ?_))).mono ?_; assumption; rintro e wq ⟨rfl, hb⟩))
  all_goals go_wp2_with fail
  all_goals go_ret
  all_goals exact ⟨rfl, S2.below (last9 (by assumption))⟩
end Go.Proofs.YtgpdhmgbmhfooaaDoor
