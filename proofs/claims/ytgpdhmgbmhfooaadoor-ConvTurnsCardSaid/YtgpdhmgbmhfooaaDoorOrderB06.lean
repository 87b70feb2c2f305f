/-
  The walks of Order, by their truths. MADE BY wip/genOrder06.py.
-/
import Derived.Test.YtgpdhmgbmhfooaaDoorOrderBase06
namespace Go.Proofs.YtgpdhmgbmhfooaaDoor
open Go.RowKit

set_option maxRecDepth 100000 in
set_option maxHeartbeats 6400000 in
theorem order_10 (n1 n2 : Int) (t1 t2 : ByteArray) (ao1 ao2 : Option Addr) (m1 cap1 m2 cap2 : Nat) (hn1 : -9223372036854775808 ≤ n1 ∧ n1 ≤ 9223372036854775807) (hn2 : -9223372036854775808 ≤ n2 ∧ n2 ≤ 9223372036854775807) (hs1 : t1.size ≤ 140737488351232) (hs2 : t2.size ≤ 140737488351232) (w : World) : Calls Tryd.prog 36 #[V4 1 n1 t1 ao1 m1 cap1, V4 0 n2 t2 ao2 m2 cap2] w (TwoPost w (truthsP (truthP 1 n1 t1.toList m1) (truthP 0 n2 t2.toList m2), 0)) := by
  have HP1 : ∀ w, Calls Tryd.prog 63 #[V4 1 n1 t1 ao1 m1 cap1] w (BoolPost w true) := plain_any 1 n1 t1 ao1 m1 cap1
  have HP2 : ∀ w, Calls Tryd.prog 63 #[V4 0 n2 t2 ao2 m2 cap2] w (BoolPost w true) := plain_any 0 n2 t2 ao2 m2 cap2
  have HT1 : ∀ w, Calls Tryd.prog 39 #[V4 1 n1 t1 ao1 m1 cap1] w (BoolPost w (truthP 1 n1 t1.toList m1)) := truth_any 1 n1 t1 ao1 m1 cap1
  have HT2 : ∀ w, Calls Tryd.prog 39 #[V4 0 n2 t2 ao2 m2 cap2] w (BoolPost w (truthP 0 n2 t2.toList m2)) := truth_any 0 n2 t2 ao2 m2 cap2
  have HT : ∀ a b w, Calls Tryd.prog 64 #[.bool a, .bool b] w fun e w' => e = .returned (.int .i64 (truthsP a b)) ∧ w = w' := truths_any
  generalize truthP 1 n1 t1.toList m1 = b1 at HT1
  generalize truthP 0 n2 t2.toList m2 = b2 at HT2
  have A0 := Lib.hid (at2_start w (VB 1 n1 t1 ao1 m1 cap1) (VB 0 n2 t2 ao2 m2 cap2))
  have hall := And.intro (And.intro hn1 hn2) (And.intro hs1 hs2)
  clear hall hn1 hn2 hs1 hs2
  go_enter Tryd.func36, Tryd.ntmps36
  go_wp2_with fail
  refine (HP1 _).mono ?_; rintro e w1 ⟨rfl, hb⟩; have A1 := Lib.hid (A0.out.mono hb); clear A0 hb HP1; obtain ⟨c0, c1, c2, c3⟩ := cells4 A1.out.a; obtain ⟨d0, d1, d2, d3⟩ := cells4 A1.out.b
  go_wp2_with fail
  refine (HP2 _).mono ?_; rintro e w2 ⟨rfl, hb⟩; have A2 := Lib.hid (A1.out.mono hb); clear A1 hb HP2 c0 c1 c2 c3 d0 d1 d2 d3; obtain ⟨c0, c1, c2, c3⟩ := cells4 A2.out.a; obtain ⟨d0, d1, d2, d3⟩ := cells4 A2.out.b
  go_wp2_with fail
  have A2d := Lib.hid A2.out.drew; clear A2 c0 c1 c2 c3 d0 d1 d2 d3; obtain ⟨c0, c1, c2, c3⟩ := cells4 A2d.out.a; obtain ⟨d0, d1, d2, d3⟩ := cells4 A2d.out.b
  go_region_with (first
    | (go_at_call_of 39 t1; refine (HT1 _).mono ?_; rintro e w3 ⟨rfl, hb⟩; have A3 := Lib.hid (A2d.out.mono hb); clear hb; obtain ⟨f0, f1, f2, f3⟩ := cells4 A3.out.b)
    | (go_at_call_of 39 t2; refine (HT2 _).mono ?_; rintro e w4 ⟨rfl, hb⟩; have A4 := Lib.hid (A3.out.mono hb); clear hb)
    | (go_at_call 64; refine (HT _ _ _).mono ?_; rintro e w5 ⟨rfl, rfl⟩))
  all_goals go_wp2_with fail
  all_goals go_ret2
  all_goals exact ⟨rfl, A4.out.below⟩

set_option maxRecDepth 100000 in
set_option maxHeartbeats 6400000 in
theorem order_11 (n1 n2 : Int) (t1 t2 : ByteArray) (ao1 ao2 : Option Addr) (m1 cap1 m2 cap2 : Nat) (hn1 : -9223372036854775808 ≤ n1 ∧ n1 ≤ 9223372036854775807) (hn2 : -9223372036854775808 ≤ n2 ∧ n2 ≤ 9223372036854775807) (hs1 : t1.size ≤ 140737488351232) (hs2 : t2.size ≤ 140737488351232) (w : World) : Calls Tryd.prog 36 #[V4 1 n1 t1 ao1 m1 cap1, V4 1 n2 t2 ao2 m2 cap2] w (TwoPost w (truthsP (truthP 1 n1 t1.toList m1) (truthP 1 n2 t2.toList m2), 0)) := by
  have HP1 : ∀ w, Calls Tryd.prog 63 #[V4 1 n1 t1 ao1 m1 cap1] w (BoolPost w true) := plain_any 1 n1 t1 ao1 m1 cap1
  have HP2 : ∀ w, Calls Tryd.prog 63 #[V4 1 n2 t2 ao2 m2 cap2] w (BoolPost w true) := plain_any 1 n2 t2 ao2 m2 cap2
  have HT1 : ∀ w, Calls Tryd.prog 39 #[V4 1 n1 t1 ao1 m1 cap1] w (BoolPost w (truthP 1 n1 t1.toList m1)) := truth_any 1 n1 t1 ao1 m1 cap1
  have HT2 : ∀ w, Calls Tryd.prog 39 #[V4 1 n2 t2 ao2 m2 cap2] w (BoolPost w (truthP 1 n2 t2.toList m2)) := truth_any 1 n2 t2 ao2 m2 cap2
  have HT : ∀ a b w, Calls Tryd.prog 64 #[.bool a, .bool b] w fun e w' => e = .returned (.int .i64 (truthsP a b)) ∧ w = w' := truths_any
  generalize truthP 1 n1 t1.toList m1 = b1 at HT1
  generalize truthP 1 n2 t2.toList m2 = b2 at HT2
  have A0 := Lib.hid (at2_start w (VB 1 n1 t1 ao1 m1 cap1) (VB 1 n2 t2 ao2 m2 cap2))
  have hall := And.intro (And.intro hn1 hn2) (And.intro hs1 hs2)
  clear hall hn1 hn2 hs1 hs2
  go_enter Tryd.func36, Tryd.ntmps36
  go_wp2_with fail
  refine (HP1 _).mono ?_; rintro e w1 ⟨rfl, hb⟩; have A1 := Lib.hid (A0.out.mono hb); clear A0 hb HP1; obtain ⟨c0, c1, c2, c3⟩ := cells4 A1.out.a; obtain ⟨d0, d1, d2, d3⟩ := cells4 A1.out.b
  go_wp2_with fail
  refine (HP2 _).mono ?_; rintro e w2 ⟨rfl, hb⟩; have A2 := Lib.hid (A1.out.mono hb); clear A1 hb HP2 c0 c1 c2 c3 d0 d1 d2 d3; obtain ⟨c0, c1, c2, c3⟩ := cells4 A2.out.a; obtain ⟨d0, d1, d2, d3⟩ := cells4 A2.out.b
  go_wp2_with fail
  have A2d := Lib.hid A2.out.drew; clear A2 c0 c1 c2 c3 d0 d1 d2 d3; obtain ⟨c0, c1, c2, c3⟩ := cells4 A2d.out.a; obtain ⟨d0, d1, d2, d3⟩ := cells4 A2d.out.b
  go_region_with (first
    | (go_at_call_of 39 t1; refine (HT1 _).mono ?_; rintro e w3 ⟨rfl, hb⟩; have A3 := Lib.hid (A2d.out.mono hb); clear hb; obtain ⟨f0, f1, f2, f3⟩ := cells4 A3.out.b)
    | (go_at_call_of 39 t2; refine (HT2 _).mono ?_; rintro e w4 ⟨rfl, hb⟩; have A4 := Lib.hid (A3.out.mono hb); clear hb)
    | (go_at_call 64; refine (HT _ _ _).mono ?_; rintro e w5 ⟨rfl, rfl⟩))
  all_goals go_wp2_with fail
  all_goals go_ret2
  all_goals exact ⟨rfl, A4.out.below⟩

set_option maxRecDepth 100000 in
set_option maxHeartbeats 6400000 in
theorem order_12 (n1 n2 : Int) (t1 t2 : ByteArray) (ao1 ao2 : Option Addr) (m1 cap1 m2 cap2 : Nat) (hn1 : -9223372036854775808 ≤ n1 ∧ n1 ≤ 9223372036854775807) (hn2 : -9223372036854775808 ≤ n2 ∧ n2 ≤ 9223372036854775807) (hs1 : t1.size ≤ 140737488351232) (hs2 : t2.size ≤ 140737488351232) (w : World) : Calls Tryd.prog 36 #[V4 1 n1 t1 ao1 m1 cap1, V4 2 n2 t2 ao2 m2 cap2] w (TwoPost w (truthsP (truthP 1 n1 t1.toList m1) (truthP 2 n2 t2.toList m2), 0)) := by
  have HP1 : ∀ w, Calls Tryd.prog 63 #[V4 1 n1 t1 ao1 m1 cap1] w (BoolPost w true) := plain_any 1 n1 t1 ao1 m1 cap1
  have HP2 : ∀ w, Calls Tryd.prog 63 #[V4 2 n2 t2 ao2 m2 cap2] w (BoolPost w true) := plain_any 2 n2 t2 ao2 m2 cap2
  have HT1 : ∀ w, Calls Tryd.prog 39 #[V4 1 n1 t1 ao1 m1 cap1] w (BoolPost w (truthP 1 n1 t1.toList m1)) := truth_any 1 n1 t1 ao1 m1 cap1
  have HT2 : ∀ w, Calls Tryd.prog 39 #[V4 2 n2 t2 ao2 m2 cap2] w (BoolPost w (truthP 2 n2 t2.toList m2)) := truth_any 2 n2 t2 ao2 m2 cap2
  have HT : ∀ a b w, Calls Tryd.prog 64 #[.bool a, .bool b] w fun e w' => e = .returned (.int .i64 (truthsP a b)) ∧ w = w' := truths_any
  generalize truthP 1 n1 t1.toList m1 = b1 at HT1
  generalize truthP 2 n2 t2.toList m2 = b2 at HT2
  have A0 := Lib.hid (at2_start w (VB 1 n1 t1 ao1 m1 cap1) (VB 2 n2 t2 ao2 m2 cap2))
  have hall := And.intro (And.intro hn1 hn2) (And.intro hs1 hs2)
  clear hall hn1 hn2 hs1 hs2
  go_enter Tryd.func36, Tryd.ntmps36
  go_wp2_with fail
  refine (HP1 _).mono ?_; rintro e w1 ⟨rfl, hb⟩; have A1 := Lib.hid (A0.out.mono hb); clear A0 hb HP1; obtain ⟨c0, c1, c2, c3⟩ := cells4 A1.out.a; obtain ⟨d0, d1, d2, d3⟩ := cells4 A1.out.b
  go_wp2_with fail
  refine (HP2 _).mono ?_; rintro e w2 ⟨rfl, hb⟩; have A2 := Lib.hid (A1.out.mono hb); clear A1 hb HP2 c0 c1 c2 c3 d0 d1 d2 d3; obtain ⟨c0, c1, c2, c3⟩ := cells4 A2.out.a; obtain ⟨d0, d1, d2, d3⟩ := cells4 A2.out.b
  go_wp2_with fail
  have A2d := Lib.hid A2.out.drew; clear A2 c0 c1 c2 c3 d0 d1 d2 d3; obtain ⟨c0, c1, c2, c3⟩ := cells4 A2d.out.a; obtain ⟨d0, d1, d2, d3⟩ := cells4 A2d.out.b
  go_region_with (first
    | (go_at_call_of 39 t1; refine (HT1 _).mono ?_; rintro e w3 ⟨rfl, hb⟩; have A3 := Lib.hid (A2d.out.mono hb); clear hb; obtain ⟨f0, f1, f2, f3⟩ := cells4 A3.out.b)
    | (go_at_call_of 39 t2; refine (HT2 _).mono ?_; rintro e w4 ⟨rfl, hb⟩; have A4 := Lib.hid (A3.out.mono hb); clear hb)
    | (go_at_call 64; refine (HT _ _ _).mono ?_; rintro e w5 ⟨rfl, rfl⟩))
  all_goals go_wp2_with fail
  all_goals go_ret2
  all_goals exact ⟨rfl, A4.out.below⟩
end Go.Proofs.YtgpdhmgbmhfooaaDoor
