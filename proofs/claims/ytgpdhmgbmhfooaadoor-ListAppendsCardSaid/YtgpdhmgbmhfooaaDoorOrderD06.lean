/-
  The walks of Order, by their numbers and texts. MADE BY wip/genOrder06.py.
-/
import Derived.Test.YtgpdhmgbmhfooaaDoorOrderBase06
namespace Go.Proofs.YtgpdhmgbmhfooaaDoor
open Go.RowKit

set_option maxRecDepth 100000 in
set_option maxHeartbeats 6400000 in
theorem order_32_11 (n1 n2 : Int) (t1 t2 : ByteArray) (ao1 ao2 : Option Addr) (m1 cap1 m2 cap2 : Nat) (hn1 : -9223372036854775808 ≤ n1 ∧ n1 ≤ 9223372036854775807) (hn2 : -9223372036854775808 ≤ n2 ∧ n2 ≤ 9223372036854775807) (hs1 : t1.size ≤ 140737488351232) (hs2 : t2.size ≤ 140737488351232) (w : World) (ht : Tabs w) (a1 a2 : Int) (h1 : numP 3 n1 t1.toList = (a1, true)) (h2 : numP 2 n2 t2.toList = (a2, true)) : Calls Tryd.prog 36 #[V4 3 n1 t1 ao1 m1 cap1, V4 2 n2 t2 ao2 m2 cap2] w (TwoPost w (Lib.compareInt a1 a2, 0)) := by
  have HP1 : ∀ w, Calls Tryd.prog 63 #[V4 3 n1 t1 ao1 m1 cap1] w (BoolPost w true) := plain_any 3 n1 t1 ao1 m1 cap1
  have HP2 : ∀ w, Calls Tryd.prog 63 #[V4 2 n2 t2 ao2 m2 cap2] w (BoolPost w true) := plain_any 2 n2 t2 ao2 m2 cap2
  have HN1 : ∀ w, Tabs w → Calls Tryd.prog 65 #[V4 3 n1 t1 ao1 m1 cap1] w (PairPost w (a1, true)) := fun w1 h => by rw [← h1]; exact numeric_of 3 n1 t1 ao1 m1 cap1 hs1 w1 h
  have HN2 : ∀ w, Tabs w → Calls Tryd.prog 65 #[V4 2 n2 t2 ao2 m2 cap2] w (PairPost w (a2, true)) := fun w1 h => by rw [← h2]; exact numeric_of 2 n2 t2 ao2 m2 cap2 hs2 w1 h
  have HX1 : ∀ w, Tabs w → Calls Tryd.prog 37 #[V4 3 n1 t1 ao1 m1 cap1] w (TextErrPost w (textP 3 n1 t1.toList)) := text_any 3 n1 t1 ao1 m1 cap1 hn1.1 hn1.2
  have HX2 : ∀ w, Tabs w → Calls Tryd.prog 37 #[V4 2 n2 t2 ao2 m2 cap2] w (TextErrPost w (textP 2 n2 t2.toList)) := text_any 2 n2 t2 ao2 m2 cap2 hn2.1 hn2.2
  have HTS := Lib.hid ht
  clear h1 h2 ht
  have A0 := Lib.hid (at2_start w (VB 3 n1 t1 ao1 m1 cap1) (VB 2 n2 t2 ao2 m2 cap2))
  have hall := And.intro (And.intro hn1 hn2) (And.intro hs1 hs2)
  clear hall hn1 hn2 hs1 hs2
  go_enter Tryd.func36, Tryd.ntmps36
  go_wp2_with fail
  refine (HP1 _).mono ?_; rintro e w1 ⟨rfl, hb⟩; have A1 := Lib.hid (A0.out.mono hb); clear A0 hb HP1; obtain ⟨c0, c1, c2, c3⟩ := cells4 A1.out.a; obtain ⟨d0, d1, d2, d3⟩ := cells4 A1.out.b
  go_wp2_with fail
  refine (HP2 _).mono ?_; rintro e w2 ⟨rfl, hb⟩; have A2 := Lib.hid (A1.out.mono hb); clear A1 hb HP2 c0 c1 c2 c3 d0 d1 d2 d3; obtain ⟨c0, c1, c2, c3⟩ := cells4 A2.out.a; obtain ⟨d0, d1, d2, d3⟩ := cells4 A2.out.b
  go_wp2_with fail
  refine (HN1 _ (HTS.out.mono A2.out.below)).mono ?_; rintro e w3 ⟨rfl, hb⟩; have A3 := Lib.hid (A2.out.mono hb); clear A2 hb HN1 c0 c1 c2 c3 d0 d1 d2 d3; obtain ⟨c0, c1, c2, c3⟩ := cells4 A3.out.a; obtain ⟨d0, d1, d2, d3⟩ := cells4 A3.out.b
  go_wp2_with fail
  refine (HN2 _ (HTS.out.mono A3.out.below)).mono ?_; rintro e w4 ⟨rfl, hb⟩; have A4 := Lib.hid (A3.out.mono hb); clear A3 hb HN2 c0 c1 c2 c3 d0 d1 d2 d3; obtain ⟨c0, c1, c2, c3⟩ := cells4 A4.out.a; obtain ⟨d0, d1, d2, d3⟩ := cells4 A4.out.b
  have HC : ∀ w, Calls Tryd.prog 66 #[.int .i64 a1, .int .i64 a2] w fun e w' => e = .returned (.int .i64 (Lib.compareInt a1 a2)) ∧ w' = w := fun w => Tryd.cmp_Compare_int a1 a2 w
  go_wp2_with fail
  refine (HC _).mono ?_; rintro e w5 ⟨rfl, rfl⟩
  go_wp2_with fail
  go_ret2
  exact ⟨rfl, A4.out.below⟩

set_option maxRecDepth 100000 in
set_option maxHeartbeats 6400000 in
theorem order_32_01 (n1 n2 : Int) (t1 t2 : ByteArray) (ao1 ao2 : Option Addr) (m1 cap1 m2 cap2 : Nat) (hn1 : -9223372036854775808 ≤ n1 ∧ n1 ≤ 9223372036854775807) (hn2 : -9223372036854775808 ≤ n2 ∧ n2 ≤ 9223372036854775807) (hs1 : t1.size ≤ 140737488351232) (hs2 : t2.size ≤ 140737488351232) (w : World) (ht : Tabs w) (a1 a2 : Int) (h1 : numP 3 n1 t1.toList = (a1, false)) (h2 : numP 2 n2 t2.toList = (a2, true)) : Calls Tryd.prog 36 #[V4 3 n1 t1 ao1 m1 cap1, V4 2 n2 t2 ao2 m2 cap2] w (TwoPost w (Lib.compareBytes (textP 3 n1 t1.toList).1 (textP 2 n2 t2.toList).1, 0)) := by
  have HP1 : ∀ w, Calls Tryd.prog 63 #[V4 3 n1 t1 ao1 m1 cap1] w (BoolPost w true) := plain_any 3 n1 t1 ao1 m1 cap1
  have HP2 : ∀ w, Calls Tryd.prog 63 #[V4 2 n2 t2 ao2 m2 cap2] w (BoolPost w true) := plain_any 2 n2 t2 ao2 m2 cap2
  have HN1 : ∀ w, Tabs w → Calls Tryd.prog 65 #[V4 3 n1 t1 ao1 m1 cap1] w (PairPost w (a1, false)) := fun w1 h => by rw [← h1]; exact numeric_of 3 n1 t1 ao1 m1 cap1 hs1 w1 h
  have HN2 : ∀ w, Tabs w → Calls Tryd.prog 65 #[V4 2 n2 t2 ao2 m2 cap2] w (PairPost w (a2, true)) := fun w1 h => by rw [← h2]; exact numeric_of 2 n2 t2 ao2 m2 cap2 hs2 w1 h
  have HX1 : ∀ w, Tabs w → Calls Tryd.prog 37 #[V4 3 n1 t1 ao1 m1 cap1] w (TextErrPost w (textP 3 n1 t1.toList)) := text_any 3 n1 t1 ao1 m1 cap1 hn1.1 hn1.2
  have HX2 : ∀ w, Tabs w → Calls Tryd.prog 37 #[V4 2 n2 t2 ao2 m2 cap2] w (TextErrPost w (textP 2 n2 t2.toList)) := text_any 2 n2 t2 ao2 m2 cap2 hn2.1 hn2.2
  have HTS := Lib.hid ht
  clear h1 h2 ht
  obtain ⟨⟨x1, e1⟩, hx1⟩ : ∃ x, x = textP 3 n1 t1.toList := ⟨_, rfl⟩
  obtain ⟨⟨x2, e2⟩, hx2⟩ : ∃ x, x = textP 2 n2 t2.toList := ⟨_, rfl⟩
  rw [← hx1] at HX1
  rw [← hx2] at HX2
  rw [← hx1, ← hx2]
  clear hx1 hx2
  have A0 := Lib.hid (at2_start w (VB 3 n1 t1 ao1 m1 cap1) (VB 2 n2 t2 ao2 m2 cap2))
  have hall := And.intro (And.intro hn1 hn2) (And.intro hs1 hs2)
  clear hall hn1 hn2 hs1 hs2
  go_enter Tryd.func36, Tryd.ntmps36
  go_wp2_with fail
  refine (HP1 _).mono ?_; rintro e w1 ⟨rfl, hb⟩; have A1 := Lib.hid (A0.out.mono hb); clear A0 hb HP1; obtain ⟨c0, c1, c2, c3⟩ := cells4 A1.out.a; obtain ⟨d0, d1, d2, d3⟩ := cells4 A1.out.b
  go_wp2_with fail
  refine (HP2 _).mono ?_; rintro e w2 ⟨rfl, hb⟩; have A2 := Lib.hid (A1.out.mono hb); clear A1 hb HP2 c0 c1 c2 c3 d0 d1 d2 d3; obtain ⟨c0, c1, c2, c3⟩ := cells4 A2.out.a; obtain ⟨d0, d1, d2, d3⟩ := cells4 A2.out.b
  go_wp2_with fail
  refine (HN1 _ (HTS.out.mono A2.out.below)).mono ?_; rintro e w3 ⟨rfl, hb⟩; have A3 := Lib.hid (A2.out.mono hb); clear A2 hb HN1 c0 c1 c2 c3 d0 d1 d2 d3; obtain ⟨c0, c1, c2, c3⟩ := cells4 A3.out.a; obtain ⟨d0, d1, d2, d3⟩ := cells4 A3.out.b
  go_wp2_with fail
  refine (HN2 _ (HTS.out.mono A3.out.below)).mono ?_; rintro e w4 ⟨rfl, hb⟩; have A4 := Lib.hid (A3.out.mono hb); clear A3 hb HN2 c0 c1 c2 c3 d0 d1 d2 d3; obtain ⟨c0, c1, c2, c3⟩ := cells4 A4.out.a; obtain ⟨d0, d1, d2, d3⟩ := cells4 A4.out.b
  go_wp2_with fail
  refine (HX1 _ (HTS.out.mono A4.out.below)).mono ?_; rintro e w5 ⟨rfl, hb⟩; have A5 := Lib.hid (A4.out.mono hb); clear A4 hb HX1 c0 c1 c2 c3 d0 d1 d2 d3; obtain ⟨c0, c1, c2, c3⟩ := cells4 A5.out.a; obtain ⟨d0, d1, d2, d3⟩ := cells4 A5.out.b
  go_wp2_with fail
  refine (HX2 _ (HTS.out.mono A5.out.below)).mono ?_; rintro e w6 ⟨rfl, hb⟩; have A6 := Lib.hid (A5.out.mono hb); clear A5 hb HX2 c0 c1 c2 c3 d0 d1 d2 d3
  have HC : ∀ w, Calls Tryd.prog 67 #[.string (str x1), .string (str x2)] w fun e w' => e = .returned (.int .i64 (Lib.compareBytes x1 x2)) ∧ w' = w := fun w => Tryd.strings_Compare (str x1) (str x2) w
  go_wp2_with fail
  refine (HC _).mono ?_; rintro e w7 ⟨rfl, rfl⟩
  go_wp2_with fail
  go_ret2
  exact ⟨rfl, A6.out.below⟩
end Go.Proofs.YtgpdhmgbmhfooaaDoor
