/-
  The walks of Order, the document's, by their numbers and texts. MADE BY wip/genOrder06.py.
-/
import Derived.Test.YtgpdhmgbmhfooaaDoorRTexts06
namespace Go.Proofs.YtgpdhmgbmhfooaaDoor
open Go.RowKit

set_option maxRecDepth 100000 in
set_option maxHeartbeats 6400000 in
theorem rorder_32_11 (n1 n2 : Int) (t1 t2 : ByteArray) (ao1 ao2 : Option Addr) (m1 cap1 m2 cap2 : Nat) (hn1 : -9223372036854775808 ≤ n1 ∧ n1 ≤ 9223372036854775807) (hn2 : -9223372036854775808 ≤ n2 ∧ n2 ≤ 9223372036854775807) (hs1 : t1.size ≤ 140737488351232) (hs2 : t2.size ≤ 140737488351232) (w : World) (a1 a2 : Int) (h1 : numP 3 n1 t1.toList = (a1, true)) (h2 : numP 2 n2 t2.toList = (a2, true)) : Calls Tryd.prog 45 #[V4 3 n1 t1 ao1 m1 cap1, V4 2 n2 t2 ao2 m2 cap2] w (TwoPost w (Lib.compareInt a1 a2, 0)) := by
  have HP1 : ∀ w, Calls Tryd.prog 68 #[V4 3 n1 t1 ao1 m1 cap1] w (BoolPost w true) := rplain_any 3 n1 t1 ao1 m1 cap1
  have HP2 : ∀ w, Calls Tryd.prog 68 #[V4 2 n2 t2 ao2 m2 cap2] w (BoolPost w true) := rplain_any 2 n2 t2 ao2 m2 cap2
  have HN1 : ∀ w, Calls Tryd.prog 31 #[.string t1] w fun e w' => e = .returned (.tuple #[.int .i64 a1, .bool true]) ∧ w = w' := fun w => by
    have h := rnumeric_any t1 hs1 w
    rw [show numericP t1.toList = (a1, true) from h1] at h
    exact h
  obtain rfl : n2 = a2 := congrArg Prod.fst h2
  obtain ⟨r, hr⟩ : ∃ r, r = Lib.compareInt a1 n2 := ⟨_, rfl⟩
  have HC : ∀ w, Calls Tryd.prog 71 #[.int .i64 a1, .int .i64 n2] w fun e w' => e = .returned (.int .i64 r) ∧ w = w' := fun w => by rw [hr]; exact rnumbers_any a1 n2 w
  rw [← hr]
  clear hr h1 h2
  have A0 := Lib.hid (at2_start w (VB 3 n1 t1 ao1 m1 cap1) (VB 2 n2 t2 ao2 m2 cap2))
  have hall := And.intro (And.intro hn1 hn2) (And.intro hs1 hs2)
  clear hall hn1 hn2 hs1 hs2
  go_enter Tryd.func45, Tryd.ntmps45
  go_wp2_with fail
  refine (HP1 _).mono ?_; rintro e w1 ⟨rfl, hb⟩; have A1 := Lib.hid (A0.out.mono hb); clear A0 hb HP1; obtain ⟨c0, c1, c2, c3⟩ := cells4 A1.out.a; obtain ⟨d0, d1, d2, d3⟩ := cells4 A1.out.b
  go_wp2_with fail
  refine (HP2 _).mono ?_; rintro e w2 ⟨rfl, hb⟩; have A2 := Lib.hid (A1.out.mono hb); clear A1 hb HP2 c0 c1 c2 c3 d0 d1 d2 d3; obtain ⟨c0, c1, c2, c3⟩ := cells4 A2.out.a; obtain ⟨d0, d1, d2, d3⟩ := cells4 A2.out.b
  go_wp2_with fail
  refine (HN1 _).mono ?_; rintro e w3 ⟨rfl, rfl⟩; clear HN1
  go_wp2_with fail
  refine (HC _).mono ?_; rintro e w5 ⟨rfl, rfl⟩; clear HC
  go_wp2_with fail
  go_ret2
  exact ⟨rfl, A2.out.below⟩

set_option maxRecDepth 100000 in
set_option maxHeartbeats 6400000 in
theorem rorder_32_01 (n1 n2 : Int) (t1 t2 : ByteArray) (ao1 ao2 : Option Addr) (m1 cap1 m2 cap2 : Nat) (hn1 : -9223372036854775808 ≤ n1 ∧ n1 ≤ 9223372036854775807) (hn2 : -9223372036854775808 ≤ n2 ∧ n2 ≤ 9223372036854775807) (hs1 : t1.size ≤ 140737488351232) (hs2 : t2.size ≤ 140737488351232) (w : World) (a1 a2 : Int) (h1 : numP 3 n1 t1.toList = (a1, false)) (h2 : numP 2 n2 t2.toList = (a2, true)) : Calls Tryd.prog 45 #[V4 3 n1 t1 ao1 m1 cap1, V4 2 n2 t2 ao2 m2 cap2] w (TwoPost w (Lib.compareBytes (textP 3 n1 t1.toList).1 (textP 2 n2 t2.toList).1, 0)) := by
  have HP1 : ∀ w, Calls Tryd.prog 68 #[V4 3 n1 t1 ao1 m1 cap1] w (BoolPost w true) := rplain_any 3 n1 t1 ao1 m1 cap1
  have HP2 : ∀ w, Calls Tryd.prog 68 #[V4 2 n2 t2 ao2 m2 cap2] w (BoolPost w true) := rplain_any 2 n2 t2 ao2 m2 cap2
  have HN1 : ∀ w, Calls Tryd.prog 31 #[.string t1] w fun e w' => e = .returned (.tuple #[.int .i64 a1, .bool false]) ∧ w = w' := fun w => by
    have h := rnumeric_any t1 hs1 w
    rw [show numericP t1.toList = (a1, false) from h1] at h
    exact h
  obtain rfl : n2 = a2 := congrArg Prod.fst h2
  have HX1 : ∀ w, Calls Tryd.prog 38 #[V4 3 n1 t1 ao1 m1 cap1] w (TextErrPost w (textP 3 n1 t1.toList)) := rtext_any 3 n1 t1 ao1 m1 cap1 hn1.1 hn1.2
  have HX2 : ∀ w, Calls Tryd.prog 38 #[V4 2 n2 t2 ao2 m2 cap2] w (TextErrPost w (textP 2 n2 t2.toList)) := rtext_any 2 n2 t2 ao2 m2 cap2 hn2.1 hn2.2
  obtain ⟨⟨x1, e1⟩, hx1⟩ : ∃ x, x = textP 3 n1 t1.toList := ⟨_, rfl⟩
  obtain ⟨⟨x2, e2⟩, hx2⟩ : ∃ x, x = textP 2 n2 t2.toList := ⟨_, rfl⟩
  rw [← hx1] at HX1
  rw [← hx2] at HX2
  rw [← hx1, ← hx2]
  clear hx1 hx2 h1 h2
  obtain ⟨r, hr⟩ : ∃ r, r = Lib.compareBytes x1 x2 := ⟨_, rfl⟩
  have HC : ∀ w, Calls Tryd.prog 70 #[.string (str x1), .string (str x2)] w fun e w' => e = .returned (.int .i64 r) ∧ w = w' := fun w => by
    have h := rtexts_any (str x1) (str x2) w
    rw [str_toList, str_toList, ← hr] at h
    exact h
  show Calls Tryd.prog 45 #[V4 3 n1 t1 ao1 m1 cap1, V4 2 n2 t2 ao2 m2 cap2] w (TwoPost w (Lib.compareBytes x1 x2, 0))
  rw [← hr]
  clear hr
  have A0 := Lib.hid (at2_start w (VB 3 n1 t1 ao1 m1 cap1) (VB 2 n2 t2 ao2 m2 cap2))
  have hall := And.intro (And.intro hn1 hn2) (And.intro hs1 hs2)
  clear hall hn1 hn2 hs1 hs2
  go_enter Tryd.func45, Tryd.ntmps45
  go_wp2_with fail
  refine (HP1 _).mono ?_; rintro e w1 ⟨rfl, hb⟩; have A1 := Lib.hid (A0.out.mono hb); clear A0 hb HP1; obtain ⟨c0, c1, c2, c3⟩ := cells4 A1.out.a; obtain ⟨d0, d1, d2, d3⟩ := cells4 A1.out.b
  go_wp2_with fail
  refine (HP2 _).mono ?_; rintro e w2 ⟨rfl, hb⟩; have A2 := Lib.hid (A1.out.mono hb); clear A1 hb HP2 c0 c1 c2 c3 d0 d1 d2 d3; obtain ⟨c0, c1, c2, c3⟩ := cells4 A2.out.a; obtain ⟨d0, d1, d2, d3⟩ := cells4 A2.out.b
  go_wp2_with fail
  refine (HN1 _).mono ?_; rintro e w3 ⟨rfl, rfl⟩; clear HN1
  go_wp2_with fail
  refine (HX1 _).mono ?_; rintro e w5 ⟨rfl, hb⟩; have A5 := Lib.hid (A2.out.mono hb); clear A2 hb HX1 c0 c1 c2 c3 d0 d1 d2 d3; obtain ⟨c0, c1, c2, c3⟩ := cells4 A5.out.a; obtain ⟨d0, d1, d2, d3⟩ := cells4 A5.out.b
  go_wp2_with fail
  refine (HX2 _).mono ?_; rintro e w6 ⟨rfl, hb⟩; have A6 := Lib.hid (A5.out.mono hb); clear A5 hb HX2 c0 c1 c2 c3 d0 d1 d2 d3
  go_wp2_with fail
  refine (HC _).mono ?_; rintro e w7 ⟨rfl, rfl⟩; clear HC
  go_wp2_with fail
  go_ret2
  exact ⟨rfl, A6.out.below⟩

set_option maxRecDepth 100000 in
set_option maxHeartbeats 6400000 in
theorem rorder_33_11 (n1 n2 : Int) (t1 t2 : ByteArray) (ao1 ao2 : Option Addr) (m1 cap1 m2 cap2 : Nat) (hn1 : -9223372036854775808 ≤ n1 ∧ n1 ≤ 9223372036854775807) (hn2 : -9223372036854775808 ≤ n2 ∧ n2 ≤ 9223372036854775807) (hs1 : t1.size ≤ 140737488351232) (hs2 : t2.size ≤ 140737488351232) (w : World) (a1 a2 : Int) (h1 : numP 3 n1 t1.toList = (a1, true)) (h2 : numP 3 n2 t2.toList = (a2, true)) : Calls Tryd.prog 45 #[V4 3 n1 t1 ao1 m1 cap1, V4 3 n2 t2 ao2 m2 cap2] w (TwoPost w (Lib.compareInt a1 a2, 0)) := by
  have HP1 : ∀ w, Calls Tryd.prog 68 #[V4 3 n1 t1 ao1 m1 cap1] w (BoolPost w true) := rplain_any 3 n1 t1 ao1 m1 cap1
  have HP2 : ∀ w, Calls Tryd.prog 68 #[V4 3 n2 t2 ao2 m2 cap2] w (BoolPost w true) := rplain_any 3 n2 t2 ao2 m2 cap2
  have HN1 : ∀ w, Calls Tryd.prog 31 #[.string t1] w fun e w' => e = .returned (.tuple #[.int .i64 a1, .bool true]) ∧ w = w' := fun w => by
    have h := rnumeric_any t1 hs1 w
    rw [show numericP t1.toList = (a1, true) from h1] at h
    exact h
  have HN2 : ∀ w, Calls Tryd.prog 31 #[.string t2] w fun e w' => e = .returned (.tuple #[.int .i64 a2, .bool true]) ∧ w = w' := fun w => by
    have h := rnumeric_any t2 hs2 w
    rw [show numericP t2.toList = (a2, true) from h2] at h
    exact h
  obtain ⟨r, hr⟩ : ∃ r, r = Lib.compareInt a1 a2 := ⟨_, rfl⟩
  have HC : ∀ w, Calls Tryd.prog 71 #[.int .i64 a1, .int .i64 a2] w fun e w' => e = .returned (.int .i64 r) ∧ w = w' := fun w => by rw [hr]; exact rnumbers_any a1 a2 w
  rw [← hr]
  clear hr h1 h2
  have A0 := Lib.hid (at2_start w (VB 3 n1 t1 ao1 m1 cap1) (VB 3 n2 t2 ao2 m2 cap2))
  have hall := And.intro (And.intro hn1 hn2) (And.intro hs1 hs2)
  clear hall hn1 hn2 hs1 hs2
  go_enter Tryd.func45, Tryd.ntmps45
  go_wp2_with fail
  refine (HP1 _).mono ?_; rintro e w1 ⟨rfl, hb⟩; have A1 := Lib.hid (A0.out.mono hb); clear A0 hb HP1; obtain ⟨c0, c1, c2, c3⟩ := cells4 A1.out.a; obtain ⟨d0, d1, d2, d3⟩ := cells4 A1.out.b
  go_wp2_with fail
  refine (HP2 _).mono ?_; rintro e w2 ⟨rfl, hb⟩; have A2 := Lib.hid (A1.out.mono hb); clear A1 hb HP2 c0 c1 c2 c3 d0 d1 d2 d3; obtain ⟨c0, c1, c2, c3⟩ := cells4 A2.out.a; obtain ⟨d0, d1, d2, d3⟩ := cells4 A2.out.b
  go_wp2_with fail
  refine (HN1 _).mono ?_; rintro e w3 ⟨rfl, rfl⟩; clear HN1
  go_wp2_with fail
  refine (HN2 _).mono ?_; rintro e w4 ⟨rfl, rfl⟩; clear HN2
  go_wp2_with fail
  refine (HC _).mono ?_; rintro e w5 ⟨rfl, rfl⟩; clear HC
  go_wp2_with fail
  go_ret2
  exact ⟨rfl, A2.out.below⟩

set_option maxRecDepth 100000 in
set_option maxHeartbeats 6400000 in
theorem rorder_33_10 (n1 n2 : Int) (t1 t2 : ByteArray) (ao1 ao2 : Option Addr) (m1 cap1 m2 cap2 : Nat) (hn1 : -9223372036854775808 ≤ n1 ∧ n1 ≤ 9223372036854775807) (hn2 : -9223372036854775808 ≤ n2 ∧ n2 ≤ 9223372036854775807) (hs1 : t1.size ≤ 140737488351232) (hs2 : t2.size ≤ 140737488351232) (w : World) (a1 a2 : Int) (h1 : numP 3 n1 t1.toList = (a1, true)) (h2 : numP 3 n2 t2.toList = (a2, false)) : Calls Tryd.prog 45 #[V4 3 n1 t1 ao1 m1 cap1, V4 3 n2 t2 ao2 m2 cap2] w (TwoPost w (Lib.compareBytes (textP 3 n1 t1.toList).1 (textP 3 n2 t2.toList).1, 0)) := by
  have HP1 : ∀ w, Calls Tryd.prog 68 #[V4 3 n1 t1 ao1 m1 cap1] w (BoolPost w true) := rplain_any 3 n1 t1 ao1 m1 cap1
  have HP2 : ∀ w, Calls Tryd.prog 68 #[V4 3 n2 t2 ao2 m2 cap2] w (BoolPost w true) := rplain_any 3 n2 t2 ao2 m2 cap2
  have HN1 : ∀ w, Calls Tryd.prog 31 #[.string t1] w fun e w' => e = .returned (.tuple #[.int .i64 a1, .bool true]) ∧ w = w' := fun w => by
    have h := rnumeric_any t1 hs1 w
    rw [show numericP t1.toList = (a1, true) from h1] at h
    exact h
  have HN2 : ∀ w, Calls Tryd.prog 31 #[.string t2] w fun e w' => e = .returned (.tuple #[.int .i64 a2, .bool false]) ∧ w = w' := fun w => by
    have h := rnumeric_any t2 hs2 w
    rw [show numericP t2.toList = (a2, false) from h2] at h
    exact h
  have HX1 : ∀ w, Calls Tryd.prog 38 #[V4 3 n1 t1 ao1 m1 cap1] w (TextErrPost w (textP 3 n1 t1.toList)) := rtext_any 3 n1 t1 ao1 m1 cap1 hn1.1 hn1.2
  have HX2 : ∀ w, Calls Tryd.prog 38 #[V4 3 n2 t2 ao2 m2 cap2] w (TextErrPost w (textP 3 n2 t2.toList)) := rtext_any 3 n2 t2 ao2 m2 cap2 hn2.1 hn2.2
  obtain ⟨⟨x1, e1⟩, hx1⟩ : ∃ x, x = textP 3 n1 t1.toList := ⟨_, rfl⟩
  obtain ⟨⟨x2, e2⟩, hx2⟩ : ∃ x, x = textP 3 n2 t2.toList := ⟨_, rfl⟩
  rw [← hx1] at HX1
  rw [← hx2] at HX2
  rw [← hx1, ← hx2]
  clear hx1 hx2 h1 h2
  obtain ⟨r, hr⟩ : ∃ r, r = Lib.compareBytes x1 x2 := ⟨_, rfl⟩
  have HC : ∀ w, Calls Tryd.prog 70 #[.string (str x1), .string (str x2)] w fun e w' => e = .returned (.int .i64 r) ∧ w = w' := fun w => by
    have h := rtexts_any (str x1) (str x2) w
    rw [str_toList, str_toList, ← hr] at h
    exact h
  show Calls Tryd.prog 45 #[V4 3 n1 t1 ao1 m1 cap1, V4 3 n2 t2 ao2 m2 cap2] w (TwoPost w (Lib.compareBytes x1 x2, 0))
  rw [← hr]
  clear hr
  have A0 := Lib.hid (at2_start w (VB 3 n1 t1 ao1 m1 cap1) (VB 3 n2 t2 ao2 m2 cap2))
  have hall := And.intro (And.intro hn1 hn2) (And.intro hs1 hs2)
  clear hall hn1 hn2 hs1 hs2
  go_enter Tryd.func45, Tryd.ntmps45
  go_wp2_with fail
  refine (HP1 _).mono ?_; rintro e w1 ⟨rfl, hb⟩; have A1 := Lib.hid (A0.out.mono hb); clear A0 hb HP1; obtain ⟨c0, c1, c2, c3⟩ := cells4 A1.out.a; obtain ⟨d0, d1, d2, d3⟩ := cells4 A1.out.b
  go_wp2_with fail
  refine (HP2 _).mono ?_; rintro e w2 ⟨rfl, hb⟩; have A2 := Lib.hid (A1.out.mono hb); clear A1 hb HP2 c0 c1 c2 c3 d0 d1 d2 d3; obtain ⟨c0, c1, c2, c3⟩ := cells4 A2.out.a; obtain ⟨d0, d1, d2, d3⟩ := cells4 A2.out.b
  go_wp2_with fail
  refine (HN1 _).mono ?_; rintro e w3 ⟨rfl, rfl⟩; clear HN1
  go_wp2_with fail
  refine (HN2 _).mono ?_; rintro e w4 ⟨rfl, rfl⟩; clear HN2
  go_wp2_with fail
  refine (HX1 _).mono ?_; rintro e w5 ⟨rfl, hb⟩; have A5 := Lib.hid (A2.out.mono hb); clear A2 hb HX1 c0 c1 c2 c3 d0 d1 d2 d3; obtain ⟨c0, c1, c2, c3⟩ := cells4 A5.out.a; obtain ⟨d0, d1, d2, d3⟩ := cells4 A5.out.b
  go_wp2_with fail
  refine (HX2 _).mono ?_; rintro e w6 ⟨rfl, hb⟩; have A6 := Lib.hid (A5.out.mono hb); clear A5 hb HX2 c0 c1 c2 c3 d0 d1 d2 d3
  go_wp2_with fail
  refine (HC _).mono ?_; rintro e w7 ⟨rfl, rfl⟩; clear HC
  go_wp2_with fail
  go_ret2
  exact ⟨rfl, A6.out.below⟩

set_option maxRecDepth 100000 in
set_option maxHeartbeats 6400000 in
theorem rorder_33_01 (n1 n2 : Int) (t1 t2 : ByteArray) (ao1 ao2 : Option Addr) (m1 cap1 m2 cap2 : Nat) (hn1 : -9223372036854775808 ≤ n1 ∧ n1 ≤ 9223372036854775807) (hn2 : -9223372036854775808 ≤ n2 ∧ n2 ≤ 9223372036854775807) (hs1 : t1.size ≤ 140737488351232) (hs2 : t2.size ≤ 140737488351232) (w : World) (a1 a2 : Int) (h1 : numP 3 n1 t1.toList = (a1, false)) (h2 : numP 3 n2 t2.toList = (a2, true)) : Calls Tryd.prog 45 #[V4 3 n1 t1 ao1 m1 cap1, V4 3 n2 t2 ao2 m2 cap2] w (TwoPost w (Lib.compareBytes (textP 3 n1 t1.toList).1 (textP 3 n2 t2.toList).1, 0)) := by
  have HP1 : ∀ w, Calls Tryd.prog 68 #[V4 3 n1 t1 ao1 m1 cap1] w (BoolPost w true) := rplain_any 3 n1 t1 ao1 m1 cap1
  have HP2 : ∀ w, Calls Tryd.prog 68 #[V4 3 n2 t2 ao2 m2 cap2] w (BoolPost w true) := rplain_any 3 n2 t2 ao2 m2 cap2
  have HN1 : ∀ w, Calls Tryd.prog 31 #[.string t1] w fun e w' => e = .returned (.tuple #[.int .i64 a1, .bool false]) ∧ w = w' := fun w => by
    have h := rnumeric_any t1 hs1 w
    rw [show numericP t1.toList = (a1, false) from h1] at h
    exact h
  have HN2 : ∀ w, Calls Tryd.prog 31 #[.string t2] w fun e w' => e = .returned (.tuple #[.int .i64 a2, .bool true]) ∧ w = w' := fun w => by
    have h := rnumeric_any t2 hs2 w
    rw [show numericP t2.toList = (a2, true) from h2] at h
    exact h
  have HX1 : ∀ w, Calls Tryd.prog 38 #[V4 3 n1 t1 ao1 m1 cap1] w (TextErrPost w (textP 3 n1 t1.toList)) := rtext_any 3 n1 t1 ao1 m1 cap1 hn1.1 hn1.2
  have HX2 : ∀ w, Calls Tryd.prog 38 #[V4 3 n2 t2 ao2 m2 cap2] w (TextErrPost w (textP 3 n2 t2.toList)) := rtext_any 3 n2 t2 ao2 m2 cap2 hn2.1 hn2.2
  obtain ⟨⟨x1, e1⟩, hx1⟩ : ∃ x, x = textP 3 n1 t1.toList := ⟨_, rfl⟩
  obtain ⟨⟨x2, e2⟩, hx2⟩ : ∃ x, x = textP 3 n2 t2.toList := ⟨_, rfl⟩
  rw [← hx1] at HX1
  rw [← hx2] at HX2
  rw [← hx1, ← hx2]
  clear hx1 hx2 h1 h2
  obtain ⟨r, hr⟩ : ∃ r, r = Lib.compareBytes x1 x2 := ⟨_, rfl⟩
  have HC : ∀ w, Calls Tryd.prog 70 #[.string (str x1), .string (str x2)] w fun e w' => e = .returned (.int .i64 r) ∧ w = w' := fun w => by
    have h := rtexts_any (str x1) (str x2) w
    rw [str_toList, str_toList, ← hr] at h
    exact h
  show Calls Tryd.prog 45 #[V4 3 n1 t1 ao1 m1 cap1, V4 3 n2 t2 ao2 m2 cap2] w (TwoPost w (Lib.compareBytes x1 x2, 0))
  rw [← hr]
  clear hr
  have A0 := Lib.hid (at2_start w (VB 3 n1 t1 ao1 m1 cap1) (VB 3 n2 t2 ao2 m2 cap2))
  have hall := And.intro (And.intro hn1 hn2) (And.intro hs1 hs2)
  clear hall hn1 hn2 hs1 hs2
  go_enter Tryd.func45, Tryd.ntmps45
  go_wp2_with fail
  refine (HP1 _).mono ?_; rintro e w1 ⟨rfl, hb⟩; have A1 := Lib.hid (A0.out.mono hb); clear A0 hb HP1; obtain ⟨c0, c1, c2, c3⟩ := cells4 A1.out.a; obtain ⟨d0, d1, d2, d3⟩ := cells4 A1.out.b
  go_wp2_with fail
  refine (HP2 _).mono ?_; rintro e w2 ⟨rfl, hb⟩; have A2 := Lib.hid (A1.out.mono hb); clear A1 hb HP2 c0 c1 c2 c3 d0 d1 d2 d3; obtain ⟨c0, c1, c2, c3⟩ := cells4 A2.out.a; obtain ⟨d0, d1, d2, d3⟩ := cells4 A2.out.b
  go_wp2_with fail
  refine (HN1 _).mono ?_; rintro e w3 ⟨rfl, rfl⟩; clear HN1
  go_wp2_with fail
  refine (HN2 _).mono ?_; rintro e w4 ⟨rfl, rfl⟩; clear HN2
  go_wp2_with fail
  refine (HX1 _).mono ?_; rintro e w5 ⟨rfl, hb⟩; have A5 := Lib.hid (A2.out.mono hb); clear A2 hb HX1 c0 c1 c2 c3 d0 d1 d2 d3; obtain ⟨c0, c1, c2, c3⟩ := cells4 A5.out.a; obtain ⟨d0, d1, d2, d3⟩ := cells4 A5.out.b
  go_wp2_with fail
  refine (HX2 _).mono ?_; rintro e w6 ⟨rfl, hb⟩; have A6 := Lib.hid (A5.out.mono hb); clear A5 hb HX2 c0 c1 c2 c3 d0 d1 d2 d3
  go_wp2_with fail
  refine (HC _).mono ?_; rintro e w7 ⟨rfl, rfl⟩; clear HC
  go_wp2_with fail
  go_ret2
  exact ⟨rfl, A6.out.below⟩

set_option maxRecDepth 100000 in
set_option maxHeartbeats 6400000 in
theorem rorder_33_00 (n1 n2 : Int) (t1 t2 : ByteArray) (ao1 ao2 : Option Addr) (m1 cap1 m2 cap2 : Nat) (hn1 : -9223372036854775808 ≤ n1 ∧ n1 ≤ 9223372036854775807) (hn2 : -9223372036854775808 ≤ n2 ∧ n2 ≤ 9223372036854775807) (hs1 : t1.size ≤ 140737488351232) (hs2 : t2.size ≤ 140737488351232) (w : World) (a1 a2 : Int) (h1 : numP 3 n1 t1.toList = (a1, false)) (h2 : numP 3 n2 t2.toList = (a2, false)) : Calls Tryd.prog 45 #[V4 3 n1 t1 ao1 m1 cap1, V4 3 n2 t2 ao2 m2 cap2] w (TwoPost w (Lib.compareBytes (textP 3 n1 t1.toList).1 (textP 3 n2 t2.toList).1, 0)) := by
  have HP1 : ∀ w, Calls Tryd.prog 68 #[V4 3 n1 t1 ao1 m1 cap1] w (BoolPost w true) := rplain_any 3 n1 t1 ao1 m1 cap1
  have HP2 : ∀ w, Calls Tryd.prog 68 #[V4 3 n2 t2 ao2 m2 cap2] w (BoolPost w true) := rplain_any 3 n2 t2 ao2 m2 cap2
  have HN1 : ∀ w, Calls Tryd.prog 31 #[.string t1] w fun e w' => e = .returned (.tuple #[.int .i64 a1, .bool false]) ∧ w = w' := fun w => by
    have h := rnumeric_any t1 hs1 w
    rw [show numericP t1.toList = (a1, false) from h1] at h
    exact h
  have HN2 : ∀ w, Calls Tryd.prog 31 #[.string t2] w fun e w' => e = .returned (.tuple #[.int .i64 a2, .bool false]) ∧ w = w' := fun w => by
    have h := rnumeric_any t2 hs2 w
    rw [show numericP t2.toList = (a2, false) from h2] at h
    exact h
  have HX1 : ∀ w, Calls Tryd.prog 38 #[V4 3 n1 t1 ao1 m1 cap1] w (TextErrPost w (textP 3 n1 t1.toList)) := rtext_any 3 n1 t1 ao1 m1 cap1 hn1.1 hn1.2
  have HX2 : ∀ w, Calls Tryd.prog 38 #[V4 3 n2 t2 ao2 m2 cap2] w (TextErrPost w (textP 3 n2 t2.toList)) := rtext_any 3 n2 t2 ao2 m2 cap2 hn2.1 hn2.2
  obtain ⟨⟨x1, e1⟩, hx1⟩ : ∃ x, x = textP 3 n1 t1.toList := ⟨_, rfl⟩
  obtain ⟨⟨x2, e2⟩, hx2⟩ : ∃ x, x = textP 3 n2 t2.toList := ⟨_, rfl⟩
  rw [← hx1] at HX1
  rw [← hx2] at HX2
  rw [← hx1, ← hx2]
  clear hx1 hx2 h1 h2
  obtain ⟨r, hr⟩ : ∃ r, r = Lib.compareBytes x1 x2 := ⟨_, rfl⟩
  have HC : ∀ w, Calls Tryd.prog 70 #[.string (str x1), .string (str x2)] w fun e w' => e = .returned (.int .i64 r) ∧ w = w' := fun w => by
    have h := rtexts_any (str x1) (str x2) w
    rw [str_toList, str_toList, ← hr] at h
    exact h
  show Calls Tryd.prog 45 #[V4 3 n1 t1 ao1 m1 cap1, V4 3 n2 t2 ao2 m2 cap2] w (TwoPost w (Lib.compareBytes x1 x2, 0))
  rw [← hr]
  clear hr
  have A0 := Lib.hid (at2_start w (VB 3 n1 t1 ao1 m1 cap1) (VB 3 n2 t2 ao2 m2 cap2))
  have hall := And.intro (And.intro hn1 hn2) (And.intro hs1 hs2)
  clear hall hn1 hn2 hs1 hs2
  go_enter Tryd.func45, Tryd.ntmps45
  go_wp2_with fail
  refine (HP1 _).mono ?_; rintro e w1 ⟨rfl, hb⟩; have A1 := Lib.hid (A0.out.mono hb); clear A0 hb HP1; obtain ⟨c0, c1, c2, c3⟩ := cells4 A1.out.a; obtain ⟨d0, d1, d2, d3⟩ := cells4 A1.out.b
  go_wp2_with fail
  refine (HP2 _).mono ?_; rintro e w2 ⟨rfl, hb⟩; have A2 := Lib.hid (A1.out.mono hb); clear A1 hb HP2 c0 c1 c2 c3 d0 d1 d2 d3; obtain ⟨c0, c1, c2, c3⟩ := cells4 A2.out.a; obtain ⟨d0, d1, d2, d3⟩ := cells4 A2.out.b
  go_wp2_with fail
  refine (HN1 _).mono ?_; rintro e w3 ⟨rfl, rfl⟩; clear HN1
  go_wp2_with fail
  refine (HN2 _).mono ?_; rintro e w4 ⟨rfl, rfl⟩; clear HN2
  go_wp2_with fail
  refine (HX1 _).mono ?_; rintro e w5 ⟨rfl, hb⟩; have A5 := Lib.hid (A2.out.mono hb); clear A2 hb HX1 c0 c1 c2 c3 d0 d1 d2 d3; obtain ⟨c0, c1, c2, c3⟩ := cells4 A5.out.a; obtain ⟨d0, d1, d2, d3⟩ := cells4 A5.out.b
  go_wp2_with fail
  refine (HX2 _).mono ?_; rintro e w6 ⟨rfl, hb⟩; have A6 := Lib.hid (A5.out.mono hb); clear A5 hb HX2 c0 c1 c2 c3 d0 d1 d2 d3
  go_wp2_with fail
  refine (HC _).mono ?_; rintro e w7 ⟨rfl, rfl⟩; clear HC
  go_wp2_with fail
  go_ret2
  exact ⟨rfl, A6.out.below⟩
end Go.Proofs.YtgpdhmgbmhfooaaDoor
