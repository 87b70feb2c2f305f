/-
  The walks of Same, both sides. MADE BY wip/genSame06.py.
-/
import Derived.Test.YtgpdhmgbmhfooaaDoorOrderBase06
namespace Go.Proofs.YtgpdhmgbmhfooaaDoor
open Go.RowKit

theorem ne_beq (a b : Int) : ((a != 0) == (b != 0)) = ((a == 0) == (b == 0)) := by cases h1 : (a == 0) <;> cases h2 : (b == 0) <;> simp [bne, h1, h2]
/-- Whether two values are the same. -/
def sameP (k1 n1 : Int) (t1 : Bs) (k2 n2 : Int) (t2 : Bs) : Bool :=
  if plainP k1 = false then false else if k1 ≠ k2 then false else if k1 = 0 then true else if k1 = 1 then (n1 != 0) == (n2 != 0) else if k1 = 2 then n1 == n2 else t1 == t2

set_option maxRecDepth 100000 in
set_option maxHeartbeats 6400000 in
theorem same_np (k1 k2 : Int) (n1 n2 : Int) (t1 t2 : ByteArray) (ao1 ao2 : Option Addr) (m1 cap1 m2 cap2 : Nat) (w : World) (h1 : plainP k1 = false) : Calls Tryd.prog 46 #[V4 k1 n1 t1 ao1 m1 cap1, V4 k2 n2 t2 ao2 m2 cap2] w (BoolPost w false) := by
  have HP1 : ∀ w, Calls Tryd.prog 63 #[V4 k1 n1 t1 ao1 m1 cap1] w (BoolPost w false) := fun w => by rw [← h1]; exact plain_any k1 n1 t1 ao1 m1 cap1 w
  have A0 := Lib.hid (at2_start w (VB k1 n1 t1 ao1 m1 cap1) (VB k2 n2 t2 ao2 m2 cap2))
  clear h1
  go_enter Tryd.func46, Tryd.ntmps46
  go_wp2_with fail
  refine (HP1 _).mono ?_; rintro e w1 ⟨rfl, hb⟩; have A1 := Lib.hid (A0.out.mono hb); clear A0 hb HP1; obtain ⟨c0, c1, c2, c3⟩ := cells4 A1.out.a; obtain ⟨d0, d1, d2, d3⟩ := cells4 A1.out.b
  go_wp2_with fail
  go_ret
  exact ⟨rfl, A1.out.below⟩

set_option maxRecDepth 100000 in
set_option maxHeartbeats 6400000 in
theorem same_ne (k1 k2 : Int) (n1 n2 : Int) (t1 t2 : ByteArray) (ao1 ao2 : Option Addr) (m1 cap1 m2 cap2 : Nat) (w : World) (h1 : plainP k1 = true) (h2 : k1 ≠ k2) : Calls Tryd.prog 46 #[V4 k1 n1 t1 ao1 m1 cap1, V4 k2 n2 t2 ao2 m2 cap2] w (BoolPost w false) := by
  have HP1 : ∀ w, Calls Tryd.prog 63 #[V4 k1 n1 t1 ao1 m1 cap1] w (BoolPost w true) := fun w => by rw [← h1]; exact plain_any k1 n1 t1 ao1 m1 cap1 w
  have A0 := Lib.hid (at2_start w (VB k1 n1 t1 ao1 m1 cap1) (VB k2 n2 t2 ao2 m2 cap2))
  have q : (k1 == k2) = false := by simp [h2]
  clear h1 h2
  go_enter Tryd.func46, Tryd.ntmps46
  go_wp2_with fail
  refine (HP1 _).mono ?_; rintro e w1 ⟨rfl, hb⟩; have A1 := Lib.hid (A0.out.mono hb); clear A0 hb HP1; obtain ⟨c0, c1, c2, c3⟩ := cells4 A1.out.a; obtain ⟨d0, d1, d2, d3⟩ := cells4 A1.out.b
  go_wp2_with fail
  go_ret
  exact ⟨rfl, A1.out.below⟩

set_option maxRecDepth 100000 in
set_option maxHeartbeats 6400000 in
theorem same_0 (n1 n2 : Int) (t1 t2 : ByteArray) (ao1 ao2 : Option Addr) (m1 cap1 m2 cap2 : Nat) (w : World) : Calls Tryd.prog 46 #[V4 0 n1 t1 ao1 m1 cap1, V4 0 n2 t2 ao2 m2 cap2] w (BoolPost w true) := by
  have HP1 : ∀ w, Calls Tryd.prog 63 #[V4 0 n1 t1 ao1 m1 cap1] w (BoolPost w true) := plain_any 0 n1 t1 ao1 m1 cap1
  have A0 := Lib.hid (at2_start w (VB 0 n1 t1 ao1 m1 cap1) (VB 0 n2 t2 ao2 m2 cap2))
  go_enter Tryd.func46, Tryd.ntmps46
  go_wp2_with fail
  refine (HP1 _).mono ?_; rintro e w1 ⟨rfl, hb⟩; have A1 := Lib.hid (A0.out.mono hb); clear A0 hb HP1; obtain ⟨c0, c1, c2, c3⟩ := cells4 A1.out.a; obtain ⟨d0, d1, d2, d3⟩ := cells4 A1.out.b
  go_wp2_with fail
  go_ret
  exact ⟨rfl, A1.out.below⟩

set_option maxRecDepth 100000 in
set_option maxHeartbeats 6400000 in
theorem same_1 (n1 n2 : Int) (t1 t2 : ByteArray) (ao1 ao2 : Option Addr) (m1 cap1 m2 cap2 : Nat) (w : World) : Calls Tryd.prog 46 #[V4 1 n1 t1 ao1 m1 cap1, V4 1 n2 t2 ao2 m2 cap2] w (BoolPost w ((n1 != 0) == (n2 != 0))) := by
  have HP1 : ∀ w, Calls Tryd.prog 63 #[V4 1 n1 t1 ao1 m1 cap1] w (BoolPost w true) := plain_any 1 n1 t1 ao1 m1 cap1
  have A0 := Lib.hid (at2_start w (VB 1 n1 t1 ao1 m1 cap1) (VB 1 n2 t2 ao2 m2 cap2))
  have HT1 : ∀ w, Calls Tryd.prog 39 #[V4 1 n1 t1 ao1 m1 cap1] w (BoolPost w (n1 != 0)) := truth_any 1 n1 t1 ao1 m1 cap1
  have HT2 : ∀ w, Calls Tryd.prog 39 #[V4 1 n2 t2 ao2 m2 cap2] w (BoolPost w (n2 != 0)) := truth_any 1 n2 t2 ao2 m2 cap2
  generalize (n1 != 0) = b1 at HT1 ⊢
  generalize (n2 != 0) = b2 at HT2 ⊢
  go_enter Tryd.func46, Tryd.ntmps46
  go_wp2_with fail
  refine (HP1 _).mono ?_; rintro e w1 ⟨rfl, hb⟩; have A1 := Lib.hid (A0.out.mono hb); clear A0 hb HP1; obtain ⟨c0, c1, c2, c3⟩ := cells4 A1.out.a; obtain ⟨d0, d1, d2, d3⟩ := cells4 A1.out.b
  go_wp2_with fail
  have A1d := Lib.hid A1.out.drew; clear A1 c0 c1 c2 c3 d0 d1 d2 d3; obtain ⟨c0, c1, c2, c3⟩ := cells4 A1d.out.a; obtain ⟨d0, d1, d2, d3⟩ := cells4 A1d.out.b
  go_region_with (first
    | (go_at_call_of 39 t1; refine (HT1 _).mono ?_; rintro e w3 ⟨rfl, hb⟩; have A3 := Lib.hid (A1d.out.mono hb); clear hb; obtain ⟨f0, f1, f2, f3⟩ := cells4 A3.out.b)
    | (go_at_call_of 39 t2; refine (HT2 _).mono ?_; rintro e w4 ⟨rfl, hb⟩; have A4 := Lib.hid (A3.out.mono hb); clear hb))
  all_goals go_wp2_with fail
  all_goals go_ret
  all_goals exact ⟨rfl, A4.out.below⟩

set_option maxRecDepth 100000 in
set_option maxHeartbeats 6400000 in
theorem same_2 (n1 n2 : Int) (t1 t2 : ByteArray) (ao1 ao2 : Option Addr) (m1 cap1 m2 cap2 : Nat) (w : World) : Calls Tryd.prog 46 #[V4 2 n1 t1 ao1 m1 cap1, V4 2 n2 t2 ao2 m2 cap2] w (BoolPost w (n1 == n2)) := by
  have HP1 : ∀ w, Calls Tryd.prog 63 #[V4 2 n1 t1 ao1 m1 cap1] w (BoolPost w true) := plain_any 2 n1 t1 ao1 m1 cap1
  have A0 := Lib.hid (at2_start w (VB 2 n1 t1 ao1 m1 cap1) (VB 2 n2 t2 ao2 m2 cap2))
  go_enter Tryd.func46, Tryd.ntmps46
  go_wp2_with fail
  refine (HP1 _).mono ?_; rintro e w1 ⟨rfl, hb⟩; have A1 := Lib.hid (A0.out.mono hb); clear A0 hb HP1; obtain ⟨c0, c1, c2, c3⟩ := cells4 A1.out.a; obtain ⟨d0, d1, d2, d3⟩ := cells4 A1.out.b
  go_wp2_with fail
  go_ret
  exact ⟨rfl, A1.out.below⟩

set_option maxRecDepth 100000 in
set_option maxHeartbeats 6400000 in
theorem same_3 (n1 n2 : Int) (t1 t2 : ByteArray) (ao1 ao2 : Option Addr) (m1 cap1 m2 cap2 : Nat) (w : World) : Calls Tryd.prog 46 #[V4 3 n1 t1 ao1 m1 cap1, V4 3 n2 t2 ao2 m2 cap2] w (BoolPost w (t1.toList == t2.toList)) := by
  have HP1 : ∀ w, Calls Tryd.prog 63 #[V4 3 n1 t1 ao1 m1 cap1] w (BoolPost w true) := plain_any 3 n1 t1 ao1 m1 cap1
  have A0 := Lib.hid (at2_start w (VB 3 n1 t1 ao1 m1 cap1) (VB 3 n2 t2 ao2 m2 cap2))
  go_enter Tryd.func46, Tryd.ntmps46
  go_wp2_with fail
  refine (HP1 _).mono ?_; rintro e w1 ⟨rfl, hb⟩; have A1 := Lib.hid (A0.out.mono hb); clear A0 hb HP1; obtain ⟨c0, c1, c2, c3⟩ := cells4 A1.out.a; obtain ⟨d0, d1, d2, d3⟩ := cells4 A1.out.b
  go_wp2_with fail
  go_ret
  exact ⟨rfl, A1.out.below⟩

theorem same_any (k1 n1 : Int) (t1 : ByteArray) (ao1 : Option Addr) (m1 cap1 : Nat) (k2 n2 : Int) (t2 : ByteArray) (ao2 : Option Addr) (m2 cap2 : Nat) (w : World) : Calls Tryd.prog 46 #[V4 k1 n1 t1 ao1 m1 cap1, V4 k2 n2 t2 ao2 m2 cap2] w (BoolPost w (sameP k1 n1 t1.toList k2 n2 t2.toList)) := by
  cases p1 : plainP k1 with
  | false =>
    have e : sameP k1 n1 t1.toList k2 n2 t2.toList = false := by unfold sameP; rw [if_pos p1]
    rw [e]
    exact same_np k1 k2 n1 n2 t1 t2 ao1 ao2 m1 cap1 m2 cap2 w p1
  | true =>
    by_cases h2 : k1 = k2
    · subst h2
      have hk : k1 = 0 ∨ k1 = 1 ∨ k1 = 2 ∨ k1 = 3 := by unfold plainP at p1; simp at p1; omega
      rcases hk with rfl | rfl | rfl | rfl
      · exact same_0 n1 n2 t1 t2 ao1 ao2 m1 cap1 m2 cap2 w
      · show Calls Tryd.prog 46 #[V4 1 n1 t1 ao1 m1 cap1, V4 1 n2 t2 ao2 m2 cap2] w (BoolPost w ((n1 != 0) == (n2 != 0)))
        
        exact same_1 n1 n2 t1 t2 ao1 ao2 m1 cap1 m2 cap2 w
      · exact same_2 n1 n2 t1 t2 ao1 ao2 m1 cap1 m2 cap2 w
      · exact same_3 n1 n2 t1 t2 ao1 ao2 m1 cap1 m2 cap2 w
    · have e : sameP k1 n1 t1.toList k2 n2 t2.toList = false := by unfold sameP; rw [p1, if_neg (by decide), if_pos h2]
      rw [e]
      exact same_ne k1 k2 n1 n2 t1 t2 ao1 ao2 m1 cap1 m2 cap2 w p1 h2

set_option maxRecDepth 100000 in
set_option maxHeartbeats 6400000 in
theorem rsame_np (k1 k2 : Int) (n1 n2 : Int) (t1 t2 : ByteArray) (ao1 ao2 : Option Addr) (m1 cap1 m2 cap2 : Nat) (w : World) (h1 : plainP k1 = false) : Calls Tryd.prog 47 #[V4 k1 n1 t1 ao1 m1 cap1, V4 k2 n2 t2 ao2 m2 cap2] w (BoolPost w false) := by
  have HP1 : ∀ w, Calls Tryd.prog 68 #[V4 k1 n1 t1 ao1 m1 cap1] w (BoolPost w false) := fun w => by rw [← h1]; exact rplain_any k1 n1 t1 ao1 m1 cap1 w
  have A0 := Lib.hid (at2_start w (VB k1 n1 t1 ao1 m1 cap1) (VB k2 n2 t2 ao2 m2 cap2))
  clear h1
  go_enter Tryd.func47, Tryd.ntmps47
  go_wp2_with fail
  refine (HP1 _).mono ?_; rintro e w1 ⟨rfl, hb⟩; have A1 := Lib.hid (A0.out.mono hb); clear A0 hb HP1; obtain ⟨c0, c1, c2, c3⟩ := cells4 A1.out.a; obtain ⟨d0, d1, d2, d3⟩ := cells4 A1.out.b
  go_wp2_with fail
  go_ret
  exact ⟨rfl, A1.out.below⟩

set_option maxRecDepth 100000 in
set_option maxHeartbeats 6400000 in
theorem rsame_ne (k1 k2 : Int) (n1 n2 : Int) (t1 t2 : ByteArray) (ao1 ao2 : Option Addr) (m1 cap1 m2 cap2 : Nat) (w : World) (h1 : plainP k1 = true) (h2 : k1 ≠ k2) : Calls Tryd.prog 47 #[V4 k1 n1 t1 ao1 m1 cap1, V4 k2 n2 t2 ao2 m2 cap2] w (BoolPost w false) := by
  have HP1 : ∀ w, Calls Tryd.prog 68 #[V4 k1 n1 t1 ao1 m1 cap1] w (BoolPost w true) := fun w => by rw [← h1]; exact rplain_any k1 n1 t1 ao1 m1 cap1 w
  have A0 := Lib.hid (at2_start w (VB k1 n1 t1 ao1 m1 cap1) (VB k2 n2 t2 ao2 m2 cap2))
  have q : (k1 == k2) = false := by simp [h2]
  clear h1 h2
  go_enter Tryd.func47, Tryd.ntmps47
  go_wp2_with fail
  refine (HP1 _).mono ?_; rintro e w1 ⟨rfl, hb⟩; have A1 := Lib.hid (A0.out.mono hb); clear A0 hb HP1; obtain ⟨c0, c1, c2, c3⟩ := cells4 A1.out.a; obtain ⟨d0, d1, d2, d3⟩ := cells4 A1.out.b
  go_wp2_with fail
  go_ret
  exact ⟨rfl, A1.out.below⟩

set_option maxRecDepth 100000 in
set_option maxHeartbeats 6400000 in
theorem rsame_0 (n1 n2 : Int) (t1 t2 : ByteArray) (ao1 ao2 : Option Addr) (m1 cap1 m2 cap2 : Nat) (w : World) : Calls Tryd.prog 47 #[V4 0 n1 t1 ao1 m1 cap1, V4 0 n2 t2 ao2 m2 cap2] w (BoolPost w true) := by
  have HP1 : ∀ w, Calls Tryd.prog 68 #[V4 0 n1 t1 ao1 m1 cap1] w (BoolPost w true) := rplain_any 0 n1 t1 ao1 m1 cap1
  have A0 := Lib.hid (at2_start w (VB 0 n1 t1 ao1 m1 cap1) (VB 0 n2 t2 ao2 m2 cap2))
  go_enter Tryd.func47, Tryd.ntmps47
  go_wp2_with fail
  refine (HP1 _).mono ?_; rintro e w1 ⟨rfl, hb⟩; have A1 := Lib.hid (A0.out.mono hb); clear A0 hb HP1; obtain ⟨c0, c1, c2, c3⟩ := cells4 A1.out.a; obtain ⟨d0, d1, d2, d3⟩ := cells4 A1.out.b
  go_wp2_with fail
  go_ret
  exact ⟨rfl, A1.out.below⟩

set_option maxRecDepth 100000 in
set_option maxHeartbeats 6400000 in
theorem rsame_1 (n1 n2 : Int) (t1 t2 : ByteArray) (ao1 ao2 : Option Addr) (m1 cap1 m2 cap2 : Nat) (w : World) : Calls Tryd.prog 47 #[V4 1 n1 t1 ao1 m1 cap1, V4 1 n2 t2 ao2 m2 cap2] w (BoolPost w ((n1 == 0) == (n2 == 0))) := by
  have HP1 : ∀ w, Calls Tryd.prog 68 #[V4 1 n1 t1 ao1 m1 cap1] w (BoolPost w true) := rplain_any 1 n1 t1 ao1 m1 cap1
  have A0 := Lib.hid (at2_start w (VB 1 n1 t1 ao1 m1 cap1) (VB 1 n2 t2 ao2 m2 cap2))
  go_enter Tryd.func47, Tryd.ntmps47
  go_wp2_with fail
  refine (HP1 _).mono ?_; rintro e w1 ⟨rfl, hb⟩; have A1 := Lib.hid (A0.out.mono hb); clear A0 hb HP1; obtain ⟨c0, c1, c2, c3⟩ := cells4 A1.out.a; obtain ⟨d0, d1, d2, d3⟩ := cells4 A1.out.b
  go_wp2_with fail
  go_ret
  exact ⟨rfl, A1.out.below⟩

set_option maxRecDepth 100000 in
set_option maxHeartbeats 6400000 in
theorem rsame_2 (n1 n2 : Int) (t1 t2 : ByteArray) (ao1 ao2 : Option Addr) (m1 cap1 m2 cap2 : Nat) (w : World) : Calls Tryd.prog 47 #[V4 2 n1 t1 ao1 m1 cap1, V4 2 n2 t2 ao2 m2 cap2] w (BoolPost w (n1 == n2)) := by
  have HP1 : ∀ w, Calls Tryd.prog 68 #[V4 2 n1 t1 ao1 m1 cap1] w (BoolPost w true) := rplain_any 2 n1 t1 ao1 m1 cap1
  have A0 := Lib.hid (at2_start w (VB 2 n1 t1 ao1 m1 cap1) (VB 2 n2 t2 ao2 m2 cap2))
  go_enter Tryd.func47, Tryd.ntmps47
  go_wp2_with fail
  refine (HP1 _).mono ?_; rintro e w1 ⟨rfl, hb⟩; have A1 := Lib.hid (A0.out.mono hb); clear A0 hb HP1; obtain ⟨c0, c1, c2, c3⟩ := cells4 A1.out.a; obtain ⟨d0, d1, d2, d3⟩ := cells4 A1.out.b
  go_wp2_with fail
  go_ret
  exact ⟨rfl, A1.out.below⟩

set_option maxRecDepth 100000 in
set_option maxHeartbeats 6400000 in
theorem rsame_3 (n1 n2 : Int) (t1 t2 : ByteArray) (ao1 ao2 : Option Addr) (m1 cap1 m2 cap2 : Nat) (w : World) : Calls Tryd.prog 47 #[V4 3 n1 t1 ao1 m1 cap1, V4 3 n2 t2 ao2 m2 cap2] w (BoolPost w (t1.toList == t2.toList)) := by
  have HP1 : ∀ w, Calls Tryd.prog 68 #[V4 3 n1 t1 ao1 m1 cap1] w (BoolPost w true) := rplain_any 3 n1 t1 ao1 m1 cap1
  have A0 := Lib.hid (at2_start w (VB 3 n1 t1 ao1 m1 cap1) (VB 3 n2 t2 ao2 m2 cap2))
  go_enter Tryd.func47, Tryd.ntmps47
  go_wp2_with fail
  refine (HP1 _).mono ?_; rintro e w1 ⟨rfl, hb⟩; have A1 := Lib.hid (A0.out.mono hb); clear A0 hb HP1; obtain ⟨c0, c1, c2, c3⟩ := cells4 A1.out.a; obtain ⟨d0, d1, d2, d3⟩ := cells4 A1.out.b
  go_wp2_with fail
  go_ret
  exact ⟨rfl, A1.out.below⟩

theorem rsame_any (k1 n1 : Int) (t1 : ByteArray) (ao1 : Option Addr) (m1 cap1 : Nat) (k2 n2 : Int) (t2 : ByteArray) (ao2 : Option Addr) (m2 cap2 : Nat) (w : World) : Calls Tryd.prog 47 #[V4 k1 n1 t1 ao1 m1 cap1, V4 k2 n2 t2 ao2 m2 cap2] w (BoolPost w (sameP k1 n1 t1.toList k2 n2 t2.toList)) := by
  cases p1 : plainP k1 with
  | false =>
    have e : sameP k1 n1 t1.toList k2 n2 t2.toList = false := by unfold sameP; rw [if_pos p1]
    rw [e]
    exact rsame_np k1 k2 n1 n2 t1 t2 ao1 ao2 m1 cap1 m2 cap2 w p1
  | true =>
    by_cases h2 : k1 = k2
    · subst h2
      have hk : k1 = 0 ∨ k1 = 1 ∨ k1 = 2 ∨ k1 = 3 := by unfold plainP at p1; simp at p1; omega
      rcases hk with rfl | rfl | rfl | rfl
      · exact rsame_0 n1 n2 t1 t2 ao1 ao2 m1 cap1 m2 cap2 w
      · show Calls Tryd.prog 47 #[V4 1 n1 t1 ao1 m1 cap1, V4 1 n2 t2 ao2 m2 cap2] w (BoolPost w ((n1 != 0) == (n2 != 0)))
        rw [ne_beq]
        exact rsame_1 n1 n2 t1 t2 ao1 ao2 m1 cap1 m2 cap2 w
      · exact rsame_2 n1 n2 t1 t2 ao1 ao2 m1 cap1 m2 cap2 w
      · exact rsame_3 n1 n2 t1 t2 ao1 ao2 m1 cap1 m2 cap2 w
    · have e : sameP k1 n1 t1.toList k2 n2 t2.toList = false := by unfold sameP; rw [p1, if_neg (by decide), if_pos h2]
      rw [e]
      exact rsame_ne k1 k2 n1 n2 t1 t2 ao1 ao2 m1 cap1 m2 cap2 w p1 h2
end Go.Proofs.YtgpdhmgbmhfooaaDoor
