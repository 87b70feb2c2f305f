/-
  The walks of Order, at any two values. MADE BY wip/genOrder06.py.
-/
import Derived.Test.YtgpdhmgbmhfooaaDoorOrderA06
import Derived.Test.YtgpdhmgbmhfooaaDoorOrderB06
import Derived.Test.YtgpdhmgbmhfooaaDoorOrderC06
import Derived.Test.YtgpdhmgbmhfooaaDoorOrderD06
import Derived.Test.YtgpdhmgbmhfooaaDoorOrderE06
import Derived.Test.YtgpdhmgbmhfooaaDoorOrderF06
namespace Go.Proofs.YtgpdhmgbmhfooaaDoor
open Go.RowKit

set_option maxRecDepth 100000 in
set_option maxHeartbeats 6400000 in
theorem order_np1 (k1 k2 n1 n2 : Int) (t1 t2 : ByteArray) (ao1 ao2 : Option Addr) (m1 cap1 m2 cap2 : Nat) (w : World) (h1 : plainP k1 = false) : Calls Tryd.prog 36 #[V4 k1 n1 t1 ao1 m1 cap1, V4 k2 n2 t2 ao2 m2 cap2] w (TwoPost w (0, 15)) := by
  have HP1 : ∀ w, Calls Tryd.prog 63 #[V4 k1 n1 t1 ao1 m1 cap1] w (BoolPost w false) := fun w => by rw [← h1]; exact plain_any k1 n1 t1 ao1 m1 cap1 w
  have A0 := Lib.hid (at2_start w (VB k1 n1 t1 ao1 m1 cap1) (VB k2 n2 t2 ao2 m2 cap2))
  clear h1
  go_enter Tryd.func36, Tryd.ntmps36
  go_wp2_with fail
  refine (HP1 _).mono ?_; rintro e w1 ⟨rfl, hb⟩; have A1 := Lib.hid (A0.out.mono hb); clear A0 hb HP1; obtain ⟨c0, c1, c2, c3⟩ := cells4 A1.out.a; obtain ⟨d0, d1, d2, d3⟩ := cells4 A1.out.b
  go_wp2_with fail
  go_ret2
  exact ⟨rfl, A1.out.below⟩

set_option maxRecDepth 100000 in
set_option maxHeartbeats 6400000 in
theorem order_np2 (k1 k2 n1 n2 : Int) (t1 t2 : ByteArray) (ao1 ao2 : Option Addr) (m1 cap1 m2 cap2 : Nat) (w : World) (h1 : plainP k1 = true) (h2 : plainP k2 = false) : Calls Tryd.prog 36 #[V4 k1 n1 t1 ao1 m1 cap1, V4 k2 n2 t2 ao2 m2 cap2] w (TwoPost w (0, 15)) := by
  have HP1 : ∀ w, Calls Tryd.prog 63 #[V4 k1 n1 t1 ao1 m1 cap1] w (BoolPost w true) := fun w => by rw [← h1]; exact plain_any k1 n1 t1 ao1 m1 cap1 w
  have HP2 : ∀ w, Calls Tryd.prog 63 #[V4 k2 n2 t2 ao2 m2 cap2] w (BoolPost w false) := fun w => by rw [← h2]; exact plain_any k2 n2 t2 ao2 m2 cap2 w
  have A0 := Lib.hid (at2_start w (VB k1 n1 t1 ao1 m1 cap1) (VB k2 n2 t2 ao2 m2 cap2))
  clear h1 h2
  go_enter Tryd.func36, Tryd.ntmps36
  go_wp2_with fail
  refine (HP1 _).mono ?_; rintro e w1 ⟨rfl, hb⟩; have A1 := Lib.hid (A0.out.mono hb); clear A0 hb HP1; obtain ⟨c0, c1, c2, c3⟩ := cells4 A1.out.a; obtain ⟨d0, d1, d2, d3⟩ := cells4 A1.out.b
  go_wp2_with fail
  refine (HP2 _).mono ?_; rintro e w2 ⟨rfl, hb⟩; have A2 := Lib.hid (A1.out.mono hb); clear A1 hb HP2 c0 c1 c2 c3 d0 d1 d2 d3
  go_wp2_with fail
  go_ret2
  exact ⟨rfl, A2.out.below⟩

theorem plain_cases {k : Int} (h : plainP k = true) : k = 0 ∨ k = 1 ∨ k = 2 ∨ k = 3 := by
  unfold plainP at h
  simp at h
  omega
theorem order_any (k1 n1 : Int) (t1 : ByteArray) (ao1 : Option Addr) (m1 cap1 : Nat) (k2 n2 : Int) (t2 : ByteArray) (ao2 : Option Addr) (m2 cap2 : Nat) (hn1 : -9223372036854775808 ≤ n1 ∧ n1 ≤ 9223372036854775807) (hn2 : -9223372036854775808 ≤ n2 ∧ n2 ≤ 9223372036854775807) (hs1 : t1.size ≤ 140737488351232) (hs2 : t2.size ≤ 140737488351232) (w : World) (ht : Tabs w) : Calls Tryd.prog 36 #[V4 k1 n1 t1 ao1 m1 cap1, V4 k2 n2 t2 ao2 m2 cap2] w (TwoPost w (orderP k1 n1 t1.toList m1 k2 n2 t2.toList m2)) := by
  cases p1 : plainP k1 with
  | false =>
    have e : orderP k1 n1 t1.toList m1 k2 n2 t2.toList m2 = (0, 15) := by unfold orderP; rw [p1]; rfl
    rw [e]
    exact order_np1 k1 k2 n1 n2 t1 t2 ao1 ao2 m1 cap1 m2 cap2 w p1
  | true =>
    cases p2 : plainP k2 with
    | false =>
      have e : orderP k1 n1 t1.toList m1 k2 n2 t2.toList m2 = (0, 15) := by unfold orderP; rw [p1, p2]; rfl
      rw [e]
      exact order_np2 k1 k2 n1 n2 t1 t2 ao1 ao2 m1 cap1 m2 cap2 w p1 p2
    | true =>
      rcases plain_cases p1 with rfl | rfl | rfl | rfl <;> rcases plain_cases p2 with rfl | rfl | rfl | rfl
      · exact order_00 n1 n2 t1 t2 ao1 ao2 m1 cap1 m2 cap2 hn1 hn2 hs1 hs2 w
      · exact order_01 n1 n2 t1 t2 ao1 ao2 m1 cap1 m2 cap2 hn1 hn2 hs1 hs2 w
      · exact order_02 n1 n2 t1 t2 ao1 ao2 m1 cap1 m2 cap2 hn1 hn2 hs1 hs2 w
      · rcases h1 : numP 0 n1 t1.toList with ⟨a1, b1⟩
        rcases h2 : numP 3 n2 t2.toList with ⟨a2, b2⟩
        have e : orderP 0 n1 t1.toList m1 3 n2 t2.toList m2 = if (numP 0 n1 t1.toList).2 && (numP 3 n2 t2.toList).2 then (Lib.compareInt (numP 0 n1 t1.toList).1 (numP 3 n2 t2.toList).1, 0) else (Lib.compareBytes (textP 0 n1 t1.toList).1 (textP 3 n2 t2.toList).1, 0) := rfl
        rw [e, h1, h2]
        cases b1 <;> cases b2
        · exact order_03_00 n1 n2 t1 t2 ao1 ao2 m1 cap1 m2 cap2 hn1 hn2 hs1 hs2 w ht a1 a2 h1 h2
        · exact order_03_01 n1 n2 t1 t2 ao1 ao2 m1 cap1 m2 cap2 hn1 hn2 hs1 hs2 w ht a1 a2 h1 h2
        · exact absurd (congrArg Prod.snd h1) (by simp [numP])
        · exact absurd (congrArg Prod.snd h1) (by simp [numP])
      · exact order_10 n1 n2 t1 t2 ao1 ao2 m1 cap1 m2 cap2 hn1 hn2 hs1 hs2 w
      · exact order_11 n1 n2 t1 t2 ao1 ao2 m1 cap1 m2 cap2 hn1 hn2 hs1 hs2 w
      · exact order_12 n1 n2 t1 t2 ao1 ao2 m1 cap1 m2 cap2 hn1 hn2 hs1 hs2 w
      · exact order_13 n1 n2 t1 t2 ao1 ao2 m1 cap1 m2 cap2 hn1 hn2 hs1 hs2 w
      · exact order_20 n1 n2 t1 t2 ao1 ao2 m1 cap1 m2 cap2 hn1 hn2 hs1 hs2 w
      · exact order_21 n1 n2 t1 t2 ao1 ao2 m1 cap1 m2 cap2 hn1 hn2 hs1 hs2 w
      · rcases h1 : numP 2 n1 t1.toList with ⟨a1, b1⟩
        rcases h2 : numP 2 n2 t2.toList with ⟨a2, b2⟩
        have e : orderP 2 n1 t1.toList m1 2 n2 t2.toList m2 = if (numP 2 n1 t1.toList).2 && (numP 2 n2 t2.toList).2 then (Lib.compareInt (numP 2 n1 t1.toList).1 (numP 2 n2 t2.toList).1, 0) else (Lib.compareBytes (textP 2 n1 t1.toList).1 (textP 2 n2 t2.toList).1, 0) := rfl
        rw [e, h1, h2]
        cases b1 <;> cases b2
        · exact absurd (congrArg Prod.snd h2) (by simp [numP])
        · exact absurd (congrArg Prod.snd h1) (by simp [numP])
        · exact absurd (congrArg Prod.snd h2) (by simp [numP])
        · exact order_22_11 n1 n2 t1 t2 ao1 ao2 m1 cap1 m2 cap2 hn1 hn2 hs1 hs2 w ht a1 a2 h1 h2
      · rcases h1 : numP 2 n1 t1.toList with ⟨a1, b1⟩
        rcases h2 : numP 3 n2 t2.toList with ⟨a2, b2⟩
        have e : orderP 2 n1 t1.toList m1 3 n2 t2.toList m2 = if (numP 2 n1 t1.toList).2 && (numP 3 n2 t2.toList).2 then (Lib.compareInt (numP 2 n1 t1.toList).1 (numP 3 n2 t2.toList).1, 0) else (Lib.compareBytes (textP 2 n1 t1.toList).1 (textP 3 n2 t2.toList).1, 0) := rfl
        rw [e, h1, h2]
        cases b1 <;> cases b2
        · exact absurd (congrArg Prod.snd h1) (by simp [numP])
        · exact absurd (congrArg Prod.snd h1) (by simp [numP])
        · exact order_23_10 n1 n2 t1 t2 ao1 ao2 m1 cap1 m2 cap2 hn1 hn2 hs1 hs2 w ht a1 a2 h1 h2
        · exact order_23_11 n1 n2 t1 t2 ao1 ao2 m1 cap1 m2 cap2 hn1 hn2 hs1 hs2 w ht a1 a2 h1 h2
      · rcases h1 : numP 3 n1 t1.toList with ⟨a1, b1⟩
        rcases h2 : numP 0 n2 t2.toList with ⟨a2, b2⟩
        have e : orderP 3 n1 t1.toList m1 0 n2 t2.toList m2 = if (numP 3 n1 t1.toList).2 && (numP 0 n2 t2.toList).2 then (Lib.compareInt (numP 3 n1 t1.toList).1 (numP 0 n2 t2.toList).1, 0) else (Lib.compareBytes (textP 3 n1 t1.toList).1 (textP 0 n2 t2.toList).1, 0) := rfl
        rw [e, h1, h2]
        cases b1 <;> cases b2
        · exact order_30_00 n1 n2 t1 t2 ao1 ao2 m1 cap1 m2 cap2 hn1 hn2 hs1 hs2 w ht a1 a2 h1 h2
        · exact absurd (congrArg Prod.snd h2) (by simp [numP])
        · exact order_30_10 n1 n2 t1 t2 ao1 ao2 m1 cap1 m2 cap2 hn1 hn2 hs1 hs2 w ht a1 a2 h1 h2
        · exact absurd (congrArg Prod.snd h2) (by simp [numP])
      · exact order_31 n1 n2 t1 t2 ao1 ao2 m1 cap1 m2 cap2 hn1 hn2 hs1 hs2 w
      · rcases h1 : numP 3 n1 t1.toList with ⟨a1, b1⟩
        rcases h2 : numP 2 n2 t2.toList with ⟨a2, b2⟩
        have e : orderP 3 n1 t1.toList m1 2 n2 t2.toList m2 = if (numP 3 n1 t1.toList).2 && (numP 2 n2 t2.toList).2 then (Lib.compareInt (numP 3 n1 t1.toList).1 (numP 2 n2 t2.toList).1, 0) else (Lib.compareBytes (textP 3 n1 t1.toList).1 (textP 2 n2 t2.toList).1, 0) := rfl
        rw [e, h1, h2]
        cases b1 <;> cases b2
        · exact absurd (congrArg Prod.snd h2) (by simp [numP])
        · exact order_32_01 n1 n2 t1 t2 ao1 ao2 m1 cap1 m2 cap2 hn1 hn2 hs1 hs2 w ht a1 a2 h1 h2
        · exact absurd (congrArg Prod.snd h2) (by simp [numP])
        · exact order_32_11 n1 n2 t1 t2 ao1 ao2 m1 cap1 m2 cap2 hn1 hn2 hs1 hs2 w ht a1 a2 h1 h2
      · rcases h1 : numP 3 n1 t1.toList with ⟨a1, b1⟩
        rcases h2 : numP 3 n2 t2.toList with ⟨a2, b2⟩
        have e : orderP 3 n1 t1.toList m1 3 n2 t2.toList m2 = if (numP 3 n1 t1.toList).2 && (numP 3 n2 t2.toList).2 then (Lib.compareInt (numP 3 n1 t1.toList).1 (numP 3 n2 t2.toList).1, 0) else (Lib.compareBytes (textP 3 n1 t1.toList).1 (textP 3 n2 t2.toList).1, 0) := rfl
        rw [e, h1, h2]
        cases b1 <;> cases b2
        · exact order_33_00 n1 n2 t1 t2 ao1 ao2 m1 cap1 m2 cap2 hn1 hn2 hs1 hs2 w ht a1 a2 h1 h2
        · exact order_33_01 n1 n2 t1 t2 ao1 ao2 m1 cap1 m2 cap2 hn1 hn2 hs1 hs2 w ht a1 a2 h1 h2
        · exact order_33_10 n1 n2 t1 t2 ao1 ao2 m1 cap1 m2 cap2 hn1 hn2 hs1 hs2 w ht a1 a2 h1 h2
        · exact order_33_11 n1 n2 t1 t2 ao1 ao2 m1 cap1 m2 cap2 hn1 hn2 hs1 hs2 w ht a1 a2 h1 h2
end Go.Proofs.YtgpdhmgbmhfooaaDoor
