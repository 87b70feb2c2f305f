/-
  The order of two values the other way round, and of the same values: the plain law.
-/
import Derived.Test.YtgpdhmgbmhfooaaDoorSame06
namespace Go.Proofs.YtgpdhmgbmhfooaaDoor

theorem cmpInt_turn (a b : Int) : Lib.compareInt b a = -Lib.compareInt a b := by
  unfold Lib.compareInt
  split <;> split <;> (try split) <;> first | omega | rfl
theorem cmpInt_self (a : Int) : Lib.compareInt a a = 0 := by
  unfold Lib.compareInt
  rw [if_neg (by omega), if_neg (by omega)]
theorem u8_lt {a b : UInt8} : a < b ↔ a.toNat < b.toNat := UInt8.lt_iff_toNat_lt
theorem cmpBytes_turn : ∀ (a b : Bs), Lib.compareBytes b a = -Lib.compareBytes a b
  | [], [] => rfl
  | [], _ :: _ => rfl
  | _ :: _, [] => rfl
  | x :: a, y :: b => by
    have ih := cmpBytes_turn a b
    unfold Lib.compareBytes
    by_cases h1 : x < y
    · have h2 : ¬ y < x := by rw [u8_lt] at h1 ⊢; omega
      rw [if_pos h1, if_neg h2, if_pos h1]; decide
    · by_cases h2 : y < x
      · rw [if_pos h2, if_neg h1, if_pos h2]
      · rw [if_neg h2, if_neg h1, if_neg h1, if_neg h2, ih]
theorem cmpBytes_self : ∀ (a : Bs), Lib.compareBytes a a = 0
  | [] => rfl
  | x :: a => by
    have ih := cmpBytes_self a
    unfold Lib.compareBytes
    have h : ¬ x < x := by rw [u8_lt]; omega
    rw [if_neg h, if_neg h, ih]
theorem truths_turn (a b : Bool) : truthsP b a = -truthsP a b := by cases a <;> cases b <;> decide
theorem truths_self (a : Bool) : truthsP a a = 0 := by cases a <;> decide

theorem order_turn (k1 n1 : Int) (t1 : Bs) (m1 : Nat) (k2 n2 : Int) (t2 : Bs) (m2 : Nat) :
    orderP k2 n2 t2 m2 k1 n1 t1 m1 = (-(orderP k1 n1 t1 m1 k2 n2 t2 m2).1, (orderP k1 n1 t1 m1 k2 n2 t2 m2).2) := by
  unfold orderP
  rw [Bool.and_comm (plainP k2) (plainP k1), Bool.and_comm (numP k2 n2 t2).2 (numP k1 n1 t1).2]
  by_cases h1 : (!(plainP k1 && plainP k2)) = true
  · rw [if_pos h1, if_pos h1]; rfl
  · rw [if_neg h1, if_neg h1]
    by_cases h2 : k1 = 1 ∨ k2 = 1 ∨ (k1 ≠ 3 ∧ k2 ≠ 3 ∧ (k1 = 0 ∨ k2 = 0))
    · have h3 : k2 = 1 ∨ k1 = 1 ∨ (k2 ≠ 3 ∧ k1 ≠ 3 ∧ (k2 = 0 ∨ k1 = 0)) := by omega
      rw [if_pos h2, if_pos h3, truths_turn]
    · have h3 : ¬ (k2 = 1 ∨ k1 = 1 ∨ (k2 ≠ 3 ∧ k1 ≠ 3 ∧ (k2 = 0 ∨ k1 = 0))) := by omega
      rw [if_neg h2, if_neg h3]
      by_cases h4 : ((numP k1 n1 t1).2 && (numP k2 n2 t2).2) = true
      · rw [if_pos h4, if_pos h4, cmpInt_turn]
      · rw [if_neg h4, if_neg h4, cmpBytes_turn]

theorem same_turn (k1 n1 : Int) (t1 : Bs) (k2 n2 : Int) (t2 : Bs) : sameP k2 n2 t2 k1 n1 t1 = sameP k1 n1 t1 k2 n2 t2 := by
  unfold sameP
  by_cases hk : k1 = k2
  · subst hk
    simp only [ne_eq, not_true_eq_false, if_false]
    by_cases hp : plainP k1 = false
    · rw [if_pos hp, if_pos hp]
    · rw [if_neg hp, if_neg hp]
      by_cases h0 : k1 = 0
      · rw [if_pos h0, if_pos h0]
      · rw [if_neg h0, if_neg h0]
        by_cases h1 : k1 = 1
        · rw [if_pos h1, if_pos h1]; exact Bool.beq_comm
        · rw [if_neg h1, if_neg h1]
          by_cases h2 : k1 = 2
          · rw [if_pos h2, if_pos h2]; exact BEq.comm
          · rw [if_neg h2, if_neg h2]; exact BEq.comm
  · have hk' : k2 ≠ k1 := fun e => hk e.symm
    rw [if_pos hk', if_pos hk]
    split <;> split <;> rfl

theorem same_order {k1 n1 : Int} {t1 : Bs} {m1 : Nat} {k2 n2 : Int} {t2 : Bs} {m2 : Nat} (h : sameP k1 n1 t1 k2 n2 t2 = true) : orderP k1 n1 t1 m1 k2 n2 t2 m2 = (0, 0) := by
  unfold sameP at h
  by_cases hp : plainP k1 = false
  · rw [if_pos hp] at h; cases h
  · rw [if_neg hp] at h
    by_cases hk : k1 = k2
    · subst hk
      have hpl : plainP k1 = true := by cases hq : plainP k1 with | true => rfl | false => exact absurd hq hp
      have hc : k1 = 0 ∨ k1 = 1 ∨ k1 = 2 ∨ k1 = 3 := by unfold plainP at hpl; simp at hpl; omega
      rcases hc with rfl | rfl | rfl | rfl
      · show (truthsP (truthP 0 n1 t1 m1) (truthP 0 n2 t2 m2), (0 : Int)) = _
        rfl
      · have h' : ((n1 != 0) == (n2 != 0)) = true := h
        show (truthsP (n1 != 0) (n2 != 0), (0 : Int)) = _
        rw [eq_of_beq h', truths_self]
      · have h' : (n1 == n2) = true := h
        show (Lib.compareInt n1 n2, (0 : Int)) = _
        rw [eq_of_beq h', cmpInt_self]
      · have h' : (t1 == t2) = true := h
        obtain rfl := eq_of_beq h'
        show (if (numericP t1).2 && (numericP t1).2 then (Lib.compareInt (numericP t1).1 (numericP t1).1, (0 : Int)) else (Lib.compareBytes t1 t1, 0)) = _
        rw [cmpInt_self, cmpBytes_self]
        split <;> rfl
    · rw [if_pos hk] at h; cases h
end Go.Proofs.YtgpdhmgbmhfooaaDoor
