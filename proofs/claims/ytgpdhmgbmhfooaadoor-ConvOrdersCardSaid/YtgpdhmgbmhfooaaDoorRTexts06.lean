/-
  The walks of the document's numbers and texts.
-/
import Derived.Test.YtgpdhmgbmhfooaaDoorOrderBase06
namespace Go.Proofs.YtgpdhmgbmhfooaaDoor
open Go.RowKit
theorem rnumbers_any (a b : Int) (w : World) : Calls Tryd.prog 71 #[.int .i64 a, .int .i64 b] w fun e w' => e = .returned (.int .i64 (Lib.compareInt a b)) ∧ w = w' := by
  obtain ⟨r, hr⟩ : ∃ r, r = Lib.compareInt a b := ⟨_, rfl⟩
  rw [← hr]
  unfold Lib.compareInt at hr
  by_cases h1 : a < b
  · have q : decide (a < b) = true := by simp [h1]
    rw [if_pos h1] at hr
    subst hr
    clear h1
    go_enter Tryd.func71, Tryd.ntmps71
    go_wp2_with fail
    go_ret
    exact ⟨rfl, rfl⟩
  · have q : decide (a < b) = false := by simp; omega
    rw [if_neg h1] at hr
    by_cases h2 : b < a
    · have q2 : decide (b < a) = true := by simp [h2]
      rw [if_pos h2] at hr
      subst hr
      clear h1 h2
      go_enter Tryd.func71, Tryd.ntmps71
      go_wp2_with fail
      go_ret
      exact ⟨rfl, rfl⟩
    · have q2 : decide (b < a) = false := by simp; omega
      rw [if_neg h2] at hr
      subst hr
      clear h1 h2
      go_enter Tryd.func71, Tryd.ntmps71
      go_wp2_with fail
      go_ret
      exact ⟨rfl, rfl⟩
theorem cmp_less : ∀ (a b : Bs), Lib.compareBytes a b = if Go.Op.bytesLess a b then -1 else if a == b then 0 else 1
  | [], [] => rfl
  | [], _ :: _ => rfl
  | _ :: _, [] => rfl
  | x :: a, y :: b => by
    have ih := cmp_less a b
    unfold Lib.compareBytes Go.Op.bytesLess
    by_cases h1 : x < y
    · rw [if_pos h1]; simp [h1]
    · by_cases h2 : y < x
      · have hne : (x == y) = false := by
          apply Bool.eq_false_iff.2
          intro e
          have := eq_of_beq e
          subst this
          exact h1 h2
        have hne2 : ((x :: a) == (y :: b)) = false := by
          show ((x == y) && (a == b)) = false
          rw [hne]; rfl
        rw [if_neg h1, if_pos h2, hne, hne2]
        simp [h1]
      · have he : x = y := by
          have := UInt8.not_lt.1 h1
          have := UInt8.not_lt.1 h2
          exact UInt8.le_antisymm ‹_› ‹_›
        subst he
        rw [if_neg h1, if_neg h1, ih]
        have e1 : ((x :: a) == (x :: b)) = (a == b) := by
          show ((x == x) && (a == b)) = (a == b)
          rw [beq_self_eq_true]; rfl
        rw [e1, beq_self_eq_true, Bool.true_and]
        simp [h1]
theorem rtexts_any (a b : ByteArray) (w : World) : Calls Tryd.prog 70 #[.string a, .string b] w fun e w' => e = .returned (.int .i64 (Lib.compareBytes a.toList b.toList)) ∧ w = w' := by
  obtain ⟨r, hr⟩ : ∃ r, r = Lib.compareBytes a.toList b.toList := ⟨_, rfl⟩
  rw [← hr]
  rw [cmp_less] at hr
  cases h1 : Go.Op.bytesLess a.toList b.toList with
  | true =>
    rw [h1, if_pos rfl] at hr
    subst hr
    go_enter Tryd.func70, Tryd.ntmps70
    go_wp2_with fail
    go_ret
    exact ⟨rfl, rfl⟩
  | false =>
    rw [h1, if_neg (by decide)] at hr
    cases h2 : (a.toList == b.toList) with
    | true =>
      rw [h2, if_pos rfl] at hr
      subst hr
      go_enter Tryd.func70, Tryd.ntmps70
      go_wp2_with fail
      go_ret
      exact ⟨rfl, rfl⟩
    | false =>
      rw [h2, if_neg (by decide)] at hr
      subst hr
      go_enter Tryd.func70, Tryd.ntmps70
      go_wp2_with fail
      go_ret
      exact ⟨rfl, rfl⟩
end Go.Proofs.YtgpdhmgbmhfooaaDoor
