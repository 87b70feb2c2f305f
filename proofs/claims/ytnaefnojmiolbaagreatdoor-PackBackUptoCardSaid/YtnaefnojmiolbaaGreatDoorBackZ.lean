/-
  The digits of a number, with blanks around: the plain law.
-/
import Derived.Test.YtnaefnojmiolbaaGreatDoorNum
namespace Go.Proofs.YtnaefnojmiolbaaGreatDoor

theorem isDig_notBlank {c : UInt8} (h : isDig c = true) : isBlank c = false := by
  have := (isDig_iff c).1 h
  apply Bool.eq_false_iff.2
  intro hb
  have := (isBlank_iff c).1 hb
  omega
theorem dropWhile_allT {p : UInt8 → Bool} : ∀ {a : Bs} (b : Bs), (∀ c ∈ a, p c = true) → (a ++ b).dropWhile p = b.dropWhile p
  | [], _, _ => rfl
  | x :: a, b, h => by
    rw [List.cons_append, List.dropWhile_cons, if_pos (h x (by simp))]
    exact dropWhile_allT b (fun c hc => h c (by simp [hc]))
theorem takeWhile_allT {p : UInt8 → Bool} : ∀ {a : Bs} (b : Bs), (∀ c ∈ a, p c = true) → (a ++ b).takeWhile p = a ++ b.takeWhile p
  | [], _, _ => rfl
  | x :: a, b, h => by
    rw [List.cons_append, List.takeWhile_cons, if_pos (h x (by simp)), List.cons_append, takeWhile_allT b (fun c hc => h c (by simp [hc]))]
/-- No digit at the head. -/
def NoDig (l : Bs) : Prop := l.takeWhile isDig = []
/-- A number's text, blanks ahead, and what no digit begins behind. -/
theorem numOf_text (neg : Bool) (u : Nat) (a b : Bs) (ha : ∀ c ∈ a, isBlank c = true) (hb : NoDig b) :
    numOf (a ++ ((if neg then [45] else []) ++ Lib.decDigits u) ++ b) = some (sat neg u, trimB b) := by
  have hd := decDigits_dig u
  have hne := decDigits_ne u
  obtain ⟨x, r, hx⟩ := List.exists_cons_of_ne_nil hne
  have hx' : isDig x = true := hd x (by rw [hx]; simp)
  have hxi := (isDig_iff x).1 hx'
  have ht : trimB (a ++ ((if neg then [45] else []) ++ Lib.decDigits u) ++ b) = ((if neg then [45] else []) ++ Lib.decDigits u) ++ b := by
    unfold trimB
    rw [List.append_assoc, dropWhile_allT _ ha]
    cases neg
    · simp only [Bool.false_eq_true, if_false, List.nil_append]
      rw [hx, List.cons_append, List.dropWhile_cons, if_neg (by rw [isDig_notBlank hx']; decide)]
    · simp only [if_true]
      rw [List.cons_append, List.cons_append, List.dropWhile_cons, if_neg (by decide)]
  have hs : signLen (((if neg then [45] else []) ++ Lib.decDigits u) ++ b) = (if neg then 1 else 0) := by
    cases neg
    · simp only [Bool.false_eq_true, if_false, List.nil_append]
      rw [hx, List.cons_append]
      show (if x.toNat = 45 ∨ x.toNat = 43 then 1 else 0) = 0
      rw [if_neg (by omega)]
    · rfl
  have hn : isNeg (((if neg then [45] else []) ++ Lib.decDigits u) ++ b) = neg := by
    cases neg
    · simp only [Bool.false_eq_true, if_false, List.nil_append]
      rw [hx, List.cons_append]
      unfold isNeg
      simp; omega
    · rfl
  have hg : digs (((if neg then [45] else []) ++ Lib.decDigits u) ++ b) = Lib.decDigits u := by
    unfold digs
    rw [hs]
    have e : (((if neg then [45] else []) ++ Lib.decDigits u) ++ b).drop (if neg then 1 else 0) = Lib.decDigits u ++ b := by cases neg <;> rfl
    rw [e, takeWhile_allT _ hd, show b.takeWhile isDig = [] from hb, List.append_nil]
  unfold numOf
  rw [ht, hs, hn, hg, if_neg hne, decDigits_dec]
  congr 1
  congr 1
  congr 1
  rw [List.drop_append_of_le_length (by cases neg <;> simp <;> omega)]
  rw [List.drop_of_length_le (by cases neg <;> simp <;> omega)]
  rfl
theorem itoa_form (n : Int) : Lib.itoa n = (if decide (n < 0) then [45] else []) ++ Lib.decDigits n.natAbs := by
  unfold Lib.itoa
  by_cases h : n < 0
  · simp [h]
  · have e : n.toNat = n.natAbs := by omega
    simp [h, e]
theorem sat_natAbs {n : Int} (h0 : -9223372036854775808 ≤ n) (h1 : n ≤ 9223372036854775807) : sat (decide (n < 0)) n.natAbs = n := by
  unfold sat
  by_cases h : n < 0
  · rw [if_pos (by simp [h]), if_neg (by omega)]; omega
  · rw [if_neg (by simp [h]), if_neg (by omega)]; omega
theorem numOf_itoa {n : Int} (h0 : -9223372036854775808 ≤ n) (h1 : n ≤ 9223372036854775807) (a b : Bs) (ha : ∀ c ∈ a, isBlank c = true) (hb : NoDig b) :
    numOf (a ++ Lib.itoa n ++ b) = some (n, trimB b) := by
  rw [itoa_form, numOf_text _ _ a b ha hb, sat_natAbs h0 h1]
theorem trimB_all {b : Bs} (hb : ∀ c ∈ b, isBlank c = true) : trimB b = [] := by
  have := dropWhile_allT (p := isBlank) (a := b) [] hb
  rw [List.append_nil] at this
  exact this
theorem blank_noDig {b : Bs} (hb : ∀ c ∈ b, isBlank c = true) : NoDig b := by
  cases b with
  | nil => rfl
  | cons c r =>
    unfold NoDig
    have h := hb c (by simp)
    have : isDig c = false := by
      apply Bool.eq_false_iff.2
      intro hd
      rw [isDig_notBlank hd] at h
      cases h
    rw [List.takeWhile_cons, if_neg (by rw [this]; decide)]
theorem numeric_itoa {n : Int} (h0 : -9223372036854775808 ≤ n) (h1 : n ≤ 9223372036854775807) (a b : Bs) (ha : ∀ c ∈ a, isBlank c = true) (hb : ∀ c ∈ b, isBlank c = true) :
    numericP (a ++ Lib.itoa n ++ b) = (n, true) := by
  unfold numericP
  rw [numOf_itoa h0 h1 a b ha (blank_noDig hb), trimB_all hb]
theorem numeric_itoa0 {n : Int} (h0 : -9223372036854775808 ≤ n) (h1 : n ≤ 9223372036854775807) : numericP (Lib.itoa n) = (n, true) := by
  have := numeric_itoa h0 h1 [] [] (by simp) (by simp)
  simpa using this
theorem begins_itoa {n : Int} (h0 : -9223372036854775808 ≤ n) (h1 : n ≤ 9223372036854775807) (b : Bs) (hb : NoDig b) : beginsP (Lib.itoa n ++ b) = n := by
  unfold beginsP
  have := numOf_itoa h0 h1 [] b (by simp) hb
  rw [List.nil_append] at this
  rw [this]
end Go.Proofs.YtnaefnojmiolbaaGreatDoor
