/-
  Labels for the blocks that a thing in memory owns: no block bears two labels. Of no program.
-/
import Derived.Test.YtoomffplaopijaaBase
namespace Go.Proofs.Ytoomffplaopijaa

/-- A label's block. -/
abbrev Own := Nat × Nat → Option Nat
def Own.fp (o : Own) (k : Nat) : Prop := ∃ l, o l = some k
def Sep (o : Own) : Prop := ∀ l l' k, o l = some k → o l' = some k → l = l'

theorem Sep.ne {o : Own} (h : Sep o) {l l' : Nat × Nat} {k : Nat} (hl : o l = some k) (hne : l ≠ l') : o l' ≠ some k := fun e => hne (h l l' k hl e)
/-- One label more, or one turned to a block that is new; any of the others gone. -/
theorem Sep.upd {o o' : Own} (h : Sep o) (n : Nat) (lt : ∀ l k, o l = some k → k < n) (l0 : Nat × Nat) (hk : ∀ l, l ≠ l0 → o' l = o l ∨ o' l = none) (h0 : o' l0 = o l0 ∨ o' l0 = none ∨ ∃ k, o' l0 = some k ∧ n ≤ k) : Sep o' := by
  have key : ∀ l k, l ≠ l0 → o' l = some k → o l = some k := fun l k hl e => by
    rcases hk l hl with h1 | h1
    · rw [h1] at e; exact e
    · rw [h1] at e; cases e
  intro l l' k e e'
  by_cases hl : l = l0
  · by_cases hl' : l' = l0
    · rw [hl, hl']
    · have e2 := key l' k hl' e'
      subst hl
      rcases h0 with h1 | h1 | ⟨j, h1, h2⟩
      · rw [h1] at e; exact h _ _ k e e2
      · rw [h1] at e; cases e
      · rw [h1] at e; cases e; have := lt _ _ e2; omega
  · have e1 := key l k hl e
    by_cases hl' : l' = l0
    · subst hl'
      rcases h0 with h1 | h1 | ⟨j, h1, h2⟩
      · rw [h1] at e'; exact h _ _ k e1 e'
      · rw [h1] at e'; cases e'
      · rw [h1] at e'; cases e'; have := lt _ _ e1; omega
    · exact h _ _ k e1 (key l' k hl' e')
/-- What is left of the labels. -/
theorem Sep.sub {o o' : Own} (h : Sep o) (hk : ∀ l, o' l = o l ∨ o' l = none) : Sep o' := by
  intro l l' k e e'
  have key : ∀ l k, o' l = some k → o l = some k := fun l k e => by
    rcases hk l with h1 | h1
    · rw [h1] at e; exact e
    · rw [h1] at e; cases e
  exact h l l' k (key l k e) (key l' k e')
end Go.Proofs.Ytoomffplaopijaa
