/-
  Del as plain data: the places that are numbered anew.
-/
import Derived.Test.YtgpdhmgbmhfooaaDoorCopy07
namespace Go.Proofs.YtgpdhmgbmhfooaaDoor
open Go.RowKit

/-- The places while the items from i on still bear the number above. -/
def numG (ys : List It) (i : Nat) (x : K) : Option Int := (findK x ys).map fun p => if p < i then (p : Int) else (p : Int) + 1
theorem numG_start {xs : List It} (h : Once xs) {q : K} {j : Nat} (hj : findK q xs = some j) (x : K) : numG (xs.eraseIdx j) j x = if x = q then none else placeF xs x := by
  have hl := findK_lt hj
  have hq := findK_at hj
  unfold numG placeF
  rw [findK_del h hl x]
  by_cases e : x = q
  · subst e
    rw [if_pos rfl, hj]
    simp
  · rw [if_neg e]
    cases hf : findK x xs with
    | none => rfl
    | some p =>
      have hp := findK_at hf
      have hne : p ≠ j := fun c => e (by subst c; rw [← hp, hq])
      simp only [if_neg hne]
      by_cases hlt : p < j
      · rw [if_pos hlt]
        simp [hlt]
      · rw [if_neg hlt]
        have h1 : ¬ p - 1 < j := by omega
        simp only [Option.map_some, if_neg h1]
        refine congrArg some ?_
        show ((p - 1 : Nat) : Int) + 1 = (p : Int)
        omega
theorem numG_step {ys : List It} (h : Once ys) {i : Nat} (hi : i < ys.length) (x : K) : numG ys (i + 1) x = if x = ys[i].1 then some (i : Int) else numG ys i x := by
  unfold numG
  by_cases e : x = ys[i].1
  · rw [if_pos e, e, findK_once h hi]
    simp
  · rw [if_neg e]
    cases hf : findK x ys with
    | none => rfl
    | some p =>
      have hp := findK_at hf
      have hne : p ≠ i := fun c => e (by subst c; rw [hp])
      simp only [Option.map_some, Option.some.injEq]
      by_cases hlt : p < i
      · rw [if_pos (by omega), if_pos hlt]
      · rw [if_neg (by omega), if_neg hlt]
theorem numG_end (ys : List It) : numG ys ys.length = placeF ys := by
  funext x
  unfold numG placeF
  cases hf : findK x ys with
  | none => rfl
  | some p =>
    have := findK_lt hf
    simp [this]
theorem numG_some {ys : List It} (h : Once ys) {i : Nat} (hi : i < ys.length) (n : Nat) : (numG ys n ys[i].1).isSome = true := by
  unfold numG
  rw [findK_once h hi]
  rfl
theorem del_ok {l : LS} (h : l.Ok) (j : Nat) : (⟨l.xs.eraseIdx j, l.nx⟩ : LS).Ok :=
  ⟨once_del h.once j, fun x hx => h.norm x (List.mem_of_mem_eraseIdx hx), Nat.le_trans (List.length_eraseIdx_le _ _) h.len, h.lo, h.hi⟩
theorem take_drop_erase (xs : List It) (j : Nat) : xs.take j ++ xs.drop (j + 1) = xs.eraseIdx j := (List.eraseIdx_eq_take_drop_succ xs j).symm
end Go.Proofs.YtgpdhmgbmhfooaaDoor
