/-
  A cell of a row that is owned turns. Of no program.
-/
import Derived.Test.YtobjmajkcfhpoaaDoorBase
namespace Go.Proofs.YtobjmajkcfhpoaaDoor
open Go.RowKit

theorem flatten_set (size : Nat) : ∀ (rows : List (List Value)) (k : Nat) (r : List Value) (j : Nat) (u : Value), (∀ r ∈ rows, r.length = size) → rows[k]? = some r → j < size →
    (rows.set k (r.set j u)).flatten = rows.flatten.set (k * size + j) u
  | [], k, r, j, u, _, hk, _ => by simp at hk
  | x :: rest, 0, r, j, u, h, hk, hj => by
    simp at hk; subst hk
    rw [List.set_cons_zero, List.flatten_cons, List.flatten_cons, Nat.zero_mul, Nat.zero_add, List.set_append_left _ _ (by rw [h x (by simp)]; exact hj)]
  | x :: rest, k + 1, r, j, u, h, hk, hj => by
    have hx := h x (by simp)
    rw [List.set_cons_succ, List.flatten_cons, List.flatten_cons, List.set_append_right _ _ (by rw [hx, Nat.add_mul]; omega), hx,
      show (k + 1) * size + j - size = k * size + j by rw [Nat.add_mul]; omega,
      flatten_set size rest k r j u (fun y hy => h y (by simp [hy])) (by simpa using hk) hj]

theorem Owns.setRow {w : World} {e : TypeId} {size g n cap : Nat} {rows : List (List Value)} (h : Owns w e size (.slice (some ⟨g, 0, none⟩) n cap) rows) {k : Nat} {r : List Value} (hk : rows[k]? = some r) (j : Nat) (hj : j < size) (u : Value) (hu : u.oneCell' = true) :
    Owns (w.setCell ⟨g, k * size + j, none⟩ u) e size (.slice (some ⟨g, 0, none⟩) n cap) (rows.set k (r.set j u)) ∧ w.grownBy (w.setCell ⟨g, k * size + j, none⟩ u) (some g) := by
  have hn : n = rows.length := by
    obtain ⟨ao, cap', hv, _⟩ := h.any
    cases hv; rfl
  subst hn
  obtain ⟨h1, h2⟩ := h.row.stored (k * size + j) u
  have hmem := List.mem_of_getElem? hk
  refine ⟨⟨by rw [List.length_set, flatten_set size rows k r j u h.len hk hj]; exact h1, fun x hx => ?_, fun x hx y hy => ?_⟩, h2⟩
  · rcases List.mem_or_eq_of_mem_set hx with hx | rfl
    · exact h.len x hx
    · rw [List.length_set]; exact h.len r hmem
  · rcases List.mem_or_eq_of_mem_set hx with hx | rfl
    · exact h.one x hx y hy
    · rcases List.mem_or_eq_of_mem_set hy with hy | rfl
      · exact h.one r hmem y hy
      · exact hu
end Go.Proofs.YtobjmajkcfhpoaaDoor
