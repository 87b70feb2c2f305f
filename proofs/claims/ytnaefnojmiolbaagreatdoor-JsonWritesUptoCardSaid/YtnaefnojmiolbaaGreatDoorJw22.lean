/-
  Values in memory behind slices that have room for them.
-/
import Derived.Test.YtnaefnojmiolbaaGreatDoorJw4
namespace Go.Proofs.YtnaefnojmiolbaaGreatDoor
open Go.RowKit

/-- Items lie behind a slice value that has room for them, all through. -/
inductive VCap (w : World) : Value → List It → Prop
  | mk (ao : Option Addr) (cap : Nat) (xs : List It) (c : Nat → Value) (lies : Lies w 7 ao (rowsV xs c)) (len : xs.length ≤ 140737488355328) (hcap : xs.length ≤ cap) (sub : ∀ (j : Nat) (hj : j < xs.length), VCap w (c j) (xs[j]).2.xs) : VCap w (.slice ao xs.length cap) xs
theorem VCap.vin {w : World} {v : Value} {xs : List It} (h : VCap w v xs) : VIn w v xs := by
  induction h with
  | mk ao cap xs c lies len _ _ ih => exact .mk ao cap xs c lies (fun _ _ _ _ => trivial) len ih
theorem VCap.form {w : World} {v : Value} {xs : List It} (h : VCap w v xs) : ∃ ao cap, v = .slice ao xs.length cap ∧ xs.length ≤ 140737488355328 ∧ xs.length ≤ cap := by
  cases h with
  | mk ao cap xs c _ len hcap _ => exact ⟨ao, cap, rfl, len, hcap⟩
theorem VCap.under {w w' : World} {v : Value} {xs : List It} (h : VCap w v xs) (hb : Below w.heap.size w w') : VCap w' v xs := by
  induction h with
  | mk ao cap xs c lies len hcap _ ih =>
    refine .mk ao cap xs c (fun i r hr => ?_) len hcap ih
    obtain ⟨g, off, e, hg, hl, hc⟩ := lies i r hr
    exact ⟨g, off, e, Nat.lt_of_lt_of_le hg hb.size, hl, fun j u hj => (hb.cell (p := ⟨g, off + i * 7 + j, none⟩) hg).trans (hc j u hj)⟩
/-- One item as it lies in a later world. -/
theorem VCap.getB {w wr : World} {ao : Option Addr} {cap m : Nat} {xs : List It} (h : VCap w (.slice ao m cap) xs) {j : Nat} (hj : j < xs.length) (hb : Below w.heap.size w wr) :
    ∃ q x g off co cc, xs[j]? = some (q, x) ∧ (q, x) ∈ xs ∧ ao = some ⟨g, off, none⟩ ∧ VCap wr (.slice co x.xs.length cc) x.xs ∧
      wr.cell? ⟨g, off + j * 7, none⟩ = some (.bool q.b) ∧ wr.cell? ⟨g, off + j * 7 + 1, none⟩ = some (.int .i64 q.n) ∧ wr.cell? ⟨g, off + j * 7 + 2, none⟩ = some (.string q.t) ∧
      wr.cell? ⟨g, off + j * 7 + 3, none⟩ = some (.int .i64 x.k) ∧ wr.cell? ⟨g, off + j * 7 + 4, none⟩ = some (.int .i64 x.n) ∧ wr.cell? ⟨g, off + j * 7 + 5, none⟩ = some (.string x.t) ∧ wr.cell? ⟨g, off + j * 7 + 6, none⟩ = some (.slice co x.xs.length cc) := by
  generalize hv : Value.slice ao m cap = v at h
  cases h with
  | mk ao' cap' xs c lies len hcap sub =>
    cases hv
    obtain ⟨g, off, rfl, hg, -, hc⟩ := lies j _ (rowsV_get hj)
    have hs := sub j hj
    obtain ⟨co, cc, hcv, -, -⟩ := hs.form
    have k := fun o => hb.cell (p := ⟨g, o, none⟩) hg
    have d0 := hc 0 _ rfl
    rw [Nat.add_zero] at d0
    refine ⟨xs[j].1, xs[j].2, g, off, co, cc, by rw [List.getElem?_eq_getElem hj], List.getElem_mem hj, rfl, by rw [← hcv]; exact hs.under hb, (k _).trans d0, (k _).trans (hc 1 _ rfl), (k _).trans (hc 2 _ rfl), (k _).trans (hc 3 _ rfl), (k _).trans (hc 4 _ rfl), (k _).trans (hc 5 _ rfl), ?_⟩
    rw [← hcv]
    exact (k _).trans (hc 6 _ rfl)
/-- The first items alone. -/
theorem VCap.take {w : World} {ao : Option Addr} {cap m : Nat} {xs : List It} (h : VCap w (.slice ao m cap) xs) {j : Nat} (hj : j ≤ xs.length) : VIn w (.slice ao j cap) (xs.take j) := by
  generalize hv : Value.slice ao m cap = v at h
  cases h with
  | mk ao' cap' xs c lies len hcap sub =>
    cases hv
    have e : (xs.take j).length = j := by rw [List.length_take]; omega
    have := VAt.mk (A := fun _ => True) (w := w) ao cap (xs.take j) c (fun i r hr => by
      have hi : i < j := by
        have := (List.getElem?_eq_some_iff.1 hr).1
        rw [rowsV_len, e] at this
        exact this
      refine lies i r ?_
      rw [← hr]
      simp [rowsV, hi]) (fun _ _ _ _ => trivial) (by omega) (fun i hi => by
        rw [List.getElem_take]
        exact (sub i (by omega)).vin)
    rw [e] at this
    exact this
end Go.Proofs.YtnaefnojmiolbaaGreatDoor
