/-
  Four texts that came in as an array, opened.
-/
import Derived.Test.YthnhpnmopjbaoaaDoorBase21
import Derived.Test.YthnhpnmopjbaoaaDoorLawW
import Derived.OpenShut
namespace Go.Proofs.YthnhpnmopjbaoaaDoor
open Go.RowKit Go.ChangeShapes Go.WideShapes

theorem cells26 : Tryd.prog.cellsOf 26 = 4 := by kernel_rfl
theorem cells09 : Tryd.prog.cellsOf 9 = 1 := by kernel_rfl
section
variable {H : Type} {enc : TypeId × Value → H}
theorem reach_array {P : Program} {t e : TypeId} {n : Nat} {parts : List (DataW H)} (hu : P.underlying t = some (.array n e)) (h : InReach P t (.agg parts)) {d : DataW H} (hd : d ∈ parts) : InReach P e d := by
  intro m hm
  refine h m ?_
  simp only [DataW.weights, hu]
  exact weightsAll_mem hd m hm
theorem text_size {a : ByteArray} {d : DataW H} (hr : InReach Tryd.prog 9 d) (hx : d = .lit (.string a.data.toList)) : a.size ≤ 140737488351232 := by
  subst hx
  have h2 := reach_text hr
  have h3 : reachBytes ≤ 140737488351232 := by decide
  have e2 : a.data.toList.length = a.size := Array.length_toList
  omega
set_option maxRecDepth 100000 in
theorem open_four {W : World} {base : Nat} {v : Value} {d : DataW H} {p : List MemPlace} (hv : Value.okWide Tryd.prog W .any base 26 v) (hr : InReach Tryd.prog 26 d) (h : DataW.Trod enc Tryd.prog W 0 (fun _ => true) true 26 v d p) :
    ∃ a b s t : ByteArray, v = .agg #[.string a, .string b, .string s, .string t] ∧ a.size ≤ 140737488351232 ∧ b.size ≤ 140737488351232 ∧ s.size ≤ 140737488351232 ∧ t.size ≤ 140737488351232 := by
  obtain ⟨cs, rfl, hcs⟩ : ∃ cs, v = .agg cs ∧ cs.size = Tryd.prog.cellsOf 26 := by
    simp only [Value.okWide, Tryd.underlying26] at hv
    obtain ⟨cs, h1, h2, _⟩ := hv
    exact ⟨cs, h1, h2⟩
  obtain ⟨fuel, hf⟩ := h
  obtain ⟨xs, f, _, hd, _, hxl, hg⟩ := DataW.trod_array Tryd.underlying26 hf
  rw [cells26] at hcs
  obtain ⟨l⟩ := cs
  match l, hcs with
  | [v0, v1, v2, v3], _ =>
    have g0 := hg 0 (by decide)
    have g1 := hg 1 (by decide)
    have g2 := hg 2 (by decide)
    have g3 := hg 3 (by decide)
    simp [Value.cells, cells09] at g0 g1 g2 g3
    match xs, hxl with
    | [y0, y1, y2, y3], _ =>
      simp at g0 g1 g2 g3
      obtain ⟨a0, e0, x0, _⟩ := DataW.trod_string Tryd.underlying9 g0
      obtain ⟨a1, e1, x1, _⟩ := DataW.trod_string Tryd.underlying9 g1
      obtain ⟨a2, e2, x2, _⟩ := DataW.trod_string Tryd.underlying9 g2
      obtain ⟨a3, e3, x3, _⟩ := DataW.trod_string Tryd.underlying9 g3
      cases hd
      cases e0; cases e1; cases e2; cases e3
      exact ⟨a0, a1, a2, a3, rfl, text_size (reach_array Tryd.underlying26 hr (d := y0.1) (by simp)) (by rw [x0]), text_size (reach_array Tryd.underlying26 hr (d := y1.1) (by simp)) (by rw [x1]), text_size (reach_array Tryd.underlying26 hr (d := y2.1) (by simp)) (by rw [x2]), text_size (reach_array Tryd.underlying26 hr (d := y3.1) (by simp)) (by rw [x3])⟩
end
end Go.Proofs.YthnhpnmopjbaoaaDoor
