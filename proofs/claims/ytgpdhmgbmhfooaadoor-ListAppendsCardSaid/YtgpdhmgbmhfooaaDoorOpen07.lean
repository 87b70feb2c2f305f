/-
  A key that came in as an argument, opened.
-/
import Derived.Test.YtgpdhmgbmhfooaaDoorLawW
import Derived.Test.YtgpdhmgbmhfooaaDoorKeys07
namespace Go.Proofs.YtgpdhmgbmhfooaaDoor
open Go.RowKit Go.ChangeShapes Go.WideShapes Go.ChangeAt


theorem cells03 : Tryd.prog.cellsOf 3 = 1 := by kernel_rfl
theorem cells04 : Tryd.prog.cellsOf 4 = 1 := by kernel_rfl
theorem cells09 : Tryd.prog.cellsOf 9 = 1 := by kernel_rfl
theorem wf_bounds {n : Int} (h : (Lit.int .i64 n).wf = true) : -9223372036854775808 ≤ n ∧ n ≤ 9223372036854775807 := by
  have e1 : IntKind.i64.min = -9223372036854775808 := rfl
  have e2 : IntKind.i64.max = 9223372036854775807 := rfl
  simp [Lit.wf, e1, e2] at h
  omega

section
variable {H : Type} {enc : TypeId × Value → H}
set_option maxRecDepth 100000 in
theorem open_key {W : World} {base : Nat} {v : Value} {d : DataW H} {p : List MemPlace} (hv : Value.okWide Tryd.prog W .any base 23 v) (hr : InReach Tryd.prog 23 d) (h : DataW.Trod enc Tryd.prog W 0 (fun _ => true) true 23 v d p) :
    ∃ k : K, v = k.v ∧ k.Good := by
  obtain ⟨cs, rfl, hcs⟩ := okWide_struct Tryd.underlying23 hv
  obtain ⟨fuel, hf⟩ := h
  obtain ⟨xs, f, _, hd, _, hxl, hg⟩ := DataW.trod_struct Tryd.underlying23 hf
  rw [cells23] at hcs
  obtain ⟨l⟩ := cs
  match l, hcs with
  | [v0, v1, v2], _ =>
    have g0 := hg 0 _ rfl
    have g1 := hg 1 _ rfl
    have g2 := hg 2 _ rfl
    simp [Value.cells, cells03, cells04, cells09] at g0 g1 g2
    match xs, hxl with
    | [y0, y1, y2], _ =>
      simp at g0 g1 g2
      obtain ⟨a0, e0, _⟩ := DataW.trod_bool Tryd.underlying4 g0
      obtain ⟨a1, e1, _, hw1⟩ := DataW.trod_int Tryd.underlying3 g1
      obtain ⟨a2, e2, x2, hs⟩ := DataW.trod_string Tryd.underlying9 g2
      have ht : a2.size ≤ 140737488351232 := by
        cases hd
        have h1 : InReach Tryd.prog 9 y2.1 := reach_part (j := 2) Tryd.underlying23 hr rfl rfl
        rw [x2] at h1
        have h2 := reach_text h1
        have h3 : reachBytes ≤ 140737488351232 := by decide
        have e2 : a2.data.toList.length = a2.size := Array.length_toList
        omega
      cases e0; cases e1; cases e2
      exact ⟨⟨a0, a1, a2⟩, rfl, (wf_bounds hw1).1, (wf_bounds hw1).2, ht⟩
end
end Go.Proofs.YtgpdhmgbmhfooaaDoor
