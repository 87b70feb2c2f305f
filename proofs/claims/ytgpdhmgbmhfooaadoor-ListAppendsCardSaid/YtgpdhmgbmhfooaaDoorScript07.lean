/-
  A script that came in as an argument, opened.
-/
import Derived.Test.YtgpdhmgbmhfooaaDoorOpen07
import Derived.Test.YtgpdhmgbmhfooaaDoorPlays07
namespace Go.Proofs.YtgpdhmgbmhfooaaDoor
open Go.RowKit Go.ChangeShapes Go.WideShapes Go.ChangeAt

theorem cells36 : Tryd.prog.cellsOf 36 = 5 := by kernel_rfl
section
variable {H : Type} {enc : TypeId × Value → H}
set_option maxRecDepth 100000 in
theorem key_cells {W : World} {n : Nat} {cs : List Value} {x : DataW H × List MemPlace} (hcs : cs.length = 3) (hr : InReach Tryd.prog 23 x.1) (h : DataW.trod enc Tryd.prog W 0 (fun _ => true) true n 23 cs = some x) :
    ∃ k : K, cs = [.bool k.b, .int .i64 k.n, .string k.t] ∧ k.Good := by
  obtain ⟨xs, f, _, hd, _, hxl, hg⟩ := DataW.trod_struct Tryd.underlying23 h
  match cs, hcs with
  | [v0, v1, v2], _ =>
    have g0 := hg 0 _ rfl
    have g1 := hg 1 _ rfl
    have g2 := hg 2 _ rfl
    simp [cells03, cells04, cells09] at g0 g1 g2
    match xs, hxl with
    | [y0, y1, y2], _ =>
      simp at g0 g1 g2
      obtain ⟨a0, e0, _⟩ := DataW.trod_bool Tryd.underlying4 g0
      obtain ⟨a1, e1, _, hw1⟩ := DataW.trod_int Tryd.underlying3 g1
      obtain ⟨a2, e2, x2, hs⟩ := DataW.trod_string Tryd.underlying9 g2
      have ht : a2.size ≤ 140737488351232 := by
        subst hd
        have h1 : InReach Tryd.prog 9 y2.1 := reach_part (j := 2) Tryd.underlying23 hr rfl rfl
        rw [x2] at h1
        have h2 := reach_text h1
        have h3 : reachBytes ≤ 140737488351232 := by decide
        have e2 : a2.data.toList.length = a2.size := Array.length_toList
        omega
      cases e0; cases e1; cases e2
      exact ⟨⟨a0, a1, a2⟩, rfl, (wf_bounds hw1).1, (wf_bounds hw1).2, ht⟩
set_option maxRecDepth 100000 in
theorem open_act {W : World} (n : Nat) (cs : List Value) (x : DataW H × List MemPlace) (hcs : cs.length = 5) (hr : InReach Tryd.prog 36 x.1) (h : DataW.trod enc Tryd.prog W 0 (fun _ => true) true n 36 cs = some x) :
    ∃ a : A, cs = a.cells ∧ a.Good := by
  obtain ⟨xs, f, _, hd, _, hxl, hg⟩ := DataW.trod_struct Tryd.underlying36 h
  match cs, hcs with
  | [v0, v1, v2, v3, v4], _ =>
    have g0 := hg 0 _ rfl
    have g1 := hg 1 _ rfl
    have g2 := hg 2 _ rfl
    simp [cells03, cells23] at g0 g1 g2
    match xs, hxl with
    | [y0, y1, y2], _ =>
      simp at g0 g1 g2
      obtain ⟨a0, e0, _, _⟩ := DataW.trod_int Tryd.underlying3 g0
      obtain ⟨a1, e1, _, _⟩ := DataW.trod_int Tryd.underlying3 g1
      obtain ⟨k, e2, hk⟩ := key_cells rfl (by subst hd; exact reach_part (j := 2) Tryd.underlying36 hr rfl rfl) g2
      cases e0; cases e1; cases e2
      exact ⟨⟨a0, a1, k⟩, rfl, ⟨hk⟩⟩
set_option maxRecDepth 100000 in
/-- A script. -/
theorem open_acts {W : World} {base : Nat} {v : Value} {d : DataW H} {p : List MemPlace} (hv : Value.okWide Tryd.prog W .any base 34 v) (hr : InReach Tryd.prog 34 d) (h : DataW.Trod enc Tryd.prog W 0 (fun _ => true) true 34 v d p) :
    ∃ ao cap, ∃ acts : List A, v = .slice ao acts.length cap ∧ Lies W 5 ao (acts.map A.cells) ∧ (∀ a ∈ acts, a.Good) ∧ acts.length ≤ 140737488351232 := by
  obtain ⟨a0, len, cap, rfl⟩ := okWide_slice Tryd.underlying34 hv
  obtain ⟨fuel, hf⟩ := h
  obtain ⟨ao, cap', acts, hcs, hle, hcm, hl, hg, hnone, hb⟩ := open_rows_w (α := A) (cells := A.cells) (good := A.Good) Tryd.underlying34 cells36 (by decide) open_act hr hf
  simp only [Value.cells] at hcs
  obtain ⟨rfl, rfl, rfl⟩ : a0 = ao ∧ len = acts.length ∧ cap = cap' := by simpa using hcs
  have h3 : reachBytes ≤ 140737488351232 := by decide
  have h4 : Tryd.prog.bytesOf 36 = 48 := by kernel_rfl
  rw [h4] at hb
  exact ⟨a0, cap, acts, rfl, hl, hg, by omega⟩
end
end Go.Proofs.YtgpdhmgbmhfooaaDoor
