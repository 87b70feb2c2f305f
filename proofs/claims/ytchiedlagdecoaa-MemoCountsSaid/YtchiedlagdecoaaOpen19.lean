/-
  The arguments of the statements over a memo: a number, and a script of calls.
-/
import Derived.Test.YtchiedlagdecoaaLaw
import Derived.Test.YtchiedlagdecoaaPlays19
namespace Go.Proofs.Ytchiedlagdecoaa
open Go.RowKit Go.ChangeShapes Go.WideShapes Go.ChangeAt

theorem Try.own : ownKnob Try.prog.godebug = none := by kernel_rfl
theorem Try.laidOut : laidOutB Try.prog = true := by kernel_rfl
theorem Try.cells32 : Try.prog.cellsOf 32 = 4 := by kernel_rfl
theorem Try.cells3 : Try.prog.cellsOf 3 = 1 := by kernel_rfl
theorem Try.cells9 : Try.prog.cellsOf 9 = 1 := by kernel_rfl
theorem Try.bytes32 : Try.prog.bytesOf 32 = 40 := by kernel_rfl

section
variable {H : Type} {enc : TypeId × Value → H}

/-- One call of a script. -/
theorem open_cl {W : World} (n : Nat) (cs : List Value) (x : DataW H × List MemPlace) (hl : cs.length = 4) (h : DataW.trod enc Try.prog W 0 (fun _ => true) true n 32 cs = some x) :
    ∃ a : Cl, cs = a.cells ∧ True := by
  obtain ⟨xs, k, _, _, _, hxl, hf⟩ := DataW.trod_struct Try.underlying32 h
  match cs, hl with
  | [v0, v1, v2, v3], _ =>
    have g0 := hf 0 _ rfl
    have g1 := hf 1 _ rfl
    have g2 := hf 2 _ rfl
    have g3 := hf 3 _ rfl
    simp [Try.cells3, Try.cells9] at g0 g1 g2 g3
    match xs, hxl with
    | [y0, y1, y2, y3], _ =>
      simp at g0 g1 g2 g3
      obtain ⟨a0, e0, _, _⟩ := DataW.trod_int Try.underlying3 g0
      obtain ⟨a1, e1, _, _⟩ := DataW.trod_string Try.underlying9 g1
      obtain ⟨a2, e2, _, _⟩ := DataW.trod_int Try.underlying3 g2
      obtain ⟨a3, e3, _, _⟩ := DataW.trod_int Try.underlying3 g3
      cases e0; cases e1; cases e2; cases e3
      exact ⟨⟨a0, a1, a2, a3⟩, rfl, trivial⟩

/-- A script. -/
theorem open_script {W : World} {base : Nat} {v : Value} {d : DataW H} {p : List MemPlace} (hv : Value.okWide Try.prog W .any base 22 v) (h : DataW.Trod enc Try.prog W 0 (fun _ => true) true 22 v d p) :
    ∃ ao cap, ∃ acts : List Cl, v = .slice ao acts.length cap ∧ Lies W 4 ao (acts.map Cl.cells) ∧ (d = .nil ∧ acts = [] ∨ ∃ el sp, d = .slice el sp ∧ el.length = acts.length ∧ acts.length + sp.length = cap) := by
  obtain ⟨a0, len, cap, rfl⟩ := okWide_slice Try.underlying22 hv
  obtain ⟨fuel, hf⟩ := h
  obtain ⟨ao, cap', acts, hcs, hle, _, hl, _, hnone, hd⟩ := open_rows (α := Cl) (cells := Cl.cells) (good := fun _ => True) Try.underlying22 Try.cells32 (by decide) open_cl hf
  simp only [Value.cells] at hcs
  obtain ⟨rfl, rfl, rfl⟩ : a0 = ao ∧ len = acts.length ∧ cap = cap' := by simpa using hcs
  refine ⟨a0, cap, acts, rfl, hl, ?_⟩
  rcases hd d p rfl with ⟨rfl, rfl⟩ | ⟨el, sp, rfl, h1, h2⟩
  · exact .inl ⟨rfl, rfl⟩
  · exact .inr ⟨el, sp, rfl, h1, by omega⟩

/-- What the form's own reach says of a script's length. -/
theorem script_len {ts : List TypeId} {ds : List (DataW H)} (h : (DataW.weightsEach Try.prog ts ds).all (· ≤ reachBytes) = true) {j : Nat} {d : DataW H} {acts : List Cl} {cap : Nat} (ht : ts[j]? = some 22) (hd : ds[j]? = some d)
    (hx : d = .nil ∧ acts = [] ∨ ∃ el sp, d = .slice el sp ∧ el.length = acts.length ∧ acts.length + sp.length = cap) : acts.length ≤ 4398046511000 := by
  rcases hx with ⟨_, rfl⟩ | ⟨el, sp, rfl, h1, h2⟩
  · simp
  · have := sized_slice h ht hd Try.underlying22
    rw [Try.bytes32] at this
    have hr := reachBytes_lt
    omega
end
end Go.Proofs.Ytchiedlagdecoaa
