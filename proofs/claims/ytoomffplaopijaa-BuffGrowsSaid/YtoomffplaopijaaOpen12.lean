/-
  The arguments of the statements over a stack: texts, numbers, a script of calls, a slice of texts.
-/
import Derived.Test.YtoomffplaopijaaLaw
import Derived.Lib.SmallJoins
namespace Go.Proofs.Ytoomffplaopijaa
open Go.RowKit Go.ChangeShapes Go.WideShapes Go.ChangeAt

theorem Try.own : ownKnob Try.prog.godebug = none := by kernel_rfl
theorem Try.laidOut : laidOutB Try.prog = true := by kernel_rfl
theorem Try.cells28 : Try.prog.cellsOf 28 = 3 := by kernel_rfl
theorem Try.cells3 : Try.prog.cellsOf 3 = 1 := by kernel_rfl
theorem Try.cells9 : Try.prog.cellsOf 9 = 1 := by kernel_rfl
theorem Try.bytes28 : Try.prog.bytesOf 28 = 32 := by kernel_rfl
theorem Try.bytes9 : Try.prog.bytesOf 9 = 16 := by kernel_rfl

/-- One call of a script. -/
structure Ac where
  kind : Int
  text : ByteArray
  n : Int
def Ac.cells (a : Ac) : List Value := [.int .i64 a.kind, .string a.text, .int .i64 a.n]

section
variable {H : Type} {enc : TypeId × Value → H}

theorem open_text {W : World} {base : Nat} {v : Value} {d : DataW H} {p : List MemPlace} (hv : Value.okWide Try.prog W .any base 9 v) (h : DataW.Trod enc Try.prog W 0 (fun _ => true) true 9 v d p) : ∃ s : ByteArray, v = .string s ∧ s.size ≤ maxLen := by
  obtain ⟨s, rfl⟩ := okWide_string Try.underlying9 hv
  obtain ⟨fuel, hf⟩ := h
  obtain ⟨s', h, hx, hs⟩ := DataW.trod_string Try.underlying9 hf
  simp [Value.cells] at h
  subst h
  exact ⟨s, rfl, hs⟩

theorem open_ac {W : World} (n : Nat) (cs : List Value) (x : DataW H × List MemPlace) (hl : cs.length = 3) (h : DataW.trod enc Try.prog W 0 (fun _ => true) true n 28 cs = some x) :
    ∃ a : Ac, cs = a.cells ∧ a.text.size ≤ maxLen := by
  obtain ⟨xs, k, _, _, _, hxl, hf⟩ := DataW.trod_struct Try.underlying28 h
  match cs, hl with
  | [v0, v1, v2], _ =>
    have g0 := hf 0 _ rfl
    have g1 := hf 1 _ rfl
    have g2 := hf 2 _ rfl
    simp [Try.cells3, Try.cells9] at g0 g1 g2
    match xs, hxl with
    | [y0, y1, y2], _ =>
      simp at g0 g1 g2
      obtain ⟨a0, e0, _, _⟩ := DataW.trod_int Try.underlying3 g0
      obtain ⟨a1, e1, _, hs⟩ := DataW.trod_string Try.underlying9 g1
      obtain ⟨a2, e2, _, _⟩ := DataW.trod_int Try.underlying3 g2
      cases e0; cases e1; cases e2
      exact ⟨⟨a0, a1, a2⟩, rfl, hs⟩

/-- A script. -/
theorem open_script {W : World} {base : Nat} {v : Value} {d : DataW H} {p : List MemPlace} (hv : Value.okWide Try.prog W .any base 22 v) (h : DataW.Trod enc Try.prog W 0 (fun _ => true) true 22 v d p) :
    ∃ ao cap, ∃ acts : List Ac, v = .slice ao acts.length cap ∧ Lies W 3 ao (acts.map Ac.cells) ∧ acts.length ≤ maxLen ∧ (∀ a ∈ acts, a.text.size ≤ maxLen) := by
  obtain ⟨a0, len, cap, rfl⟩ := okWide_slice Try.underlying22 hv
  obtain ⟨fuel, hf⟩ := h
  obtain ⟨ao, cap', acts, hcs, hle, hcm, hl, hg, hnone, hd⟩ := open_rows (α := Ac) (cells := Ac.cells) (good := fun a => a.text.size ≤ maxLen) Try.underlying22 Try.cells28 (by decide) open_ac hf
  simp only [Value.cells] at hcs
  obtain ⟨rfl, rfl, rfl⟩ : a0 = ao ∧ len = acts.length ∧ cap = cap' := by simpa using hcs
  exact ⟨a0, cap, acts, rfl, hl, Nat.le_trans hle hcm, hg⟩

/-- A slice of texts. -/
theorem open_one {W : World} (n : Nat) (cs : List Value) (x : DataW H × List MemPlace) (_ : cs.length = 1) (h : DataW.trod enc Try.prog W 0 (fun _ => true) true n 9 cs = some x) :
    ∃ s : ByteArray, cs = [.string s] ∧ s.size ≤ maxLen := by
  obtain ⟨s, h, _, hs⟩ := DataW.trod_string Try.underlying9 h
  exact ⟨s, h, hs⟩
theorem open_texts {W : World} {base : Nat} {v : Value} {d : DataW H} {p : List MemPlace} (hv : Value.okWide Try.prog W .any base 38 v) (h : DataW.Trod enc Try.prog W 0 (fun _ => true) true 38 v d p) :
    ∃ ao cap, ∃ xs : List ByteArray, v = .slice ao xs.length cap ∧ Lies W 1 ao (xs.map fun s => [.string s]) ∧ xs.length ≤ maxLen ∧ (∀ a ∈ xs, a.size ≤ maxLen) := by
  obtain ⟨a0, len, cap, rfl⟩ := okWide_slice Try.underlying38 hv
  obtain ⟨fuel, hf⟩ := h
  obtain ⟨ao, cap', acts, hcs, hle, hcm, hl, hg, hnone, hd⟩ := open_rows (α := ByteArray) (cells := fun s => [.string s]) (good := fun a => a.size ≤ maxLen) Try.underlying38 Try.cells9 (by decide) open_one hf
  simp only [Value.cells] at hcs
  obtain ⟨rfl, rfl, rfl⟩ : a0 = ao ∧ len = acts.length ∧ cap = cap' := by simpa using hcs
  exact ⟨a0, cap, acts, rfl, hl, Nat.le_trans hle hcm, hg⟩
end
end Go.Proofs.Ytoomffplaopijaa
