/-
  The walk of Get.
-/
import Derived.Test.YtnaefnojmiolbaaGreatDoorJw5
namespace Go.Proofs.YtnaefnojmiolbaaGreatDoor
open Go.RowKit

abbrev V0 : Obj := .cells #[.int .i64 0, .int .i64 0, .string ⟨#[]⟩, .slice none 0 0] 24
/-- Get is under way: its key stands in block B, its result behind. -/
structure InL (w W : World) (b : Nat) (v : Value) (mb : Nat) (l : LS) (ys : List It2) (B : Nat) (k : K) : Prop where
  tabs : Tabs w
  lst : LIs W b v mb l ys
  key : W.heap[B]? = some (KB k.b k.n k.t)
  res : W.heap[B + 1]? = some V0
  below : Below w.heap.size w W
section
variable {w W W' : World} {b : Nat} {v : Value} {mb : Nat} {l : LS} {ys : List It2} {B : Nat} {k : K}
theorem InL.tabsW (h : InL w W b v mb l ys B k) : Tabs W := h.tabs.mono h.below
theorem InL.mono (h : InL w W b v mb l ys B k) (hb : Below W.heap.size W W') : InL w W' b v mb l ys B k :=
  ⟨h.tabs, h.lst.under hb, (hb.block _ (lt_of_block h.key)).trans h.key, (hb.block _ (lt_of_block h.res)).trans h.res, h.below.trans (hb.mono h.below.size)⟩
def InS (b mb B : Nat) (k q : K) (n : Int) (f : Bool) (W : World) : Prop :=
  W.cell? ⟨b, 3, none⟩ = some (.map (some mb)) ∧ W.cell? ⟨B, 0, none⟩ = some (.bool k.b) ∧ W.cell? ⟨B, 1, none⟩ = some (.int .i64 k.n) ∧ W.cell? ⟨B, 2, none⟩ = some (.string k.t) ∧
    (Instr.lookup 158 (.map (some mb)) (.agg #[.bool q.b, .int .i64 q.n, .string q.t]) true).run Tryz.prog W = .ok (.tuple #[.int .i64 n, .bool f]) W
theorem InL.sn (h : InL w W b v mb l ys B k) {q : K} (hk : q.Good) (hf : findK q l.xs = none) : InS b mb B k q 0 false W := by
  obtain ⟨x0, x1, x2⟩ := cells3 h.key
  exact ⟨(cells5 h.lst.blk).2.2.2.1, x0, x1, x2, look_none h.lst hk hf⟩
theorem InL.sy (h : InL w W b v mb l ys B k) {q : K} (hk : q.Good) {j : Nat} (hf : findK q l.xs = some j) : InS b mb B k q j true W := by
  obtain ⟨x0, x1, x2⟩ := cells3 h.key
  exact ⟨(cells5 h.lst.blk).2.2.2.1, x0, x1, x2, look_some h.lst hk hf⟩
end
theorem vb4 {W : World} {B : Nat} {a b c d : Value} (h : W.heap[B]? = some (.cells #[a, b, c, d] 24 (0, 0))) : W.cell? ⟨B, 0, none⟩ = some a ∧ W.cell? ⟨B, 1, none⟩ = some b ∧ W.cell? ⟨B, 2, none⟩ = some c ∧ W.cell? ⟨B, 3, none⟩ = some d := ⟨cell_blk h 0, cell_blk h 1, cell_blk h 2, cell_blk h 3⟩
/-- What Get gives. -/
def GetPost (w : World) (f : Bool) (e : Ending) (w' : World) : Prop := ∃ x1 x2 x3 ao m cap, e = .returned (.tuple #[.agg #[.int .i64 x1, .int .i64 x2, .string x3, .slice ao m cap], .bool f]) ∧ Below w.heap.size w w'
end Go.Proofs.YtnaefnojmiolbaaGreatDoor
