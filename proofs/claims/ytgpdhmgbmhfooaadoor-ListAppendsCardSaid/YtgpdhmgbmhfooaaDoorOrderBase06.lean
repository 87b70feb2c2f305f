/-
  The walks of Order, what they share. MADE BY wip/genOrder06.py.
-/
import Derived.Test.YtgpdhmgbmhfooaaDoorMeans06
namespace Go.Proofs.YtgpdhmgbmhfooaaDoor
open Go.RowKit

abbrev VB (k n : Int) (t : ByteArray) (ao : Option Addr) (m cap : Nat) : Obj := .cells #[.int .i64 k, .int .i64 n, .string t, .slice ao m cap] 54
def TwoPost (w : World) (x : Int × Int) (e : Ending) (w' : World) : Prop := e = .returned (.tuple #[.int .i64 x.1, .int .i64 x.2]) ∧ Below w.heap.size w w'
/-- Two values lie in blocks of the call's own. -/
structure At2 (w W : World) (B : Nat) (oa ob : Obj) : Prop where
  a : W.heap[B]? = some oa
  b : W.heap[B + 1]? = some ob
  below : Below w.heap.size w W
theorem At2.mono {w W W' : World} {B : Nat} {oa ob : Obj} (h : At2 w W B oa ob) (hb : Below W.heap.size W W') : At2 w W' B oa ob :=
  ⟨(hb.block _ (lt_of_block h.a)).trans h.a, (hb.block _ (lt_of_block h.b)).trans h.b, h.below.trans (hb.mono h.below.size)⟩
theorem At2.drew {w W : World} {B : Nat} {oa ob : Obj} (h : At2 w W B oa ob) : At2 w W.drew B oa ob := ⟨h.a, h.b, h.below.drew⟩
theorem at2_start (w : World) (oa ob : Obj) : At2 w ((w.alloc oa).alloc ob) w.heap.size oa ob :=
  ⟨(Below.heap_alloc _ _ _ (by simp)).trans (heap_alloc_new w oa), by have h := heap_alloc_new (w.alloc oa) ob; simpa using h, (below_alloc1 w oa).alloc (by simp) ob⟩
theorem cells4 {W : World} {B : Nat} {k n : Int} {t : ByteArray} {ao : Option Addr} {m cap : Nat} (h : W.heap[B]? = some (VB k n t ao m cap)) :
    W.cell? ⟨B, 0, none⟩ = some (.int .i64 k) ∧ W.cell? ⟨B, 1, none⟩ = some (.int .i64 n) ∧ W.cell? ⟨B, 2, none⟩ = some (.string t) ∧ W.cell? ⟨B, 3, none⟩ = some (.slice ao m cap) :=
  ⟨cell_blk h 0, cell_blk h 1, cell_blk h 2, cell_blk h 3⟩
/-- The order of two values, and an error's number. -/
def orderP (k1 n1 : Int) (t1 : Bs) (m1 : Nat) (k2 n2 : Int) (t2 : Bs) (m2 : Nat) : Int × Int :=
  if !(plainP k1 && plainP k2) then (0, 15)
  else if k1 = 1 ∨ k2 = 1 ∨ (k1 ≠ 3 ∧ k2 ≠ 3 ∧ (k1 = 0 ∨ k2 = 0)) then (truthsP (truthP k1 n1 t1 m1) (truthP k2 n2 t2 m2), 0)
  else if (numP k1 n1 t1).2 && (numP k2 n2 t2).2 then (Lib.compareInt (numP k1 n1 t1).1 (numP k2 n2 t2).1, 0)
  else (Lib.compareBytes (textP k1 n1 t1).1 (textP k2 n2 t2).1, 0)
end Go.Proofs.YtgpdhmgbmhfooaaDoor
