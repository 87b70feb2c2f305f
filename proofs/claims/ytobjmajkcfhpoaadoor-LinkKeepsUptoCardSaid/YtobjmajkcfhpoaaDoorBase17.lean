/-
  What the world gives the walks of chapter 17; little laws.
-/
import Derived.Test.YtobjmajkcfhpoaaDoorBytes
import Derived.Test.YtobjmajkcfhpoaaDoorLaw
import Derived.Test.YtobjmajkcfhpoaaDoorShelf
import Derived.Deep.RegionHeld3
import Derived.Deep.QuietTactic
import Derived.BigQuiet
namespace Go.Proofs.YtobjmajkcfhpoaaDoor
open Go.RowKit

theorem cell_lt {w : World} {p : Addr} {v : Value} (h : w.cell? p = some v) : p.block < w.heap.size := by
  rcases Nat.lt_or_ge p.block w.heap.size with hl | hl
  · exact hl
  · simp [World.cell?, Array.getElem?_eq_none hl] at h
/-- What the world's shape gives: the variable that strings.Split reads. -/
structure Tabs (w : World) : Prop where
  len : ∃ m, w.cell? ⟨0, 0, none⟩ = some (.int .i64 m)
theorem Tabs.mono {w w' : World} (h : Tabs w) (hb : Below w.heap.size w w') : Tabs w' := ⟨let ⟨m, e⟩ := h.len; ⟨m, (hb.cell (cell_lt e)).trans e⟩⟩
theorem wrap_in {x : Int} (h0 : -9223372036854775808 ≤ x) (h1 : x ≤ 9223372036854775807) : IntKind.i64.wrap x = x := by rw [IntKind.wrap_i64]; omega
def BoolPost (w : World) (b : Bool) (e : Ending) (w' : World) : Prop := e = .returned (.bool b) ∧ Below w.heap.size w w'
def IntPost (w : World) (x : Int) (e : Ending) (w' : World) : Prop := e = .returned (.int .i64 x) ∧ Below w.heap.size w w'
theorem below_alloc1 (w : World) (o : Obj) : Below w.heap.size w (w.alloc o) := (Below.refl _ w).alloc (Nat.le_refl _) o
theorem belowN {B : Nat} {a w : World} (h : Below B a w) (n : Nat) : Below B a (w.drewN n) := ⟨h.os, h.tape, h.output, h.size, h.block⟩
theorem belowD {B : Nat} {a w : World} (h : Below B a w) : Below B a w.drew := ⟨h.os, h.tape, h.output, h.size, h.block⟩
theorem bl_eq (s : ByteArray) : s.toList = s.data.toList := ByteArray.toList_eq s
theorem wr64 {x : Int} (h0 : -9223372036854775808 ≤ x) (h1 : x ≤ 9223372036854775807) : wrap64 x = x := by unfold wrap64; omega
theorem wr_sm {x : Int} (h0 : -9223372036854775808 ≤ x) (h1 : x ≤ 9223372036854775807) : wrap64 x = x ∧ IntKind.i64.wrap x = x := ⟨wr64 h0 h1, wrap_in h0 h1⟩
/-- A value lies in a block of the call's own. -/
structure At1 (w W : World) (B : Nat) (oa : Obj) : Prop where
  a : W.heap[B]? = some oa
  below : Below w.heap.size w W
theorem At1.mono {w W W' : World} {B : Nat} {oa : Obj} (h : At1 w W B oa) (hb : Below W.heap.size W W') : At1 w W' B oa :=
  ⟨(hb.block _ (lt_of_block h.a)).trans h.a, h.below.trans (hb.mono h.below.size)⟩
theorem At1.drew {w W : World} {B : Nat} {oa : Obj} (h : At1 w W B oa) : At1 w W.drew B oa := ⟨h.a, h.below.drew⟩
theorem at1_start (w : World) (oa : Obj) : At1 w (w.alloc oa) w.heap.size oa := ⟨heap_alloc_new w oa, below_alloc1 w oa⟩
/-- Two values lie in blocks of the call's own. -/
structure At2 (w W : World) (B : Nat) (oa ob : Obj) : Prop where
  a : W.heap[B]? = some oa
  b : W.heap[B + 1]? = some ob
  below : Below w.heap.size w W
theorem At2.mono {w W W' : World} {B : Nat} {oa ob : Obj} (h : At2 w W B oa ob) (hb : Below W.heap.size W W') : At2 w W' B oa ob :=
  ⟨(hb.block _ (lt_of_block h.a)).trans h.a, (hb.block _ (lt_of_block h.b)).trans h.b, h.below.trans (hb.mono h.below.size)⟩
theorem At2.drew {w W : World} {B : Nat} {oa ob : Obj} (h : At2 w W B oa ob) : At2 w W.drew B oa ob := ⟨h.a, h.b, h.below.drew⟩
theorem at2_start (w : World) (oa ob : Obj) : At2 w ((w.alloc oa).alloc ob) w.heap.size oa ob :=
  ⟨(Below.heap_alloc _ _ _ (by simp)).trans (heap_alloc_new w oa), by have h := heap_alloc_new (w.alloc oa) ob; simpa using h, (below_alloc1 w oa).alloc (by simp) ob⟩
theorem gA {α : Type} {l : List α} {i : Nat} : l.toArray[i]? = l[i]? := List.getElem?_toArray
theorem gS {α : Type} {a : α} {l : List α} {i : Nat} : (a :: l)[i + 1]? = l[i]? := List.getElem?_cons_succ
theorem gZ {α : Type} {a : α} {l : List α} : (a :: l)[0]? = some a := List.getElem?_cons_zero
theorem pA {α : Type} {l : List α} {i : Nat} {a : α} : l.toArray.setIfInBounds i a = (l.set i a).toArray := List.setIfInBounds_toArray ..
theorem pZ {α : Type} {a b : α} {l : List α} : (a :: l).set 0 b = b :: l := List.set_cons_zero
theorem pS {α : Type} {a b : α} {l : List α} {i : Nat} : (a :: l).set (i + 1) b = a :: l.set i b := List.set_cons_succ
theorem yld_undef : Go.yielded.match_1 (fun _ => Option Bool) (some undef) (fun b => some b) (fun _ => none) = none := rfl
end Go.Proofs.YtobjmajkcfhpoaaDoor
