/-
  What the listed variables give; Itoa, Atoi and Norm.
-/
import Derived.Test.YtnaefnojmiolbaaGreatDoorDigZ
import Derived.Test.YtnaefnojmiolbaaGreatDoorPlainZ
import Derived.Test.YtnaefnojmiolbaaGreatDoorLaw
import Derived.Test.YtnaefnojmiolbaaGreatDoorShelf
import Derived.Shelf.Unicode.DecodeSlow
import Derived.Lib.AtoiErrMem
import Derived.Lib.AppendIntMem
import Derived.Deep.RegionHeld3
import Derived.Deep.QuietTactic
import Derived.BigQuiet
namespace Go.Proofs.YtnaefnojmiolbaaGreatDoor
open Go.RowKit

/-- What the listed variables read as. -/
structure Tabs (w : World) : Prop where
  pow : Lib.TabIs Tryz.prog w "internal/strconv.uint64pow10" .u64 Lib.pow10Tab
  rng : ∃ tp p, w.var? Tryz.prog "strconv.ErrRange" = some #[.iface tp p]
  syn : ∃ tp p, w.var? Tryz.prog "strconv.ErrSyntax" = some #[.iface tp p]
  len : ∃ m, w.cell? ⟨2, 0, none⟩ = some (.int .i64 m)
  utf : Lib.Utf8Tabs 0 1 w
theorem var_keep {P : Program} {w w' : World} {n : String} {cs : Array Value} (h : w.var? P n = some cs) (hb : Below w.heap.size w w') : w'.var? P n = some cs := by
  cases hg : P.globalNamed n with
  | none => unfold World.var? at h; rw [hg] at h; cases h
  | some g =>
    have hlt : g < w.heap.size := by
      rcases Nat.lt_or_ge g w.heap.size with hl | hl
      · exact hl
      · unfold World.var? at h
        rw [hg] at h
        simp only [Option.bind_some] at h
        rw [Array.getElem?_eq_none hl] at h
        cases h
    exact var?_below hb hg hlt h
theorem cell_lt {w : World} {p : Addr} {v : Value} (h : w.cell? p = some v) : p.block < w.heap.size := by
  rcases Nat.lt_or_ge p.block w.heap.size with hl | hl
  · exact hl
  · simp [World.cell?, Array.getElem?_eq_none hl] at h
theorem utf_keep {w w' : World} (h : Lib.Utf8Tabs 0 1 w) (hb : Below w.heap.size w w') : Lib.Utf8Tabs 0 1 w' :=
  ⟨fun c hc => (hb.cell (cell_lt (h.1 c hc))).trans (h.1 c hc), fun i hi => ⟨(hb.cell (cell_lt (h.2 i hi).1)).trans (h.2 i hi).1, (hb.cell (cell_lt (h.2 i hi).2)).trans (h.2 i hi).2⟩⟩
theorem Tabs.mono {w w' : World} (h : Tabs w) (hb : Below w.heap.size w w') : Tabs w' :=
  ⟨var_keep h.pow hb, let ⟨a, b, e⟩ := h.rng; ⟨a, b, var_keep e hb⟩, let ⟨a, b, e⟩ := h.syn; ⟨a, b, var_keep e hb⟩, let ⟨m, e⟩ := h.len; ⟨m, (hb.cell (cell_lt e)).trans e⟩, utf_keep h.utf hb⟩
theorem Tabs.mono' {B : Nat} {w w' : World} (h : Tabs w) (hb : Below B w w') (hB : w.heap.size ≤ B) : Tabs w' :=
  h.mono ⟨hb.os, hb.tape, hb.output, hb.size, fun k hk => hb.block k (Nat.lt_of_lt_of_le hk hB)⟩

def BoolPost (w : World) (b : Bool) (e : Ending) (w' : World) : Prop := e = .returned (.bool b) ∧ Below w.heap.size w w'
def IntPost (w : World) (x : Int) (e : Ending) (w' : World) : Prop := e = .returned (.int .i64 x) ∧ Below w.heap.size w w'
theorem below_alloc1 (w : World) (o : Obj) : Below w.heap.size w (w.alloc o) := (Below.refl _ w).alloc (Nat.le_refl _) o
theorem belowN {B : Nat} {a w : World} (h : Below B a w) (n : Nat) : Below B a (w.drewN n) := ⟨h.os, h.tape, h.output, h.size, h.block⟩
theorem belowD {B : Nat} {a w : World} (h : Below B a w) : Below B a w.drew := ⟨h.os, h.tape, h.output, h.size, h.block⟩
theorem bl_eq (s : ByteArray) : s.toList = s.data.toList := ByteArray.toList_eq s
theorem wr64 {x : Int} (h0 : -9223372036854775808 ≤ x) (h1 : x ≤ 9223372036854775807) : wrap64 x = x := by unfold wrap64; omega
theorem wr_sm {x : Int} (h0 : -9223372036854775808 ≤ x) (h1 : x ≤ 9223372036854775807) : wrap64 x = x ∧ IntKind.i64.wrap x = x := ⟨wr64 h0 h1, wrap_in h0 h1⟩
theorem itoa_short {n : Int} (h0 : -9223372036854775808 ≤ n) (h1 : n ≤ 9223372036854775807) : (str (Lib.itoa n)).size ≤ 21 := by
  have h := Lib.itoa_length_le n h0 h1
  rw [str_size]
  omega
/-- A value lies in a block of the call's own. -/
structure At1 (w W : World) (B : Nat) (oa : Obj) : Prop where
  a : W.heap[B]? = some oa
  below : Below w.heap.size w W
theorem At1.mono {w W W' : World} {B : Nat} {oa : Obj} (h : At1 w W B oa) (hb : Below W.heap.size W W') : At1 w W' B oa :=
  ⟨(hb.block _ (lt_of_block h.a)).trans h.a, h.below.trans (hb.mono h.below.size)⟩
theorem At1.drew {w W : World} {B : Nat} {oa : Obj} (h : At1 w W B oa) : At1 w W.drew B oa := ⟨h.a, h.below.drew⟩
theorem at1_start (w : World) (oa : Obj) : At1 w (w.alloc oa) w.heap.size oa := ⟨heap_alloc_new w oa, below_alloc1 w oa⟩
/-- Two values lie in blocks of the call's own. -/
structure At2 (w W : World) (B : Nat) (oa ob : Obj) : Prop where
  a : W.heap[B]? = some oa
  b : W.heap[B + 1]? = some ob
  below : Below w.heap.size w W
theorem At2.mono {w W W' : World} {B : Nat} {oa ob : Obj} (h : At2 w W B oa ob) (hb : Below W.heap.size W W') : At2 w W' B oa ob :=
  ⟨(hb.block _ (lt_of_block h.a)).trans h.a, (hb.block _ (lt_of_block h.b)).trans h.b, h.below.trans (hb.mono h.below.size)⟩
theorem At2.drew {w W : World} {B : Nat} {oa ob : Obj} (h : At2 w W B oa ob) : At2 w W.drew B oa ob := ⟨h.a, h.b, h.below.drew⟩
theorem at2_start (w : World) (oa ob : Obj) : At2 w ((w.alloc oa).alloc ob) w.heap.size oa ob :=
  ⟨(Below.heap_alloc _ _ _ (by simp)).trans (heap_alloc_new w oa), by have h := heap_alloc_new (w.alloc oa) ob; simpa using h, (below_alloc1 w oa).alloc (by simp) ob⟩
/-- What the region of one value keeps. -/
def S1 (w : World) (B : Nat) (oa : Obj) (W : World) : Prop := Tabs w ∧ At1 w W B oa
theorem S1.tabs {w W : World} {B : Nat} {oa : Obj} (h : S1 w B oa W) : Tabs W := h.1.mono h.2.below
theorem S1.below {w W : World} {B : Nat} {oa : Obj} (h : S1 w B oa W) : Below w.heap.size w W := h.2.below
theorem S1.mono {w W W' : World} {B : Nat} {oa : Obj} (h : S1 w B oa W) (hb : Below W.heap.size W W') : S1 w B oa W' := ⟨h.1, h.2.mono hb⟩
theorem S1.drew {w W : World} {B : Nat} {oa : Obj} (h : S1 w B oa W) : S1 w B oa W.drew := ⟨h.1, h.2.drew⟩
/-- What the region of two values keeps. -/
def S2 (w : World) (B : Nat) (oa ob : Obj) (W : World) : Prop := Tabs w ∧ At2 w W B oa ob
theorem S2.tabs {w W : World} {B : Nat} {oa ob : Obj} (h : S2 w B oa ob W) : Tabs W := h.1.mono h.2.below
theorem S2.below {w W : World} {B : Nat} {oa ob : Obj} (h : S2 w B oa ob W) : Below w.heap.size w W := h.2.below
theorem S2.mono {w W W' : World} {B : Nat} {oa ob : Obj} (h : S2 w B oa ob W) (hb : Below W.heap.size W W') : S2 w B oa ob W' := ⟨h.1, h.2.mono hb⟩
theorem S2.drew {w W : World} {B : Nat} {oa ob : Obj} (h : S2 w B oa ob W) : S2 w B oa ob W.drew := ⟨h.1, h.2.drew⟩
/-- A guard whose own operation was passed over. -/
theorem gA {α : Type} {l : List α} {i : Nat} : l.toArray[i]? = l[i]? := List.getElem?_toArray
theorem gS {α : Type} {a : α} {l : List α} {i : Nat} : (a :: l)[i + 1]? = l[i]? := List.getElem?_cons_succ
theorem gZ {α : Type} {a : α} {l : List α} : (a :: l)[0]? = some a := List.getElem?_cons_zero
theorem pA {α : Type} {l : List α} {i : Nat} {a : α} : l.toArray.setIfInBounds i a = (l.set i a).toArray := List.setIfInBounds_toArray ..
theorem pZ {α : Type} {a b : α} {l : List α} : (a :: l).set 0 b = b :: l := List.set_cons_zero
theorem pS {α : Type} {a b : α} {l : List α} {i : Nat} : (a :: l).set (i + 1) b = a :: l.set i b := List.set_cons_succ
theorem yld_undef : Go.yielded.match_1 (fun _ => Option Bool) (some undef) (fun b => some b) (fun _ => none) = none := rfl
end Go.Proofs.YtnaefnojmiolbaaGreatDoor
