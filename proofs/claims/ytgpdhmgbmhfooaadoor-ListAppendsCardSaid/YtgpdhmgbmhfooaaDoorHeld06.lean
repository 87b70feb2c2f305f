/-
  What regions keep that load values and call functions which make memory.
-/
import Derived.Test.YtgpdhmgbmhfooaaDoorAlive06
import Derived.Deep.RegionHeld3
namespace Go.Proofs.YtgpdhmgbmhfooaaDoor
open Go.RowKit

/-- What the region of one value keeps. -/
def S1 (w : World) (B : Nat) (oa : Obj) (W : World) : Prop := Tabs w ∧ At1 w W B oa
theorem S1.tabs {w W : World} {B : Nat} {oa : Obj} (h : S1 w B oa W) : Tabs W := h.1.mono h.2.below
theorem S1.below {w W : World} {B : Nat} {oa : Obj} (h : S1 w B oa W) : Below w.heap.size w W := h.2.below
theorem cellsV {w W : World} {B : Nat} {k n : Int} {t : ByteArray} {ao : Option Addr} {m cap : Nat} (h : S1 w B (VB k n t ao m cap) W) :
    W.cell? ⟨B, 0, none⟩ = some (.int .i64 k) ∧ W.cell? ⟨B, 1, none⟩ = some (.int .i64 n) ∧ W.cell? ⟨B, 2, none⟩ = some (.string t) ∧ W.cell? ⟨B, 3, none⟩ = some (.slice ao m cap) ∧ S1 w B (VB k n t ao m cap) W := by
  obtain ⟨a, b, c, d⟩ := cells4 h.2.a
  exact ⟨a, b, c, d, h⟩
theorem S1.mono {w W W' : World} {B : Nat} {oa : Obj} (h : S1 w B oa W) (hb : Below W.heap.size W W') : S1 w B oa W' := ⟨h.1, h.2.mono hb⟩
theorem S1.drew {w W : World} {B : Nat} {oa : Obj} (h : S1 w B oa W) : S1 w B oa W.drew := ⟨h.1, h.2.drew⟩
theorem last5 {w W : World} {B : Nat} {k n : Int} {t : ByteArray} {ao : Option Addr} {m cap : Nat} (h : W.cell? ⟨B, 0, none⟩ = some (.int .i64 k) ∧ W.cell? ⟨B, 1, none⟩ = some (.int .i64 n) ∧ W.cell? ⟨B, 2, none⟩ = some (.string t) ∧ W.cell? ⟨B, 3, none⟩ = some (.slice ao m cap) ∧ S1 w B (VB k n t ao m cap) W) : S1 w B (VB k n t ao m cap) W := h.2.2.2.2
/-- What the region of two values keeps. -/
def S2 (w : World) (B : Nat) (oa ob : Obj) (W : World) : Prop := Tabs w ∧ At2 w W B oa ob
theorem S2.tabs {w W : World} {B : Nat} {oa ob : Obj} (h : S2 w B oa ob W) : Tabs W := h.1.mono h.2.below
theorem S2.below {w W : World} {B : Nat} {oa ob : Obj} (h : S2 w B oa ob W) : Below w.heap.size w W := h.2.below
theorem cellsV2 {w W : World} {B : Nat} {k n : Int} {t : ByteArray} {ao : Option Addr} {m cap : Nat} {k' n' : Int} {t' : ByteArray} {ao' : Option Addr} {m' cap' : Nat} (h : S2 w B (VB k n t ao m cap) (VB k' n' t' ao' m' cap') W) :
    W.cell? ⟨B, 0, none⟩ = some (.int .i64 k) ∧ W.cell? ⟨B, 1, none⟩ = some (.int .i64 n) ∧ W.cell? ⟨B, 2, none⟩ = some (.string t) ∧ W.cell? ⟨B, 3, none⟩ = some (.slice ao m cap) ∧ W.cell? ⟨B + 1, 0, none⟩ = some (.int .i64 k') ∧ W.cell? ⟨B + 1, 1, none⟩ = some (.int .i64 n') ∧ W.cell? ⟨B + 1, 2, none⟩ = some (.string t') ∧ W.cell? ⟨B + 1, 3, none⟩ = some (.slice ao' m' cap') ∧ S2 w B (VB k n t ao m cap) (VB k' n' t' ao' m' cap') W := by
  obtain ⟨a, b, c, d⟩ := cells4 h.2.a
  obtain ⟨a', b', c', d'⟩ := cells4 h.2.b
  exact ⟨a, b, c, d, a', b', c', d', h⟩
theorem last9 {w W : World} {B : Nat} {k n : Int} {t : ByteArray} {ao : Option Addr} {m cap : Nat} {k' n' : Int} {t' : ByteArray} {ao' : Option Addr} {m' cap' : Nat} (h : W.cell? ⟨B, 0, none⟩ = some (.int .i64 k) ∧ W.cell? ⟨B, 1, none⟩ = some (.int .i64 n) ∧ W.cell? ⟨B, 2, none⟩ = some (.string t) ∧ W.cell? ⟨B, 3, none⟩ = some (.slice ao m cap) ∧ W.cell? ⟨B + 1, 0, none⟩ = some (.int .i64 k') ∧ W.cell? ⟨B + 1, 1, none⟩ = some (.int .i64 n') ∧ W.cell? ⟨B + 1, 2, none⟩ = some (.string t') ∧ W.cell? ⟨B + 1, 3, none⟩ = some (.slice ao' m' cap') ∧ S2 w B (VB k n t ao m cap) (VB k' n' t' ao' m' cap') W) : S2 w B (VB k n t ao m cap) (VB k' n' t' ao' m' cap') W := h.2.2.2.2.2.2.2.2
theorem S2.mono {w W W' : World} {B : Nat} {oa ob : Obj} (h : S2 w B oa ob W) (hb : Below W.heap.size W W') : S2 w B oa ob W' := ⟨h.1, h.2.mono hb⟩
theorem S2.drew {w W : World} {B : Nat} {oa ob : Obj} (h : S2 w B oa ob W) : S2 w B oa ob W.drew := ⟨h.1, h.2.drew⟩
/-- A guard whose own operation was passed over. -/
theorem yld_undef : Go.yielded.match_1 (fun _ => Option Bool) (some undef) (fun b => some b) (fun _ => none) = none := rfl
end Go.Proofs.YtgpdhmgbmhfooaaDoor
