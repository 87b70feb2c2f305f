/-
  The walk of does at Send; does at heads that stand alike; the document's New.
-/
import Derived.Test.YthnhpnmopjbaoaaDoorDoes11
namespace Go.Proofs.YthnhpnmopjbaoaaDoor
open Go.RowKit

theorem cell52 {w : World} {B : Nat} {c : Int} {v : Value} {s : Bool} (h : w.heap[B]? = some (.cells #[.int .i64 c, v, .bool s] 52 (0, 0))) : w.cell? ⟨B, 0, none⟩ = some (.int .i64 c) ∧ w.cell? ⟨B, 1, none⟩ = some v ∧ w.cell? ⟨B, 2, none⟩ = some (.bool s) := ⟨cell_blk h 0, cell_blk h 1, cell_blk h 2⟩
set_option maxRecDepth 100000 in
theorem rnew_any (w : World) : Calls Tryd.prog 23 #[] w fun e w' => e = .returned (.agg #[.int .i64 200, .slice none 0 0, .bool false]) ∧ Below w.heap.size w w' := by
  have b0 := heap_alloc_new w (.cells #[.int .i64 200, .slice none 0 0, .bool false] 52)
  obtain ⟨x0, x1, x2⟩ := cell52 b0
  go_enter Tryd.func23, Tryd.ntmps23
  go_wp2_with fail
  exact bodyPost_ret (v := .agg #[.int .i64 200, .slice none 0 0, .bool false]) (by simp [results, Tryd.results23, go_sem, x0, x1, x2]) rfl ⟨rfl, below_alloc1 _ _⟩
set_option maxHeartbeats 1600000 in
set_option maxRecDepth 100000 in
theorem does_4 {B : Nat} {W0 w : World} {h r : Nat} {a : HA} {sH sR : Bool} {cH cR : Int} {lH lR : List ByteArray} (ht : ∀ W', Below B W0 W' → TabsR W') (hb : Below B W0 w) (hl : HLive B w h sH cH lH) (rl : RLive B w r sR cR lR) (hkq : kindOf a.kind = 4) :
    Calls Tryd.prog 24 #[.pointer (some ⟨h, 0, none⟩), .pointer (some ⟨r, 0, none⟩), .agg #[.int .i64 a.kind, .string a.s, .string a.t, .string a.u, .bool a.r, .int .i64 a.n]] w (DPost B W0 w h r ((!sH) == (!sR)) (true, cH, lH) (true, cR, lR)) := by
  have hB := hl.size
  have D0 := Lib.hid (⟨ht, hl.below (below_alloc1 _ _), rl.below (below_alloc1 _ _), heap_alloc_new _ _, hb.alloc (Nat.le_trans hB (Nat.le_refl _)) _, (Mod.refl _ _).alloc _⟩ : DS B W0 w (w.alloc (HAB a)) h r w.heap.size a sH cH lH sR cR lR)
  have hkw := kind_wrap (kind := a.kind)
  have hq : (a.kind.tmod 5 + 5).tmod 5 = 4 := hkq
  obtain ⟨y0, y1, y2, y3, y4, y5⟩ := D0.out.cells
  have hra := rl.above
  obtain ⟨v, i, hv⟩ := D0.out.rl.is
  have z2 := i.cells.2.2
  have f2 := free_blk i.blk 2
  have D1 : Hid (DS B W0 w ((w.alloc (HAB a)).setCell ⟨r, 2, none⟩ (.bool true)) h r w.heap.size a sH cH lH true cR lR) := Lib.hid (by
    have m : Mod (fun k => k = r) (w.alloc (HAB a)) ((w.alloc (HAB a)).setCell ⟨r, 2, none⟩ (.bool true)) := (Mod.refl _ _).setCell _ _ (fun _ => rfl)
    exact D0.out.rOp ⟨hra, v, i.setSent, hv⟩ (m.belowB (fun k hk e => by omega) D0.out.hl.size) m)
  have HS := live_send D1.out.hl
  clear hl rl ht hb hkq i hv
  go_enter Tryd.func24, Tryd.ntmps24
  go_wp2_with fail
  refine HS.mono ?_
  rintro e w1 ⟨rfl, l1, b1, m1⟩
  have D2 := Lib.hid (D1.out.hOp l1 b1 m1)
  clear l1 b1 m1 HS
  go_wp2_with fail
  go_ret
  exact ⟨rfl, D2.out.hl, D2.out.rl, D2.out.below, D2.out.md⟩
/-- The heads behind a call. -/
def nextS (H : Bool × Int × List ByteArray) (a : HA) : Bool × Int × List ByteArray :=
  if kindOf a.kind = 4 then (true, H.2.1, H.2.2) else (H.1, (actS H.1 H.2.1 H.2.2 a).2)
theorem Small.actS {s : Bool} {c : Int} {l : List ByteArray} (h : Small l) {a : HA} (ha : a.Ok) : Small (actS s c l a).2.2 := by
  unfold Go.Proofs.YthnhpnmopjbaoaaDoor.actS
  cases s with
  | true => exact h
  | false => exact h.act ha
theorem Small.next {H : Bool × Int × List ByteArray} (h : Small H.2.2) {a : HA} (ha : a.Ok) : Small (nextS H a).2.2 := by
  unfold nextS
  split
  · exact h
  · exact h.actS ha
/-- does at heads that stand alike: they stand alike behind it. -/
theorem does_same {B : Nat} {W0 w : World} {h r : Nat} {a : HA} {H : Bool × Int × List ByteArray} (ht : ∀ W', Below B W0 W' → TabsR W') (hb : Below B W0 w) (hl : HLive B w h H.1 H.2.1 H.2.2) (rl : RLive B w r H.1 H.2.1 H.2.2) (hs : Small H.2.2) (ha : a.Ok) :
    Calls Tryd.prog 24 #[.pointer (some ⟨h, 0, none⟩), .pointer (some ⟨r, 0, none⟩), .agg #[.int .i64 a.kind, .string a.s, .string a.t, .string a.u, .bool a.r, .int .i64 a.n]] w (DPost B W0 w h r true (nextS H a) (nextS H a)) := by
  obtain ⟨s, c, l⟩ := H
  have hk := kind_range a.kind
  unfold nextS
  rcases (show kindOf a.kind = 0 ∨ kindOf a.kind = 1 ∨ kindOf a.kind = 2 ∨ kindOf a.kind = 3 ∨ kindOf a.kind = 4 by omega) with e | e | e | e | e
  · rw [if_neg (by omega)]; simpa using does_0 ht hb hl rl hs hs ha e
  · rw [if_neg (by omega)]; simpa using does_1 ht hb hl rl hs hs ha e
  · rw [if_neg (by omega)]; simpa using does_2 ht hb hl rl hs hs ha e
  · rw [if_neg (by omega)]; simpa using does_3 ht hb hl rl hs hs ha e
  · rw [if_pos e]; simpa using does_4 ht hb hl rl e
/-- does at heads that are sent, both: the same error, nothing turned. -/
theorem does_closed {B : Nat} {W0 w : World} {h r : Nat} {a : HA} {cH cR : Int} {lH lR : List ByteArray} (ht : ∀ W', Below B W0 W' → TabsR W') (hb : Below B W0 w) (hl : HLive B w h true cH lH) (rl : RLive B w r true cR lR) (hsH : Small lH) (hsR : Small lR) (ha : a.Ok) (hk4 : kindOf a.kind ≠ 4) :
    Calls Tryd.prog 24 #[.pointer (some ⟨h, 0, none⟩), .pointer (some ⟨r, 0, none⟩), .agg #[.int .i64 a.kind, .string a.s, .string a.t, .string a.u, .bool a.r, .int .i64 a.n]] w (DPost B W0 w h r true (true, cH, lH) (true, cR, lR)) := by
  have hk := kind_range a.kind
  rcases (show kindOf a.kind = 0 ∨ kindOf a.kind = 1 ∨ kindOf a.kind = 2 ∨ kindOf a.kind = 3 by omega) with e | e | e | e
  · exact does_0 ht hb hl rl hsH hsR ha e
  · exact does_1 ht hb hl rl hsH hsR ha e
  · exact does_2 ht hb hl rl hsH hsR ha e
  · exact does_3 ht hb hl rl hsH hsR ha e
end Go.Proofs.YthnhpnmopjbaoaaDoor
