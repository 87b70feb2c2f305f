/-
  The walk of the laws' does of heads (printed by genDoes11.py).
-/
import Derived.Test.YthnhpnmopjbaoaaDoorRCookie11
import Derived.Test.YthnhpnmopjbaoaaDoorRefuses11
import Derived.Deep.RegionHeld3
namespace Go.Proofs.YthnhpnmopjbaoaaDoor
open Go.RowKit

/-- The document's heads above a line. -/
structure RLive (B : Nat) (w : World) (r : Nat) (sent : Bool) (code : Int) (ls : List ByteArray) : Prop where
  above : B ≤ r
  is : ∃ v, RIs w r sent code v ls ∧ ∀ g, v.ownBlock = some g → B ≤ g
theorem owns9 {w : World} {v : Value} {rows : List (List Value)} (o : Owns w 9 1 v rows) {g : Nat} (hg : v.ownBlock = some g) : ∃ cur, w.heap[g]? = some (.cells cur 9 (0, 0)) := by
  rcases o.row.2 with ⟨rfl, _⟩ | ⟨g', cap, cur, rfl, _, hgg, _⟩
  · simp [Value.ownBlock] at hg
  · simp [Value.ownBlock] at hg; subst hg; exact ⟨cur, hgg⟩
section
variable {B : Nat} {w w' : World} {h r : Nat} {sent : Bool} {code : Int} {ls : List ByteArray}
theorem RLive.lt (l : RLive B w r sent code ls) : r < w.heap.size := by obtain ⟨_, v, i, _⟩ := l; exact lt_of_block i.blk
theorem RLive.len (l : RLive B w r sent code ls) : ls.length ≤ 64 := by obtain ⟨_, v, i, _⟩ := l; exact i.len
theorem RLive.blk (l : RLive B w r sent code ls) : ∃ cs, w.heap[r]? = some (.cells cs 52 (0, 0)) := by obtain ⟨_, v, i, _⟩ := l; exact ⟨_, i.blk⟩
theorem HLive.blk (l : HLive B w h sent code ls) : ∃ cs, w.heap[h]? = some (.cells cs 71 (0, 0)) := by obtain ⟨_, v, i, _⟩ := l; exact ⟨_, i.blk⟩
theorem RLive.keep (l : RLive B w r sent code ls) (m : Mod (fun k => k = h) w w') (hh : ∃ cs, w.heap[h]? = some (.cells cs 71 (0, 0))) : RLive B w' r sent code ls := by
  obtain ⟨ha, v, i, hv⟩ := l
  obtain ⟨cs, hc⟩ := hh
  refine ⟨ha, v, i.mod m (fun e => ?_) (fun g hg e => ?_), hv⟩
  · have := i.blk; rw [show r = h from e, hc] at this; cases this
  · obtain ⟨cur, hcur⟩ := owns9 i.own hg
    rw [show g = h from e, hc] at hcur; cases hcur
theorem HLive.keep (l : HLive B w h sent code ls) (m : Mod (fun k => k = r) w w') (hh : ∃ cs, w.heap[r]? = some (.cells cs 52 (0, 0))) : HLive B w' h sent code ls := by
  obtain ⟨ha, v, i, hv⟩ := l
  obtain ⟨cs, hc⟩ := hh
  refine ⟨ha, v, i.mod m (fun e => ?_) (fun g hg e => ?_), hv⟩
  · have := i.blk; rw [show h = r from e, hc] at this; cases this
  · obtain ⟨cur, hcur⟩ := owns9 i.own hg
    rw [show g = r from e, hc] at hcur; cases hcur
theorem RLive.below (l : RLive B w r sent code ls) (hb : Below w.heap.size w w') : RLive B w' r sent code ls := by
  obtain ⟨ha, v, i, hv⟩ := l
  exact ⟨ha, v, i.below hb, hv⟩
/-- What a call on the document's heads above a line leaves. -/
def RLPost (B : Nat) (w : World) (r : Nat) (sent : Bool) (v : Value) (code : Int) (ls : List ByteArray) (e : Ending) (w' : World) : Prop := e = .returned v ∧ RLive B w' r sent code ls ∧ Below B w w' ∧ Mod (fun k => k = r) w w'
theorem RLive.next {v v' : Value} {sent' : Bool} {code' : Int} {ls' : List ByteArray} (ha : B ≤ r) (hh : r < w.heap.size) (hv : ∀ g, v.ownBlock = some g → B ≤ g) (i : RIs w' r sent' code' v' ls') (m : Mod (fun k => k = r) w w') (n : v' = v ∨ ∀ g, v'.ownBlock = some g → w.heap.size ≤ g) :
    RLive B w' r sent' code' ls' ∧ Below B w w' ∧ Mod (fun k => k = r) w w' :=
  ⟨⟨ha, v', i, fun g e => by
    rcases n with rfl | n
    · exact hv g e
    · have := n g e; omega⟩, m.belowB (fun k hk e => by omega) (by omega), m⟩
end
theorem actP_0 {code : Int} {ls : List ByteArray} {a : HA} (hk : kindOf a.kind = 0) : actP code ls a = lineP code ls a.s a.r a.n := by unfold actP; rw [if_pos hk]
theorem actP_1 {code : Int} {ls : List ByteArray} {a : HA} (hk : kindOf a.kind = 1) : actP code ls a = if 100 ≤ a.n ∧ a.n ≤ 599 then (0, a.n, ls) else (1, code, ls) := by unfold actP; rw [if_neg (by omega), if_pos hk]
theorem actP_2 {code : Int} {ls : List ByteArray} {a : HA} (hk : kindOf a.kind = 2) : actP code ls a = ((cookieP ls a.s a.t a.u a.n).1, code, (cookieP ls a.s a.t a.u a.n).2) := by unfold actP; rw [if_neg (by omega), if_neg (by omega), if_pos hk]
theorem actP_3 {code : Int} {ls : List ByteArray} {a : HA} (hk : kindOf a.kind = 3) : actP code ls a = (0, code, dropP (str (smallL a.s.toList)) ls) := by unfold actP; rw [if_neg (by omega), if_neg (by omega), if_neg (by omega), if_pos hk]
/-- What a call answers, and the heads behind it (any heads; not Send). -/
def actS (sent : Bool) (code : Int) (ls : List ByteArray) (a : HA) : Int × Int × List ByteArray := if sent then (17, code, ls) else actP code ls a
section
variable {B : Nat} {w : World} {h r : Nat} {sent : Bool} {code : Int} {ls : List ByteArray}
theorem s_0 (l : HLive B w h sent code ls) (ht : TabsR w) (hsz : Small ls) {a : HA} (ha : a.Ok) (hk : kindOf a.kind = 0) :
    Calls Tryd.prog 30 #[.pointer (some ⟨h, 0, none⟩), .string a.s, .bool a.r, .int .i64 a.n] w (HLPost B w h sent (.int .i64 (actS sent code ls a).1) (actS sent code ls a).2.1 (actS sent code ls a).2.2) := by
  have := live_line l ht hsz a.s (by have := ha.s; omega) a.r a.n
  unfold actS
  rw [actP_0 hk]
  cases sent <;> exact this
theorem s_1 (l : HLive B w h sent code ls) {a : HA} (hk : kindOf a.kind = 1) :
    Calls Tryd.prog 33 #[.pointer (some ⟨h, 0, none⟩), .int .i64 a.n] w (HLPost B w h sent (.int .i64 (actS sent code ls a).1) (actS sent code ls a).2.1 (actS sent code ls a).2.2) := by
  have := live_status l a.n
  unfold actS
  rw [actP_1 hk]
  cases sent with
  | true => rw [if_pos rfl, if_neg (fun e => by cases e.1)] at this; exact this
  | false =>
    by_cases hc : 100 ≤ a.n ∧ a.n ≤ 599
    · rw [if_pos hc]; rw [if_neg (by simp), if_pos hc, if_pos ⟨rfl, hc⟩] at this; exact this
    · rw [if_neg hc]; rw [if_neg (by simp), if_neg hc, if_neg (fun e => hc e.2)] at this; exact this
theorem s_2 (l : HLive B w h sent code ls) (ht : TabsR w) {a : HA} (ha : a.Ok) (hk : kindOf a.kind = 2) :
    Calls Tryd.prog 34 #[.pointer (some ⟨h, 0, none⟩), .string a.s, .string a.t, .string a.u, .int .i64 a.n] w (HLPost B w h sent (.int .i64 (actS sent code ls a).1) (actS sent code ls a).2.1 (actS sent code ls a).2.2) := by
  have := live_cookie l ht.t a.s a.t a.u a.n ha.lo ha.hi (by have := ha.s; omega) (by have := ha.t; omega) (by have := ha.u; omega)
  unfold actS
  rw [actP_2 hk]
  cases sent <;> exact this
theorem s_3 (l : HLive B w h sent code ls) (hsz : Small ls) {a : HA} (ha : a.Ok) (hk : kindOf a.kind = 3) :
    Calls Tryd.prog 32 #[.pointer (some ⟨h, 0, none⟩), .string a.s] w (HLPost B w h sent (.int .i64 (actS sent code ls a).1) (actS sent code ls a).2.1 (actS sent code ls a).2.2) := by
  have := live_remove l hsz a.s (by have := ha.s; omega)
  unfold actS
  rw [actP_3 hk]
  cases sent <;> exact this
theorem r_0 (l : RLive B w r sent code ls) (hsz : Small ls) {a : HA} (ha : a.Ok) (hk : kindOf a.kind = 0) :
    Calls Tryd.prog 42 #[.pointer (some ⟨r, 0, none⟩), .string a.s, .bool a.r, .int .i64 a.n] w (RLPost B w r sent (.int .i64 (actS sent code ls a).1) (actS sent code ls a).2.1 (actS sent code ls a).2.2) := by
  have hlt := l.lt
  obtain ⟨hab, v, i, hv⟩ := l
  have := rline_any i hsz a.s (by have := ha.s; omega) a.r a.n
  unfold actS
  rw [actP_0 hk]
  cases sent <;> exact this.mono fun e w' ⟨he, v', i', m, n'⟩ => ⟨he, RLive.next hab hlt hv i' m n'⟩
theorem r_1 (l : RLive B w r sent code ls) {a : HA} (hk : kindOf a.kind = 1) :
    Calls Tryd.prog 43 #[.pointer (some ⟨r, 0, none⟩), .int .i64 a.n] w (RLPost B w r sent (.int .i64 (actS sent code ls a).1) (actS sent code ls a).2.1 (actS sent code ls a).2.2) := by
  have hlt := l.lt
  obtain ⟨hab, v, i, hv⟩ := l
  unfold actS
  rw [actP_1 hk]
  cases sent with
  | true => exact (rstatusm_sent i a.n).mono fun e w' ⟨he, v', i', m, n'⟩ => ⟨he, RLive.next hab hlt hv i' m n'⟩
  | false =>
    have := rstatusm_open i a.n
    by_cases hc : 100 ≤ a.n ∧ a.n ≤ 599
    · rw [if_pos hc]; rw [if_pos hc, if_pos hc] at this; exact this.mono fun e w' ⟨he, v', i', m, n'⟩ => ⟨he, RLive.next hab hlt hv i' m n'⟩
    · rw [if_neg hc]; rw [if_neg hc, if_neg hc] at this; exact this.mono fun e w' ⟨he, v', i', m, n'⟩ => ⟨he, RLive.next hab hlt hv i' m n'⟩
theorem r_2 (l : RLive B w r sent code ls) {a : HA} (ha : a.Ok) (hk : kindOf a.kind = 2) :
    Calls Tryd.prog 44 #[.pointer (some ⟨r, 0, none⟩), .string a.s, .string a.t, .string a.u, .int .i64 a.n] w (RLPost B w r sent (.int .i64 (actS sent code ls a).1) (actS sent code ls a).2.1 (actS sent code ls a).2.2) := by
  have hlt := l.lt
  obtain ⟨hab, v, i, hv⟩ := l
  have := rcookie_any i a.s a.t a.u a.n ha.lo ha.hi (by have := ha.s; omega) (by have := ha.t; omega) (by have := ha.u; omega)
  unfold actS
  rw [actP_2 hk]
  cases sent <;> exact this.mono fun e w' ⟨he, v', i', m, n'⟩ => ⟨he, RLive.next hab hlt hv i' m n'⟩
theorem r_3 (l : RLive B w r sent code ls) (hsz : Small ls) {a : HA} (hk : kindOf a.kind = 3) :
    Calls Tryd.prog 45 #[.pointer (some ⟨r, 0, none⟩), .string a.s] w (RLPost B w r sent (.int .i64 (actS sent code ls a).1) (actS sent code ls a).2.1 (actS sent code ls a).2.2) := by
  have hlt := l.lt
  obtain ⟨hab, v, i, hv⟩ := l
  unfold actS
  rw [actP_3 hk]
  cases sent with
  | true => exact (rremove_sent i a.s).mono fun e w' ⟨he, v', i', m, n'⟩ => ⟨he, RLive.next hab hlt hv i' m n'⟩
  | false => exact (rremove_open i hsz a.s).mono fun e w' ⟨he, v', i', m, n'⟩ => ⟨he, RLive.next hab hlt hv i' m n'⟩
end
abbrev HAB (a : HA) : Obj := .cells #[.int .i64 a.kind, .string a.s, .string a.t, .string a.u, .bool a.r, .int .i64 a.n] 55
/-- A call of does is under way. -/
structure DS (B : Nat) (W0 wE W : World) (h r ab : Nat) (a : HA) (sH : Bool) (cH : Int) (lH : List ByteArray) (sR : Bool) (cR : Int) (lR : List ByteArray) : Prop where
  tabs : ∀ W', Below B W0 W' → TabsR W'
  hl : HLive B W h sH cH lH
  rl : RLive B W r sR cR lR
  act : W.heap[ab]? = some (HAB a)
  below : Below B W0 W
  md : Mod (fun k => k = h ∨ k = r) wE W
section
variable {B : Nat} {W0 wE W W' : World} {h r ab : Nat} {a : HA} {sH : Bool} {cH : Int} {lH : List ByteArray} {sR : Bool} {cR : Int} {lR : List ByteArray} {s' : Bool} {c' : Int} {l' : List ByteArray}
theorem DS.cells (d : DS B W0 wE W h r ab a sH cH lH sR cR lR) : W.cell? ⟨ab, 0, none⟩ = some (.int .i64 a.kind) ∧ W.cell? ⟨ab, 1, none⟩ = some (.string a.s) ∧ W.cell? ⟨ab, 2, none⟩ = some (.string a.t) ∧ W.cell? ⟨ab, 3, none⟩ = some (.string a.u) ∧ W.cell? ⟨ab, 4, none⟩ = some (.bool a.r) ∧ W.cell? ⟨ab, 5, none⟩ = some (.int .i64 a.n) :=
  ⟨cell_blk d.act 0, cell_blk d.act 1, cell_blk d.act 2, cell_blk d.act 3, cell_blk d.act 4, cell_blk d.act 5⟩
theorem DS.drew (d : DS B W0 wE W h r ab a sH cH lH sR cR lR) : DS B W0 wE W.drew h r ab a sH cH lH sR cR lR :=
  ⟨d.tabs, d.hl.below (belowD (Below.refl _ _)), d.rl.below (belowD (Below.refl _ _)), d.act, belowD d.below, d.md.drew⟩
theorem DS.hOp (d : DS B W0 wE W h r ab a sH cH lH sR cR lR) (l : HLive B W' h s' c' l') (hb : Below B W W') (m : Mod (fun k => k = h) W W') : DS B W0 wE W' h r ab a s' c' l' sR cR lR := by
  refine ⟨d.tabs, l, d.rl.keep m d.hl.blk, m.blk d.act (fun e => ?_), d.below.trans hb, d.md.trans (m.mono (fun _ _ e => .inl e))⟩
  obtain ⟨cs, hc⟩ := d.hl.blk
  have := d.act
  rw [show ab = h from e, hc] at this; cases this
theorem DS.rOp (d : DS B W0 wE W h r ab a sH cH lH sR cR lR) (l : RLive B W' r s' c' l') (hb : Below B W W') (m : Mod (fun k => k = r) W W') : DS B W0 wE W' h r ab a sH cH lH s' c' l' := by
  refine ⟨d.tabs, d.hl.keep m d.rl.blk, l, m.blk d.act (fun e => ?_), d.below.trans hb, d.md.trans (m.mono (fun _ _ e => .inr e))⟩
  obtain ⟨cs, hc⟩ := d.rl.blk
  have := d.act
  rw [show ab = r from e, hc] at this; cases this
end
/-- What does leaves. -/
def DPost (B : Nat) (W0 wE : World) (h r : Nat) (b : Bool) (H R : Bool × Int × List ByteArray) (e : Ending) (w' : World) : Prop :=
  e = .returned (.bool b) ∧ HLive B w' h H.1 H.2.1 H.2.2 ∧ RLive B w' r R.1 R.2.1 R.2.2 ∧ Below B W0 w' ∧ Mod (fun k => k = h ∨ k = r) wE w'
set_option maxHeartbeats 3200000 in
set_option maxRecDepth 100000 in
theorem does_0 {B : Nat} {W0 w : World} {h r : Nat} {a : HA} {sH sR : Bool} {cH cR : Int} {lH lR : List ByteArray} (ht : ∀ W', Below B W0 W' → TabsR W') (hb : Below B W0 w) (hl : HLive B w h sH cH lH) (rl : RLive B w r sR cR lR) (hsH : Small lH) (hsR : Small lR) (ha : a.Ok) (hkq : kindOf a.kind = 0) :
    Calls Tryd.prog 24 #[.pointer (some ⟨h, 0, none⟩), .pointer (some ⟨r, 0, none⟩), .agg #[.int .i64 a.kind, .string a.s, .string a.t, .string a.u, .bool a.r, .int .i64 a.n]] w (DPost B W0 w h r ((actS sH cH lH a).1 == (actS sR cR lR a).1) (sH, (actS sH cH lH a).2) (sR, (actS sR cR lR a).2)) := by
  have hB := hl.size
  have D0 : Hid (DS B W0 w (w.alloc (HAB a)).drew h r w.heap.size a sH cH lH sR cR lR) := Lib.hid (DS.drew ⟨ht, hl.below (below_alloc1 _ _), rl.below (below_alloc1 _ _), heap_alloc_new _ _, hb.alloc (Nat.le_trans hB (Nat.le_refl _)) _, (Mod.refl _ _).alloc _⟩)
  have D00 := Lib.hid (DS.cells (⟨ht, hl.below (below_alloc1 _ _), rl.below (below_alloc1 _ _), heap_alloc_new _ _, hb.alloc (Nat.le_trans hB (Nat.le_refl _)) _, (Mod.refl _ _).alloc _⟩ : DS B W0 w (w.alloc (HAB a)) h r w.heap.size a sH cH lH sR cR lR))
  have HSH := Lib.hid hsH
  have HSR := Lib.hid hsR
  have HOK := Lib.hid ha
  have hkw := kind_wrap (kind := a.kind)
  have hq : (a.kind.tmod 5 + 5).tmod 5 = 0 := hkq
  have HC0 := s_0 D0.out.hl (D0.out.tabs _ D0.out.below) HSH.out HOK.out hkq
  generalize actS sH cH lH a = AH at HC0 ⊢
  obtain ⟨nH, cH', lH'⟩ := AH
  have HCR : ∀ W, Hid (DS B W0 w W h r w.heap.size a sH cH' lH' sR cR lR) → Calls Tryd.prog 42 #[.pointer (some ⟨r, 0, none⟩), .string a.s, .bool a.r, .int .i64 a.n] W (RLPost B W r sR (.int .i64 (actS sR cR lR a).1) (actS sR cR lR a).2.1 (actS sR cR lR a).2.2) := fun W D1 => r_0 D1.out.rl HSR.out HOK.out hkq
  generalize actS sR cR lR a = AR at HCR ⊢
  obtain ⟨nR, cR', lR'⟩ := AR
  obtain ⟨y0, y1, y2, y3, y4, y5⟩ := D00.out
  have HS0 := Lib.hid D0.out.cells
  clear hl rl hsH hsR ha ht hb hkq D00
  go_enter Tryd.func24, Tryd.ntmps24
  go_wp2_with fail
  go_region_held3 (fun V => V.cell? ⟨w.heap.size, 0, none⟩ = some (.int .i64 a.kind) ∧ V.cell? ⟨w.heap.size, 1, none⟩ = some (.string a.s) ∧ V.cell? ⟨w.heap.size, 2, none⟩ = some (.string a.t) ∧ V.cell? ⟨w.heap.size, 3, none⟩ = some (.string a.u) ∧ V.cell? ⟨w.heap.size, 4, none⟩ = some (.bool a.r) ∧ V.cell? ⟨w.heap.size, 5, none⟩ = some (.int .i64 a.n))
    (first
      | exact HS0.out
      | exact HS1.out
      | exact HS2.out)
    (first
      | (go_at_call 30; refine HC0.mono ?_; rintro e w1 ⟨rfl, l1, b1, m1⟩; have D1 := Lib.hid (D0.out.hOp l1 b1 m1); have HS1 := Lib.hid D1.out.cells; clear l1 b1 m1)
      | (go_at_call 42; refine (HCR _ D1).mono ?_; rintro e w2 ⟨rfl, l2, b2, m2⟩; have D2 := Lib.hid (D1.out.rOp l2 b2 m2); have HS2 := Lib.hid D2.out.cells; clear l2 b2 m2))
  go_wp2_with fail
  go_ret
  exact ⟨rfl, D2.out.hl, D2.out.rl, D2.out.below, D2.out.md⟩
set_option maxHeartbeats 3200000 in
set_option maxRecDepth 100000 in
theorem does_1 {B : Nat} {W0 w : World} {h r : Nat} {a : HA} {sH sR : Bool} {cH cR : Int} {lH lR : List ByteArray} (ht : ∀ W', Below B W0 W' → TabsR W') (hb : Below B W0 w) (hl : HLive B w h sH cH lH) (rl : RLive B w r sR cR lR) (hsH : Small lH) (hsR : Small lR) (ha : a.Ok) (hkq : kindOf a.kind = 1) :
    Calls Tryd.prog 24 #[.pointer (some ⟨h, 0, none⟩), .pointer (some ⟨r, 0, none⟩), .agg #[.int .i64 a.kind, .string a.s, .string a.t, .string a.u, .bool a.r, .int .i64 a.n]] w (DPost B W0 w h r ((actS sH cH lH a).1 == (actS sR cR lR a).1) (sH, (actS sH cH lH a).2) (sR, (actS sR cR lR a).2)) := by
  have hB := hl.size
  have D0 : Hid (DS B W0 w (w.alloc (HAB a)).drew h r w.heap.size a sH cH lH sR cR lR) := Lib.hid (DS.drew ⟨ht, hl.below (below_alloc1 _ _), rl.below (below_alloc1 _ _), heap_alloc_new _ _, hb.alloc (Nat.le_trans hB (Nat.le_refl _)) _, (Mod.refl _ _).alloc _⟩)
  have D00 := Lib.hid (DS.cells (⟨ht, hl.below (below_alloc1 _ _), rl.below (below_alloc1 _ _), heap_alloc_new _ _, hb.alloc (Nat.le_trans hB (Nat.le_refl _)) _, (Mod.refl _ _).alloc _⟩ : DS B W0 w (w.alloc (HAB a)) h r w.heap.size a sH cH lH sR cR lR))
  have HSH := Lib.hid hsH
  have HSR := Lib.hid hsR
  have HOK := Lib.hid ha
  have hkw := kind_wrap (kind := a.kind)
  have hq : (a.kind.tmod 5 + 5).tmod 5 = 1 := hkq
  have HC0 := s_1 D0.out.hl hkq
  generalize actS sH cH lH a = AH at HC0 ⊢
  obtain ⟨nH, cH', lH'⟩ := AH
  have HCR : ∀ W, Hid (DS B W0 w W h r w.heap.size a sH cH' lH' sR cR lR) → Calls Tryd.prog 43 #[.pointer (some ⟨r, 0, none⟩), .int .i64 a.n] W (RLPost B W r sR (.int .i64 (actS sR cR lR a).1) (actS sR cR lR a).2.1 (actS sR cR lR a).2.2) := fun W D1 => r_1 D1.out.rl hkq
  generalize actS sR cR lR a = AR at HCR ⊢
  obtain ⟨nR, cR', lR'⟩ := AR
  obtain ⟨y0, y1, y2, y3, y4, y5⟩ := D00.out
  have HS0 := Lib.hid D0.out.cells
  clear hl rl hsH hsR ha ht hb hkq D00
  go_enter Tryd.func24, Tryd.ntmps24
  go_wp2_with fail
  go_region_held3 (fun V => V.cell? ⟨w.heap.size, 0, none⟩ = some (.int .i64 a.kind) ∧ V.cell? ⟨w.heap.size, 1, none⟩ = some (.string a.s) ∧ V.cell? ⟨w.heap.size, 2, none⟩ = some (.string a.t) ∧ V.cell? ⟨w.heap.size, 3, none⟩ = some (.string a.u) ∧ V.cell? ⟨w.heap.size, 4, none⟩ = some (.bool a.r) ∧ V.cell? ⟨w.heap.size, 5, none⟩ = some (.int .i64 a.n))
    (first
      | exact HS0.out
      | exact HS1.out
      | exact HS2.out)
    (first
      | (go_at_call 33; refine HC0.mono ?_; rintro e w1 ⟨rfl, l1, b1, m1⟩; have D1 := Lib.hid (D0.out.hOp l1 b1 m1); have HS1 := Lib.hid D1.out.cells; clear l1 b1 m1)
      | (go_at_call 43; refine (HCR _ D1).mono ?_; rintro e w2 ⟨rfl, l2, b2, m2⟩; have D2 := Lib.hid (D1.out.rOp l2 b2 m2); have HS2 := Lib.hid D2.out.cells; clear l2 b2 m2))
  go_wp2_with fail
  go_ret
  exact ⟨rfl, D2.out.hl, D2.out.rl, D2.out.below, D2.out.md⟩
set_option maxHeartbeats 3200000 in
set_option maxRecDepth 100000 in
theorem does_2 {B : Nat} {W0 w : World} {h r : Nat} {a : HA} {sH sR : Bool} {cH cR : Int} {lH lR : List ByteArray} (ht : ∀ W', Below B W0 W' → TabsR W') (hb : Below B W0 w) (hl : HLive B w h sH cH lH) (rl : RLive B w r sR cR lR) (hsH : Small lH) (hsR : Small lR) (ha : a.Ok) (hkq : kindOf a.kind = 2) :
    Calls Tryd.prog 24 #[.pointer (some ⟨h, 0, none⟩), .pointer (some ⟨r, 0, none⟩), .agg #[.int .i64 a.kind, .string a.s, .string a.t, .string a.u, .bool a.r, .int .i64 a.n]] w (DPost B W0 w h r ((actS sH cH lH a).1 == (actS sR cR lR a).1) (sH, (actS sH cH lH a).2) (sR, (actS sR cR lR a).2)) := by
  have hB := hl.size
  have D0 : Hid (DS B W0 w (w.alloc (HAB a)).drew h r w.heap.size a sH cH lH sR cR lR) := Lib.hid (DS.drew ⟨ht, hl.below (below_alloc1 _ _), rl.below (below_alloc1 _ _), heap_alloc_new _ _, hb.alloc (Nat.le_trans hB (Nat.le_refl _)) _, (Mod.refl _ _).alloc _⟩)
  have D00 := Lib.hid (DS.cells (⟨ht, hl.below (below_alloc1 _ _), rl.below (below_alloc1 _ _), heap_alloc_new _ _, hb.alloc (Nat.le_trans hB (Nat.le_refl _)) _, (Mod.refl _ _).alloc _⟩ : DS B W0 w (w.alloc (HAB a)) h r w.heap.size a sH cH lH sR cR lR))
  have HSH := Lib.hid hsH
  have HSR := Lib.hid hsR
  have HOK := Lib.hid ha
  have hkw := kind_wrap (kind := a.kind)
  have hq : (a.kind.tmod 5 + 5).tmod 5 = 2 := hkq
  have HC0 := s_2 D0.out.hl (D0.out.tabs _ D0.out.below) HOK.out hkq
  generalize actS sH cH lH a = AH at HC0 ⊢
  obtain ⟨nH, cH', lH'⟩ := AH
  have HCR : ∀ W, Hid (DS B W0 w W h r w.heap.size a sH cH' lH' sR cR lR) → Calls Tryd.prog 44 #[.pointer (some ⟨r, 0, none⟩), .string a.s, .string a.t, .string a.u, .int .i64 a.n] W (RLPost B W r sR (.int .i64 (actS sR cR lR a).1) (actS sR cR lR a).2.1 (actS sR cR lR a).2.2) := fun W D1 => r_2 D1.out.rl HOK.out hkq
  generalize actS sR cR lR a = AR at HCR ⊢
  obtain ⟨nR, cR', lR'⟩ := AR
  obtain ⟨y0, y1, y2, y3, y4, y5⟩ := D00.out
  have HS0 := Lib.hid D0.out.cells
  clear hl rl hsH hsR ha ht hb hkq D00
  go_enter Tryd.func24, Tryd.ntmps24
  go_wp2_with fail
  go_region_held3 (fun V => V.cell? ⟨w.heap.size, 0, none⟩ = some (.int .i64 a.kind) ∧ V.cell? ⟨w.heap.size, 1, none⟩ = some (.string a.s) ∧ V.cell? ⟨w.heap.size, 2, none⟩ = some (.string a.t) ∧ V.cell? ⟨w.heap.size, 3, none⟩ = some (.string a.u) ∧ V.cell? ⟨w.heap.size, 4, none⟩ = some (.bool a.r) ∧ V.cell? ⟨w.heap.size, 5, none⟩ = some (.int .i64 a.n))
    (first
      | exact HS0.out
      | exact HS1.out
      | exact HS2.out)
    (first
      | (go_at_call 34; refine HC0.mono ?_; rintro e w1 ⟨rfl, l1, b1, m1⟩; have D1 := Lib.hid (D0.out.hOp l1 b1 m1); have HS1 := Lib.hid D1.out.cells; clear l1 b1 m1)
      | (go_at_call 44; refine (HCR _ D1).mono ?_; rintro e w2 ⟨rfl, l2, b2, m2⟩; have D2 := Lib.hid (D1.out.rOp l2 b2 m2); have HS2 := Lib.hid D2.out.cells; clear l2 b2 m2))
  go_wp2_with fail
  go_ret
  exact ⟨rfl, D2.out.hl, D2.out.rl, D2.out.below, D2.out.md⟩
set_option maxHeartbeats 3200000 in
set_option maxRecDepth 100000 in
theorem does_3 {B : Nat} {W0 w : World} {h r : Nat} {a : HA} {sH sR : Bool} {cH cR : Int} {lH lR : List ByteArray} (ht : ∀ W', Below B W0 W' → TabsR W') (hb : Below B W0 w) (hl : HLive B w h sH cH lH) (rl : RLive B w r sR cR lR) (hsH : Small lH) (hsR : Small lR) (ha : a.Ok) (hkq : kindOf a.kind = 3) :
    Calls Tryd.prog 24 #[.pointer (some ⟨h, 0, none⟩), .pointer (some ⟨r, 0, none⟩), .agg #[.int .i64 a.kind, .string a.s, .string a.t, .string a.u, .bool a.r, .int .i64 a.n]] w (DPost B W0 w h r ((actS sH cH lH a).1 == (actS sR cR lR a).1) (sH, (actS sH cH lH a).2) (sR, (actS sR cR lR a).2)) := by
  have hB := hl.size
  have D0 : Hid (DS B W0 w (w.alloc (HAB a)).drew h r w.heap.size a sH cH lH sR cR lR) := Lib.hid (DS.drew ⟨ht, hl.below (below_alloc1 _ _), rl.below (below_alloc1 _ _), heap_alloc_new _ _, hb.alloc (Nat.le_trans hB (Nat.le_refl _)) _, (Mod.refl _ _).alloc _⟩)
  have D00 := Lib.hid (DS.cells (⟨ht, hl.below (below_alloc1 _ _), rl.below (below_alloc1 _ _), heap_alloc_new _ _, hb.alloc (Nat.le_trans hB (Nat.le_refl _)) _, (Mod.refl _ _).alloc _⟩ : DS B W0 w (w.alloc (HAB a)) h r w.heap.size a sH cH lH sR cR lR))
  have HSH := Lib.hid hsH
  have HSR := Lib.hid hsR
  have HOK := Lib.hid ha
  have hkw := kind_wrap (kind := a.kind)
  have hq : (a.kind.tmod 5 + 5).tmod 5 = 3 := hkq
  have HC0 := s_3 D0.out.hl HSH.out HOK.out hkq
  generalize actS sH cH lH a = AH at HC0 ⊢
  obtain ⟨nH, cH', lH'⟩ := AH
  have HCR : ∀ W, Hid (DS B W0 w W h r w.heap.size a sH cH' lH' sR cR lR) → Calls Tryd.prog 45 #[.pointer (some ⟨r, 0, none⟩), .string a.s] W (RLPost B W r sR (.int .i64 (actS sR cR lR a).1) (actS sR cR lR a).2.1 (actS sR cR lR a).2.2) := fun W D1 => r_3 D1.out.rl HSR.out hkq
  generalize actS sR cR lR a = AR at HCR ⊢
  obtain ⟨nR, cR', lR'⟩ := AR
  obtain ⟨y0, y1, y2, y3, y4, y5⟩ := D00.out
  have HS0 := Lib.hid D0.out.cells
  clear hl rl hsH hsR ha ht hb hkq D00
  go_enter Tryd.func24, Tryd.ntmps24
  go_wp2_with fail
  go_region_held3 (fun V => V.cell? ⟨w.heap.size, 0, none⟩ = some (.int .i64 a.kind) ∧ V.cell? ⟨w.heap.size, 1, none⟩ = some (.string a.s) ∧ V.cell? ⟨w.heap.size, 2, none⟩ = some (.string a.t) ∧ V.cell? ⟨w.heap.size, 3, none⟩ = some (.string a.u) ∧ V.cell? ⟨w.heap.size, 4, none⟩ = some (.bool a.r) ∧ V.cell? ⟨w.heap.size, 5, none⟩ = some (.int .i64 a.n))
    (first
      | exact HS0.out
      | exact HS1.out
      | exact HS2.out)
    (first
      | (go_at_call 32; refine HC0.mono ?_; rintro e w1 ⟨rfl, l1, b1, m1⟩; have D1 := Lib.hid (D0.out.hOp l1 b1 m1); have HS1 := Lib.hid D1.out.cells; clear l1 b1 m1)
      | (go_at_call 45; refine (HCR _ D1).mono ?_; rintro e w2 ⟨rfl, l2, b2, m2⟩; have D2 := Lib.hid (D1.out.rOp l2 b2 m2); have HS2 := Lib.hid D2.out.cells; clear l2 b2 m2))
  go_wp2_with fail
  go_ret
  exact ⟨rfl, D2.out.hl, D2.out.rl, D2.out.below, D2.out.md⟩
end Go.Proofs.YthnhpnmopjbaoaaDoor
