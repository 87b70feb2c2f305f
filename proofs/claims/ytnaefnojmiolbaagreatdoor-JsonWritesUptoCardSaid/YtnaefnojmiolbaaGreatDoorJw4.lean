/-
  Trees of values in memory.
  The walk of left: how many of so many items are left behind a value's.
  The walks of Norm, both sides.
  The walk of may at values that are no lists; the plain law of may.
  Maps of a call's own, whatever their keys and elements: what look, put and len give.
-/
import Derived.Test.YtnaefnojmiolbaaGreatDoorJw3
import Derived.Maps.OwnSet
import Derived.Maps.RangeWalk
import Derived.DeepKeys4
import Derived.StringKeys
namespace Go.Proofs.YtnaefnojmiolbaaGreatDoor
open Go.RowKit

mutual
/-- Within what a value can be, all through. -/
def VT.Good : VT → Prop
  | .mk k n t l => (-9223372036854775808 ≤ k ∧ k ≤ 9223372036854775807) ∧ (-9223372036854775808 ≤ n ∧ n ≤ 9223372036854775807) ∧ t.size ≤ 140737488351232 ∧ GoodL l
def GoodL : List (K × VT) → Prop
  | [] => True
  | (k, v) :: r => k.Good ∧ v.Good ∧ GoodL r
end
theorem goodL_iff : ∀ {l : List (K × VT)}, GoodL l ↔ ∀ x ∈ l, x.1.Good ∧ x.2.Good
  | [] => by simp [GoodL]
  | (k, v) :: r => by
    rw [GoodL, goodL_iff (l := r)]
    simp
    exact ⟨fun ⟨a, b, c⟩ => ⟨⟨a, b⟩, c⟩, fun ⟨⟨a, b⟩, c⟩ => ⟨a, b, c⟩⟩
theorem VT.Good.parts {v : VT} (h : v.Good) : (-9223372036854775808 ≤ v.k ∧ v.k ≤ 9223372036854775807) ∧ (-9223372036854775808 ≤ v.n ∧ v.n ≤ 9223372036854775807) ∧ v.t.size ≤ 140737488351232 ∧ ∀ x ∈ v.xs, x.1.Good ∧ x.2.Good := by
  cases v
  rw [VT.Good] at h
  exact ⟨h.1, h.2.1, h.2.2.1, goodL_iff.1 h.2.2.2⟩
theorem VT.good_mk {k n : Int} {t : ByteArray} {l : List (K × VT)} (h1 : -9223372036854775808 ≤ k ∧ k ≤ 9223372036854775807) (h2 : -9223372036854775808 ≤ n ∧ n ≤ 9223372036854775807) (h3 : t.size ≤ 140737488351232) (h4 : ∀ x ∈ l, x.1.Good ∧ x.2.Good) : (VT.mk k n t l).Good := by
  rw [VT.Good]
  exact ⟨h1, h2, h3, goodL_iff.2 h4⟩

/-- One item's cells. -/
def itCells (x : It) (c : Value) : List Value := [.bool x.1.b, .int .i64 x.1.n, .string x.1.t, .int .i64 x.2.k, .int .i64 x.2.n, .string x.2.t, c]
theorem itCells_len (x : It) (c : Value) : (itCells x c).length = 7 := rfl
def rowsV (xs : List It) (c : Nat → Value) : List (List Value) := xs.mapIdx fun j x => itCells x (c j)
theorem rowsV_len (xs : List It) (c : Nat → Value) : (rowsV xs c).length = xs.length := by simp [rowsV]
theorem rowsV_get {xs : List It} {c : Nat → Value} {j : Nat} (h : j < xs.length) : (rowsV xs c)[j]? = some (itCells xs[j] (c j)) := by simp [rowsV, h]
/-- Items lie behind a slice value, in blocks of A, all through. -/
inductive VAt (A : Nat → Prop) (w : World) : Value → List It → Prop
  | mk (ao : Option Addr) (cap : Nat) (xs : List It) (c : Nat → Value) (lies : Lies w 7 ao (rowsV xs c)) (blk : ∀ g off, ao = some ⟨g, off, none⟩ → xs ≠ [] → A g)
      (len : xs.length ≤ 140737488355328) (sub : ∀ (j : Nat) (hj : j < xs.length), VAt A w (c j) (xs[j]).2.xs) : VAt A w (.slice ao xs.length cap) xs
theorem VAt.form {A : Nat → Prop} {w : World} {v : Value} {xs : List It} (h : VAt A w v xs) : ∃ ao cap, v = .slice ao xs.length cap ∧ xs.length ≤ 140737488355328 := by
  cases h with
  | mk ao cap xs c _ _ len _ => exact ⟨ao, cap, rfl, len⟩
theorem VAt.nil (A : Nat → Prop) (w : World) (ao : Option Addr) (cap : Nat) : VAt A w (.slice ao 0 cap) [] :=
  .mk ao cap [] (fun _ => .bool false) (Lies.nil _ _ _) (fun _ _ _ h => absurd rfl h) (by simp) (fun j hj => by simp at hj)
/-- One item. -/
theorem VAt.at {A : Nat → Prop} {w : World} {ao : Option Addr} {cap m : Nat} {xs : List It} (h : VAt A w (.slice ao m cap) xs) {j : Nat} (hj : j < xs.length) :
    ∃ g off c, ao = some ⟨g, off, none⟩ ∧ g < w.heap.size ∧ A g ∧ VAt A w c (xs[j]).2.xs ∧
      w.cell? ⟨g, off + j * 7, none⟩ = some (.bool xs[j].1.b) ∧ w.cell? ⟨g, off + j * 7 + 1, none⟩ = some (.int .i64 xs[j].1.n) ∧ w.cell? ⟨g, off + j * 7 + 2, none⟩ = some (.string xs[j].1.t) ∧
      w.cell? ⟨g, off + j * 7 + 3, none⟩ = some (.int .i64 xs[j].2.k) ∧ w.cell? ⟨g, off + j * 7 + 4, none⟩ = some (.int .i64 xs[j].2.n) ∧ w.cell? ⟨g, off + j * 7 + 5, none⟩ = some (.string xs[j].2.t) ∧ w.cell? ⟨g, off + j * 7 + 6, none⟩ = some c := by
  generalize hv : Value.slice ao m cap = v at h
  cases h with
  | mk ao' cap' xs c lies blk len sub =>
    cases hv
    obtain ⟨g, off, rfl, hg, -, hc⟩ := lies j _ (rowsV_get hj)
    have d0 := hc 0 _ rfl
    rw [Nat.add_zero] at d0
    exact ⟨g, off, c j, rfl, hg, blk g off rfl (fun e => by subst e; simp at hj), sub j hj, d0, hc 1 _ rfl, hc 2 _ rfl, hc 3 _ rfl, hc 4 _ rfl, hc 5 _ rfl, hc 6 _ rfl⟩
/-- One item, by name. -/
theorem VAt.get {A : Nat → Prop} {w : World} {ao : Option Addr} {cap m : Nat} {xs : List It} (h : VAt A w (.slice ao m cap) xs) {j : Nat} (hj : j < xs.length) :
    ∃ q x g off c, xs[j]? = some (q, x) ∧ (q, x) ∈ xs ∧ ao = some ⟨g, off, none⟩ ∧ g < w.heap.size ∧ A g ∧ VAt A w c x.xs ∧
      w.cell? ⟨g, off + j * 7, none⟩ = some (.bool q.b) ∧ w.cell? ⟨g, off + j * 7 + 1, none⟩ = some (.int .i64 q.n) ∧ w.cell? ⟨g, off + j * 7 + 2, none⟩ = some (.string q.t) ∧
      w.cell? ⟨g, off + j * 7 + 3, none⟩ = some (.int .i64 x.k) ∧ w.cell? ⟨g, off + j * 7 + 4, none⟩ = some (.int .i64 x.n) ∧ w.cell? ⟨g, off + j * 7 + 5, none⟩ = some (.string x.t) ∧ w.cell? ⟨g, off + j * 7 + 6, none⟩ = some c := by
  obtain ⟨g, off, c, rest⟩ := h.at hj
  exact ⟨xs[j].1, xs[j].2, g, off, c, by rw [List.getElem?_eq_getElem hj], List.getElem_mem hj, rest⟩
theorem drop_at {α : Type} {l : List α} {j : Nat} {x : α} (h : l[j]? = some x) : l.drop j = x :: l.drop (j + 1) := by
  obtain ⟨hj, rfl⟩ := List.getElem?_eq_some_iff.1 h
  exact List.drop_eq_getElem_cons hj
theorem VAt.kept {A B : Nat → Prop} {w w' : World} {v : Value} {xs : List It} (h : VAt A w v xs) (hk : ∀ g, A g → g < w.heap.size → w'.heap[g]? = w.heap[g]? ∧ g < w'.heap.size ∧ B g) : VAt B w' v xs := by
  induction h with
  | mk ao cap xs c lies blk len _ ih =>
    refine .mk ao cap xs c (fun i r hr => ?_) (fun g off e hne => ?_) len ih
    · obtain ⟨g, off, e, hg, hl, hc⟩ := lies i r hr
      have hne : xs ≠ [] := fun e => by subst e; simp [rowsV] at hr
      obtain ⟨h1, h2, _⟩ := hk g (blk g off e hne) hg
      exact ⟨g, off, e, h2, hl, fun j u hj => (World.cell?_of_block (w := w) h1).trans (hc j u hj)⟩
    · obtain ⟨g', off', e', hg, -, -⟩ := lies 0 _ (rowsV_get (List.length_pos_iff.2 hne))
      rw [e] at e'; cases e'
      exact (hk g (blk g off e hne) hg).2.2
theorem VAt.mod {A F : Nat → Prop} {w w' : World} {v : Value} {xs : List It} (h : VAt A w v xs) (m : Mod F w w') (hF : ∀ g, A g → g < w.heap.size → ¬ F g) : VAt A w' v xs :=
  h.kept fun g ha hg => ⟨m.block g hg (hF g ha hg), m.lt hg, ha⟩
theorem VAt.under {A : Nat → Prop} {w w' : World} {v : Value} {xs : List It} (h : VAt A w v xs) (hb : Below w.heap.size w w') : VAt A w' v xs :=
  h.kept fun g ha hg => ⟨hb.block g hg, Nat.lt_of_lt_of_le hg hb.size, ha⟩
theorem VAt.mono {A B : Nat → Prop} {w : World} {v : Value} {xs : List It} (h : VAt A w v xs) (hab : ∀ g, A g → g < w.heap.size → B g) : VAt B w v xs :=
  h.kept fun g ha hg => ⟨rfl, hg, hab g ha hg⟩
/-- Anywhere. -/
abbrev VIn (w : World) (v : Value) (xs : List It) : Prop := VAt (fun _ => True) w v xs
theorem VAt.any {A : Nat → Prop} {w : World} {v : Value} {xs : List It} (h : VAt A w v xs) : VIn w v xs := h.mono fun _ _ _ => trivial
/-- One item as it lies in a later world. -/
theorem VAt.getB {A : Nat → Prop} {w wr : World} {B : Nat} {ao : Option Addr} {cap m : Nat} {xs : List It} (h : VAt A w (.slice ao m cap) xs) {j : Nat} (hj : j < xs.length) (hb : Below B w wr) (hB : B = w.heap.size) :
    ∃ q x g off co cc, xs[j]? = some (q, x) ∧ (q, x) ∈ xs ∧ ao = some ⟨g, off, none⟩ ∧ VIn wr (.slice co x.xs.length cc) x.xs ∧
      wr.cell? ⟨g, off + j * 7, none⟩ = some (.bool q.b) ∧ wr.cell? ⟨g, off + j * 7 + 1, none⟩ = some (.int .i64 q.n) ∧ wr.cell? ⟨g, off + j * 7 + 2, none⟩ = some (.string q.t) ∧
      wr.cell? ⟨g, off + j * 7 + 3, none⟩ = some (.int .i64 x.k) ∧ wr.cell? ⟨g, off + j * 7 + 4, none⟩ = some (.int .i64 x.n) ∧ wr.cell? ⟨g, off + j * 7 + 5, none⟩ = some (.string x.t) ∧ wr.cell? ⟨g, off + j * 7 + 6, none⟩ = some (.slice co x.xs.length cc) := by
  subst hB
  obtain ⟨q, x, g, off, c, h1, h2, h3, hg, -, hc, c0, c1, c2, c3, c4, c5, c6⟩ := h.get hj
  obtain ⟨co, cc, rfl, -⟩ := hc.form
  have k := fun o => hb.cell (p := ⟨g, o, none⟩) hg
  exact ⟨q, x, g, off, co, cc, h1, h2, h3, (hc.kept fun b _ hb' => ⟨hb.block b hb', Nat.lt_of_lt_of_le hb' hb.size, trivial⟩), (k _).trans c0, (k _).trans c1, (k _).trans c2, (k _).trans c3, (k _).trans c4, (k _).trans c5, (k _).trans c6⟩
/-- A value's block, an item's block. -/
abbrev VB (v : VT) (c : Value) : Obj := .cells #[.int .i64 v.k, .int .i64 v.n, .string v.t, c] 24
abbrev IB (x : It) (c : Value) : Obj := .cells #[.bool x.1.b, .int .i64 x.1.n, .string x.1.t, .int .i64 x.2.k, .int .i64 x.2.n, .string x.2.t, c] 64
theorem vb_cells {W : World} {B : Nat} {v : VT} {c : Value} (h : W.heap[B]? = some (VB v c)) :
    W.cell? ⟨B, 0, none⟩ = some (.int .i64 v.k) ∧ W.cell? ⟨B, 1, none⟩ = some (.int .i64 v.n) ∧ W.cell? ⟨B, 2, none⟩ = some (.string v.t) ∧ W.cell? ⟨B, 3, none⟩ = some c :=
  ⟨cell_blk h 0, cell_blk h 1, cell_blk h 2, cell_blk h 3⟩
theorem ib_cells {W : World} {B : Nat} {x : It} {c : Value} (h : W.heap[B]? = some (IB x c)) :
    W.cell? ⟨B, 0, none⟩ = some (.bool x.1.b) ∧ W.cell? ⟨B, 1, none⟩ = some (.int .i64 x.1.n) ∧ W.cell? ⟨B, 2, none⟩ = some (.string x.1.t) ∧ W.cell? ⟨B, 3, none⟩ = some (.int .i64 x.2.k) ∧ W.cell? ⟨B, 4, none⟩ = some (.int .i64 x.2.n) ∧ W.cell? ⟨B, 5, none⟩ = some (.string x.2.t) ∧ W.cell? ⟨B, 6, none⟩ = some c :=
  ⟨cell_blk h 0, cell_blk h 1, cell_blk h 2, cell_blk h 3, cell_blk h 4, cell_blk h 5, cell_blk h 6⟩
end Go.Proofs.YtnaefnojmiolbaaGreatDoor

namespace Go.Proofs.YtnaefnojmiolbaaGreatDoor
open Go.RowKit

mutual
def leftV : VT → Int → Int
  | .mk _ _ _ l, n => leftL l (n - l.length)
def leftL : List (K × VT) → Int → Int
  | [], n => n
  | (_, v) :: r, n => if n < 0 then n else leftL r (leftV v n)
end
theorem leftL_cons (x : It) (r : List It) (n : Int) : leftL (x :: r) n = if n < 0 then n else leftL r (leftV x.2 n) := by cases x; rw [leftL]
theorem leftL_neg {l : List It} {n : Int} (h : n < 0) : leftL l n = n := by
  cases l with
  | nil => rfl
  | cons x r => rw [leftL_cons, if_pos h]
/-- What is left is no more, and not far below 0. -/
theorem leftV_le (v : VT) : ∀ n, 0 ≤ n → (∀ x ∈ v.xs, True) → leftV v n ≤ n := by
  refine VT.ind (P := fun v => ∀ n, 0 ≤ n → (∀ x ∈ v.xs, True) → leftV v n ≤ n) ?_ v
  intro k m t l ih n hn _
  rw [leftV]
  have : ∀ (r : List It), (∀ x ∈ r, x ∈ l) → ∀ n, leftL r n ≤ n := by
    intro r
    induction r with
    | nil => intro _ n; exact Int.le_refl _
    | cons x r ihr =>
      intro hr n
      rw [leftL_cons]
      split
      · exact Int.le_refl _
      · have h1 := ih x (hr x (by simp)) n (by omega) (fun _ _ => trivial)
        have h2 := ihr (fun y hy => hr y (by simp [hy])) (leftV x.2 n)
        omega
  have h := this l (fun _ h => h) (n - l.length)
  omega
theorem leftL_le (r : List It) : ∀ n, leftL r n ≤ n := by
  induction r with
  | nil => intro n; exact Int.le_refl _
  | cons x r ihr =>
    intro n
    rw [leftL_cons]
    split
    · exact Int.le_refl _
    · have h1 := leftV_le x.2 n (by omega) (fun _ _ => trivial)
      have h2 := ihr (leftV x.2 n)
      omega
/-- No list in it is longer than memory bears. -/
inductive Fits : List It → Prop
  | mk (l : List It) (h : l.length ≤ 140737488355328) (hs : ∀ x ∈ l, Fits x.2.xs) : Fits l
theorem VAt.fits {A : Nat → Prop} {w : World} {v : Value} {xs : List It} (h : VAt A w v xs) : Fits xs := by
  induction h with
  | mk ao cap xs c _ _ len _ ih =>
    refine .mk _ len fun x hx => ?_
    obtain ⟨j, hj, rfl⟩ := List.getElem_of_mem hx
    exact ih j hj
theorem leftV_ge (v : VT) : Fits v.xs → ∀ n, 0 ≤ n → -140737488355328 ≤ leftV v n := by
  refine VT.ind (P := fun v => Fits v.xs → ∀ n, 0 ≤ n → -140737488355328 ≤ leftV v n) ?_ v
  intro k m t l ih hf n hn
  have hf' : Fits l := hf
  obtain ⟨_, hl, hs⟩ := hf'
  rw [leftV]
  have : ∀ (r : List It), (∀ x ∈ r, x ∈ l) → ∀ n : Int, -140737488355328 ≤ n → -140737488355328 ≤ leftL r n := by
    intro r
    induction r with
    | nil => intro _ n hn; exact hn
    | cons x r ihr =>
      intro hr n hn
      rw [leftL_cons]
      split
      · exact hn
      · exact ihr (fun y hy => hr y (by simp [hy])) _ (ih x (hr x (by simp)) (hs x (hr x (by simp))) n (by omega))
  exact this l (fun _ h => h) _ (by omega)

set_option maxHeartbeats 1600000 in
set_option maxRecDepth 100000 in
theorem left_any (v : VT) : ∀ (w : World) (c : Value) (n : Int), VIn w c v.xs → 0 ≤ n → n ≤ 2048 → Calls Tryz.prog 51 #[v.v c, .int .i64 n] w (IntPost w (leftV v n)) := by
  refine VT.ind (P := fun v => ∀ (w : World) (c : Value) (n : Int), VIn w c v.xs → 0 ≤ n → n ≤ 2048 → Calls Tryz.prog 51 #[v.v c, .int .i64 n] w (IntPost w (leftV v n))) ?_ v
  intro k m t l ih w c n hv h0 h1
  have hv : VIn w c l := hv
  have hfit := hv.fits
  obtain ⟨ao, cap, rfl, hlen⟩ := hv.form
  have HV := Lib.hid hv
  have IH := Lib.hid ih
  have HF := Lib.hid hfit
  have HB := Lib.hid (below_alloc1 w (VB (.mk k m t l) (.slice ao l.length cap)))
  obtain ⟨a0, a1, a2, a3⟩ := vb_cells (heap_alloc_new w (VB (.mk k m t l) (.slice ao l.length cap)))
  obtain ⟨hw', hw⟩ := wr_sm (x := n - (l.length : Int)) (by omega) (by omega)
  obtain ⟨r, hr⟩ : ∃ r, r = leftV (.mk k m t l) n := ⟨_, rfl⟩
  have HR : Hid (r = leftL (l.drop 0) (n - l.length)) := Lib.hid (by rw [hr, leftV]; rfl)
  have HL := Lib.hid hlen
  have HN := Lib.hid h0
  rw [← hr]
  clear hv ih hfit hr hlen h0
  show Calls Tryz.prog 51 #[.agg #[.int .i64 k, .int .i64 m, .string t, .slice ao l.length cap], .int .i64 n] w (IntPost w r)
  go_enter Tryz.func51, Tryz.ntmps51
  go_wp2_with fail
  go_loopw [1, 15] (fun nv kv wr => ∃ (j : Nat) (x : Int), j ≤ l.length ∧ nv = .int .i64 x ∧ kv = .int .i64 j ∧ Hid (r = leftL (l.drop j) x ∧ x ≤ 2048 ∧ -140737488355328 ≤ x) ∧ Hid (Below w.heap.size w wr)) (fun _ kv _ => l.length - (intOf kv).toNat)
  case atStart => exact ⟨0, n - l.length, Nat.zero_le _, rfl, rfl, Lib.hid ⟨HR.out, by omega, by have := HL.out; have := HN.out; omega⟩, HB⟩
  case round =>
    obtain ⟨j, x, hj, rfl, rfl, HX, BX⟩ := hrel
    by_cases hlt : j < l.length
    · obtain ⟨q, v, g, off, co, cc, hq, hm, rfl, hc, d0, d1, d2, d3, d4, d5, d6⟩ := HV.out.getB hlt BX.out rfl
      have hi : (j : Int) < (l.length : Int) := by omega
      obtain ⟨hwi', hwi⟩ : wrap64 ((j : Int) + 1) = (j : Int) + 1 ∧ IntKind.i64.wrap ((j : Int) + 1) = (j : Int) + 1 := wr_sm (by omega) (by have := HL.out; omega)
      obtain ⟨b0, b1, b2, b3, b4, b5, b6⟩ := ib_cells (heap_alloc_new wr (IB (q, v) (.slice co v.xs.length cc)))
      have BY := Lib.hid (BX.out.alloc BX.out.size (IB (q, v) (.slice co v.xs.length cc)))
      have HC : 0 ≤ x → Calls Tryz.prog 51 #[.agg #[.int .i64 v.k, .int .i64 v.n, .string v.t, .slice co v.xs.length cc], .int .i64 x] (wr.alloc (IB (q, v) (.slice co v.xs.length cc))) (IntPost (wr.alloc (IB (q, v) (.slice co v.xs.length cc))) (leftV v x)) := fun h => IH.out (q, v) hm _ (.slice co v.xs.length cc) x (hc.under (below_alloc1 _ _)) h HX.out.2.1
      have HD : Hid (leftL (l.drop j) x = if x < 0 then x else leftL (l.drop (j + 1)) (leftV v x)) := Lib.hid (by rw [drop_at hq, leftL_cons])
      have HG := Lib.hid (fun h0 : 0 ≤ x => leftV_ge v hc.fits x h0)
      have HGe := Lib.hid (fun h0 : 0 ≤ x => leftV_le v x h0 (fun _ _ => trivial))
      have HLT := Lib.hid hlt
      generalize leftV v x = y at HC HD HG HGe
      clear hc hq hm hlt
      by_cases hx : x < 0
      · have hrx : r = x := by rw [HX.out.1, HD.out, if_pos hx]
        subst hrx
        clear HC
        go_wp2_with fail
        go_ret
        exact ⟨rfl, BY.out⟩
      · have HC' := HC (by omega)
        clear HC
        go_wp2_with fail
        refine HC'.mono ?_
        rintro e w5 ⟨rfl, hb⟩
        have B5 := Lib.hid (BY.out.trans (hb.mono BY.out.size))
        clear hb HC'
        go_wp2_with fail
        go_roundw
        case rel => exact ⟨j + 1, y, HLT.out, rfl, by go_num, Lib.hid ⟨by rw [HX.out.1, HD.out, if_neg (by omega)], by have := HGe.out (by omega); have := HX.out.2.1; omega, HG.out (by omega)⟩, B5⟩
        case measure => have := HLT.out; simp [intOf]; omega
    · obtain rfl : j = l.length := by omega
      have hrx : r = x := by rw [HX.out.1, List.drop_length]; rfl
      subst hrx
      go_wp2_with fail
      go_ret
      exact ⟨rfl, BX.out⟩
end Go.Proofs.YtnaefnojmiolbaaGreatDoor

namespace Go.Proofs.YtnaefnojmiolbaaGreatDoor
open Go.RowKit

theorem atoi_itoa {n : Int} (h0 : -9223372036854775808 ≤ n) (h1 : n ≤ 9223372036854775807) : Lib.atoiAll (Lib.itoa n) = .ok n := by
  have hd := decDigits_dig n.natAbs
  have hne := decDigits_ne n.natAbs
  rw [itoa_form]
  by_cases hn : n < 0
  · rw [if_pos (by simp [hn])]
    show Lib.atoiAll (45 :: Lib.decDigits n.natAbs) = _
    rw [Lib.atoiAll_minus, mag_digs hd hne, decDigits_dec, if_pos (by omega)]
    show (if 9223372036854775808 < n.natAbs then Lib.NumEnd.range else Lib.NumEnd.ok (-((n.natAbs : Nat) : Int))) = _
    rw [if_neg (by omega)]
    congr 1; omega
  · rw [if_neg (by simp [hn])]
    show Lib.atoiAll (Lib.decDigits n.natAbs) = _
    obtain ⟨c, r, hc⟩ := List.exists_cons_of_ne_nil hne
    have hcd := (isDig_iff c).1 (hd c (by rw [hc]; simp))
    rw [hc, Lib.atoiAll_plain c r (by omega) (by omega), ← hc, mag_digs hd hne, decDigits_dec, if_pos (by omega)]
    show (if 9223372036854775808 ≤ n.natAbs then Lib.NumEnd.range else Lib.NumEnd.ok ((n.natAbs : Nat) : Int)) = _
    rw [if_neg (by omega)]
    congr 1; omega
theorem canon_ok {l : Bs} {v : Int} (h : Lib.atoiAll l = .ok v) : canonP l = if Lib.itoa v == l then some v else none := by
  have hb := Lib.atoiAll_bounds h
  by_cases e : Lib.itoa v = l
  · rw [if_pos (by simp [e]), ← e, canonP_itoa hb.1 hb.2]
  · rw [if_neg (by simp [e])]
    cases hc : canonP l with
    | none => rfl
    | some m =>
      obtain ⟨hm, rfl⟩ := canonP_some hc
      rw [atoi_itoa hm.1 hm.2] at h
      cases h
      exact absurd rfl e
theorem canon_bad {l : Bs} (h : ∀ v, Lib.atoiAll l ≠ .ok v) : canonP l = none := by
  cases hc : canonP l with
  | none => rfl
  | some m =>
    obtain ⟨hm, rfl⟩ := canonP_some hc
    exact absurd (atoi_itoa hm.1 hm.2) (h m)

def AtoiErr (w : World) (e : Ending) (w' : World) : Prop := ∃ x p, e = .returned (.tuple #[.int .i64 x, .iface 190 p]) ∧ Below w.heap.size w w'
def AtoiOk (v : Int) (w : World) (e : Ending) (w' : World) : Prop := e = .returned (.tuple #[.int .i64 v, .nilIface]) ∧ Below w.heap.size w w'
theorem atoi_ok {t : ByteArray} (hs : t.size ≤ 140737488351232) {v : Int} (h : Lib.atoiAll t.toList = .ok v) (w : World) : Calls Tryz.prog 103 #[.string t] w (AtoiOk v w) := by
  rw [bl_eq] at h
  refine (Tryz.strconv_Atoi_ok t (by omega) v h w).mono ?_
  rintro e w' ⟨rfl, rfl | ⟨x, rfl⟩⟩
  · exact ⟨rfl, Below.refl _ _⟩
  · exact ⟨rfl, Lib.bytesWorld_below _ _ _⟩
theorem atoi_bad {t : ByteArray} (hs : t.size ≤ 140737488351232) (h : ∀ v, Lib.atoiAll t.toList ≠ .ok v) (w : World) (ht : Tabs w) : Calls Tryz.prog 103 #[.string t] w (AtoiErr w) := by
  obtain ⟨tr, pr, hr⟩ := ht.rng
  obtain ⟨ts, ps, hsy⟩ := ht.syn
  rw [bl_eq] at h
  rcases hx : Lib.atoiAll t.data.toList with v | _ | _
  · exact absurd hx (h v)
  · have HP : Calls Tryz.prog 103 #[.string t] w fun e w' => ∃ N, e = .returned (.tuple #[.int .i64 0, .iface 190 (.pointer (some ⟨N, 0, none⟩))]) ∧ w.heap.size ≤ N ∧ w'.heap[N]? = some (.cells #[.string ⟨#[65, 116, 111, 105]⟩, .string t, .iface ts ps] 206 (0, 0)) ∧ Below w.heap.size w w' :=
      Any.strconv_Atoi_syntax_var Tryz.laysC172 t (by omega) hx ts ps w hsy
    refine HP.mono ?_
    rintro e w' ⟨N, rfl, _, _, hb⟩
    exact ⟨_, _, rfl, hb⟩
  · refine (Tryz.strconv_Atoi_range_var t (by omega) hx tr pr w hr).mono ?_
    rintro e w' ⟨N, rfl, _, _, hb⟩
    exact ⟨_, _, rfl, hb⟩
theorem itoa_any (n : Int) (h0 : -9223372036854775808 ≤ n) (h1 : n ≤ 9223372036854775807) (w : World) (ht : Tabs w) : Calls Tryz.prog 56 #[.int .i64 n] w (TextPost w (Lib.itoa n)) := by
  refine (Tryz.strconv_Itoa n h0 h1 w ht.pow).mono ?_
  rintro e w1 ⟨rfl, k, os, rfl⟩
  exact ⟨rfl, Lib.below_grow w.heap.size w (Nat.le_refl _) k os⟩

/-- A key that a call answers. -/
def KeyPost (w : World) (k : K) (e : Ending) (w' : World) : Prop := e = .returned k.v ∧ Below w.heap.size w w'

abbrev KB (b : Bool) (n : Int) (t : ByteArray) : Obj := .cells #[.bool b, .int .i64 n, .string t] 62
theorem cells3 {W : World} {B : Nat} {b : Bool} {n : Int} {t : ByteArray} (h : W.heap[B]? = some (KB b n t)) :
    W.cell? ⟨B, 0, none⟩ = some (.bool b) ∧ W.cell? ⟨B, 1, none⟩ = some (.int .i64 n) ∧ W.cell? ⟨B, 2, none⟩ = some (.string t) :=
  ⟨cell_blk h 0, cell_blk h 1, cell_blk h 2⟩
theorem free3 {W : World} {B : Nat} {b : Bool} {n : Int} {t : ByteArray} (h : W.heap[B]? = some (KB b n t)) :
    W.frozen? ⟨B, 0, none⟩ = false ∧ W.frozen? ⟨B, 1, none⟩ = false ∧ W.frozen? ⟨B, 2, none⟩ = false :=
  ⟨free_blk h 0, free_blk h 1, free_blk h 2⟩
theorem set3 {W : World} {B : Nat} {b : Bool} {n : Int} {t : ByteArray} (h : W.heap[B]? = some (KB b n t)) (b' : Bool) (n' : Int) (t' : ByteArray) :
    (((W.setCell ⟨B, 0, none⟩ (.bool b')).setCell ⟨B, 1, none⟩ (.int .i64 n')).setCell ⟨B, 2, none⟩ (.string t')).heap[B]? = some (KB b' n' t') := by
  have := set_blk (set_blk (set_blk h 0 (.bool b')) 1 (.int .i64 n')) 2 (.string t')
  simpa using this
theorem set3_below {w W : World} {B : Nat} (h : Below w.heap.size w W) (hB : w.heap.size ≤ B) (x y z : Value) :
    Below w.heap.size w (((W.setCell ⟨B, 0, none⟩ x).setCell ⟨B, 1, none⟩ y).setCell ⟨B, 2, none⟩ z) :=
  ((h.setCell hB _).setCell hB _).setCell hB _
theorem keyS {w W : World} {B : Nat} {b b' : Bool} {n n' : Int} {t t' : ByteArray} (h : S2 w B (KB b n t) (KB b' n' t') W) : W.cell? ⟨B, 2, none⟩ = some (.string t) ∧ S2 w B (KB b n t) (KB b' n' t') W :=
  ⟨(cells3 h.2.a).2.2, h⟩
theorem keyS2 {w W : World} {B : Nat} {b b' : Bool} {n n' : Int} {t t' : ByteArray} (h : W.cell? ⟨B, 2, none⟩ = some (.string t) ∧ S2 w B (KB b n t) (KB b' n' t') W) : S2 w B (KB b n t) (KB b' n' t') W := h.2
theorem norm_num_walk (n : Int) (t : ByteArray) (w : World) : Calls Tryz.prog 80 #[.agg #[.bool false, .int .i64 n, .string t]] w (KeyPost w ⟨false, n, ⟨#[]⟩⟩) := by
  go_enter Tryz.func80, Tryz.ntmps80
  go_wp2_with fail
  exact bodyPost_ret (v := K.v ⟨false, n, ⟨#[]⟩⟩) (by simp [results, Tryz.results80, go_sem, K.v]) rfl ⟨rfl, ((Below.refl _ w).alloc (Nat.le_refl _) _).alloc (by simp) _⟩
set_option maxHeartbeats 3200000 in
theorem norm_bad_walk (n : Int) (t : ByteArray) (hs : t.size ≤ 140737488351232) (h : ∀ v, Lib.atoiAll t.toList ≠ .ok v) (w : World) (ht : Tabs w) : Calls Tryz.prog 80 #[.agg #[.bool true, .int .i64 n, .string t]] w (KeyPost w ⟨true, 0, t⟩) := by
  have HC : ∀ w, Tabs w → Calls Tryz.prog 103 #[.string t] w (AtoiErr w) := atoi_bad hs h
  have HTS := Lib.hid ht
  have A0 := Lib.hid (at2_start w (KB true n t) (KB false 0 ⟨#[]⟩))
  clear h hs ht
  go_enter Tryz.func80, Tryz.ntmps80
  go_wp2_with fail
  refine (HC _ (HTS.out.mono A0.out.below)).mono ?_; rintro e w1 ⟨x, p, rfl, hb⟩; have A1 := Lib.hid (A0.out.mono hb); clear A0 hb HC
  obtain ⟨a0, a1, a2⟩ := cells3 A1.out.a
  obtain ⟨b0, b1, b2⟩ := cells3 A1.out.b
  obtain ⟨f0, f1, f2⟩ := free3 A1.out.b
  go_wp2_with fail
  go_quiet (fail)
  go_wp2_with fail
  obtain ⟨g0, g1, g2⟩ := cells3 (set3 (W := w1.drewN nq) A1.out.b true 0 t)
  exact bodyPost_ret (v := K.v ⟨true, 0, t⟩) (by simp [results, Tryz.results80, go_sem, K.v, g0, g1, g2]) rfl ⟨rfl, set3_below (belowN A1.out.below nq) (by simp) _ _ _⟩
set_option maxHeartbeats 3200000 in
theorem norm_ok_walk (n : Int) (t : ByteArray) (v : Int) (hs : t.size ≤ 140737488351232) (h : Lib.atoiAll t.toList = .ok v) (w : World) (ht : Tabs w) : Calls Tryz.prog 80 #[.agg #[.bool true, .int .i64 n, .string t]] w (KeyPost w (K.norm ⟨true, n, t⟩)) := by
  have HC : ∀ w, Calls Tryz.prog 103 #[.string t] w (AtoiOk v w) := atoi_ok hs h
  have hv := Lib.atoiAll_bounds h
  have HI : ∀ w, Tabs w → Calls Tryz.prog 56 #[.int .i64 v] w (TextPost w (Lib.itoa v)) := itoa_any v hv.1 hv.2
  obtain ⟨q, hq⟩ : ∃ q, q = (Lib.itoa v == t.toList) := ⟨_, rfl⟩
  have hk : K.norm ⟨true, n, t⟩ = if q then ⟨false, v, ⟨#[]⟩⟩ else ⟨true, 0, t⟩ := by
    unfold K.norm
    simp only [canon_ok h, if_true, hq]
    cases (Lib.itoa v == t.toList) <;> rfl
  obtain ⟨r, hr⟩ : ∃ r, r = K.norm ⟨true, n, t⟩ := ⟨_, rfl⟩
  rw [← hr] at hk ⊢
  have HR := Lib.hid hk
  obtain ⟨s, hss⟩ : ∃ s, s = str (Lib.itoa v) := ⟨_, rfl⟩
  have hq' : (s.toList == t.toList) = q := by rw [hss, str_toList, hq]
  have HI' : ∀ w, Tabs w → Calls Tryz.prog 56 #[.int .i64 v] w fun e w' => e = .returned (.string s) ∧ Below w.heap.size w w' := fun w h => by rw [hss]; exact HI w h
  have HTS := Lib.hid ht
  have A0 := Lib.hid (at2_start w (KB true n t) (KB false 0 ⟨#[]⟩))
  clear h hs ht HI hk hq hss hr
  go_enter Tryz.func80, Tryz.ntmps80
  go_wp2_with fail
  refine (HC _).mono ?_; rintro e w1 ⟨rfl, hb⟩; have A1 := Lib.hid (A0.out.mono hb); clear A0 hb HC
  go_wp2_with fail
  have HS0 : S2 w w.heap.size (KB true n t) (KB false 0 ⟨#[]⟩) w1 := ⟨HTS.out, A1.out⟩
  clear A1
  go_region_held3 (fun W => W.cell? ⟨w.heap.size, 2, none⟩ = some (.string t) ∧ S2 w w.heap.size (KB true n t) (KB false 0 ⟨#[]⟩) W)
    (first
      | assumption
      | (refine keyS (S2.mono (keyS2 ?_) hb); assumption)
      | (refine keyS (S2.drew ?_); assumption))
    (first
      | (go_at_call 56; refine (HI' _ (S2.tabs (w := w) (keyS2 (b := true) (n := n) (t := t) (b' := false) (n' := 0) (t' := ⟨#[]⟩) (B := w.heap.size) ?_))).mono ?_; assumption; rintro e wq ⟨rfl, hb⟩))
  obtain ⟨hS, A2⟩ := (‹_ ∧ S2 _ _ _ _ _› : _ ∧ S2 _ _ _ _ _)
  obtain ⟨a0, a1, a2⟩ := cells3 A2.2.a
  obtain ⟨b0, b1, b2⟩ := cells3 A2.2.b
  obtain ⟨f0, f1, f2⟩ := free3 A2.2.b
  clear hS
  cases q
  · have e : r = ⟨true, 0, t⟩ := HR.out
    subst e
    clear HR
    go_wp2_with fail
    obtain ⟨g0, g1, g2⟩ := cells3 (set3 A2.2.b true 0 t)
    exact bodyPost_ret (v := K.v ⟨true, 0, t⟩) (by simp [results, Tryz.results80, go_sem, K.v, g0, g1, g2]) rfl ⟨rfl, set3_below A2.below (by simp) _ _ _⟩
  · have e : r = ⟨false, v, ⟨#[]⟩⟩ := HR.out
    subst e
    clear HR
    go_wp2_with fail
    obtain ⟨g0, g1, g2⟩ := cells3 (set3 A2.2.b false v ⟨#[]⟩)
    exact bodyPost_ret (v := K.v ⟨false, v, ⟨#[]⟩⟩) (by simp [results, Tryz.results80, go_sem, K.v, g0, g1, g2]) rfl ⟨rfl, set3_below A2.below (by simp) _ _ _⟩

theorem norm_any (k : K) (hk : k.Good) (w : World) (ht : Tabs w) : Calls Tryz.prog 80 #[k.v] w (KeyPost w k.norm) := by
  obtain ⟨b, n, t⟩ := k
  cases b with
  | false => exact norm_num_walk n t w
  | true =>
    by_cases h : ∃ v, Lib.atoiAll t.toList = .ok v
    · obtain ⟨v, h⟩ := h
      exact norm_ok_walk n t v hk.sz h w ht
    · have h' : ∀ v, Lib.atoiAll t.toList ≠ .ok v := fun v hv => h ⟨v, hv⟩
      have e : K.norm ⟨true, n, t⟩ = ⟨true, 0, t⟩ := by unfold K.norm; simp [canon_bad h']
      rw [e]
      exact norm_bad_walk n t hk.sz h' w ht

end Go.Proofs.YtnaefnojmiolbaaGreatDoor

namespace Go.Proofs.YtnaefnojmiolbaaGreatDoor
open Go.RowKit

def emptyT (t : ByteArray) : Bool := t.toList.isEmpty
mutual
/-- May a value be, within so many lists? -/
def mayV : VT → Int → Bool
  | .mk k n t l, d =>
    if k = 0 then decide (l = []) && (decide (n = 0) && emptyT t)
    else if k = 1 then decide (l = []) && (decide (n = 0 ∨ n = 1) && emptyT t)
    else if k = 2 then decide (l = []) && emptyT t
    else if k = 3 then decide (l = []) && (decide (n = 0) && decide (t.size ≤ 65536))
    else if k = 5 then decide (l = []) && (decide (0 < n) && emptyT t)
    else if k = 4 then (emptyT t && decide (-1 ≤ n) && decide (l.length ≤ 2048) && decide (d < 64)) && itemsL n d [] l
    else false
/-- May the items be, behind keys that were met? -/
def itemsL : Int → Int → List K → List (K × VT) → Bool
  | _, _, _, [] => true
  | n, d, met, (q, v) :: r => (K.same q.norm q && !(decide (q ∈ met)) && mayV v (d + 1)) && (!(!q.b && decide (0 ≤ n) && decide (n ≤ q.n)) && itemsL n d (q :: met) r)
end
theorem nil_len {α : Type} (l : List α) : decide (l = []) = ((l.length : Int) == 0) := by
  cases l with
  | nil => rfl
  | cons x r => simp; omega
set_option maxHeartbeats 1600000 in
set_option maxRecDepth 100000 in
theorem may_0 (n : Int) (t : ByteArray) (ao : Option Addr) (m cap : Nat) (d : Int) (w : World) (e1 e2 e3 : Bool) (h1 : ((m : Int) == 0) = e1) (h2 : (n == 0) = e2) (h3 : t.toList.isEmpty = e3) :
    Calls Tryz.prog 52 #[.agg #[.int .i64 0, .int .i64 n, .string t, .slice ao m cap], .int .i64 d] w (BoolPost w (e1 && (e2 && e3))) := by
  have HB := Lib.hid (below_alloc1 w (.cells #[.int .i64 0, .int .i64 n, .string t, .slice ao m cap] 24))
  cases e1 <;> cases e2 <;> cases e3 <;> (go_enter Tryz.func52, Tryz.ntmps52; go_wp2_with fail; go_ret; exact ⟨rfl, HB.out⟩)
set_option maxHeartbeats 1600000 in
set_option maxRecDepth 100000 in
theorem may_1 (n : Int) (t : ByteArray) (ao : Option Addr) (m cap : Nat) (d : Int) (w : World) (e1 e2 e3 : Bool) (h1 : ((m : Int) == 0) = e1) (h2 : ((n / 2) == 0) = e2) (h3 : t.toList.isEmpty = e3) :
    Calls Tryz.prog 52 #[.agg #[.int .i64 1, .int .i64 n, .string t, .slice ao m cap], .int .i64 d] w (BoolPost w (e1 && (e2 && e3))) := by
  have HB := Lib.hid (below_alloc1 w (.cells #[.int .i64 1, .int .i64 n, .string t, .slice ao m cap] 24))
  cases e1 <;> cases e2 <;> cases e3 <;> (go_enter Tryz.func52, Tryz.ntmps52; go_wp2_with fail; go_ret; exact ⟨rfl, HB.out⟩)
set_option maxHeartbeats 1600000 in
set_option maxRecDepth 100000 in
theorem may_2 (n : Int) (t : ByteArray) (ao : Option Addr) (m cap : Nat) (d : Int) (w : World) (e1 e3 : Bool) (h1 : ((m : Int) == 0) = e1) (h3 : t.toList.isEmpty = e3) :
    Calls Tryz.prog 52 #[.agg #[.int .i64 2, .int .i64 n, .string t, .slice ao m cap], .int .i64 d] w (BoolPost w (e1 && e3)) := by
  have HB := Lib.hid (below_alloc1 w (.cells #[.int .i64 2, .int .i64 n, .string t, .slice ao m cap] 24))
  cases e1 <;> cases e3 <;> (go_enter Tryz.func52, Tryz.ntmps52; go_wp2_with fail; go_ret; exact ⟨rfl, HB.out⟩)
set_option maxHeartbeats 1600000 in
set_option maxRecDepth 100000 in
theorem may_3 (n : Int) (t : ByteArray) (ao : Option Addr) (m cap : Nat) (d : Int) (w : World) (e1 e2 e3 : Bool) (h1 : ((m : Int) == 0) = e1) (h2 : (n == 0) = e2) (h3 : decide ((t.size : Int) ≤ 65536) = e3) :
    Calls Tryz.prog 52 #[.agg #[.int .i64 3, .int .i64 n, .string t, .slice ao m cap], .int .i64 d] w (BoolPost w (e1 && (e2 && e3))) := by
  have HB := Lib.hid (below_alloc1 w (.cells #[.int .i64 3, .int .i64 n, .string t, .slice ao m cap] 24))
  cases e1 <;> cases e2 <;> cases e3 <;> (go_enter Tryz.func52, Tryz.ntmps52; go_wp2_with fail; go_ret; exact ⟨rfl, HB.out⟩)
set_option maxHeartbeats 1600000 in
set_option maxRecDepth 100000 in
theorem may_5 (n : Int) (t : ByteArray) (ao : Option Addr) (m cap : Nat) (d : Int) (w : World) (e1 e2 e3 : Bool) (h1 : ((m : Int) == 0) = e1) (h2 : decide (0 < n) = e2) (h3 : t.toList.isEmpty = e3) :
    Calls Tryz.prog 52 #[.agg #[.int .i64 5, .int .i64 n, .string t, .slice ao m cap], .int .i64 d] w (BoolPost w (e1 && (e2 && e3))) := by
  have HB := Lib.hid (below_alloc1 w (.cells #[.int .i64 5, .int .i64 n, .string t, .slice ao m cap] 24))
  cases e1 <;> cases e2 <;> cases e3 <;> (go_enter Tryz.func52, Tryz.ntmps52; go_wp2_with fail; go_ret; exact ⟨rfl, HB.out⟩)
set_option maxHeartbeats 1600000 in
set_option maxRecDepth 100000 in
theorem may_other (k n : Int) (t : ByteArray) (ao : Option Addr) (m cap : Nat) (d : Int) (w : World) (h0 : (k == 0) = false) (h1 : (k == 1) = false) (h2 : (k == 2) = false) (h3 : (k == 3) = false) (h4 : (k == 4) = false) (h5 : (k == 5) = false) :
    Calls Tryz.prog 52 #[.agg #[.int .i64 k, .int .i64 n, .string t, .slice ao m cap], .int .i64 d] w (BoolPost w false) := by
  have HB := Lib.hid (below_alloc1 w (.cells #[.int .i64 k, .int .i64 n, .string t, .slice ao m cap] 24))
  go_enter Tryz.func52, Tryz.ntmps52
  go_wp2_with fail
  go_ret
  exact ⟨rfl, HB.out⟩
set_option maxHeartbeats 1600000 in
set_option maxRecDepth 100000 in
theorem may_4 (n : Int) (t : ByteArray) (ao : Option Addr) (m cap : Nat) (d : Int) (w : World) (r : Bool) (HC : ∀ w1, Below w.heap.size w w1 → Calls Tryz.prog 86 #[.agg #[.int .i64 4, .int .i64 n, .string t, .slice ao m cap], .int .i64 d] w1 (BoolPost w1 r)) :
    Calls Tryz.prog 52 #[.agg #[.int .i64 4, .int .i64 n, .string t, .slice ao m cap], .int .i64 d] w (BoolPost w r) := by
  have HB := Lib.hid (below_alloc1 w (.cells #[.int .i64 4, .int .i64 n, .string t, .slice ao m cap] 24))
  have HD := HC _ HB.out
  clear HC
  go_enter Tryz.func52, Tryz.ntmps52
  go_wp2_with fail
  refine HD.mono ?_
  rintro e w1 ⟨rfl, hb⟩
  have B1 := Lib.hid (HB.out.trans (hb.mono HB.out.size))
  clear hb HD HB
  go_wp2_with fail
  go_ret
  exact ⟨rfl, B1.out⟩
end Go.Proofs.YtnaefnojmiolbaaGreatDoor

namespace Go.Proofs.YtnaefnojmiolbaaGreatDoor
open Go.RowKit Go.Maps

/-- A map's type, its keys and its elements. -/
structure MSpec (κ α : Type) where
  M : TypeId
  k : TypeId
  e : TypeId
  kv : κ → Value
  kl : κ → Lit
  good : κ → Prop
  keyed : Keyed Tryz.prog k
  und : Tryz.prog.underlying M = some (.map k e)
  keyOf : ∀ x, good x → keyOf Tryz.prog k (kv x) = some (kl x)
  inj : ∀ x y, good x → good y → kl x = kl y → x = y
  ev : α → Value
  ed : α → DataW Unit
  ge : α → Prop
  pe : Value → Option (DataW Unit × List MemPlace)
  pe_ev : ∀ a, ge a → pe (ev a) = some (ed a, [])
  pe_inv : ∀ v a ps, pe v = some (ed a, ps) → v = ev a
  z : α
  gz : ge z
  zero : ∀ w, (zeroValue e).run Tryz.prog w = .ok (ev z) w
section
variable {κ α : Type} (S : MSpec κ α)
/-- Block mb is a map of n entries in which key x has what F tells. -/
def MSpec.Is (w : World) (mb : Nat) (F : κ → Option α) (n : Nat) : Prop :=
  ∃ D : DataW Unit, w.ownsMap Tryz.prog S.k S.pe mb n D ∧ Tidy D ∧ size D = n ∧
    ∀ x : κ, S.good x → (∀ a, F x = some a → has D (S.kl x) = true ∧ ∀ z, D.atKey (S.kl x) z = S.ed a) ∧ (F x = none → has D (S.kl x) = false)
variable {S} {w w' : World} {mb n : Nat} {F G : κ → Option α}
theorem MSpec.Is.lt (h : S.Is w mb F n) : mb < w.heap.size := by
  obtain ⟨D, ho, _⟩ := h
  exact ho.lt
theorem MSpec.Is.congr (h : S.Is w mb F n) (e : ∀ k, S.good k → G k = F k) : S.Is w mb G n := by
  obtain ⟨D, ho, ht, hs, hF⟩ := h
  exact ⟨D, ho, ht, hs, fun k hk => by rw [e k hk]; exact hF k hk⟩
theorem MSpec.Is.kept (h : S.Is w mb F n) (hb : w'.heap[mb]? = w.heap[mb]?) : S.Is w' mb F n := by
  obtain ⟨D, ⟨es, clock, h1, h2⟩, ht⟩ := h
  exact ⟨D, ⟨es, clock, hb.trans h1, h2⟩, ht⟩
theorem MSpec.Is.mod {Z : Nat → Prop} (h : S.Is w mb F n) (hm : Mod Z w w') (hZ : ¬ Z mb) : S.Is w' mb F n := h.kept (hm.block mb h.lt hZ)
theorem MSpec.Is.under (h : S.Is w mb F n) (hb : Below w.heap.size w w') : S.Is w' mb F n := h.kept (hb.block mb h.lt)
theorem MSpec.made (w : World) : S.Is (w.alloc (.map #[] 0)) w.heap.size (fun _ => none) 0 :=
  ⟨.map [], World.ownsMap_made w Tryz.prog S.k _, tidy_empty, rfl, fun k _ => ⟨(fun i h => by cases h), fun _ => rfl⟩⟩
theorem MSpec.Is.look (h : S.Is w mb F n) {x : κ} (hx : S.good x) :
    (Instr.lookup S.M (.map (some mb)) (S.kv x) true).run Tryz.prog w = .ok (.tuple #[S.ev ((F x).getD S.z), .bool (F x).isSome]) w := by
  obtain ⟨D, ho, _, _, hF⟩ := h
  obtain ⟨v, ps, hrun, hv⟩ := ho.look_ok S.keyed S.und (S.zero w) (S.pe_ev S.z S.gz) (S.keyOf x hx)
  cases hf : F x with
  | some i =>
    obtain ⟨h1, h2⟩ := (hF x hx).1 i hf
    rw [h2] at hv
    rw [hrun, h1, S.pe_inv _ _ _ hv]
    rfl
  | none =>
    have h1 := (hF x hx).2 hf
    rw [atKey_of_not_has h1] at hv
    rw [hrun, h1, S.pe_inv _ _ _ hv]
    rfl
theorem MSpec.Is.look1 (h : S.Is w mb F n) {x : κ} (hx : S.good x) :
    (Instr.lookup S.M (.map (some mb)) (S.kv x) false).run Tryz.prog w = .ok (S.ev ((F x).getD S.z)) w := by
  obtain ⟨D, ho, _, _, hF⟩ := h
  obtain ⟨v, ps, hrun, hv⟩ := ho.lookup S.keyed S.und (S.zero w) (S.pe_ev S.z S.gz) (S.keyOf x hx)
  cases hf : F x with
  | some i =>
    obtain ⟨h1, h2⟩ := (hF x hx).1 i hf
    rw [h2] at hv
    rw [hrun, S.pe_inv _ _ _ hv]
    rfl
  | none =>
    have h1 := (hF x hx).2 hf
    rw [atKey_of_not_has h1] at hv
    rw [hrun, S.pe_inv _ _ _ hv]
    rfl
theorem MSpec.Is.put [DecidableEq κ] (h : S.Is w mb F n) (hn : n < maxLen) {x : κ} (hx : S.good x) {a : α} (ha : S.ge a) :
    ∃ w', (Instr.mapUpdate S.M (.map (some mb)) (S.kv x) (S.ev a)).run Tryz.prog w = .ok () w' ∧ S.Is w' mb (fun y => if y = x then some a else F y) (if (F x).isSome then n else n + 1) ∧ w.grownBy w' (some mb) := by
  obtain ⟨D, ho, ht, hs, hF⟩ := h
  obtain ⟨w', hrun, ho', hg⟩ := ho.update S.keyed S.und hn (S.keyOf x hx) (S.pe_ev a ha)
  have hkey : WideAt.IsKeyLit (S.kl x) := S.keyed.one.key ⟨S.kv x, S.keyOf x hx⟩
  have ht' : Tidy (D.put (S.kl x) (S.ed a)) := ht.put hkey _
  have hsz : size (D.put (S.kl x) (S.ed a)) = if (F x).isSome then n else n + 1 := by
    rw [size_put ht, hs]
    cases hf : F x with
    | some i => rw [((hF x hx).1 i hf).1]; rfl
    | none => rw [(hF x hx).2 hf]; rfl
  refine ⟨w', hrun, ⟨_, ?_, ht', hsz, fun y hy => ?_⟩, hg⟩
  · obtain ⟨es, clock, b1, b2, b3, b4⟩ := ho'
    refine ⟨es, clock, b1, b2, ?_, b4⟩
    have : size (D.put (S.kl x) (S.ed a)) = es.size := by rw [b4]; simp [size, length_sorted]
    omega
  · by_cases e : y = x
    · subst e
      simp only [if_true]
      exact ⟨(fun i hi => by cases hi; exact ⟨has_put_same ht.isMap hkey _, fun z => atKey_put_same ht.isMap hkey _ z⟩), (fun hi => by cases hi)⟩
    · have hne : S.kl y ≠ S.kl x := fun h => e (S.inj y x hy hx h)
      simp only [if_neg e]
      refine ⟨fun i hi => ?_, fun hi => ?_⟩
      · obtain ⟨p, q⟩ := (hF y hy).1 i hi
        exact ⟨by rw [has_put_other hne]; exact p, fun z => by rw [atKey_put_other hne]; exact q z⟩
      · rw [has_put_other hne]; exact (hF y hy).2 hi
end

theorem laidOutZ : laidOutB Tryz.prog = true := by kernel_rfl
theorem row62 : (62 : TypeId) < Tryz.prog.types.size := of_decide_eq_true (by kernel_rfl)
theorem wide62 : (match Tryz.prog.underlying 62 with | some (.array _ _) | some (.struct _) => true | _ => false) = true := by rw [Tryz.underlying62]
set_option maxRecDepth 100000 in
theorem key_law : Go.WideMaps.KeyLaw Tryz.prog 62 := deep_law_laid laidOutZ (m := 2) (by decide) row62 (by kernel_rfl) wide62
theorem keyed62 : Keyed Tryz.prog 62 := Keyed.of_law key_law
theorem cells62 : Tryz.prog.cellsOf 62 = 3 := by kernel_rfl
theorem c4 : Tryz.prog.cellsOf 4 = 1 := by kernel_rfl
theorem c3 : Tryz.prog.cellsOf 3 = 1 := by kernel_rfl
theorem c9 : Tryz.prog.cellsOf 9 = 1 := by kernel_rfl
theorem keyType62 : Tryz.prog.keyType 62 = true := by kernel_rfl
/-- A key as the reader tells it. -/
def kl (k : K) : Lit := .string (keyBytes [.bool k.b, .int .i64 k.n, .string k.t.data.toList])
theorem wf_int {n : Int} (h0 : -9223372036854775808 ≤ n) (h1 : n ≤ 9223372036854775807) : (Lit.int .i64 n).wf = true := by
  have e1 : IntKind.i64.min = -9223372036854775808 := rfl
  have e2 : IntKind.i64.max = 9223372036854775807 := rfl
  simp [Lit.wf, e1, e2]
  omega
theorem pred_of_lt {a n : Nat} (h : a < n) : ∃ m, n = m + 1 := ⟨n - 1, by omega⟩
theorem keyOf_k {k : K} (h : k.Good) : keyOf Tryz.prog 62 k.v = some (kl k) := by
  have hsz : k.t.size ≤ maxLen := Nat.le_trans h.sz (by decide)
  have hf : k.v.formed Tryz.prog 62 = true := by simp [K.v, Value.formed, Tryz.underlying62, cells62]
  obtain ⟨m, hm⟩ : ∃ m, Tryz.prog.types.size = m + 1 := pred_of_lt row62
  unfold keyOf
  rw [Tryz.underlying62]
  simp only [keyType62, hf, Bool.and_self, if_true]
  rw [hm]
  have w := wf_int h.lo h.hi
  simp [Program.keyLits, Tryz.underlying62, cells62, Tryz.underlying4, Tryz.underlying3, Tryz.underlying9, c4, c3, c9, K.v, Value.cells, hsz, w]
  rfl
theorem kl_inj {x y : K} (hx : x.Good) (hy : y.Good) (h : kl x = kl y) : x = y :=
  K.v_inj (key_law.inj (keyOf_k hx) (by rw [h]; exact keyOf_k hy))
theorem zero3 (w : World) : (zeroValue 3).run Tryz.prog w = .ok (.int .i64 0) w := by kernel_rfl
theorem zero4 (w : World) : (zeroValue 4).run Tryz.prog w = .ok (.bool false) w := by kernel_rfl
theorem pe_int_inv {v : Value} {a : Int} {ps : List MemPlace} (h : plainElem (H := Unit) Tryz.prog 3 v = some (.lit (.int .i64 a), ps)) : v = .int .i64 a := by
  obtain ⟨c, rfl, hc, _⟩ := plainElem_int_inv Tryz.underlying3 h
  have := congrArg Prod.fst hc
  simp only [DataW.lit.injEq, Lit.int.injEq, true_and] at this
  rw [this]
/-- A truth as an element. -/
def peBool (v : Value) : Option (DataW Unit × List MemPlace) := match v with
  | .bool b => some (.lit (.bool b), [])
  | _ => none
theorem pe_bool_inv {v : Value} {a : Bool} {ps : List MemPlace} (h : peBool v = some (.lit (.bool a), ps)) : v = .bool a := by
  unfold peBool at h
  split at h
  · simp only [Option.some.injEq, Prod.mk.injEq, DataW.lit.injEq, Lit.bool.injEq] at h
    rw [h.1]
  · cases h
/-- map[api.Key]int. -/
noncomputable def mKI : MSpec K Int where
  M := 158
  k := 62
  e := 3
  kv := K.v
  kl := kl
  good := K.Good
  keyed := keyed62
  und := Tryz.underlying158
  keyOf := fun _ h => keyOf_k h
  inj := fun _ _ hx hy h => kl_inj hx hy h
  ev := fun n => .int .i64 n
  ed := fun n => .lit (.int .i64 n)
  ge := fun n => -9223372036854775808 ≤ n ∧ n ≤ 9223372036854775807
  pe := plainElem (H := Unit) Tryz.prog 3
  pe_ev := fun _ h => plainElem_int Tryz.underlying3 (wf_int h.1 h.2)
  pe_inv := fun _ _ _ h => pe_int_inv h
  z := 0
  gz := by decide
  zero := zero3
/-- map[api.Key]bool. -/
noncomputable def mKB : MSpec K Bool where
  M := 152
  k := 62
  e := 4
  kv := K.v
  kl := kl
  good := K.Good
  keyed := keyed62
  und := Tryz.underlying152
  keyOf := fun _ h => keyOf_k h
  inj := fun _ _ hx hy h => kl_inj hx hy h
  ev := fun b => .bool b
  ed := fun b => .lit (.bool b)
  ge := fun _ => True
  pe := peBool
  pe_ev := fun _ _ => rfl
  pe_inv := fun _ _ _ h => pe_bool_inv h
  z := false
  gz := trivial
  zero := zero4
theorem law9 : Keyed Tryz.prog 9 := string_keyed Tryz.underlying9
theorem keyOf_s {s : ByteArray} (h : s.size ≤ maxLen) : keyOf Tryz.prog 9 (.string s) = some (.string s.data.toList) := Go.WideMaps.keyOf_string_mk Tryz.underlying9 h
/-- map[string]bool. -/
noncomputable def mSB : MSpec ByteArray Bool where
  M := 104
  k := 9
  e := 4
  kv := fun s => .string s
  kl := fun s => .string s.data.toList
  good := fun s => s.size ≤ maxLen
  keyed := law9
  und := Tryz.underlying104
  keyOf := fun _ h => keyOf_s h
  inj := fun s t _ _ h => by
    injection h with h
    rw [← str_data s, ← str_data t, h]
  ev := fun b => .bool b
  ed := fun b => .lit (.bool b)
  ge := fun _ => True
  pe := peBool
  pe_ev := fun _ _ => rfl
  pe_inv := fun _ _ _ h => pe_bool_inv h
  z := false
  gz := trivial
  zero := zero4
end Go.Proofs.YtnaefnojmiolbaaGreatDoor
