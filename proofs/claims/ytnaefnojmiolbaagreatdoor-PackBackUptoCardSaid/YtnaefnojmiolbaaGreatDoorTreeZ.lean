/-
  Trees of values in memory.
-/
import Derived.Test.YtnaefnojmiolbaaGreatDoorBaseZ
namespace Go.Proofs.YtnaefnojmiolbaaGreatDoor
open Go.RowKit

mutual
/-- Within what a value can be, all through. -/
def VT.Good : VT → Prop
  | .mk k n t l => (-9223372036854775808 ≤ k ∧ k ≤ 9223372036854775807) ∧ (-9223372036854775808 ≤ n ∧ n ≤ 9223372036854775807) ∧ t.size ≤ 140737488351232 ∧ GoodL l
def GoodL : List (K × VT) → Prop
  | [] => True
  | (k, v) :: r => k.Good ∧ v.Good ∧ GoodL r
end
theorem goodL_iff : ∀ {l : List (K × VT)}, GoodL l ↔ ∀ x ∈ l, x.1.Good ∧ x.2.Good
  | [] => by simp [GoodL]
  | (k, v) :: r => by
    rw [GoodL, goodL_iff (l := r)]
    simp
    exact ⟨fun ⟨a, b, c⟩ => ⟨⟨a, b⟩, c⟩, fun ⟨⟨a, b⟩, c⟩ => ⟨a, b, c⟩⟩
theorem VT.Good.parts {v : VT} (h : v.Good) : (-9223372036854775808 ≤ v.k ∧ v.k ≤ 9223372036854775807) ∧ (-9223372036854775808 ≤ v.n ∧ v.n ≤ 9223372036854775807) ∧ v.t.size ≤ 140737488351232 ∧ ∀ x ∈ v.xs, x.1.Good ∧ x.2.Good := by
  cases v
  rw [VT.Good] at h
  exact ⟨h.1, h.2.1, h.2.2.1, goodL_iff.1 h.2.2.2⟩
theorem VT.good_mk {k n : Int} {t : ByteArray} {l : List (K × VT)} (h1 : -9223372036854775808 ≤ k ∧ k ≤ 9223372036854775807) (h2 : -9223372036854775808 ≤ n ∧ n ≤ 9223372036854775807) (h3 : t.size ≤ 140737488351232) (h4 : ∀ x ∈ l, x.1.Good ∧ x.2.Good) : (VT.mk k n t l).Good := by
  rw [VT.Good]
  exact ⟨h1, h2, h3, goodL_iff.2 h4⟩

/-- One item's cells. -/
def itCells (x : It) (c : Value) : List Value := [.bool x.1.b, .int .i64 x.1.n, .string x.1.t, .int .i64 x.2.k, .int .i64 x.2.n, .string x.2.t, c]
theorem itCells_len (x : It) (c : Value) : (itCells x c).length = 7 := rfl
def rowsV (xs : List It) (c : Nat → Value) : List (List Value) := xs.mapIdx fun j x => itCells x (c j)
theorem rowsV_len (xs : List It) (c : Nat → Value) : (rowsV xs c).length = xs.length := by simp [rowsV]
theorem rowsV_get {xs : List It} {c : Nat → Value} {j : Nat} (h : j < xs.length) : (rowsV xs c)[j]? = some (itCells xs[j] (c j)) := by simp [rowsV, h]
/-- Items lie behind a slice value, in blocks of A, all through. -/
inductive VAt (A : Nat → Prop) (w : World) : Value → List It → Prop
  | mk (ao : Option Addr) (cap : Nat) (xs : List It) (c : Nat → Value) (lies : Lies w 7 ao (rowsV xs c)) (blk : ∀ g off, ao = some ⟨g, off, none⟩ → xs ≠ [] → A g)
      (len : xs.length ≤ 140737488355328) (sub : ∀ (j : Nat) (hj : j < xs.length), VAt A w (c j) (xs[j]).2.xs) : VAt A w (.slice ao xs.length cap) xs
theorem VAt.form {A : Nat → Prop} {w : World} {v : Value} {xs : List It} (h : VAt A w v xs) : ∃ ao cap, v = .slice ao xs.length cap ∧ xs.length ≤ 140737488355328 := by
  cases h with
  | mk ao cap xs c _ _ len _ => exact ⟨ao, cap, rfl, len⟩
theorem VAt.nil (A : Nat → Prop) (w : World) (ao : Option Addr) (cap : Nat) : VAt A w (.slice ao 0 cap) [] :=
  .mk ao cap [] (fun _ => .bool false) (Lies.nil _ _ _) (fun _ _ _ h => absurd rfl h) (by simp) (fun j hj => by simp at hj)
/-- One item. -/
theorem VAt.at {A : Nat → Prop} {w : World} {ao : Option Addr} {cap m : Nat} {xs : List It} (h : VAt A w (.slice ao m cap) xs) {j : Nat} (hj : j < xs.length) :
    ∃ g off c, ao = some ⟨g, off, none⟩ ∧ g < w.heap.size ∧ A g ∧ VAt A w c (xs[j]).2.xs ∧
      w.cell? ⟨g, off + j * 7, none⟩ = some (.bool xs[j].1.b) ∧ w.cell? ⟨g, off + j * 7 + 1, none⟩ = some (.int .i64 xs[j].1.n) ∧ w.cell? ⟨g, off + j * 7 + 2, none⟩ = some (.string xs[j].1.t) ∧
      w.cell? ⟨g, off + j * 7 + 3, none⟩ = some (.int .i64 xs[j].2.k) ∧ w.cell? ⟨g, off + j * 7 + 4, none⟩ = some (.int .i64 xs[j].2.n) ∧ w.cell? ⟨g, off + j * 7 + 5, none⟩ = some (.string xs[j].2.t) ∧ w.cell? ⟨g, off + j * 7 + 6, none⟩ = some c := by
  generalize hv : Value.slice ao m cap = v at h
  cases h with
  | mk ao' cap' xs c lies blk len sub =>
    cases hv
    obtain ⟨g, off, rfl, hg, -, hc⟩ := lies j _ (rowsV_get hj)
    have d0 := hc 0 _ rfl
    rw [Nat.add_zero] at d0
    exact ⟨g, off, c j, rfl, hg, blk g off rfl (fun e => by subst e; simp at hj), sub j hj, d0, hc 1 _ rfl, hc 2 _ rfl, hc 3 _ rfl, hc 4 _ rfl, hc 5 _ rfl, hc 6 _ rfl⟩
/-- One item, by name. -/
theorem VAt.get {A : Nat → Prop} {w : World} {ao : Option Addr} {cap m : Nat} {xs : List It} (h : VAt A w (.slice ao m cap) xs) {j : Nat} (hj : j < xs.length) :
    ∃ q x g off c, xs[j]? = some (q, x) ∧ (q, x) ∈ xs ∧ ao = some ⟨g, off, none⟩ ∧ g < w.heap.size ∧ A g ∧ VAt A w c x.xs ∧
      w.cell? ⟨g, off + j * 7, none⟩ = some (.bool q.b) ∧ w.cell? ⟨g, off + j * 7 + 1, none⟩ = some (.int .i64 q.n) ∧ w.cell? ⟨g, off + j * 7 + 2, none⟩ = some (.string q.t) ∧
      w.cell? ⟨g, off + j * 7 + 3, none⟩ = some (.int .i64 x.k) ∧ w.cell? ⟨g, off + j * 7 + 4, none⟩ = some (.int .i64 x.n) ∧ w.cell? ⟨g, off + j * 7 + 5, none⟩ = some (.string x.t) ∧ w.cell? ⟨g, off + j * 7 + 6, none⟩ = some c := by
  obtain ⟨g, off, c, rest⟩ := h.at hj
  exact ⟨xs[j].1, xs[j].2, g, off, c, by rw [List.getElem?_eq_getElem hj], List.getElem_mem hj, rest⟩
theorem drop_at {α : Type} {l : List α} {j : Nat} {x : α} (h : l[j]? = some x) : l.drop j = x :: l.drop (j + 1) := by
  obtain ⟨hj, rfl⟩ := List.getElem?_eq_some_iff.1 h
  exact List.drop_eq_getElem_cons hj
theorem VAt.kept {A B : Nat → Prop} {w w' : World} {v : Value} {xs : List It} (h : VAt A w v xs) (hk : ∀ g, A g → g < w.heap.size → w'.heap[g]? = w.heap[g]? ∧ g < w'.heap.size ∧ B g) : VAt B w' v xs := by
  induction h with
  | mk ao cap xs c lies blk len _ ih =>
    refine .mk ao cap xs c (fun i r hr => ?_) (fun g off e hne => ?_) len ih
    · obtain ⟨g, off, e, hg, hl, hc⟩ := lies i r hr
      have hne : xs ≠ [] := fun e => by subst e; simp [rowsV] at hr
      obtain ⟨h1, h2, _⟩ := hk g (blk g off e hne) hg
      exact ⟨g, off, e, h2, hl, fun j u hj => (World.cell?_of_block (w := w) h1).trans (hc j u hj)⟩
    · obtain ⟨g', off', e', hg, -, -⟩ := lies 0 _ (rowsV_get (List.length_pos_iff.2 hne))
      rw [e] at e'; cases e'
      exact (hk g (blk g off e hne) hg).2.2
theorem VAt.mod {A F : Nat → Prop} {w w' : World} {v : Value} {xs : List It} (h : VAt A w v xs) (m : Mod F w w') (hF : ∀ g, A g → g < w.heap.size → ¬ F g) : VAt A w' v xs :=
  h.kept fun g ha hg => ⟨m.block g hg (hF g ha hg), m.lt hg, ha⟩
theorem VAt.under {A : Nat → Prop} {w w' : World} {v : Value} {xs : List It} (h : VAt A w v xs) (hb : Below w.heap.size w w') : VAt A w' v xs :=
  h.kept fun g ha hg => ⟨hb.block g hg, Nat.lt_of_lt_of_le hg hb.size, ha⟩
theorem VAt.mono {A B : Nat → Prop} {w : World} {v : Value} {xs : List It} (h : VAt A w v xs) (hab : ∀ g, A g → g < w.heap.size → B g) : VAt B w v xs :=
  h.kept fun g ha hg => ⟨rfl, hg, hab g ha hg⟩
/-- Anywhere. -/
abbrev VIn (w : World) (v : Value) (xs : List It) : Prop := VAt (fun _ => True) w v xs
theorem VAt.any {A : Nat → Prop} {w : World} {v : Value} {xs : List It} (h : VAt A w v xs) : VIn w v xs := h.mono fun _ _ _ => trivial
/-- One item as it lies in a later world. -/
theorem VAt.getB {A : Nat → Prop} {w wr : World} {B : Nat} {ao : Option Addr} {cap m : Nat} {xs : List It} (h : VAt A w (.slice ao m cap) xs) {j : Nat} (hj : j < xs.length) (hb : Below B w wr) (hB : B = w.heap.size) :
    ∃ q x g off co cc, xs[j]? = some (q, x) ∧ (q, x) ∈ xs ∧ ao = some ⟨g, off, none⟩ ∧ VIn wr (.slice co x.xs.length cc) x.xs ∧
      wr.cell? ⟨g, off + j * 7, none⟩ = some (.bool q.b) ∧ wr.cell? ⟨g, off + j * 7 + 1, none⟩ = some (.int .i64 q.n) ∧ wr.cell? ⟨g, off + j * 7 + 2, none⟩ = some (.string q.t) ∧
      wr.cell? ⟨g, off + j * 7 + 3, none⟩ = some (.int .i64 x.k) ∧ wr.cell? ⟨g, off + j * 7 + 4, none⟩ = some (.int .i64 x.n) ∧ wr.cell? ⟨g, off + j * 7 + 5, none⟩ = some (.string x.t) ∧ wr.cell? ⟨g, off + j * 7 + 6, none⟩ = some (.slice co x.xs.length cc) := by
  subst hB
  obtain ⟨q, x, g, off, c, h1, h2, h3, hg, -, hc, c0, c1, c2, c3, c4, c5, c6⟩ := h.get hj
  obtain ⟨co, cc, rfl, -⟩ := hc.form
  have k := fun o => hb.cell (p := ⟨g, o, none⟩) hg
  exact ⟨q, x, g, off, co, cc, h1, h2, h3, (hc.kept fun b _ hb' => ⟨hb.block b hb', Nat.lt_of_lt_of_le hb' hb.size, trivial⟩), (k _).trans c0, (k _).trans c1, (k _).trans c2, (k _).trans c3, (k _).trans c4, (k _).trans c5, (k _).trans c6⟩
/-- A value's block, an item's block. -/
abbrev VB (v : VT) (c : Value) : Obj := .cells #[.int .i64 v.k, .int .i64 v.n, .string v.t, c] 24
abbrev IB (x : It) (c : Value) : Obj := .cells #[.bool x.1.b, .int .i64 x.1.n, .string x.1.t, .int .i64 x.2.k, .int .i64 x.2.n, .string x.2.t, c] 64
theorem vb_cells {W : World} {B : Nat} {v : VT} {c : Value} (h : W.heap[B]? = some (VB v c)) :
    W.cell? ⟨B, 0, none⟩ = some (.int .i64 v.k) ∧ W.cell? ⟨B, 1, none⟩ = some (.int .i64 v.n) ∧ W.cell? ⟨B, 2, none⟩ = some (.string v.t) ∧ W.cell? ⟨B, 3, none⟩ = some c :=
  ⟨cell_blk h 0, cell_blk h 1, cell_blk h 2, cell_blk h 3⟩
theorem ib_cells {W : World} {B : Nat} {x : It} {c : Value} (h : W.heap[B]? = some (IB x c)) :
    W.cell? ⟨B, 0, none⟩ = some (.bool x.1.b) ∧ W.cell? ⟨B, 1, none⟩ = some (.int .i64 x.1.n) ∧ W.cell? ⟨B, 2, none⟩ = some (.string x.1.t) ∧ W.cell? ⟨B, 3, none⟩ = some (.int .i64 x.2.k) ∧ W.cell? ⟨B, 4, none⟩ = some (.int .i64 x.2.n) ∧ W.cell? ⟨B, 5, none⟩ = some (.string x.2.t) ∧ W.cell? ⟨B, 6, none⟩ = some c :=
  ⟨cell_blk h 0, cell_blk h 1, cell_blk h 2, cell_blk h 3, cell_blk h 4, cell_blk h 5, cell_blk h 6⟩
end Go.Proofs.YtnaefnojmiolbaaGreatDoor
