/-
  Plain laws on memory that every later text of this seat uses; none of them speaks of the seat's program.
-/
import Derived.WalkKit
import Derived.WalkSpells
import Derived.WalkLawsBesides
import Derived.Handy
import Derived.Lib.Hide
import Derived.Deep.RegionLaw
import Derived.OneCell
namespace Go.Proofs.YtobjmajkcfhpoaaDoor
open Go.RowKit

/-- Only blocks of F may have turned. -/
structure Mod (F : Nat → Prop) (w w' : World) : Prop where
  os : w'.os = w.os
  tape : w'.tape = w.tape
  output : w'.output = w.output
  size : w.heap.size ≤ w'.heap.size
  block : ∀ k, k < w.heap.size → ¬ F k → w'.heap[k]? = w.heap[k]?

theorem Mod.refl (F : Nat → Prop) (w : World) : Mod F w w := ⟨rfl, rfl, rfl, Nat.le_refl _, fun _ _ _ => rfl⟩
theorem Mod.trans {F : Nat → Prop} {a b c : World} (h : Mod F a b) (k : Mod F b c) : Mod F a c :=
  ⟨k.os.trans h.os, k.tape.trans h.tape, k.output.trans h.output, Nat.le_trans h.size k.size, fun i hi hf => (k.block i (Nat.lt_of_lt_of_le hi h.size) hf).trans (h.block i hi hf)⟩
/-- What turned later is of the earlier blocks, or was made meanwhile. -/
theorem Mod.trans' {F G : Nat → Prop} {a b c : World} (h : Mod F a b) (k : Mod G b c) (hg : ∀ i, i < a.heap.size → G i → F i) : Mod F a c :=
  ⟨k.os.trans h.os, k.tape.trans h.tape, k.output.trans h.output, Nat.le_trans h.size k.size, fun i hi hf => (k.block i (Nat.lt_of_lt_of_le hi h.size) (fun x => hf (hg i hi x))).trans (h.block i hi hf)⟩
theorem Mod.mono {F G : Nat → Prop} {a b : World} (h : Mod F a b) (hg : ∀ i, i < a.heap.size → F i → G i) : Mod G a b :=
  ⟨h.os, h.tape, h.output, h.size, fun i hi hf => h.block i hi (fun x => hf (hg i hi x))⟩
theorem Mod.drew {F : Nat → Prop} {a w : World} (h : Mod F a w) : Mod F a w.drew := ⟨h.os, h.tape, h.output, h.size, h.block⟩
theorem Mod.drewN {F : Nat → Prop} {a w : World} (h : Mod F a w) (n : Nat) : Mod F a (w.drewN n) := ⟨h.os, h.tape, h.output, h.size, h.block⟩
theorem Mod.alloc {F : Nat → Prop} {a w : World} (h : Mod F a w) (o : Obj) : Mod F a (w.alloc o) :=
  h.trans ⟨rfl, rfl, rfl, by simp, fun k hk _ => Below.heap_alloc _ _ _ hk⟩
theorem Mod.setCell {F : Nat → Prop} {a w : World} (h : Mod F a w) (p : Addr) (u : Value) (hp : p.block < a.heap.size → F p.block) : Mod F a (w.setCell p u) :=
  h.trans' (G := fun k => k = p.block) ⟨rfl, rfl, rfl, by simp [World.setCell], fun k _ hf => Below.heap_setCell _ _ _ _ hf⟩ (fun i hi e => by subst e; exact hp hi)
theorem Mod.of_below {F : Nat → Prop} {w w' : World} (h : Below w.heap.size w w') : Mod F w w' := ⟨h.os, h.tape, h.output, h.size, fun k hk _ => h.block k hk⟩
theorem Mod.below {w w' : World} (h : Mod (fun _ => False) w w') : Below w.heap.size w w' := ⟨h.os, h.tape, h.output, h.size, fun k hk => h.block k hk (fun x => x)⟩
theorem Mod.belowB {F : Nat → Prop} {B : Nat} {w w' : World} (h : Mod F w w') (hF : ∀ k, k < B → ¬ F k) (hB : B ≤ w.heap.size) : Below B w w' :=
  ⟨h.os, h.tape, h.output, h.size, fun k hk => h.block k (Nat.lt_of_lt_of_le hk hB) (hF k hk)⟩
theorem Mod.grown {F : Nat → Prop} {a w w' : World} {row : Option Nat} (h : Mod F a w) (hg : w.grownBy w' row) (hr : ∀ k, row = some k → k < a.heap.size → F k) : Mod F a w' :=
  h.trans' (G := fun k => row = some k) ⟨hg.os, hg.tape, hg.output, hg.size, fun k hk hf => hg.block k hk (fun e => hf e.symm)⟩ (fun i hi e => hr i e hi)
theorem Mod.cell {F : Nat → Prop} {w w' : World} (h : Mod F w w') {p : Addr} (hp : p.block < w.heap.size) (hF : ¬ F p.block) : w'.cell? p = w.cell? p := World.cell?_of_block (w := w) (h.block p.block hp hF)
theorem Mod.frozen {F : Nat → Prop} {w w' : World} (h : Mod F w w') {p : Addr} (hp : p.block < w.heap.size) (hF : ¬ F p.block) : w'.frozen? p = w.frozen? p := World.frozen?_of_block (w := w) (h.block p.block hp hF)
theorem Mod.blk {F : Nat → Prop} {w w' : World} (h : Mod F w w') {b : Nat} {o : Obj} (hb : w.heap[b]? = some o) (hF : ¬ F b) : w'.heap[b]? = some o :=
  (h.block b (lt_of_block hb) hF).trans hb
theorem Mod.lt {F : Nat → Prop} {w w' : World} (h : Mod F w w') {b : Nat} (hb : b < w.heap.size) : b < w'.heap.size := Nat.lt_of_lt_of_le hb h.size

/-- A block that is known whole. -/
theorem cell_blk {w : World} {b : Nat} {c : Array Value} {t : TypeId} {fr : Nat × Nat} (h : w.heap[b]? = some (.cells c t fr)) (i : Nat) : w.cell? ⟨b, i, none⟩ = c[i]? := by simp [World.cell?, h]
theorem free_blk {w : World} {b : Nat} {c : Array Value} {t : TypeId} (h : w.heap[b]? = some (.cells c t (0, 0))) (i : Nat) : w.frozen? ⟨b, i, none⟩ = false := by simp [World.frozen?, h]
theorem set_blk {w : World} {b : Nat} {c : Array Value} {t : TypeId} {fr : Nat × Nat} (h : w.heap[b]? = some (.cells c t fr)) (i : Nat) (v : Value) :
    (w.setCell ⟨b, i, none⟩ v).heap[b]? = some (.cells (c.setIfInBounds i v) t fr) := by
  have hlt := lt_of_block h
  have h' : w.heap[b] = .cells c t fr := by simpa [Array.getElem?_eq_getElem hlt] using h
  show (w.heap.modify b _)[b]? = _
  rw [Array.getElem?_eq_getElem (by simpa using hlt), Array.getElem_modify_self, h']
  rfl
theorem set_other {w : World} {b : Nat} {o : Obj} {p : Addr} {v : Value} (h : w.heap[b]? = some o) (hb : b ≠ p.block) : (w.setCell p v).heap[b]? = some o := by
  rw [Below.heap_setCell _ _ _ _ hb]; exact h
theorem alloc_blk {w : World} {b : Nat} {o : Obj} (h : w.heap[b]? = some o) (x : Obj) : (w.alloc x).heap[b]? = some o := by
  rw [Below.heap_alloc _ _ _ (lt_of_block h)]; exact h

/-- Rows of cells, one behind the other, from an address on. -/
def Lies (w : World) (size : Nat) (ao : Option Addr) (rows : List (List Value)) : Prop :=
  ∀ i r, rows[i]? = some r → ∃ g off, ao = some ⟨g, off, none⟩ ∧ g < w.heap.size ∧ r.length = size ∧ ∀ j u, r[j]? = some u → w.cell? ⟨g, off + i * size + j, none⟩ = some u

theorem Lies.nil (w : World) (size : Nat) (ao : Option Addr) : Lies w size ao [] := fun i r h => by simp at h
theorem Lies.kept {w w' : World} {size : Nat} {ao : Option Addr} {rows : List (List Value)} (h : Lies w size ao rows)
    (hk : ∀ g off, ao = some ⟨g, off, none⟩ → g < w.heap.size → w'.heap[g]? = w.heap[g]? ∧ g < w'.heap.size) : Lies w' size ao rows := by
  intro i r hr
  obtain ⟨g, off, e, hg, hl, hc⟩ := h i r hr
  obtain ⟨hb, hs⟩ := hk g off e hg
  exact ⟨g, off, e, hs, hl, fun j u hj => (World.cell?_of_block (w := w) hb).trans (hc j u hj)⟩
theorem Lies.mod {F : Nat → Prop} {w w' : World} {size : Nat} {ao : Option Addr} {rows : List (List Value)} (h : Lies w size ao rows) (hm : Mod F w w')
    (hF : ∀ g off, ao = some ⟨g, off, none⟩ → ¬ F g) : Lies w' size ao rows :=
  h.kept fun g off e hg => ⟨hm.block g hg (hF g off e), hm.lt hg⟩
theorem Lies.below {B : Nat} {w w' : World} {size : Nat} {ao : Option Addr} {rows : List (List Value)} (h : Lies w size ao rows) (hm : Below B w w')
    (hF : ∀ g off, ao = some ⟨g, off, none⟩ → g < B) : Lies w' size ao rows :=
  h.kept fun g off e hg => ⟨hm.block g (hF g off e), Nat.lt_of_lt_of_le hg hm.size⟩

theorem flatten_length (size : Nat) : ∀ (rows : List (List Value)), (∀ r ∈ rows, r.length = size) → rows.flatten.length = rows.length * size
  | [], _ => by simp
  | r :: rest, h => by
    rw [List.flatten_cons, List.length_append, flatten_length size rest (fun x hx => h x (by simp [hx])), h r (by simp), List.length_cons, Nat.add_mul, Nat.one_mul, Nat.add_comm]
theorem flatten_get (size : Nat) : ∀ (rows : List (List Value)), (∀ r ∈ rows, r.length = size) → ∀ (i : Nat) (r : List Value) (j : Nat), rows[i]? = some r → j < size → rows.flatten[i * size + j]? = r[j]?
  | [], _, i, r, j, hi, _ => by simp at hi
  | x :: rest, h, 0, r, j, hi, hj => by
    simp at hi; subst hi
    rw [List.flatten_cons, Nat.zero_mul, Nat.zero_add, List.getElem?_append_left (by rw [h x (by simp)]; exact hj)]
  | x :: rest, h, i + 1, r, j, hi, hj => by
    have hx := h x (by simp)
    rw [List.flatten_cons, List.getElem?_append_right (by rw [hx, Nat.add_mul]; omega), hx]
    rw [show (i + 1) * size + j - size = i * size + j by rw [Nat.add_mul]; omega]
    exact flatten_get size rest (fun y hy => h y (by simp [hy])) i r j (by simpa using hi) hj
theorem flatten_take (size : Nat) : ∀ (rows : List (List Value)) (k : Nat), (∀ r ∈ rows, r.length = size) → rows.flatten.take (k * size) = (rows.take k).flatten
  | [], k, _ => by simp
  | r :: rest, 0, _ => by simp
  | r :: rest, k + 1, h => by
    have hx := h r (by simp)
    rw [List.take_succ_cons, List.flatten_cons, List.flatten_cons, List.take_append, List.take_of_length_le (by rw [hx, Nat.add_mul]; omega), hx,
      show (k + 1) * size - size = k * size by rw [Nat.add_mul]; omega, flatten_take size rest k (fun y hy => h y (by simp [hy]))]
theorem flatten_drop (size : Nat) : ∀ (rows : List (List Value)) (k : Nat), (∀ r ∈ rows, r.length = size) → rows.flatten.drop (k * size) = (rows.drop k).flatten
  | [], k, _ => by simp
  | r :: rest, 0, _ => by simp
  | r :: rest, k + 1, h => by
    have hx := h r (by simp)
    rw [List.drop_succ_cons, List.flatten_cons, List.drop_append, List.drop_of_length_le (by rw [hx, Nat.add_mul]; omega), hx,
      show (k + 1) * size - size = k * size by rw [Nat.add_mul]; omega, flatten_drop size rest k (fun y hy => h y (by simp [hy]))]
    simp

/-- A slice value that owns its rows: nil, or the head of a block of its own. -/
structure Owns (w : World) (e : TypeId) (size : Nat) (v : Value) (rows : List (List Value)) : Prop where
  row : w.ownsRow 0 e size v rows.length rows.flatten
  len : ∀ r ∈ rows, r.length = size
  one : ∀ r ∈ rows, ∀ u ∈ r, u.oneCell' = true

theorem Owns.empty (w : World) (e : TypeId) (size : Nat) : Owns w e size (.slice none 0 0) [] := ⟨by simpa using World.ownsRow_nil w 0 e size, by simp, by simp⟩
theorem Owns.kept {w w' : World} {e : TypeId} {size : Nat} {v : Value} {rows : List (List Value)} (h : Owns w e size v rows)
    (hk : ∀ g, v.ownBlock = some g → w'.heap[g]? = w.heap[g]?) : Owns w' e size v rows := by
  refine ⟨⟨h.row.1, ?_⟩, h.len, h.one⟩
  rcases h.row.2 with hn | ⟨g, cap, cur, rfl, hb, hgg, rest⟩
  · exact .inl hn
  · exact .inr ⟨g, cap, cur, rfl, hb, by rw [hk g rfl]; exact hgg, rest⟩
theorem Owns.mod {F : Nat → Prop} {w w' : World} {e : TypeId} {size : Nat} {v : Value} {rows : List (List Value)} (h : Owns w e size v rows) (hm : Mod F w w')
    (hF : ∀ g, v.ownBlock = some g → ¬ F g) : Owns w' e size v rows :=
  h.kept fun g e => hm.block g (h.row.lt g e).2 (hF g e)
theorem Owns.lt {w : World} {e : TypeId} {size : Nat} {v : Value} {rows : List (List Value)} (h : Owns w e size v rows) {g : Nat} (hg : v.ownBlock = some g) : g < w.heap.size := (h.row.lt g hg).2
theorem Owns.form {w : World} {e : TypeId} {size : Nat} {v : Value} {rows : List (List Value)} (h : Owns w e size v rows) :
    (v = .slice none 0 0 ∧ rows = []) ∨ ∃ g cap, v = .slice (some ⟨g, 0, none⟩) rows.length cap ∧ rows.length ≤ cap ∧ cap ≤ maxLen ∧ g < w.heap.size := by
  rcases h.row.2 with ⟨h1, h2⟩ | ⟨g, cap, cur, rfl, hb, hgg, h3, h4, _⟩
  · exact .inl ⟨h1, List.eq_nil_of_length_eq_zero h2⟩
  · exact .inr ⟨g, cap, rfl, h3, h4, lt_of_block hgg⟩
theorem Owns.addr {w : World} {e : TypeId} {size : Nat} {v : Value} {rows : List (List Value)} (h : Owns w e size v rows) (hr : rows ≠ []) :
    ∃ g cap, v = .slice (some ⟨g, 0, none⟩) rows.length cap ∧ rows.length ≤ cap ∧ cap ≤ maxLen ∧ g < w.heap.size := by
  rcases h.form with ⟨_, h2⟩ | h
  · exact absurd h2 hr
  · exact h
/-- The same whichever of the two it is. -/
theorem Owns.any {w : World} {e : TypeId} {size : Nat} {v : Value} {rows : List (List Value)} (h : Owns w e size v rows) :
    ∃ ao cap, v = .slice ao rows.length cap ∧ rows.length ≤ cap ∧ cap ≤ maxLen ∧ Lies w size ao rows ∧ (ao = none → rows = [] ∧ cap = 0) ∧ (∀ g off, ao = some ⟨g, off, none⟩ → off = 0 ∧ v.ownBlock = some g) := by
  rcases h.row.2 with ⟨h1, h2⟩ | ⟨g, cap, cur, rfl, hb, hgg, h3, h4, h5, h6⟩
  · have : rows = [] := List.eq_nil_of_length_eq_zero h2
    subst this
    exact ⟨none, 0, h1, by simp, by simp, Lies.nil _ _ _, fun _ => ⟨rfl, rfl⟩, fun _ _ e => by cases e⟩
  · refine ⟨_, cap, rfl, h3, h4, ?_, fun e => by (cases e), fun g' off e => by cases e; exact ⟨rfl, rfl⟩⟩
    intro i r hi
    have hr := h.len r (List.mem_of_getElem? hi)
    refine ⟨g, 0, rfl, lt_of_block hgg, hr, fun j u hj => ?_⟩
    have hj' : j < size := by rw [← hr]; exact (List.getElem?_eq_some_iff.1 hj).1
    have := flatten_get size rows h.len i r j hi hj'
    rw [← h6, List.getElem?_take] at this
    split at this
    · rw [cell_blk hgg, Nat.zero_add]
      simpa [hj] using this
    · rw [hj] at this; cases this
theorem Owns.free {w : World} {e : TypeId} {size : Nat} {v : Value} {rows : List (List Value)} (h : Owns w e size v rows) {g : Nat} (hg : v.ownBlock = some g) (i : Nat) : w.frozen? ⟨g, i, none⟩ = false := by
  rcases h.row.2 with ⟨rfl, _⟩ | ⟨g', cap, cur, rfl, hb, hgg, _⟩
  · simp [Value.ownBlock] at hg
  · simp [Value.ownBlock] at hg; subst hg; exact free_blk hgg i


/-- The first k rows are owned, too. -/
theorem Owns.take {w : World} {e : TypeId} {size : Nat} {g n cap : Nat} {rows : List (List Value)} (h : Owns w e size (.slice (some ⟨g, 0, none⟩) n cap) rows) (k : Nat) (hk : k ≤ rows.length) :
    Owns w e size (.slice (some ⟨g, 0, none⟩) k cap) (rows.take k) := by
  have hl : (rows.take k).length = k := by simp; omega
  have hlen : ∀ r ∈ rows.take k, r.length = size := fun r hr => h.len r (List.mem_of_mem_take hr)
  refine ⟨⟨flatten_length size _ hlen, ?_⟩, hlen, fun r hr => h.one r (List.mem_of_mem_take hr)⟩
  rcases h.row.2 with ⟨h1, _⟩ | ⟨g', cap', cur, h1, hb, hgg, h3, h4, h5, h6⟩
  · simp at h1
  · simp only [Value.slice.injEq, Option.some.injEq, Addr.mk.injEq, and_true] at h1
    obtain ⟨rfl, rfl, rfl⟩ := h1
    refine .inr ⟨g, cap, cur, by rw [hl], hb, hgg, by omega, h4, h5, ?_⟩
    rw [hl, ← flatten_take size rows k h.len, ← h6, List.take_take, Nat.min_eq_left (Nat.mul_le_mul_right _ hk)]

/-- Rows from the k-th on, at the address that the model gives them. -/
theorem Owns.liesFrom {w : World} {e : TypeId} {size : Nat} {g n cap : Nat} {rows : List (List Value)} (h : Owns w e size (.slice (some ⟨g, 0, none⟩) n cap) rows) (k : Nat) :
    Lies w size (some ⟨g, k * size, none⟩) (rows.drop k) := by
  obtain ⟨ao, cap', hv, _, _, hl, _, _⟩ := h.any
  cases hv
  intro i r hi
  obtain ⟨g1, off1, e1, hg, hr, hc⟩ := hl (k + i) r (by simpa using hi)
  cases e1
  exact ⟨g, k * size, rfl, hg, hr, fun j u hj => by rw [← hc j u hj, Nat.zero_add, Nat.add_mul]⟩

/-- One row in a block that has just been made. -/
theorem lies_new (w : World) (r : List Value) (t : TypeId) {size : Nat} (h : r.length = size) : Lies (w.alloc (.cells r.toArray t)) size (some ⟨w.heap.size, 0, none⟩) [r] := by
  intro i r' hi
  match i, hi with
  | 0, hi =>
    simp at hi; subst hi
    exact ⟨w.heap.size, 0, rfl, by simp, h, fun j u hj => by rw [cell_blk (heap_alloc_new w _)]; simpa using hj⟩
theorem lies_new' (w : World) (r : List Value) (t : TypeId) (n : Nat) {size : Nat} (h : r.length = size) (hn : n = w.heap.size) : Lies (w.alloc (.cells r.toArray t)) size (some ⟨n, 0, none⟩) [r] := by
  subst hn; exact lies_new w r t h

/-- Rows of one cell each. -/
theorem flat_ones : ∀ (xs : List Value), (xs.map fun x => [x]).flatten = xs
  | [] => rfl
  | x :: xs => by simp [flat_ones xs]
theorem Owns.setOne {w : World} {e : TypeId} {g n cap : Nat} {xs : List Value} (h : Owns w e 1 (.slice (some ⟨g, 0, none⟩) n cap) (xs.map fun x => [x])) (j : Nat) (u : Value) (hu : u.oneCell' = true) :
    Owns (w.setCell ⟨g, j, none⟩ u) e 1 (.slice (some ⟨g, 0, none⟩) n cap) ((xs.set j u).map fun x => [x]) ∧ w.grownBy (w.setCell ⟨g, j, none⟩ u) (some g) := by
  have hn : n = xs.length := by
    obtain ⟨ao, cap', hv, _⟩ := h.any
    cases hv; simp
  subst hn
  have hr := h.row
  rw [List.length_map, flat_ones] at hr
  obtain ⟨h1, h2⟩ := hr.stored j u
  refine ⟨⟨by rw [List.length_map, List.length_set, flat_ones]; exact h1, fun r hr' => by obtain ⟨y, _, rfl⟩ := List.mem_map.1 hr'; rfl, fun r hr' x hx => ?_⟩, h2⟩
  obtain ⟨y, hy, rfl⟩ := List.mem_map.1 hr'
  simp at hx; subst hx
  rcases List.mem_or_eq_of_mem_set hy with hy | rfl
  · exact h.one [x] (List.mem_map.2 ⟨x, hy, rfl⟩) x (by simp)
  · exact hu

section
variable {P : Program}

/-- append: onto a slice that owns its rows, from whatever lies at an address (or nothing). -/
theorem run_append_rows (w : World) (t ty e : TypeId) (z : Value) (size bytes : Nat) (ht : P.underlying t = some (.slice e))
    (hinfo : (P.info? e).map (fun i => (i.zero, i.size, i.bytes)) = some (some z, size, bytes)) (hzs : z.cells.size = size) (hsz : 0 < size)
    (v : Value) (rows : List (List Value)) (hown : Owns w e size v rows)
    (ao : Option Addr) (c : Nat) (news : List (List Value)) (hnone : ao = none → news = [] ∧ c = 0) (hlies : Lies w size ao news) (h1 : ∀ r ∈ news, ∀ u ∈ r, u.oneCell' = true) (hlen : ∀ r ∈ news, r.length = size)
    (h63 : rows.length + news.length ≤ maxLen) (hbytes : (rows.length + news.length) * bytes ≤ 140737488355328) :
    ∃ v' w', (Builtin.append_ #[t, t] ty #[v, .slice ao news.length c]).run P w = .ok v' w' ∧ Owns w' e size v' (rows ++ news) ∧ w.grownBy w' v.ownBlock ∧
      (v'.ownBlock = v.ownBlock ∨ ∃ k, v'.ownBlock = some k ∧ w.heap.size ≤ k) := by
  obtain ⟨i, hi, hz, hs, hb⟩ := info_parts hinfo
  have hlenA : ∀ r ∈ rows ++ news, r.length = size := fun r hr => by exact (List.mem_append.1 hr).elim (hown.len r) (hlen r)
  have hone : ∀ r ∈ rows ++ news, ∀ u ∈ r, u.oneCell' = true := fun r hr => by exact (List.mem_append.1 hr).elim (hown.one r) (h1 r)
  have hfl : news.flatten.length = news.length * size := flatten_length size news hlen
  have h1f : ∀ u ∈ news.flatten, u.oneCell' = true := fun u hu => by obtain ⟨r, hr, hur⟩ := List.mem_flatten.1 hu; exact h1 r hr u hur
  by_cases hnz : news = []
  · subst hnz
    cases ao with
    | none =>
      obtain ⟨_, rfl⟩ := hnone rfl
      exact ⟨v, w, by simpa using run_append_owned_none (P := P) w 0 t ty e i size ht hi v rows.length rows.flatten hown.row, by simpa using hown, World.grownBy.refl _ _, .inl rfl⟩
    | some a =>
      obtain ⟨v', w', hr, ho, hg, hnil⟩ := run_append_own (P := P) w 0 t ty e i z size bytes ht hi hz hs hb hzs hsz v rows.length rows.flatten hown.row a 0 c [] (by simp) (by simp) (by simp) h63 hbytes (Nat.zero_le _)
      refine ⟨v', w', by simpa using hr, ⟨by simpa using ho, by simpa using hown.len, by simpa using hown.one⟩, hg, ?_⟩
      rcases hown.row.2 with ⟨rfl, _⟩ | ⟨g, cap, cur, rfl, _, hgg, hnc, _⟩
      · rw [hnil.2 ⟨rfl, rfl⟩]; exact .inl rfl
      · left
        obtain ⟨w2, hr2, _⟩ := run_append_fits (P := P) w 0 t ty e i size ht hi hs g rows.length cap rows.flatten hown.row a 0 c [] (by simp) (by simp) (by simp) (by simpa using hnc)
        rw [hr2] at hr
        cases hr; rfl
  · obtain ⟨r0, rest, rfl⟩ := List.exists_cons_of_ne_nil hnz
    obtain ⟨g0, off0, rfl, hg0, _, _⟩ := hlies 0 r0 rfl
    have hnews : ∀ j u, (r0 :: rest).flatten[j]? = some u → w.cell? ((⟨g0, off0, none⟩ : Addr).add j) = some u := by
      intro j u hj
      have hjl : j < (r0 :: rest).length * size := by rw [← hfl]; exact (List.getElem?_eq_some_iff.1 hj).1
      have hq : j / size < (r0 :: rest).length := (Nat.div_lt_iff_lt_mul hsz).2 hjl
      have hm : j % size < size := Nat.mod_lt _ hsz
      obtain ⟨g1, off1, e1, _, hl1, hc1⟩ := hlies (j / size) _ (List.getElem?_eq_getElem hq)
      cases e1
      have hgt := flatten_get size (r0 :: rest) hlen (j / size) _ (j % size) (List.getElem?_eq_getElem hq) hm
      rw [show j / size * size + j % size = j by rw [Nat.mul_comm]; exact Nat.div_add_mod j size] at hgt
      rw [Addr.add_lit, ← hc1 (j % size) u (by rw [← hgt]; exact hj), show off0 + j / size * size + j % size = off0 + j by rw [Nat.add_assoc, Nat.mul_comm, Nat.div_add_mod]]
    rcases hown.row.2 with ⟨rfl, hn⟩ | ⟨g, cap, cur, rfl, hb0, hgg, hnc, hcm, hcs, htake⟩
    · have hrows : rows = [] := List.eq_nil_of_length_eq_zero hn
      subst hrows
      obtain ⟨v', w', hr, ho, hg, hnil⟩ := run_append_own (P := P) w w.heap.size t ty e i z size bytes ht hi hz hs hb hzs hsz (.slice none 0 0) 0 [] (World.ownsRow_nil w _ e size) ⟨g0, off0, none⟩ (r0 :: rest).length c (r0 :: rest).flatten hfl hnews h1f (by simpa using h63) (by simpa using hbytes) (Nat.le_refl _)
      refine ⟨v', w', hr, ⟨?_, hlenA, hone⟩, hg, ?_⟩
      · refine ⟨by simpa using ho.1, ?_⟩
        rcases ho.2 with ⟨h1, h2⟩ | ⟨g', cap', cur', h1, h2, h3⟩
        · simp at h2
        · exact .inr ⟨g', cap', cur', by simpa using h1, Nat.zero_le _, by simpa using h3⟩
      · rcases ho.2 with ⟨h1, h2⟩ | ⟨g', cap', cur', h1, h2, h3⟩
        · simp at h2
        · subst h1; exact .inr ⟨g', rfl, h2⟩
    · by_cases hroom : rows.length + (r0 :: rest).length ≤ cap
      · obtain ⟨w', hr, ho, hg⟩ := run_append_fits (P := P) w 0 t ty e i size ht hi hs g rows.length cap rows.flatten hown.row ⟨g0, off0, none⟩ (r0 :: rest).length c (r0 :: rest).flatten hfl hnews h1f hroom
        exact ⟨_, w', hr, ⟨by simpa using ho, hlenA, hone⟩, hg, .inl rfl⟩
      · obtain ⟨v', w', hr, ho, hg⟩ := run_append_arg_grows (P := P) w t ty e i z size bytes ht hi hz hs hb hzs hsz ⟨g, 0, none⟩ rows.length cap rows.flatten (flatten_length size rows hown.len) (hown.row.cells (g := g) rfl) ⟨g0, off0, none⟩ (r0 :: rest).length c (r0 :: rest).flatten hfl hnews (by omega) h63 hbytes
        refine ⟨v', w', hr, ⟨?_, hlenA, hone⟩, ⟨hg.os, hg.tape, hg.output, hg.size, fun k hk _ => hg.block k hk (by simp)⟩, ?_⟩
        · refine ⟨by simpa using ho.1, ?_⟩
          rcases ho.2 with ⟨h1, h2⟩ | ⟨g', cap', cur', h1, h2, h3⟩
          · simp at h2
          · exact .inr ⟨g', cap', cur', by simpa using h1, Nat.zero_le _, by simpa using h3⟩
        · rcases ho.2 with ⟨h1, h2⟩ | ⟨g', cap', cur', h1, h2, h3⟩
          · simp at h2
          · subst h1; exact .inr ⟨g', rfl, h2⟩

theorem wp_append_rows {w : World} {o : Oper} {a : Act} {K : Act → World → Prop} {Q : Exit → Act → World → Prop} (s x : Operand) (t : TypeId)
    (ho : o.op = .call { callee := .builtin .append, args := #[s, x], argTypes := #[t, t] }) (e : TypeId) (z : Value) (size bytes : Nat) (ht : P.underlying t = some (.slice e))
    (hinfo : (P.info? e).map (fun i => (i.zero, i.size, i.bytes)) = some (some z, size, bytes)) (hzs : z.cells.size = size) (hsz : 0 < size)
    (v : Value) (rows : List (List Value)) (hs : a.eval s = v) (hown : Owns w e size v rows)
    (ao : Option Addr) (n c : Nat) (news : List (List Value)) (hx : a.eval x = .slice ao n c) (hn : n = news.length) (hnone : ao = none → news = [] ∧ c = 0) (hlies : Lies w size ao news) (h1 : ∀ r ∈ news, ∀ u ∈ r, u.oneCell' = true) (hlen : ∀ r ∈ news, r.length = size)
    (h63 : rows.length + news.length ≤ maxLen) (hbytes : (rows.length + news.length) * bytes ≤ 140737488355328)
    (h : ∀ v' w', Owns w' e size v' (rows ++ news) → w.grownBy w' v.ownBlock → (v'.ownBlock = v.ownBlock ∨ ∃ k, v'.ownBlock = some k ∧ w.heap.size ≤ k) → K (a.put o.dst v') w') : o.wp P a w K Q := by
  subst hn
  obtain ⟨v', w', hr, h2, h3, h4⟩ := run_append_rows (P := P) w t o.type e z size bytes ht hinfo hzs hsz v rows hown ao c news hnone hlies h1 hlen h63 hbytes
  unfold Oper.wp execOp
  simp only [ho, resolve, invoke, builtin, Sem.run_bind, Sem.run_pure, Result.andThen_ok, List.map_toArray, List.map_cons, List.map_nil, hs, hx, hr]
  exact h v' w' h2 h3 h4

/-- In a plain region. -/
theorem wpList_append_rows {w : World} {ops : Array Oper} {rest : List Oper} {o : Oper} {a : Act} {Q : Exit → Act → World → Prop} (hgd : o.guard = none) (s x : Operand) (t : TypeId)
    (ho : o.op = .call { callee := .builtin .append, args := #[s, x], argTypes := #[t, t] }) (e : TypeId) (z : Value) (size bytes : Nat) (ht : P.underlying t = some (.slice e))
    (hinfo : (P.info? e).map (fun i => (i.zero, i.size, i.bytes)) = some (some z, size, bytes)) (hzs : z.cells.size = size) (hsz : 0 < size)
    (v : Value) (rows : List (List Value)) (hs : a.eval s = v) (hown : Owns w e size v rows)
    (ao : Option Addr) (n c : Nat) (news : List (List Value)) (hx : a.eval x = .slice ao n c) (hn : n = news.length) (hnone : ao = none → news = [] ∧ c = 0) (hlies : Lies w size ao news) (h1 : ∀ r ∈ news, ∀ u ∈ r, u.oneCell' = true) (hlen : ∀ r ∈ news, r.length = size)
    (h63 : rows.length + news.length ≤ maxLen) (hbytes : (rows.length + news.length) * bytes ≤ 140737488355328)
    (h : ∀ v' w', Owns w' e size v' (rows ++ news) → w.grownBy w' v.ownBlock → (v'.ownBlock = v.ownBlock ∨ ∃ k, v'.ownBlock = some k ∧ w.heap.size ≤ k) → wpList P ops Q rest (a.put o.dst v') w') :
    wpList P ops Q (o :: rest) a w :=
  wpList_plain hgd fun _ hK => wp_append_rows s x t ho e z size bytes ht hinfo hzs hsz v rows hs hown ao n c news hx hn hnone hlies h1 hlen h63 hbytes fun v' w' h2 h3 h4 => hK _ _ (h v' w' h2 h3 h4)

/-- In a region that draws its order. -/
theorem step_append_rows {w : World} {ops : Array Oper} {o : Oper} {a : Act} {K : Act → World → Prop} {Q : Exit → Act → World → Prop} {E : Prop} (hgd : o.guard = none) (s x : Operand) (t : TypeId)
    (ho : o.op = .call { callee := .builtin .append, args := #[s, x], argTypes := #[t, t] }) (e : TypeId) (z : Value) (size bytes : Nat) (ht : P.underlying t = some (.slice e))
    (hinfo : (P.info? e).map (fun i => (i.zero, i.size, i.bytes)) = some (some z, size, bytes)) (hzs : z.cells.size = size) (hsz : 0 < size)
    (v : Value) (rows : List (List Value)) (hs : a.eval s = v) (hown : Owns w e size v rows)
    (ao : Option Addr) (n c : Nat) (news : List (List Value)) (hx : a.eval x = .slice ao n c) (hn : n = news.length) (hnone : ao = none → news = [] ∧ c = 0) (hlies : Lies w size ao news) (h1 : ∀ r ∈ news, ∀ u ∈ r, u.oneCell' = true) (hlen : ∀ r ∈ news, r.length = size)
    (h63 : rows.length + news.length ≤ maxLen) (hbytes : (rows.length + news.length) * bytes ≤ 140737488355328)
    (h : ∀ v' w', Owns w' e size v' (rows ++ news) → w.grownBy w' v.ownBlock → (v'.ownBlock = v.ownBlock ∨ ∃ k, v'.ownBlock = some k ∧ w.heap.size ≤ k) → K (a.put o.dst v') w') :
    if Region.wanted o (yielded ops a.tmps) = true then Oper.wp P o a w K Q else E := by
  rw [if_pos (by simp [Region.wanted, hgd])]
  exact wp_append_rows s x t ho e z size bytes ht hinfo hzs hsz v rows hs hown ao n c news hx hn hnone hlies h1 hlen h63 hbytes h

/-- append where there is room. -/
theorem run_append_rows_room (w : World) (t ty e : TypeId) (z : Value) (size bytes : Nat) (ht : P.underlying t = some (.slice e))
    (hinfo : (P.info? e).map (fun i => (i.zero, i.size, i.bytes)) = some (some z, size, bytes)) (hsz : 0 < size)
    (g n cap : Nat) (rows : List (List Value)) (hown : Owns w e size (.slice (some ⟨g, 0, none⟩) n cap) rows)
    (ad : Addr) (c : Nat) (news : List (List Value)) (hlies : news ≠ [] → Lies w size (some ad) news) (h1 : ∀ r ∈ news, ∀ u ∈ r, u.oneCell' = true) (hlen : ∀ r ∈ news, r.length = size)
    (hroom : rows.length + news.length ≤ cap) :
    ∃ w', (Builtin.append_ #[t, t] ty #[.slice (some ⟨g, 0, none⟩) n cap, .slice (some ad) news.length c]).run P w = .ok (.slice (some ⟨g, 0, none⟩) (n + news.length) cap) w' ∧ Owns w' e size (.slice (some ⟨g, 0, none⟩) (n + news.length) cap) (rows ++ news) ∧ w.grownBy w' (some g) := by
  obtain ⟨i, hi, hz, hs, hb⟩ := info_parts hinfo
  have hlenA : ∀ r ∈ rows ++ news, r.length = size := fun r hr => (List.mem_append.1 hr).elim (hown.len r) (hlen r)
  have hone : ∀ r ∈ rows ++ news, ∀ u ∈ r, u.oneCell' = true := fun r hr => (List.mem_append.1 hr).elim (hown.one r) (h1 r)
  have hfl : news.flatten.length = news.length * size := flatten_length size news hlen
  have h1f : ∀ u ∈ news.flatten, u.oneCell' = true := fun u hu => by obtain ⟨r, hr, hur⟩ := List.mem_flatten.1 hu; exact h1 r hr u hur
  obtain rfl : n = rows.length := by
    obtain ⟨ao, cap', hv, _⟩ := hown.any
    cases hv; rfl
  have hnews : ∀ j u, news.flatten[j]? = some u → w.cell? (ad.add j) = some u := by
    intro j u hj
    have hjl : j < news.length * size := by rw [← hfl]; exact (List.getElem?_eq_some_iff.1 hj).1
    have hq : j / size < news.length := (Nat.div_lt_iff_lt_mul hsz).2 hjl
    have hm : j % size < size := Nat.mod_lt _ hsz
    have hne : news ≠ [] := by intro e; subst e; simp at hq
    obtain ⟨g1, off1, e1, _, hl1, hc1⟩ := hlies hne (j / size) _ (List.getElem?_eq_getElem hq)
    cases e1
    have hgt := flatten_get size news hlen (j / size) _ (j % size) (List.getElem?_eq_getElem hq) hm
    rw [show j / size * size + j % size = j by rw [Nat.mul_comm]; exact Nat.div_add_mod j size] at hgt
    rw [Addr.add_lit, ← hc1 (j % size) u (by rw [← hgt]; exact hj), show off1 + j / size * size + j % size = off1 + j by rw [Nat.add_assoc, Nat.mul_comm, Nat.div_add_mod]]
  obtain ⟨w', hr, ho, hg⟩ := run_append_fits (P := P) w 0 t ty e i size ht hi hs g rows.length cap rows.flatten hown.row ad news.length c news.flatten hfl hnews h1f hroom
  exact ⟨w', hr, ⟨by simpa using ho, hlenA, hone⟩, hg⟩

/-- In a region that draws its order: append where there is room. -/
theorem step_append_rows_room {w : World} {ops : Array Oper} {o : Oper} {a : Act} {K : Act → World → Prop} {Q : Exit → Act → World → Prop} {E : Prop} (hgd : o.guard = none) (s x : Operand) (t : TypeId)
    (ho : o.op = .call { callee := .builtin .append, args := #[s, x], argTypes := #[t, t] }) (e : TypeId) (z : Value) (size bytes : Nat) (ht : P.underlying t = some (.slice e))
    (hinfo : (P.info? e).map (fun i => (i.zero, i.size, i.bytes)) = some (some z, size, bytes)) (hsz : 0 < size)
    (g n cap : Nat) (rows : List (List Value)) (hs : a.eval s = .slice (some ⟨g, 0, none⟩) n cap) (hown : Owns w e size (.slice (some ⟨g, 0, none⟩) n cap) rows)
    (ad : Addr) (m c : Nat) (news : List (List Value)) (hx : a.eval x = .slice (some ad) m c) (hm : m = news.length) (hlies : news ≠ [] → Lies w size (some ad) news) (h1 : ∀ r ∈ news, ∀ u ∈ r, u.oneCell' = true) (hlen : ∀ r ∈ news, r.length = size)
    (hroom : rows.length + news.length ≤ cap)
    (h : ∀ w', Owns w' e size (.slice (some ⟨g, 0, none⟩) (n + m) cap) (rows ++ news) → w.grownBy w' (some g) → K (a.put o.dst (.slice (some ⟨g, 0, none⟩) (n + m) cap)) w') :
    if Region.wanted o (yielded ops a.tmps) = true then Oper.wp P o a w K Q else E := by
  subst hm
  rw [if_pos (by simp [Region.wanted, hgd])]
  obtain ⟨w', hr, h2, h3⟩ := run_append_rows_room (P := P) w t o.type e z size bytes ht hinfo hsz g n cap rows hown ad c news hlies h1 hlen hroom
  unfold Oper.wp execOp
  simp only [ho, resolve, invoke, builtin, Sem.run_bind, Sem.run_pure, Result.andThen_ok, List.map_toArray, List.map_cons, List.map_nil, hs, hx, hr]
  exact h w' h2 h3

/-- clear of places behind the rows that are owned. -/
theorem run_clear_rows (w : World) (t ty e : TypeId) (z : Value) (size : Nat) (ht : P.underlying t = some (.slice e)) (hv : ∀ w, (zeroValue e).run P w = .ok z w) (hz : z.cells.size = size) (h1 : ∀ u ∈ z.cells.toList, u.oneCell' = true)
    (g k cap : Nat) (rows : List (List Value)) (hown : Owns w e size (.slice (some ⟨g, 0, none⟩) k cap) rows) (m c : Nat) (hm : 0 < m) (hkm : k + m ≤ cap) :
    ∃ w', (Builtin.clear_ #[t] ty #[.slice (some ⟨g, k * size, none⟩) m c]).run P w = .ok (.tuple #[]) w' ∧ Owns w' e size (.slice (some ⟨g, 0, none⟩) k cap) rows ∧ w.grownBy w' (some g) := by
  rcases hown.row.2 with ⟨h, _⟩ | ⟨g', cap', cur, h, hb, hgg, h3, h4, h5, h6⟩
  · simp at h
  · simp only [Value.slice.injEq, Option.some.injEq, Addr.mk.injEq, and_true] at h
    obtain ⟨rfl, rfl, rfl⟩ := h
    have hzl : (Builtin.zeroCells z.cells m).toList.length = m * size := by simp [size_zeroCells, hz]
    have hone : ∀ v ∈ (Builtin.zeroCells z.cells m).toList, v.oneCell' = true := by
      intro v hv
      apply h1 v
      simp only [Builtin.zeroCells, Array.toList_map, List.mem_map] at hv
      obtain ⟨i, hi, rfl⟩ := hv
      have hi' : i < m * z.cells.size := by simpa using hi
      have hp : 0 < z.cells.size := by
        rcases Nat.eq_zero_or_pos z.cells.size with h | h
        · rw [h] at hi'; simp at hi'
        · exact h
      have hmod := Nat.mod_lt i hp
      rw [getElem!_pos z.cells _ hmod]
      simp
    have hst := run_storeCells_at P g (rows.length * size) e (Builtin.zeroCells z.cells m).toList 0 cur w hgg (by rw [hzl, h5, Nat.add_zero, ← Nat.add_mul]; exact Nat.mul_le_mul_right _ hkm) hone
    obtain ⟨m', rfl⟩ : ∃ m', m = m' + 1 := ⟨m - 1, by omega⟩
    refine ⟨_, by simp [Builtin.clear_, run_underlying ht, hv, hst]; rfl, ⟨⟨hown.row.1, .inr ⟨g, cap, _, rfl, hb, setRow_heap w g cur _ e _ hgg, h3, h4, ?_, ?_⟩⟩, hown.len, hown.one⟩, ⟨rfl, rfl, rfl, by simp, fun k _ hk => setRow_other w g k _ (fun e => hk (by simp [e]))⟩⟩
    · have hle : rows.length * size + (m' + 1) * size ≤ cur.size := by rw [h5, ← Nat.add_mul]; exact Nat.mul_le_mul_right _ hkm
      simp only [List.size_toArray, List.length_append, List.length_take, List.length_drop, Array.length_toList, hzl]
      simp only [Array.length_toList] at hzl
      omega
    · have hle : rows.length * size ≤ cur.size := by rw [h5]; exact Nat.mul_le_mul_right _ h3
      rw [List.toList_toArray, List.take_append_of_le_length (by simp; omega), List.take_take, Nat.min_self]
      exact h6

end
end Go.Proofs.YtobjmajkcfhpoaaDoor
