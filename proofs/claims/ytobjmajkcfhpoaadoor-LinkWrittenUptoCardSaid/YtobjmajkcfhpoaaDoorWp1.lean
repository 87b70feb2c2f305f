/-
  Plain laws on memory that every later text of this seat uses; none of them speaks of the seat's program.
  Slices of bytes that a call owns: appended strings, and back to a string. Of no program.
  From a walk that answers true and turns nothing that was there to the statement's own form; and arguments opened by their types.
  What the world gives the walks of chapter 17; little laws.
-/
import Derived.WalkKit
import Derived.WalkSpells
import Derived.WalkLawsBesides
import Derived.Handy
import Derived.Lib.Hide
import Derived.Deep.RegionLaw
import Derived.OneCell
import Derived.Deep.AppendSrc
import Derived.Laws.IdiomStrings
import Derived.Lib.ConvBytes
import Derived.Test.YtobjmajkcfhpoaaDoorRows
import Derived.ProofKit
import Derived.OpenShut
import Derived.SizedLaws
import Derived.Deep.CondSized
import Derived.Deep.Slices
import Derived.Test.YtobjmajkcfhpoaaDoorShelf
import Derived.Deep.RegionHeld3
import Derived.Deep.QuietTactic
import Derived.BigQuiet
namespace Go.Proofs.YtobjmajkcfhpoaaDoor
open Go.RowKit
structure Mod (F : Nat → Prop) (w w' : World) : Prop where
 os : w'.os = w.os
 tape : w'.tape = w.tape
 output : w'.output = w.output
 size : w.heap.size ≤ w'.heap.size
 block : ∀ k, k < w.heap.size → ¬ F k → w'.heap[k]? = w.heap[k]?
theorem Mod.refl (F : Nat → Prop) (w : World) : Mod F w w := ⟨rfl, rfl, rfl, Nat.le_refl _, fun _ _ _ => rfl⟩
theorem Mod.trans {F : Nat → Prop} {a b c : World} (h : Mod F a b) (k : Mod F b c) : Mod F a c :=
 ⟨k.os.trans h.os, k.tape.trans h.tape, k.output.trans h.output, Nat.le_trans h.size k.size, fun i hi hf => (k.block i (Nat.lt_of_lt_of_le hi h.size) hf).trans (h.block i hi hf)⟩
theorem Mod.trans' {F G : Nat → Prop} {a b c : World} (h : Mod F a b) (k : Mod G b c) (hg : ∀ i, i < a.heap.size → G i → F i) : Mod F a c :=
 ⟨k.os.trans h.os, k.tape.trans h.tape, k.output.trans h.output, Nat.le_trans h.size k.size, fun i hi hf => (k.block i (Nat.lt_of_lt_of_le hi h.size) (fun x => hf (hg i hi x))).trans (h.block i hi hf)⟩
theorem Mod.mono {F G : Nat → Prop} {a b : World} (h : Mod F a b) (hg : ∀ i, i < a.heap.size → F i → G i) : Mod G a b :=
 ⟨h.os, h.tape, h.output, h.size, fun i hi hf => h.block i hi (fun x => hf (hg i hi x))⟩
theorem Mod.drew {F : Nat → Prop} {a w : World} (h : Mod F a w) : Mod F a w.drew := ⟨h.os, h.tape, h.output, h.size, h.block⟩
theorem Mod.alloc {F : Nat → Prop} {a w : World} (h : Mod F a w) (o : Obj) : Mod F a (w.alloc o) :=
 h.trans ⟨rfl, rfl, rfl, by simp, fun k hk _ => Below.heap_alloc _ _ _ hk⟩
theorem Mod.setCell {F : Nat → Prop} {a w : World} (h : Mod F a w) (p : Addr) (u : Value) (hp : p.block < a.heap.size → F p.block) : Mod F a (w.setCell p u) :=
 h.trans' (G := fun k => k = p.block) ⟨rfl, rfl, rfl, by simp [World.setCell], fun k _ hf => Below.heap_setCell _ _ _ _ hf⟩ (fun i hi e => by subst e; exact hp hi)
theorem Mod.of_below {F : Nat → Prop} {w w' : World} (h : Below w.heap.size w w') : Mod F w w' := ⟨h.os, h.tape, h.output, h.size, fun k hk _ => h.block k hk⟩
theorem Mod.below {w w' : World} (h : Mod (fun _ => False) w w') : Below w.heap.size w w' := ⟨h.os, h.tape, h.output, h.size, fun k hk => h.block k hk (fun x => x)⟩
theorem Mod.belowB {F : Nat → Prop} {B : Nat} {w w' : World} (h : Mod F w w') (hF : ∀ k, k < B → ¬ F k) (hB : B ≤ w.heap.size) : Below B w w' :=
 ⟨h.os, h.tape, h.output, h.size, fun k hk => h.block k (Nat.lt_of_lt_of_le hk hB) (hF k hk)⟩
theorem Mod.grown {F : Nat → Prop} {a w w' : World} {row : Option Nat} (h : Mod F a w) (hg : w.grownBy w' row) (hr : ∀ k, row = some k → k < a.heap.size → F k) : Mod F a w' :=
 h.trans' (G := fun k => row = some k) ⟨hg.os, hg.tape, hg.output, hg.size, fun k hk hf => hg.block k hk (fun e => hf e.symm)⟩ (fun i hi e => hr i e hi)
theorem Mod.cell {F : Nat → Prop} {w w' : World} (h : Mod F w w') {p : Addr} (hp : p.block < w.heap.size) (hF : ¬ F p.block) : w'.cell? p = w.cell? p := World.cell?_of_block (w := w) (h.block p.block hp hF)
theorem Mod.frozen {F : Nat → Prop} {w w' : World} (h : Mod F w w') {p : Addr} (hp : p.block < w.heap.size) (hF : ¬ F p.block) : w'.frozen? p = w.frozen? p := World.frozen?_of_block (w := w) (h.block p.block hp hF)
theorem Mod.blk {F : Nat → Prop} {w w' : World} (h : Mod F w w') {b : Nat} {o : Obj} (hb : w.heap[b]? = some o) (hF : ¬ F b) : w'.heap[b]? = some o :=
 (h.block b (lt_of_block hb) hF).trans hb
theorem Mod.lt {F : Nat → Prop} {w w' : World} (h : Mod F w w') {b : Nat} (hb : b < w.heap.size) : b < w'.heap.size := Nat.lt_of_lt_of_le hb h.size
theorem cell_blk {w : World} {b : Nat} {c : Array Value} {t : TypeId} {fr : Nat × Nat} (h : w.heap[b]? = some (.cells c t fr)) (i : Nat) : w.cell? ⟨b, i, none⟩ = c[i]? := by simp [World.cell?, h]
theorem free_blk {w : World} {b : Nat} {c : Array Value} {t : TypeId} (h : w.heap[b]? = some (.cells c t (0, 0))) (i : Nat) : w.frozen? ⟨b, i, none⟩ = false := by simp [World.frozen?, h]
theorem set_blk {w : World} {b : Nat} {c : Array Value} {t : TypeId} {fr : Nat × Nat} (h : w.heap[b]? = some (.cells c t fr)) (i : Nat) (v : Value) :
  (w.setCell ⟨b, i, none⟩ v).heap[b]? = some (.cells (c.setIfInBounds i v) t fr) := by
 have hlt := lt_of_block h; have h' : w.heap[b] = .cells c t fr := by simpa [Array.getElem?_eq_getElem hlt] using h
 show (w.heap.modify b _)[b]? = _
 rw [Array.getElem?_eq_getElem (by simpa using hlt), Array.getElem_modify_self, h']; rfl
theorem set_other {w : World} {b : Nat} {o : Obj} {p : Addr} {v : Value} (h : w.heap[b]? = some o) (hb : b ≠ p.block) : (w.setCell p v).heap[b]? = some o := by
 rw [Below.heap_setCell _ _ _ _ hb]; exact h
theorem alloc_blk {w : World} {b : Nat} {o : Obj} (h : w.heap[b]? = some o) (x : Obj) : (w.alloc x).heap[b]? = some o := by
 rw [Below.heap_alloc _ _ _ (lt_of_block h)]; exact h
def Lies (w : World) (size : Nat) (ao : Option Addr) (rows : List (List Value)) : Prop :=
 ∀ i r, rows[i]? = some r → ∃ g off, ao = some ⟨g, off, none⟩ ∧ g < w.heap.size ∧ r.length = size ∧ ∀ j u, r[j]? = some u → w.cell? ⟨g, off + i * size + j, none⟩ = some u
theorem Lies.nil (w : World) (size : Nat) (ao : Option Addr) : Lies w size ao [] := fun i r h => by simp at h
theorem Lies.kept {w w' : World} {size : Nat} {ao : Option Addr} {rows : List (List Value)} (h : Lies w size ao rows)
  (hk : ∀ g off, ao = some ⟨g, off, none⟩ → g < w.heap.size → w'.heap[g]? = w.heap[g]? ∧ g < w'.heap.size) : Lies w' size ao rows := by
 intro i r hr; obtain ⟨g, off, e, hg, hl, hc⟩ := h i r hr; obtain ⟨hb, hs⟩ := hk g off e hg; exact ⟨g, off, e, hs, hl, fun j u hj => (World.cell?_of_block (w := w) hb).trans (hc j u hj)⟩
theorem Lies.mod {F : Nat → Prop} {w w' : World} {size : Nat} {ao : Option Addr} {rows : List (List Value)} (h : Lies w size ao rows) (hm : Mod F w w')
  (hF : ∀ g off, ao = some ⟨g, off, none⟩ → ¬ F g) : Lies w' size ao rows :=
 h.kept fun g off e hg => ⟨hm.block g hg (hF g off e), hm.lt hg⟩
theorem Lies.below {B : Nat} {w w' : World} {size : Nat} {ao : Option Addr} {rows : List (List Value)} (h : Lies w size ao rows) (hm : Below B w w')
  (hF : ∀ g off, ao = some ⟨g, off, none⟩ → g < B) : Lies w' size ao rows :=
 h.kept fun g off e hg => ⟨hm.block g (hF g off e), Nat.lt_of_lt_of_le hg hm.size⟩
theorem flatten_length (size : Nat) : ∀ (rows : List (List Value)), (∀ r ∈ rows, r.length = size) → rows.flatten.length = rows.length * size
 | [], _ => by simp
 | r :: rest, h => by
  rw [List.flatten_cons, List.length_append, flatten_length size rest (fun x hx => h x (by simp [hx])), h r (by simp), List.length_cons, Nat.add_mul, Nat.one_mul, Nat.add_comm]
theorem flatten_get (size : Nat) : ∀ (rows : List (List Value)), (∀ r ∈ rows, r.length = size) → ∀ (i : Nat) (r : List Value) (j : Nat), rows[i]? = some r → j < size → rows.flatten[i * size + j]? = r[j]?
 | [], _, i, r, j, hi, _ => by simp at hi
 | x :: rest, h, 0, r, j, hi, hj => by
  simp at hi; subst hi
  rw [List.flatten_cons, Nat.zero_mul, Nat.zero_add, List.getElem?_append_left (by rw [h x (by simp)]; exact hj)]
 | x :: rest, h, i + 1, r, j, hi, hj => by
  have hx := h x (by simp)
  rw [List.flatten_cons, List.getElem?_append_right (by rw [hx, Nat.add_mul]; omega), hx]
  rw [show (i + 1) * size + j - size = i * size + j by rw [Nat.add_mul]; omega]
  exact flatten_get size rest (fun y hy => h y (by simp [hy])) i r j (by simpa using hi) hj
theorem flatten_take (size : Nat) : ∀ (rows : List (List Value)) (k : Nat), (∀ r ∈ rows, r.length = size) → rows.flatten.take (k * size) = (rows.take k).flatten
 | [], k, _ => by simp
 | r :: rest, 0, _ => by simp
 | r :: rest, k + 1, h => by
  have hx := h r (by simp)
  rw [List.take_succ_cons, List.flatten_cons, List.flatten_cons, List.take_append, List.take_of_length_le (by rw [hx, Nat.add_mul]; omega), hx,
   show (k + 1) * size - size = k * size by rw [Nat.add_mul]; omega, flatten_take size rest k (fun y hy => h y (by simp [hy]))]
structure Owns (w : World) (e : TypeId) (size : Nat) (v : Value) (rows : List (List Value)) : Prop where
 row : w.ownsRow 0 e size v rows.length rows.flatten
 len : ∀ r ∈ rows, r.length = size
 one : ∀ r ∈ rows, ∀ u ∈ r, u.oneCell' = true
theorem Owns.empty (w : World) (e : TypeId) (size : Nat) : Owns w e size (.slice none 0 0) [] := ⟨by simpa using World.ownsRow_nil w 0 e size, by simp, by simp⟩
theorem Owns.kept {w w' : World} {e : TypeId} {size : Nat} {v : Value} {rows : List (List Value)} (h : Owns w e size v rows)
  (hk : ∀ g, v.ownBlock = some g → w'.heap[g]? = w.heap[g]?) : Owns w' e size v rows := by
 refine ⟨⟨h.row.1, ?_⟩, h.len, h.one⟩; rcases h.row.2 with hn | ⟨g, cap, cur, rfl, hb, hgg, rest⟩
 ·exact .inl hn
 ·exact .inr ⟨g, cap, cur, rfl, hb, by rw [hk g rfl]; exact hgg, rest⟩
theorem Owns.mod {F : Nat → Prop} {w w' : World} {e : TypeId} {size : Nat} {v : Value} {rows : List (List Value)} (h : Owns w e size v rows) (hm : Mod F w w')
  (hF : ∀ g, v.ownBlock = some g → ¬ F g) : Owns w' e size v rows :=
 h.kept fun g e => hm.block g (h.row.lt g e).2 (hF g e)
theorem Owns.lt {w : World} {e : TypeId} {size : Nat} {v : Value} {rows : List (List Value)} (h : Owns w e size v rows) {g : Nat} (hg : v.ownBlock = some g) : g < w.heap.size := (h.row.lt g hg).2
theorem Owns.form {w : World} {e : TypeId} {size : Nat} {v : Value} {rows : List (List Value)} (h : Owns w e size v rows) :
  (v = .slice none 0 0 ∧ rows = []) ∨ ∃ g cap, v = .slice (some ⟨g, 0, none⟩) rows.length cap ∧ rows.length ≤ cap ∧ cap ≤ maxLen ∧ g < w.heap.size := by
 rcases h.row.2 with ⟨h1, h2⟩ | ⟨g, cap, cur, rfl, hb, hgg, h3, h4, _⟩
 ·exact .inl ⟨h1, List.eq_nil_of_length_eq_zero h2⟩
 ·exact .inr ⟨g, cap, rfl, h3, h4, lt_of_block hgg⟩
theorem Owns.addr {w : World} {e : TypeId} {size : Nat} {v : Value} {rows : List (List Value)} (h : Owns w e size v rows) (hr : rows ≠ []) :
  ∃ g cap, v = .slice (some ⟨g, 0, none⟩) rows.length cap ∧ rows.length ≤ cap ∧ cap ≤ maxLen ∧ g < w.heap.size := by
 rcases h.form with ⟨_, h2⟩ | h
 ·exact absurd h2 hr
 ·exact h
theorem Owns.any {w : World} {e : TypeId} {size : Nat} {v : Value} {rows : List (List Value)} (h : Owns w e size v rows) :
  ∃ ao cap, v = .slice ao rows.length cap ∧ rows.length ≤ cap ∧ cap ≤ maxLen ∧ Lies w size ao rows ∧ (ao = none → rows = [] ∧ cap = 0) ∧ (∀ g off, ao = some ⟨g, off, none⟩ → off = 0 ∧ v.ownBlock = some g) := by
 rcases h.row.2 with ⟨h1, h2⟩ | ⟨g, cap, cur, rfl, hb, hgg, h3, h4, h5, h6⟩
 ·have : rows = [] := List.eq_nil_of_length_eq_zero h2; subst this; exact ⟨none, 0, h1, by simp, by simp, Lies.nil _ _ _, fun _ => ⟨rfl, rfl⟩, fun _ _ e => by cases e⟩
 ·refine ⟨_, cap, rfl, h3, h4, ?_, fun e => by (cases e), fun g' off e => by cases e; exact ⟨rfl, rfl⟩⟩; intro i r hi; have hr := h.len r (List.mem_of_getElem? hi); refine ⟨g, 0, rfl, lt_of_block hgg, hr, fun j u hj => ?_⟩
  have hj' : j < size := by rw [← hr]; exact (List.getElem?_eq_some_iff.1 hj).1
  have := flatten_get size rows h.len i r j hi hj'; rw [← h6, List.getElem?_take] at this; split at this
  ·rw [cell_blk hgg, Nat.zero_add]; simpa [hj] using this
  ·rw [hj] at this; cases this
theorem Owns.free {w : World} {e : TypeId} {size : Nat} {v : Value} {rows : List (List Value)} (h : Owns w e size v rows) {g : Nat} (hg : v.ownBlock = some g) (i : Nat) : w.frozen? ⟨g, i, none⟩ = false := by
 rcases h.row.2 with ⟨rfl, _⟩ | ⟨g', cap, cur, rfl, hb, hgg, _⟩
 ·simp [Value.ownBlock] at hg
 ·simp [Value.ownBlock] at hg; subst hg; exact free_blk hgg i
theorem Owns.take {w : World} {e : TypeId} {size : Nat} {g n cap : Nat} {rows : List (List Value)} (h : Owns w e size (.slice (some ⟨g, 0, none⟩) n cap) rows) (k : Nat) (hk : k ≤ rows.length) :
  Owns w e size (.slice (some ⟨g, 0, none⟩) k cap) (rows.take k) := by
 have hl : (rows.take k).length = k := by simp; omega
 have hlen : ∀ r ∈ rows.take k, r.length = size := fun r hr => h.len r (List.mem_of_mem_take hr)
 refine ⟨⟨flatten_length size _ hlen, ?_⟩, hlen, fun r hr => h.one r (List.mem_of_mem_take hr)⟩; rcases h.row.2 with ⟨h1, _⟩ | ⟨g', cap', cur, h1, hb, hgg, h3, h4, h5, h6⟩
 ·simp at h1
 ·simp only [Value.slice.injEq, Option.some.injEq, Addr.mk.injEq, and_true] at h1; obtain ⟨rfl, rfl, rfl⟩ := h1; refine .inr ⟨g, cap, cur, by rw [hl], hb, hgg, by omega, h4, h5, ?_⟩; rw [hl, ← flatten_take size rows k h.len, ← h6, List.take_take, Nat.min_eq_left (Nat.mul_le_mul_right _ hk)]
theorem lies_new (w : World) (r : List Value) (t : TypeId) {size : Nat} (h : r.length = size) : Lies (w.alloc (.cells r.toArray t)) size (some ⟨w.heap.size, 0, none⟩) [r] := by
 intro i r' hi; match i, hi with
 | 0, hi =>
  simp at hi; subst hi; exact ⟨w.heap.size, 0, rfl, by simp, h, fun j u hj => by rw [cell_blk (heap_alloc_new w _)]; simpa using hj⟩
section
variable {P : Program}
theorem run_append_rows (w : World) (t ty e : TypeId) (z : Value) (size bytes : Nat) (ht : P.underlying t = some (.slice e))
  (hinfo : (P.info? e).map (fun i => (i.zero, i.size, i.bytes)) = some (some z, size, bytes)) (hzs : z.cells.size = size) (hsz : 0 < size)
  (v : Value) (rows : List (List Value)) (hown : Owns w e size v rows)
  (ao : Option Addr) (c : Nat) (news : List (List Value)) (hnone : ao = none → news = [] ∧ c = 0) (hlies : Lies w size ao news) (h1 : ∀ r ∈ news, ∀ u ∈ r, u.oneCell' = true) (hlen : ∀ r ∈ news, r.length = size)
  (h63 : rows.length + news.length ≤ maxLen) (hbytes : (rows.length + news.length) * bytes ≤ 140737488355328) :
  ∃ v' w', (Builtin.append_ #[t, t] ty #[v, .slice ao news.length c]).run P w = .ok v' w' ∧ Owns w' e size v' (rows ++ news) ∧ w.grownBy w' v.ownBlock ∧
   (v'.ownBlock = v.ownBlock ∨ ∃ k, v'.ownBlock = some k ∧ w.heap.size ≤ k) := by
 obtain ⟨i, hi, hz, hs, hb⟩ := info_parts hinfo; have hlenA : ∀ r ∈ rows ++ news, r.length = size := fun r hr => by exact (List.mem_append.1 hr).elim (hown.len r) (hlen r)
 have hone : ∀ r ∈ rows ++ news, ∀ u ∈ r, u.oneCell' = true := fun r hr => by exact (List.mem_append.1 hr).elim (hown.one r) (h1 r)
 have hfl : news.flatten.length = news.length * size := flatten_length size news hlen; have h1f : ∀ u ∈ news.flatten, u.oneCell' = true := fun u hu => by obtain ⟨r, hr, hur⟩ := List.mem_flatten.1 hu; exact h1 r hr u hur
 by_cases hnz : news = []
 ·subst hnz; cases ao with
  | none =>
   obtain ⟨_, rfl⟩ := hnone rfl; exact ⟨v, w, by simpa using run_append_owned_none (P := P) w 0 t ty e i size ht hi v rows.length rows.flatten hown.row, by simpa using hown, World.grownBy.refl _ _, .inl rfl⟩
  | some a =>
   obtain ⟨v', w', hr, ho, hg, hnil⟩ := run_append_own (P := P) w 0 t ty e i z size bytes ht hi hz hs hb hzs hsz v rows.length rows.flatten hown.row a 0 c [] (by simp) (by simp) (by simp) h63 hbytes (Nat.zero_le _); refine ⟨v', w', by simpa using hr, ⟨by simpa using ho, by simpa using hown.len, by simpa using hown.one⟩, hg, ?_⟩; rcases hown.row.2 with ⟨rfl, _⟩ | ⟨g, cap, cur, rfl, _, hgg, hnc, _⟩
   ·rw [hnil.2 ⟨rfl, rfl⟩]; exact .inl rfl
   ·left; obtain ⟨w2, hr2, _⟩ := run_append_fits (P := P) w 0 t ty e i size ht hi hs g rows.length cap rows.flatten hown.row a 0 c [] (by simp) (by simp) (by simp) (by simpa using hnc); rw [hr2] at hr; cases hr; rfl
 ·obtain ⟨r0, rest, rfl⟩ := List.exists_cons_of_ne_nil hnz; obtain ⟨g0, off0, rfl, hg0, _, _⟩ := hlies 0 r0 rfl; have hnews : ∀ j u, (r0 :: rest).flatten[j]? = some u → w.cell? ((⟨g0, off0, none⟩ : Addr).add j) = some u := by
   intro j u hj; have hjl : j < (r0 :: rest).length * size := by rw [← hfl]; exact (List.getElem?_eq_some_iff.1 hj).1
   have hq : j / size < (r0 :: rest).length := (Nat.div_lt_iff_lt_mul hsz).2 hjl; have hm : j % size < size := Nat.mod_lt _ hsz; obtain ⟨g1, off1, e1, _, hl1, hc1⟩ := hlies (j / size) _ (List.getElem?_eq_getElem hq); cases e1; have hgt := flatten_get size (r0 :: rest) hlen (j / size) _ (j % size) (List.getElem?_eq_getElem hq) hm; rw [show j / size * size + j % size = j by rw [Nat.mul_comm]; exact Nat.div_add_mod j size] at hgt; rw [Addr.add_lit, ← hc1 (j % size) u (by rw [← hgt]; exact hj), show off0 + j / size * size + j % size = off0 + j by rw [Nat.add_assoc, Nat.mul_comm, Nat.div_add_mod]]
  rcases hown.row.2 with ⟨rfl, hn⟩ | ⟨g, cap, cur, rfl, hb0, hgg, hnc, hcm, hcs, htake⟩
  ·have hrows : rows = [] := List.eq_nil_of_length_eq_zero hn; subst hrows; obtain ⟨v', w', hr, ho, hg, hnil⟩ := run_append_own (P := P) w w.heap.size t ty e i z size bytes ht hi hz hs hb hzs hsz (.slice none 0 0) 0 [] (World.ownsRow_nil w _ e size) ⟨g0, off0, none⟩ (r0 :: rest).length c (r0 :: rest).flatten hfl hnews h1f (by simpa using h63) (by simpa using hbytes) (Nat.le_refl _); refine ⟨v', w', hr, ⟨?_, hlenA, hone⟩, hg, ?_⟩
   ·refine ⟨by simpa using ho.1, ?_⟩; rcases ho.2 with ⟨h1, h2⟩ | ⟨g', cap', cur', h1, h2, h3⟩
    ·simp at h2
    ·exact .inr ⟨g', cap', cur', by simpa using h1, Nat.zero_le _, by simpa using h3⟩
   ·rcases ho.2 with ⟨h1, h2⟩ | ⟨g', cap', cur', h1, h2, h3⟩
    ·simp at h2
    ·subst h1; exact .inr ⟨g', rfl, h2⟩
  ·by_cases hroom : rows.length + (r0 :: rest).length ≤ cap
   ·obtain ⟨w', hr, ho, hg⟩ := run_append_fits (P := P) w 0 t ty e i size ht hi hs g rows.length cap rows.flatten hown.row ⟨g0, off0, none⟩ (r0 :: rest).length c (r0 :: rest).flatten hfl hnews h1f hroom; exact ⟨_, w', hr, ⟨by simpa using ho, hlenA, hone⟩, hg, .inl rfl⟩
   ·obtain ⟨v', w', hr, ho, hg⟩ := run_append_arg_grows (P := P) w t ty e i z size bytes ht hi hz hs hb hzs hsz ⟨g, 0, none⟩ rows.length cap rows.flatten (flatten_length size rows hown.len) (hown.row.cells (g := g) rfl) ⟨g0, off0, none⟩ (r0 :: rest).length c (r0 :: rest).flatten hfl hnews (by omega) h63 hbytes; refine ⟨v', w', hr, ⟨?_, hlenA, hone⟩, ⟨hg.os, hg.tape, hg.output, hg.size, fun k hk _ => hg.block k hk (by simp)⟩, ?_⟩
    ·refine ⟨by simpa using ho.1, ?_⟩; rcases ho.2 with ⟨h1, h2⟩ | ⟨g', cap', cur', h1, h2, h3⟩
     ·simp at h2
     ·exact .inr ⟨g', cap', cur', by simpa using h1, Nat.zero_le _, by simpa using h3⟩
    ·rcases ho.2 with ⟨h1, h2⟩ | ⟨g', cap', cur', h1, h2, h3⟩
     ·simp at h2
     ·subst h1; exact .inr ⟨g', rfl, h2⟩
theorem wp_append_rows {w : World} {o : Oper} {a : Act} {K : Act → World → Prop} {Q : Exit → Act → World → Prop} (s x : Operand) (t : TypeId)
  (ho : o.op = .call { callee := .builtin .append, args := #[s, x], argTypes := #[t, t] }) (e : TypeId) (z : Value) (size bytes : Nat) (ht : P.underlying t = some (.slice e))
  (hinfo : (P.info? e).map (fun i => (i.zero, i.size, i.bytes)) = some (some z, size, bytes)) (hzs : z.cells.size = size) (hsz : 0 < size)
  (v : Value) (rows : List (List Value)) (hs : a.eval s = v) (hown : Owns w e size v rows)
  (ao : Option Addr) (n c : Nat) (news : List (List Value)) (hx : a.eval x = .slice ao n c) (hn : n = news.length) (hnone : ao = none → news = [] ∧ c = 0) (hlies : Lies w size ao news) (h1 : ∀ r ∈ news, ∀ u ∈ r, u.oneCell' = true) (hlen : ∀ r ∈ news, r.length = size)
  (h63 : rows.length + news.length ≤ maxLen) (hbytes : (rows.length + news.length) * bytes ≤ 140737488355328)
  (h : ∀ v' w', Owns w' e size v' (rows ++ news) → w.grownBy w' v.ownBlock → (v'.ownBlock = v.ownBlock ∨ ∃ k, v'.ownBlock = some k ∧ w.heap.size ≤ k) → K (a.put o.dst v') w') : o.wp P a w K Q := by
 subst hn; obtain ⟨v', w', hr, h2, h3, h4⟩ := run_append_rows (P := P) w t o.type e z size bytes ht hinfo hzs hsz v rows hown ao c news hnone hlies h1 hlen h63 hbytes; unfold Oper.wp execOp; simp only [ho, resolve, invoke, builtin, Sem.run_bind, Sem.run_pure, Result.andThen_ok, List.map_toArray, List.map_cons, List.map_nil, hs, hx, hr]; exact h v' w' h2 h3 h4
theorem wpList_append_rows {w : World} {ops : Array Oper} {rest : List Oper} {o : Oper} {a : Act} {Q : Exit → Act → World → Prop} (hgd : o.guard = none) (s x : Operand) (t : TypeId)
  (ho : o.op = .call { callee := .builtin .append, args := #[s, x], argTypes := #[t, t] }) (e : TypeId) (z : Value) (size bytes : Nat) (ht : P.underlying t = some (.slice e))
  (hinfo : (P.info? e).map (fun i => (i.zero, i.size, i.bytes)) = some (some z, size, bytes)) (hzs : z.cells.size = size) (hsz : 0 < size)
  (v : Value) (rows : List (List Value)) (hs : a.eval s = v) (hown : Owns w e size v rows)
  (ao : Option Addr) (n c : Nat) (news : List (List Value)) (hx : a.eval x = .slice ao n c) (hn : n = news.length) (hnone : ao = none → news = [] ∧ c = 0) (hlies : Lies w size ao news) (h1 : ∀ r ∈ news, ∀ u ∈ r, u.oneCell' = true) (hlen : ∀ r ∈ news, r.length = size)
  (h63 : rows.length + news.length ≤ maxLen) (hbytes : (rows.length + news.length) * bytes ≤ 140737488355328)
  (h : ∀ v' w', Owns w' e size v' (rows ++ news) → w.grownBy w' v.ownBlock → (v'.ownBlock = v.ownBlock ∨ ∃ k, v'.ownBlock = some k ∧ w.heap.size ≤ k) → wpList P ops Q rest (a.put o.dst v') w') :
  wpList P ops Q (o :: rest) a w :=
 wpList_plain hgd fun _ hK => wp_append_rows s x t ho e z size bytes ht hinfo hzs hsz v rows hs hown ao n c news hx hn hnone hlies h1 hlen h63 hbytes fun v' w' h2 h3 h4 => hK _ _ (h v' w' h2 h3 h4)
theorem step_append_rows {w : World} {ops : Array Oper} {o : Oper} {a : Act} {K : Act → World → Prop} {Q : Exit → Act → World → Prop} {E : Prop} (hgd : o.guard = none) (s x : Operand) (t : TypeId)
  (ho : o.op = .call { callee := .builtin .append, args := #[s, x], argTypes := #[t, t] }) (e : TypeId) (z : Value) (size bytes : Nat) (ht : P.underlying t = some (.slice e))
  (hinfo : (P.info? e).map (fun i => (i.zero, i.size, i.bytes)) = some (some z, size, bytes)) (hzs : z.cells.size = size) (hsz : 0 < size)
  (v : Value) (rows : List (List Value)) (hs : a.eval s = v) (hown : Owns w e size v rows)
  (ao : Option Addr) (n c : Nat) (news : List (List Value)) (hx : a.eval x = .slice ao n c) (hn : n = news.length) (hnone : ao = none → news = [] ∧ c = 0) (hlies : Lies w size ao news) (h1 : ∀ r ∈ news, ∀ u ∈ r, u.oneCell' = true) (hlen : ∀ r ∈ news, r.length = size)
  (h63 : rows.length + news.length ≤ maxLen) (hbytes : (rows.length + news.length) * bytes ≤ 140737488355328)
  (h : ∀ v' w', Owns w' e size v' (rows ++ news) → w.grownBy w' v.ownBlock → (v'.ownBlock = v.ownBlock ∨ ∃ k, v'.ownBlock = some k ∧ w.heap.size ≤ k) → K (a.put o.dst v') w') :
  if Region.wanted o (yielded ops a.tmps) = true then Oper.wp P o a w K Q else E := by
 rw [if_pos (by simp [Region.wanted, hgd])]; exact wp_append_rows s x t ho e z size bytes ht hinfo hzs hsz v rows hs hown ao n c news hx hn hnone hlies h1 hlen h63 hbytes h
end
end Go.Proofs.YtobjmajkcfhpoaaDoor

namespace Go.Proofs.YtobjmajkcfhpoaaDoor
open Go.RowKit
abbrev Bs := List UInt8
def str (l : Bs) : ByteArray := ⟨l.toArray⟩
theorem str_toList (l : Bs) : (str l).toList = l := ByteArray.toList_mk l
theorem str_size (l : Bs) : (str l).size = l.length := by simp [str, ByteArray.size]
theorem str_data (s : ByteArray) : str s.data.toList = s := by cases s; simp [str]
theorem size_toList (s : ByteArray) : s.toList.length = s.size := by rw [ByteArray.toList_eq, Array.length_toList]; rfl
def bts (l : Bs) : List Value := l.map fun b => Value.int .u8 b.toNat
def bRows (l : Bs) : List (List Value) := (bts l).map fun x => [x]
theorem bRows_len (l : Bs) : (bRows l).length = l.length := by simp [bRows, bts]
def OwnsB (w : World) (e : TypeId) (v : Value) (l : Bs) : Prop := Owns w e 1 v (bRows l)
theorem OwnsB.any {w : World} {e : TypeId} {v : Value} {l : Bs} (h : OwnsB w e v l) :
  ∃ ao cap, v = .slice ao l.length cap ∧ l.length ≤ cap ∧ cap ≤ maxLen ∧ (ao = none → l = [] ∧ cap = 0) ∧ (∀ g off, ao = some ⟨g, off, none⟩ → off = 0 ∧ v.ownBlock = some g ∧ g < w.heap.size) := by
 obtain ⟨ao, cap, rfl, h1, h2, h3, h4, h5⟩ := Owns.any h; rw [bRows_len] at h1; refine ⟨ao, cap, by rw [bRows_len], h1, h2, fun e => ?_, fun g off e => ?_⟩
 ·obtain ⟨a, b⟩ := h4 e; refine ⟨?_, b⟩; have := bRows_len l; rw [a] at this; exact List.eq_nil_of_length_eq_zero this.symm
 ·obtain ⟨a, b⟩ := h5 g off e; exact ⟨a, b, Owns.lt h b⟩
theorem OwnsB.cells {w : World} {e : TypeId} {ao : Option Addr} {n cap : Nat} {l : Bs} (h : OwnsB w e (.slice ao n cap) l) (i : Nat) (hi : i < l.length) : ∃ g, ao = some ⟨g, 0, none⟩ ∧ w.cell? ⟨g, i, none⟩ = some (.int .u8 l[i].toNat) := by
 obtain ⟨ao', cap', hv, _, _, hl, _, h5⟩ := Owns.any h; cases hv; obtain ⟨g, off, rfl, _, _, hc⟩ := hl i [.int .u8 l[i].toNat] (by simp [bRows, bts, hi]); obtain ⟨rfl, _⟩ := h5 g off rfl; have := hc 0 _ rfl; rw [Nat.mul_one, Nat.zero_add, Nat.add_zero] at this; exact ⟨g, rfl, this⟩
section
variable {P : Program}
end
end Go.Proofs.YtobjmajkcfhpoaaDoor

namespace Go.Proofs.YtobjmajkcfhpoaaDoor
open Go.RowKit Go.ChangeShapes Go.WideShapes Go.ChangeAt
section
variable {H : Type} {enc : TypeId × Value → H} {P : Program}
theorem trodAll_below (hl : laidOutB P = true) {W W' : World} (hb : Below W.heap.size W W') : ∀ (ts : List TypeId) (vs : List Value) (ds : List (DataW H)) (ps : List MemPlace),
  (∀ t ∈ ts, P.readableRec t = true ∧ t < P.types.size) → DataW.TrodAll enc P W 0 (fun _ => true) true ts vs ds ps → (∀ x ∈ ps, x.block < W.heap.size) →
  DataW.TrodAll enc P W' 0 (fun b => decide (b < W.heap.size)) true ts vs ds ps
 | [], vs, ds, ps, _, h, _ => by
  obtain ⟨rfl, rfl, rfl⟩ := trodAll_nil h
  exact trodAll_mk0
 | t :: ts, vs, ds, ps, hr, h, hlt => by
  obtain ⟨v, vs', d, ds', p, q, rfl, rfl, rfl, h1, h2⟩ := trodAll_cons h
  exact trodAll_cons_mk (Below.trod hl (hr t (by simp)).1 (hr t (by simp)).2 h1 hb (fun x hx => hlt x (by simp [hx]))) (trodAll_below hl hb ts vs' ds' q (fun t ht => hr t (by simp [ht])) h2 (fun x hx => hlt x (by simp [hx])))
theorem law_post {f : Func} {s : ChangeSpec} {tb : TypeId} {W W' : World} {args : Array Value} {ds gs : List (DataW H)} {before : List MemPlace}
  (hl : laidOutB P = true) (hr : f.params.toList.all (fun t => P.readableRec t && decide (t < P.types.size)) = true) (hres : f.resultTypes = #[tb]) (htb : P.underlying tb = some .bool) (hv : s.vars = [])
  (hs : s.fn H (ds ++ gs) = { results := [.lit (.bool true)], args := ds })
  (hW : DataW.Whole enc P f.params.toList s.vars false W args.toList ds gs before) (hb : Below W.heap.size W W') :
  s.post enc P f false true false false W args (.bool true) W' := by
 have hW' := hW; obtain ⟨p, q, hA, hV, rfl, _, _⟩ := hW; have hq : q = [] := by rw [hv] at hV; exact (trodVars_none hV).2
 subst hq; have hlt : ∀ x ∈ p, x.block < W.heap.size := fun x hx => hW'.lt x (by simp [hx])
 refine ⟨ds, gs, p ++ [], [], p, [], hW', ?_, ?_, ?_, hb.frame _, fun h => by cases h⟩
 ·rw [hres, hs]; exact trodAll_mk1 (shut_bool htb true)
 ·rw [hs]; refine trodAll_below hl hb _ _ _ _ (fun t ht => ?_) hA hlt; have := List.all_eq_true.1 hr t ht; simpa using this
 ·rw [hs, hv]; rfl
end
end Go.Proofs.YtobjmajkcfhpoaaDoor

namespace Go.Proofs.YtobjmajkcfhpoaaDoor
open Go.RowKit
theorem cell_lt {w : World} {p : Addr} {v : Value} (h : w.cell? p = some v) : p.block < w.heap.size := by
 rcases Nat.lt_or_ge p.block w.heap.size with hl | hl
 ·exact hl
 ·simp [World.cell?, Array.getElem?_eq_none hl] at h
structure Tabs (w : World) : Prop where
 len : ∃ m, w.cell? ⟨0, 0, none⟩ = some (.int .i64 m)
theorem Tabs.mono {w w' : World} (h : Tabs w) (hb : Below w.heap.size w w') : Tabs w' := ⟨let ⟨m, e⟩ := h.len; ⟨m, (hb.cell (cell_lt e)).trans e⟩⟩
theorem wrap_in {x : Int} (h0 : -9223372036854775808 ≤ x) (h1 : x ≤ 9223372036854775807) : IntKind.i64.wrap x = x := by rw [IntKind.wrap_i64]; omega
def BoolPost (w : World) (b : Bool) (e : Ending) (w' : World) : Prop := e = .returned (.bool b) ∧ Below w.heap.size w w'
def IntPost (w : World) (x : Int) (e : Ending) (w' : World) : Prop := e = .returned (.int .i64 x) ∧ Below w.heap.size w w'
theorem below_alloc1 (w : World) (o : Obj) : Below w.heap.size w (w.alloc o) := (Below.refl _ w).alloc (Nat.le_refl _) o
theorem bl_eq (s : ByteArray) : s.toList = s.data.toList := ByteArray.toList_eq s
theorem wr64 {x : Int} (h0 : -9223372036854775808 ≤ x) (h1 : x ≤ 9223372036854775807) : wrap64 x = x := by unfold wrap64; omega
theorem wr_sm {x : Int} (h0 : -9223372036854775808 ≤ x) (h1 : x ≤ 9223372036854775807) : wrap64 x = x ∧ IntKind.i64.wrap x = x := ⟨wr64 h0 h1, wrap_in h0 h1⟩
structure At1 (w W : World) (B : Nat) (oa : Obj) : Prop where
 a : W.heap[B]? = some oa
 below : Below w.heap.size w W
theorem At1.mono {w W W' : World} {B : Nat} {oa : Obj} (h : At1 w W B oa) (hb : Below W.heap.size W W') : At1 w W' B oa :=
 ⟨(hb.block _ (lt_of_block h.a)).trans h.a, h.below.trans (hb.mono h.below.size)⟩
theorem At1.drew {w W : World} {B : Nat} {oa : Obj} (h : At1 w W B oa) : At1 w W.drew B oa := ⟨h.a, h.below.drew⟩
theorem at1_start (w : World) (oa : Obj) : At1 w (w.alloc oa) w.heap.size oa := ⟨heap_alloc_new w oa, below_alloc1 w oa⟩
structure At2 (w W : World) (B : Nat) (oa ob : Obj) : Prop where
 a : W.heap[B]? = some oa
 b : W.heap[B + 1]? = some ob
 below : Below w.heap.size w W
theorem At2.mono {w W W' : World} {B : Nat} {oa ob : Obj} (h : At2 w W B oa ob) (hb : Below W.heap.size W W') : At2 w W' B oa ob :=
 ⟨(hb.block _ (lt_of_block h.a)).trans h.a, (hb.block _ (lt_of_block h.b)).trans h.b, h.below.trans (hb.mono h.below.size)⟩
theorem At2.drew {w W : World} {B : Nat} {oa ob : Obj} (h : At2 w W B oa ob) : At2 w W.drew B oa ob := ⟨h.a, h.b, h.below.drew⟩
theorem at2_start (w : World) (oa ob : Obj) : At2 w ((w.alloc oa).alloc ob) w.heap.size oa ob :=
 ⟨(Below.heap_alloc _ _ _ (by simp)).trans (heap_alloc_new w oa), by have h := heap_alloc_new (w.alloc oa) ob; simpa using h, (below_alloc1 w oa).alloc (by simp) ob⟩
theorem gA {α : Type} {l : List α} {i : Nat} : l.toArray[i]? = l[i]? := List.getElem?_toArray
theorem gS {α : Type} {a : α} {l : List α} {i : Nat} : (a :: l)[i + 1]? = l[i]? := List.getElem?_cons_succ
theorem gZ {α : Type} {a : α} {l : List α} : (a :: l)[0]? = some a := List.getElem?_cons_zero
theorem pA {α : Type} {l : List α} {i : Nat} {a : α} : l.toArray.setIfInBounds i a = (l.set i a).toArray := List.setIfInBounds_toArray ..
theorem pZ {α : Type} {a b : α} {l : List α} : (a :: l).set 0 b = b :: l := List.set_cons_zero
theorem pS {α : Type} {a b : α} {l : List α} {i : Nat} : (a :: l).set (i + 1) b = a :: l.set i b := List.set_cons_succ
theorem yld_undef : Go.yielded.match_1 (fun _ => Option Bool) (some undef) (fun b => some b) (fun _ => none) = none := rfl
theorem Hd {p : Prop} (h : p) : Hid p := Lib.hid h
theorem cB {w : World} {b : Nat} {c : Array Value} {t : TypeId} {fr : Nat × Nat} (h : w.heap[b]? = some (.cells c t fr)) (i : Nat) : w.cell? ⟨b, i, none⟩ = c[i]? := cell_blk h i
section
variable {P : Program} {ops : Array Oper} {Q : Exit → Act → World → Prop} {md : Region.Mode} {S : World → Prop}
theorem tk {fuel : Nat} {listed : Array Bool} {a a' : Act} {w : World} {oi : Oper} {v : Value} (i : Nat) (h : wpAnyH P md ops Q S fuel (listed.setIfInBounds i true) a' w)
  (hS : S w := by assumption) (hi : ops[i]? = some oi := by simp only [gA, gS, gZ]; rfl) (hs : Region.noSelect ops = true := by kernel_rfl) (hf : Region.free md ops listed i = true := by kernel_rfl) (hr : (Region.ready md ops listed).contains i = true := by kernel_rfl)
  (hw : Region.wanted oi (yielded ops a.tmps) = true := by rfl)
  (hy : ∀ w, S w → (execOp a.eval oi).run P w = .ok (.value v) w := by intro w hSw; (try dsimp only at hSw); go_simp <;> (with_reducible rfl))
  (hQ : ∀ c a w, Q (.panic c) (a.put oi.dst v) w → Q (.panic c) a w := by exact fun _ _ _ h => h)
  (ha : a.put oi.dst v = a' := by (try simp only [Act.put, pA, pZ, pS]); rfl) : wpAnyH P md ops Q S (fuel + 1) listed a w := by
 subst ha; exact wpAnyH_take hi hs hf hr hQ (Or.inl ⟨hw, hy⟩) hS h
theorem tkb {fuel : Nat} {listed : Array Bool} {a a' : Act} {w : World} {oi : Oper} {v : Value} (i : Nat) (h : wpAnyH P md ops Q S fuel (listed.setIfInBounds i true) a' w)
  (hS : S w := by assumption) (hi : ops[i]? = some oi := by simp only [gA, gS, gZ]; rfl) (hs : Region.noSelect ops = true := by kernel_rfl) (hf : Region.free md ops listed i = true := by kernel_rfl) (hr : (Region.ready md ops listed).contains i = true := by kernel_rfl)
  (hw : Region.wanted oi (yielded ops a.tmps) = true := by rfl)
  (hy : ∀ w, S w → (execOp a.eval oi).run P w = .ok (.value v) w := by intro w hSw; (try dsimp only at hSw); have u0 := cell_blk hSw 0; have u1 := cell_blk hSw 1; have u2 := cell_blk hSw 2; have u3 := cell_blk hSw 3; have u4 := cell_blk hSw 4; have u5 := cell_blk hSw 5; go_simp <;> (with_reducible rfl))
  (hQ : ∀ c a w, Q (.panic c) (a.put oi.dst v) w → Q (.panic c) a w := by exact fun _ _ _ h => h)
  (ha : a.put oi.dst v = a' := by (try simp only [Act.put, pA, pZ, pS]); rfl) : wpAnyH P md ops Q S (fuel + 1) listed a w := by
 subst ha; exact wpAnyH_take hi hs hf hr hQ (Or.inl ⟨hw, hy⟩) hS h
theorem tkc {fuel : Nat} {listed : Array Bool} {a a' : Act} {w : World} {oi : Oper} {v : Value} (i : Nat) (h : wpAnyH P md ops Q S fuel (listed.setIfInBounds i true) a' w)
  (hS : S w := by assumption) (hi : ops[i]? = some oi := by simp only [gA, gS, gZ]; rfl) (hs : Region.noSelect ops = true := by kernel_rfl) (hf : Region.free md ops listed i = true := by kernel_rfl) (hr : (Region.ready md ops listed).contains i = true := by kernel_rfl)
  (hw : Region.wanted oi (yielded ops a.tmps) = true := by rfl)
  (hy : ∀ w, S w → (execOp a.eval oi).run P w = .ok (.value v) w := by intro w hSw; (try dsimp only at hSw); obtain ⟨hSw0, hSwB⟩ := hSw; have t0 := cell_blk hSwB 0; have t1 := cell_blk hSwB 1; have t2 := cell_blk hSwB 2; have t3 := cell_blk hSwB 3; have t4 := cell_blk hSwB 4; have t5 := cell_blk hSwB 5; go_simp <;> (with_reducible rfl))
  (hQ : ∀ c a w, Q (.panic c) (a.put oi.dst v) w → Q (.panic c) a w := by exact fun _ _ _ h => h)
  (ha : a.put oi.dst v = a' := by (try simp only [Act.put, pA, pZ, pS]); rfl) : wpAnyH P md ops Q S (fuel + 1) listed a w := by
 subst ha; exact wpAnyH_take hi hs hf hr hQ (Or.inl ⟨hw, hy⟩) hS h
theorem ts {fuel : Nat} {listed : Array Bool} {a a' : Act} {w : World} {oi : Oper} (i : Nat) (h : wpAnyH P md ops Q S fuel (listed.setIfInBounds i true) a' w)
  (hS : S w := by assumption) (hi : ops[i]? = some oi := by simp only [gA, gS, gZ]; rfl) (hs : Region.noSelect ops = true := by kernel_rfl) (hf : Region.free md ops listed i = true := by kernel_rfl) (hr : (Region.ready md ops listed).contains i = true := by kernel_rfl)
  (hw : Region.wanted oi (yielded ops a.tmps) = false := by rfl)
  (hQ : ∀ c a w, Q (.panic c) (a.put oi.dst undef) w → Q (.panic c) a w := by exact fun _ _ _ h => h)
  (ha : a.put oi.dst undef = a' := by (try simp only [Act.put, pA, pZ, pS]); rfl) : wpAnyH P md ops Q S (fuel + 1) listed a w := by
 subst ha; exact wpAnyH_take hi hs hf hr hQ (Or.inr ⟨hw, rfl⟩) hS h
theorem rd {fuel : Nat} {listed : Array Bool} {a : Act} {w : World} {o : Oper} (i : Nat)
  (h : ∀ K' : Act → World → Prop, Shut (∀ a w, S w → (S w → wpAnyH P md ops Q S fuel (listed.setIfInBounds i true) a w) → K' a w) → if Region.wanted o (yielded ops a.tmps) = true then Oper.wp P o a w K' Q else K' (a.put o.dst undef) w)
  (hr : Region.ready md ops listed = [i] := by kernel_rfl) (ho : ops[i]? = some o := by simp only [gA, gS, gZ]; rfl) : wpAnyH P md ops Q S (fuel + 1) listed a w :=
 wpAnyH_ready hr (by simp) (AllReadyH.cons ho h AllReadyH.nil)
theorem rd2 {fuel : Nat} {listed : Array Bool} {a : Act} {w : World} {o1 o2 : Oper} (i j : Nat)
  (h1 : ∀ K' : Act → World → Prop, Shut (∀ a w, S w → (S w → wpAnyH P md ops Q S fuel (listed.setIfInBounds i true) a w) → K' a w) → if Region.wanted o1 (yielded ops a.tmps) = true then Oper.wp P o1 a w K' Q else K' (a.put o1.dst undef) w)
  (h2 : ∀ K' : Act → World → Prop, Shut (∀ a w, S w → (S w → wpAnyH P md ops Q S fuel (listed.setIfInBounds j true) a w) → K' a w) → if Region.wanted o2 (yielded ops a.tmps) = true then Oper.wp P o2 a w K' Q else K' (a.put o2.dst undef) w)
  (hr : Region.ready md ops listed = [i, j] := by kernel_rfl) (ho1 : ops[i]? = some o1 := by simp only [gA, gS, gZ]; rfl) (ho2 : ops[j]? = some o2 := by simp only [gA, gS, gZ]; rfl) : wpAnyH P md ops Q S (fuel + 1) listed a w :=
 wpAnyH_ready hr (by simp) (AllReadyH.cons ho1 h1 (AllReadyH.cons ho2 h2 AllReadyH.nil))
theorem dn {fuel : Nat} {listed : Array Bool} {a : Act} {w : World} (h : Q .normal a w) (hr : Region.ready md ops listed = [] := by kernel_rfl) : wpAnyH P md ops Q S fuel listed a w :=
 wpAnyH_done hr h fuel
end
end Go.Proofs.YtobjmajkcfhpoaaDoor
