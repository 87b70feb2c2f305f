/-
  Rows that a slice value reads; classes in memory.
  Maps of a call's own, whatever their keys and elements: what look, put and len give.
  One row of each kind, as it lies in a later world (printed by genSeq17.py).
  The walks of slices.Index, Contains, Clone (printed by genSeq17.py).
-/
import Derived.Test.YtobjmajkcfhpoaaDoorWp2
import Derived.Maps.OwnSet
import Derived.Maps.RangeWalk
import Derived.DeepKeys4
import Derived.StringKeys
import Derived.Lib.LazyBuf
namespace Go.Proofs.YtobjmajkcfhpoaaDoor
open Go.RowKit
def RIn (A : Nat → Prop) (w : World) (size : Nat) (v : Value) (rows : List (List Value)) : Prop :=
 ∃ ao cap, v = .slice ao rows.length cap ∧ Lies w size ao rows ∧ (∀ g off, ao = some ⟨g, off, none⟩ → rows ≠ [] → A g) ∧ (ao = none → rows = [] ∧ cap = 0)
def AnyB : Nat → Prop := fun _ => True
section
variable {A B : Nat → Prop} {w w' : World} {size : Nat} {v : Value} {rows : List (List Value)}
theorem RIn.form (h : RIn A w size v rows) : ∃ ao cap, v = .slice ao rows.length cap ∧ (ao = none → rows = [] ∧ cap = 0) ∧ Lies w size ao rows := by
 obtain ⟨ao, cap, hv, hl, -, hn⟩ := h; exact ⟨ao, cap, hv, hn, hl⟩
theorem RIn.kept (h : RIn A w size v rows) (hk : ∀ g, A g → g < w.heap.size → w'.heap[g]? = w.heap[g]? ∧ g < w'.heap.size ∧ B g) : RIn B w' size v rows := by
 obtain ⟨ao, cap, hv, hl, ha, hn⟩ := h; by_cases h0 : rows = []
 ·subst h0; exact ⟨ao, cap, hv, Lies.nil _ _ _, fun _ _ _ h => absurd rfl h, hn⟩
 ·refine ⟨ao, cap, hv, hl.kept fun g off e hg => ?_, fun g off e _ => ?_, hn⟩
  ·obtain ⟨h1, h2, -⟩ := hk g (ha g off e h0) hg; exact ⟨h1, h2⟩
  ·obtain ⟨r, rest, rfl⟩ := List.exists_cons_of_ne_nil h0; obtain ⟨g', off', e', hg, -, -⟩ := hl 0 r rfl; rw [e] at e'; cases e'; exact (hk g (ha g off e h0) hg).2.2
theorem RIn.under (h : RIn A w size v rows) (hb : Below w.heap.size w w') : RIn A w' size v rows := h.kept fun g hA hg => ⟨hb.block g hg, Nat.lt_of_lt_of_le hg hb.size, hA⟩
theorem RIn.of_owns {e : TypeId} (h : Owns w e size v rows) (hA : ∀ g, v.ownBlock = some g → A g) : RIn A w size v rows := by
 obtain ⟨ao, cap, hv, -, -, hl, hn, hg⟩ := h.any; exact ⟨ao, cap, hv, hl, fun g off e _ => hA g (hg g off e).2, hn⟩
theorem RIn.nil : RIn A w size (.slice none 0 0) [] := ⟨none, 0, rfl, Lies.nil _ _ _, fun _ _ e => (by cases e), fun _ => ⟨rfl, rfl⟩⟩
theorem RIn.at (h : RIn A w size v rows) {i : Nat} {r : List Value} (hi : rows[i]? = some r) : ∃ g off cap, v = .slice (some ⟨g, off, none⟩) rows.length cap ∧ g < w.heap.size ∧ A g ∧ r.length = size ∧ ∀ W, Below w.heap.size w W → ∀ j u, r[j]? = some u → W.cell? ⟨g, off + i * size + j, none⟩ = some u := by
 obtain ⟨ao, cap, rfl, hl, ha, -⟩ := h; obtain ⟨g, off, rfl, hg, hlen, hc⟩ := hl i r hi; refine ⟨g, off, cap, rfl, hg, ha g off rfl (fun e => by rw [e] at hi; cases hi), hlen, fun W hb j u hj => ?_⟩; exact (hb.cell (p := ⟨g, _, none⟩) hg).trans (hc j u hj)
end
def AdIn (A : Nat → Prop) (w : World) (v : Value) (ads : List AdP) : Prop := ∃ xs : List (AdP × SV), xs.map (·.1) = ads ∧ RIn A w 4 v (xs.map AdP.row) ∧ ∀ x ∈ xs, RIn A w 1 (.slice x.2.o x.2.n x.2.c) (x.1.ot.map sR)
structure ClIn (A : Nat → Prop) (w : World) (c : ClP) (V : VS6) : Prop where
 hf : RIn A w 1 (.slice V.f.o V.f.n V.f.c) (c.fs.map sR)
 ht : RIn A w 1 (.slice V.t.o V.t.n V.t.c) (c.ts.map sR)
 ha : AdIn A w (.slice V.a.o V.a.n V.a.c) c.ad
 hc : RIn A w 3 (.slice V.c.o V.c.n V.c.c) (c.cs.map CoP.row)
 hp : RIn A w 4 (.slice V.p.o V.p.n V.p.c) (c.ps.map PrP.row)
 hm : RIn A w 6 (.slice V.m.o V.m.n V.m.c) (c.ms.map MtP.row)
structure KnIn (A B : Nat → Prop) (w : World) (v : Value) (kn : List KC) : Prop where
 rows : RIn A w 11 v (kn.map KC.row)
 cls : ∀ x ∈ kn, ClIn B w x.1 x.2
section
variable {A B A' B' : Nat → Prop} {w w' : World} {v : Value}
theorem AdIn.kept {ads : List AdP} (h : AdIn A w v ads) (hk : ∀ g, A g → g < w.heap.size → w'.heap[g]? = w.heap[g]? ∧ g < w'.heap.size ∧ B g) : AdIn B w' v ads := by
 obtain ⟨xs, e, h1, h2⟩ := h; exact ⟨xs, e, h1.kept hk, fun x hx => (h2 x hx).kept hk⟩
theorem ClIn.kept {c : ClP} {V : VS6} (h : ClIn A w c V) (hk : ∀ g, A g → g < w.heap.size → w'.heap[g]? = w.heap[g]? ∧ g < w'.heap.size ∧ B g) : ClIn B w' c V :=
 ⟨h.hf.kept hk, h.ht.kept hk, h.ha.kept hk, h.hc.kept hk, h.hp.kept hk, h.hm.kept hk⟩
theorem ClIn.under {c : ClP} {V : VS6} (h : ClIn A w c V) (hb : Below w.heap.size w w') : ClIn A w' c V := h.kept fun g hA hg => ⟨hb.block g hg, Nat.lt_of_lt_of_le hg hb.size, hA⟩
theorem KnIn.under {kn : List KC} (h : KnIn A B w v kn) (hb : Below w.heap.size w w') : KnIn A B w' v kn := ⟨h.rows.under hb, fun x hx => (h.cls x hx).under hb⟩
theorem AdIn.nil : AdIn A w (.slice none 0 0) [] := ⟨[], rfl, RIn.nil, fun _ h => by cases h⟩
theorem ClIn.zero : ClIn A w ClP.nil VS6.nil := ⟨RIn.nil, RIn.nil, AdIn.nil, RIn.nil, RIn.nil, RIn.nil⟩
theorem KnIn.zero : KnIn A B w (.slice none 0 0) [] := ⟨RIn.nil, fun _ h => by cases h⟩
end
theorem sR_one (ls : List ByteArray) : ∀ r ∈ ls.map sR, ∀ u ∈ r, u.oneCell' = true := by
 intro r hr u hu; obtain ⟨x, _, rfl⟩ := List.mem_map.1 hr; simp [sR] at hu; subst hu; rfl
theorem sR_len (ls : List ByteArray) : ∀ r ∈ ls.map sR, r.length = 1 := by
 intro r hr; obtain ⟨x, _, rfl⟩ := List.mem_map.1 hr; rfl
theorem co_one (ls : List CoP) : ∀ r ∈ ls.map CoP.row, ∀ u ∈ r, u.oneCell' = true := by
 intro r hr u hu; obtain ⟨x, _, rfl⟩ := List.mem_map.1 hr; simp [CoP.row] at hu; rcases hu with rfl | rfl | rfl <;> rfl
theorem co_len (ls : List CoP) : ∀ r ∈ ls.map CoP.row, r.length = 3 := by
 intro r hr; obtain ⟨x, _, rfl⟩ := List.mem_map.1 hr; rfl
theorem pr_one (ls : List PrP) : ∀ r ∈ ls.map PrP.row, ∀ u ∈ r, u.oneCell' = true := by
 intro r hr u hu; obtain ⟨x, _, rfl⟩ := List.mem_map.1 hr; simp [PrP.row] at hu; rcases hu with rfl | rfl | rfl | rfl <;> rfl
theorem pr_len (ls : List PrP) : ∀ r ∈ ls.map PrP.row, r.length = 4 := by
 intro r hr; obtain ⟨x, _, rfl⟩ := List.mem_map.1 hr; rfl
theorem mt_one (ls : List MtP) : ∀ r ∈ ls.map MtP.row, ∀ u ∈ r, u.oneCell' = true := by
 intro r hr u hu; obtain ⟨x, _, rfl⟩ := List.mem_map.1 hr; simp [MtP.row] at hu; rcases hu with rfl | rfl | rfl | rfl | rfl | rfl <;> rfl
theorem mt_len (ls : List MtP) : ∀ r ∈ ls.map MtP.row, r.length = 6 := by
 intro r hr; obtain ⟨x, _, rfl⟩ := List.mem_map.1 hr; rfl
theorem info9 : (Tryd.prog.info? 9).map (fun i => (i.zero, i.size, i.bytes)) = some (some (.string .empty), 1, 16) := by kernel_rfl
theorem info66 : (Tryd.prog.info? 66).map (fun i => (i.zero, i.size, i.bytes)) = some (some (.agg #[.string .empty, .string .empty, .int .i64 0]), 3, 40) := by kernel_rfl
theorem info45 : (Tryd.prog.info? 45).map (fun i => (i.zero, i.size, i.bytes)) = some (some (.agg #[.string .empty, .bool false, .string .empty, .int .i64 0]), 4, 48) := by kernel_rfl
theorem info34 : (Tryd.prog.info? 34).map (fun i => (i.zero, i.size, i.bytes)) = some (some (.agg #[.string .empty, .bool false, .bool false, .bool false, .string .empty, .int .i64 0]), 6, 48) := by kernel_rfl
theorem info54 : (Tryd.prog.info? 54).map (fun i => (i.zero, i.size, i.bytes)) = some (some (.agg #[.string .empty, .string .empty, .slice none 0 0, .string .empty]), 4, 72) := by kernel_rfl
theorem info29 : (Tryd.prog.info? 29).map (fun i => (i.zero, i.size, i.bytes)) = some (some (.agg #[.string .empty, .int .i64 0, .bool false, .bool false, .string .empty, .slice none 0 0, .slice none 0 0, .slice none 0 0, .slice none 0 0, .slice none 0 0, .slice none 0 0]), 11, 192) := by kernel_rfl
end Go.Proofs.YtobjmajkcfhpoaaDoor

namespace Go.Proofs.YtobjmajkcfhpoaaDoor
open Go.RowKit Go.Maps
instance decBA : DecidableEq ByteArray := fun a b => decidable_of_iff (a.toList = b.toList) ⟨ba_ext', fun h => by rw [h]⟩
structure MSpec (κ α : Type) where
 M : TypeId
 k : TypeId
 e : TypeId
 kv : κ → Value
 kl : κ → Lit
 good : κ → Prop
 keyed : Keyed Tryd.prog k
 und : Tryd.prog.underlying M = some (.map k e)
 keyOf : ∀ x, good x → keyOf Tryd.prog k (kv x) = some (kl x)
 inj : ∀ x y, good x → good y → kl x = kl y → x = y
 ev : α → Value
 ed : α → DataW Unit
 ge : α → Prop
 pe : Value → Option (DataW Unit × List MemPlace)
 pe_ev : ∀ a, ge a → pe (ev a) = some (ed a, [])
 pe_inv : ∀ v a ps, pe v = some (ed a, ps) → v = ev a
 z : α
 gz : ge z
 zero : ∀ w, (zeroValue e).run Tryd.prog w = .ok (ev z) w
section
variable {κ α : Type} (S : MSpec κ α)
def MSpec.Is (w : World) (mb : Nat) (F : κ → Option α) (n : Nat) : Prop :=
 ∃ D : DataW Unit, w.ownsMap Tryd.prog S.k S.pe mb n D ∧ Tidy D ∧ size D = n ∧
  ∀ x : κ, S.good x → (∀ a, F x = some a → has D (S.kl x) = true ∧ ∀ z, D.atKey (S.kl x) z = S.ed a) ∧ (F x = none → has D (S.kl x) = false)
variable {S} {w w' : World} {mb n : Nat} {F G : κ → Option α}
theorem MSpec.Is.lt (h : S.Is w mb F n) : mb < w.heap.size := by
 obtain ⟨D, ho, _⟩ := h; exact ho.lt
theorem MSpec.Is.congr (h : S.Is w mb F n) (e : ∀ k, S.good k → G k = F k) : S.Is w mb G n := by
 obtain ⟨D, ho, ht, hs, hF⟩ := h; exact ⟨D, ho, ht, hs, fun k hk => by rw [e k hk]; exact hF k hk⟩
theorem MSpec.Is.kept (h : S.Is w mb F n) (hb : w'.heap[mb]? = w.heap[mb]?) : S.Is w' mb F n := by
 obtain ⟨D, ⟨es, clock, h1, h2⟩, ht⟩ := h; exact ⟨D, ⟨es, clock, hb.trans h1, h2⟩, ht⟩
theorem MSpec.Is.mod {Z : Nat → Prop} (h : S.Is w mb F n) (hm : Mod Z w w') (hZ : ¬ Z mb) : S.Is w' mb F n := h.kept (hm.block mb h.lt hZ)
theorem MSpec.Is.under (h : S.Is w mb F n) (hb : Below w.heap.size w w') : S.Is w' mb F n := h.kept (hb.block mb h.lt)
theorem MSpec.made (w : World) : S.Is (w.alloc (.map #[] 0)) w.heap.size (fun _ => none) 0 :=
 ⟨.map [], World.ownsMap_made w Tryd.prog S.k _, tidy_empty, rfl, fun k _ => ⟨(fun i h => by cases h), fun _ => rfl⟩⟩
theorem MSpec.Is.look (h : S.Is w mb F n) {x : κ} (hx : S.good x) :
  (Instr.lookup S.M (.map (some mb)) (S.kv x) true).run Tryd.prog w = .ok (.tuple #[S.ev ((F x).getD S.z), .bool (F x).isSome]) w := by
 obtain ⟨D, ho, _, _, hF⟩ := h; obtain ⟨v, ps, hrun, hv⟩ := ho.look_ok S.keyed S.und (S.zero w) (S.pe_ev S.z S.gz) (S.keyOf x hx); cases hf : F x with
 | some i =>
  obtain ⟨h1, h2⟩ := (hF x hx).1 i hf; rw [h2] at hv; rw [hrun, h1, S.pe_inv _ _ _ hv]; rfl
 | none =>
  have h1 := (hF x hx).2 hf; rw [atKey_of_not_has h1] at hv; rw [hrun, h1, S.pe_inv _ _ _ hv]; rfl
theorem MSpec.Is.look1 (h : S.Is w mb F n) {x : κ} (hx : S.good x) :
  (Instr.lookup S.M (.map (some mb)) (S.kv x) false).run Tryd.prog w = .ok (S.ev ((F x).getD S.z)) w := by
 obtain ⟨D, ho, _, _, hF⟩ := h; obtain ⟨v, ps, hrun, hv⟩ := ho.lookup S.keyed S.und (S.zero w) (S.pe_ev S.z S.gz) (S.keyOf x hx); cases hf : F x with
 | some i =>
  obtain ⟨h1, h2⟩ := (hF x hx).1 i hf; rw [h2] at hv; rw [hrun, S.pe_inv _ _ _ hv]; rfl
 | none =>
  have h1 := (hF x hx).2 hf; rw [atKey_of_not_has h1] at hv; rw [hrun, S.pe_inv _ _ _ hv]; rfl
theorem MSpec.Is.put [DecidableEq κ] (h : S.Is w mb F n) (hn : n < maxLen) {x : κ} (hx : S.good x) {a : α} (ha : S.ge a) :
  ∃ w', (Instr.mapUpdate S.M (.map (some mb)) (S.kv x) (S.ev a)).run Tryd.prog w = .ok () w' ∧ S.Is w' mb (fun y => if y = x then some a else F y) (if (F x).isSome then n else n + 1) ∧ w.grownBy w' (some mb) := by
 obtain ⟨D, ho, ht, hs, hF⟩ := h; obtain ⟨w', hrun, ho', hg⟩ := ho.update S.keyed S.und hn (S.keyOf x hx) (S.pe_ev a ha); have hkey : WideAt.IsKeyLit (S.kl x) := S.keyed.one.key ⟨S.kv x, S.keyOf x hx⟩; have ht' : Tidy (D.put (S.kl x) (S.ed a)) := ht.put hkey _; have hsz : size (D.put (S.kl x) (S.ed a)) = if (F x).isSome then n else n + 1 := by
  rw [size_put ht, hs]; cases hf : F x with
  | some i => rw [((hF x hx).1 i hf).1]; rfl
  | none => rw [(hF x hx).2 hf]; rfl
 refine ⟨w', hrun, ⟨_, ?_, ht', hsz, fun y hy => ?_⟩, hg⟩
 ·obtain ⟨es, clock, b1, b2, b3, b4⟩ := ho'; refine ⟨es, clock, b1, b2, ?_, b4⟩; have : size (D.put (S.kl x) (S.ed a)) = es.size := by rw [b4]; simp [size, length_sorted]
  omega
 ·by_cases e : y = x
  ·subst e; simp only [if_true]; exact ⟨(fun i hi => by cases hi; exact ⟨has_put_same ht.isMap hkey _, fun z => atKey_put_same ht.isMap hkey _ z⟩), (fun hi => by cases hi)⟩
  ·have hne : S.kl y ≠ S.kl x := fun h => e (S.inj y x hy hx h)
   simp only [if_neg e]; refine ⟨fun i hi => ?_, fun hi => ?_⟩
   ·obtain ⟨p, q⟩ := (hF y hy).1 i hi; exact ⟨by rw [has_put_other hne]; exact p, fun z => by rw [atKey_put_other hne]; exact q z⟩
   ·rw [has_put_other hne]; exact (hF y hy).2 hi
end
theorem zero4 (w : World) : (zeroValue 4).run Tryd.prog w = .ok (.bool false) w := by kernel_rfl
def peBool (v : Value) : Option (DataW Unit × List MemPlace) := match v with
 | .bool b => some (.lit (.bool b), [])
 | _ => none
theorem pe_bool_inv {v : Value} {a : Bool} {ps : List MemPlace} (h : peBool v = some (.lit (.bool a), ps)) : v = .bool a := by
 unfold peBool at h; split at h
 ·simp only [Option.some.injEq, Prod.mk.injEq, DataW.lit.injEq, Lit.bool.injEq] at h; rw [h.1]
 ·cases h
theorem law9 : Keyed Tryd.prog 9 := string_keyed Tryd.underlying9
theorem keyOf_s {s : ByteArray} (h : s.size ≤ maxLen) : keyOf Tryd.prog 9 (.string s) = some (.string s.data.toList) := Go.WideMaps.keyOf_string_mk Tryd.underlying9 h
noncomputable def mSB : MSpec ByteArray Bool where
 M := 49
 k := 9
 e := 4
 kv := fun s => .string s
 kl := fun s => .string s.data.toList
 good := fun s => s.size ≤ maxLen
 keyed := law9
 und := Tryd.underlying49
 keyOf := fun _ h => keyOf_s h
 inj := fun s t _ _ h => by
  injection h with h
  rw [← str_data s, ← str_data t, h]
 ev := fun b => .bool b
 ed := fun b => .lit (.bool b)
 ge := fun _ => True
 pe := peBool
 pe_ev := fun _ _ => rfl
 pe_inv := fun _ _ _ h => pe_bool_inv h
 z := false
 gz := trivial
 zero := zero4
end Go.Proofs.YtobjmajkcfhpoaaDoor

namespace Go.Proofs.YtobjmajkcfhpoaaDoor
open Go.RowKit
theorem s_cells {A : Nat → Prop} {w : World} {v : Value} {l : List ByteArray} (h : RIn A w 1 v (l.map sR)) {k : Nat} (hk : k < l.length) :
  ∃ x g off cap, l[k]? = some x ∧ x ∈ l ∧ x = l[k] ∧ v = .slice (some ⟨g, off, none⟩) l.length cap ∧ g < w.heap.size ∧ A g ∧ ∀ W, Below w.heap.size w W → W.cell? ⟨g, off + k, none⟩ = some (.string x) := by
 obtain ⟨g, off, cap, hv, hg, hA, hl, hc⟩ := h.at (i := k) (r := sR l[k]) (by rw [List.getElem?_map, List.getElem?_eq_getElem hk]; rfl); refine ⟨l[k], g, off, cap, List.getElem?_eq_getElem hk, List.getElem_mem hk, rfl, by rw [hv, List.length_map], hg, hA, fun W hb => ?_⟩; have q := hc W hb; simpa using q 0 _ rfl
theorem co_cells {A : Nat → Prop} {w : World} {v : Value} {l : List CoP} (h : RIn A w 3 v (l.map CoP.row)) {k : Nat} (hk : k < l.length) :
  ∃ x g off cap, l[k]? = some x ∧ x ∈ l ∧ x = l[k] ∧ v = .slice (some ⟨g, off, none⟩) l.length cap ∧ g < w.heap.size ∧ A g ∧ ∀ W, Below w.heap.size w W → W.cell? ⟨g, off + k * 3, none⟩ = some (.string x.nm) ∧ W.cell? ⟨g, off + k * 3 + 1, none⟩ = some (.string x.fr) ∧ W.cell? ⟨g, off + k * 3 + 2, none⟩ = some (.int .i64 x.cd) := by
 obtain ⟨g, off, cap, hv, hg, hA, hl, hc⟩ := h.at (i := k) (r := CoP.row l[k]) (by rw [List.getElem?_map, List.getElem?_eq_getElem hk]; rfl); refine ⟨l[k], g, off, cap, List.getElem?_eq_getElem hk, List.getElem_mem hk, rfl, by rw [hv, List.length_map], hg, hA, fun W hb => ?_⟩; have q := hc W hb; exact ⟨by simpa using q 0 _ rfl, by simpa using q 1 _ rfl, by simpa using q 2 _ rfl⟩
theorem pr_cells {A : Nat → Prop} {w : World} {v : Value} {l : List PrP} (h : RIn A w 4 v (l.map PrP.row)) {k : Nat} (hk : k < l.length) :
  ∃ x g off cap, l[k]? = some x ∧ x ∈ l ∧ x = l[k] ∧ v = .slice (some ⟨g, off, none⟩) l.length cap ∧ g < w.heap.size ∧ A g ∧ ∀ W, Below w.heap.size w W → W.cell? ⟨g, off + k * 4, none⟩ = some (.string x.nm) ∧ W.cell? ⟨g, off + k * 4 + 1, none⟩ = some (.bool x.st) ∧ W.cell? ⟨g, off + k * 4 + 2, none⟩ = some (.string x.fr) ∧ W.cell? ⟨g, off + k * 4 + 3, none⟩ = some (.int .i64 x.cd) := by
 obtain ⟨g, off, cap, hv, hg, hA, hl, hc⟩ := h.at (i := k) (r := PrP.row l[k]) (by rw [List.getElem?_map, List.getElem?_eq_getElem hk]; rfl); refine ⟨l[k], g, off, cap, List.getElem?_eq_getElem hk, List.getElem_mem hk, rfl, by rw [hv, List.length_map], hg, hA, fun W hb => ?_⟩; have q := hc W hb; exact ⟨by simpa using q 0 _ rfl, by simpa using q 1 _ rfl, by simpa using q 2 _ rfl, by simpa using q 3 _ rfl⟩
theorem mt_cells {A : Nat → Prop} {w : World} {v : Value} {l : List MtP} (h : RIn A w 6 v (l.map MtP.row)) {k : Nat} (hk : k < l.length) :
  ∃ x g off cap, l[k]? = some x ∧ x ∈ l ∧ x = l[k] ∧ v = .slice (some ⟨g, off, none⟩) l.length cap ∧ g < w.heap.size ∧ A g ∧ ∀ W, Below w.heap.size w W → W.cell? ⟨g, off + k * 6, none⟩ = some (.string x.nm) ∧ W.cell? ⟨g, off + k * 6 + 1, none⟩ = some (.bool x.st) ∧ W.cell? ⟨g, off + k * 6 + 2, none⟩ = some (.bool x.ab) ∧ W.cell? ⟨g, off + k * 6 + 3, none⟩ = some (.bool x.fi) ∧ W.cell? ⟨g, off + k * 6 + 4, none⟩ = some (.string x.fr) ∧ W.cell? ⟨g, off + k * 6 + 5, none⟩ = some (.int .i64 x.cd) := by
 obtain ⟨g, off, cap, hv, hg, hA, hl, hc⟩ := h.at (i := k) (r := MtP.row l[k]) (by rw [List.getElem?_map, List.getElem?_eq_getElem hk]; rfl); refine ⟨l[k], g, off, cap, List.getElem?_eq_getElem hk, List.getElem_mem hk, rfl, by rw [hv, List.length_map], hg, hA, fun W hb => ?_⟩; have q := hc W hb; exact ⟨by simpa using q 0 _ rfl, by simpa using q 1 _ rfl, by simpa using q 2 _ rfl, by simpa using q 3 _ rfl, by simpa using q 4 _ rfl, by simpa using q 5 _ rfl⟩
theorem ad_cells {A : Nat → Prop} {w : World} {v : Value} {l : List (AdP × SV)} (h : RIn A w 4 v (l.map AdP.row)) {k : Nat} (hk : k < l.length) :
  ∃ x g off cap, l[k]? = some x ∧ x ∈ l ∧ x = l[k] ∧ v = .slice (some ⟨g, off, none⟩) l.length cap ∧ g < w.heap.size ∧ A g ∧ ∀ W, Below w.heap.size w W → W.cell? ⟨g, off + k * 4, none⟩ = some (.string x.1.tr) ∧ W.cell? ⟨g, off + k * 4 + 1, none⟩ = some (.string x.1.nm) ∧ W.cell? ⟨g, off + k * 4 + 2, none⟩ = some (.slice x.2.o x.2.n x.2.c) ∧ W.cell? ⟨g, off + k * 4 + 3, none⟩ = some (.string x.1.sa) := by
 obtain ⟨g, off, cap, hv, hg, hA, hl, hc⟩ := h.at (i := k) (r := AdP.row l[k]) (by rw [List.getElem?_map, List.getElem?_eq_getElem hk]; rfl); refine ⟨l[k], g, off, cap, List.getElem?_eq_getElem hk, List.getElem_mem hk, rfl, by rw [hv, List.length_map], hg, hA, fun W hb => ?_⟩; have q := hc W hb; exact ⟨by simpa using q 0 _ rfl, by simpa using q 1 _ rfl, by simpa using q 2 _ rfl, by simpa using q 3 _ rfl⟩
theorem kc_cells {A : Nat → Prop} {w : World} {v : Value} {l : List KC} (h : RIn A w 11 v (l.map KC.row)) {k : Nat} (hk : k < l.length) :
  ∃ x g off cap, l[k]? = some x ∧ x ∈ l ∧ x = l[k] ∧ v = .slice (some ⟨g, off, none⟩) l.length cap ∧ g < w.heap.size ∧ A g ∧ ∀ W, Below w.heap.size w W → W.cell? ⟨g, off + k * 11, none⟩ = some (.string x.1.nm) ∧ W.cell? ⟨g, off + k * 11 + 1, none⟩ = some (.int .i64 x.1.kd) ∧ W.cell? ⟨g, off + k * 11 + 2, none⟩ = some (.bool x.1.ab) ∧ W.cell? ⟨g, off + k * 11 + 3, none⟩ = some (.bool x.1.fi) ∧ W.cell? ⟨g, off + k * 11 + 4, none⟩ = some (.string x.1.pa) ∧ W.cell? ⟨g, off + k * 11 + 5, none⟩ = some (.slice x.2.f.o x.2.f.n x.2.f.c) ∧ W.cell? ⟨g, off + k * 11 + 6, none⟩ = some (.slice x.2.t.o x.2.t.n x.2.t.c) ∧ W.cell? ⟨g, off + k * 11 + 7, none⟩ = some (.slice x.2.a.o x.2.a.n x.2.a.c) ∧ W.cell? ⟨g, off + k * 11 + 8, none⟩ = some (.slice x.2.c.o x.2.c.n x.2.c.c) ∧ W.cell? ⟨g, off + k * 11 + 9, none⟩ = some (.slice x.2.p.o x.2.p.n x.2.p.c) ∧ W.cell? ⟨g, off + k * 11 + 10, none⟩ = some (.slice x.2.m.o x.2.m.n x.2.m.c) := by
 obtain ⟨g, off, cap, hv, hg, hA, hl, hc⟩ := h.at (i := k) (r := KC.row l[k]) (by rw [List.getElem?_map, List.getElem?_eq_getElem hk]; rfl); refine ⟨l[k], g, off, cap, List.getElem?_eq_getElem hk, List.getElem_mem hk, rfl, by rw [hv, List.length_map], hg, hA, fun W hb => ?_⟩; have q := hc W hb; exact ⟨by simpa using q 0 _ rfl, by simpa using q 1 _ rfl, by simpa using q 2 _ rfl, by simpa using q 3 _ rfl, by simpa using q 4 _ rfl, by simpa using q 5 _ rfl, by simpa using q 6 _ rfl, by simpa using q 7 _ rfl, by simpa using q 8 _ rfl, by simpa using q 9 _ rfl, by simpa using q 10 _ rfl⟩
end Go.Proofs.YtobjmajkcfhpoaaDoor

namespace Go.Proofs.YtobjmajkcfhpoaaDoor
open Go.RowKit
set_option maxHeartbeats 1600000 in
set_option maxRecDepth 100000 in
theorem index_any {A : Nat → Prop} {v : Value} {l : List ByteArray} {w : World} (s : ByteArray) (hv : RIn A w 1 v (l.map sR)) (hl : l.length ≤ 1073741824) :
  Calls Tryd.prog 54 #[v, .string s] w (fun e w' => e = .returned (.int .i64 (idxI (idxP (eqB s) l))) ∧ w' = w) := by
 obtain ⟨ao, cap, rfl, -, -⟩ := hv.form; rw [List.length_map] at hv ⊢; have HV := Hd hv; obtain ⟨r, hr⟩ : ∃ r, r = idxI (idxP (eqB s) l) := ⟨_, rfl⟩; rw [← hr]; have HR := Hd hr; clear hv hr; go_enter Tryd.func54, Tryd.ntmps54; go_wp2_with fail; go_loopw [5, 8] (fun _ kv wr => ∃ k : Nat, k ≤ l.length ∧ kv = .int .i64 k ∧ wr = w ∧ Hid (∀ j (hj : j < l.length), j < k → eqB s l[j] = false)) (fun _ kv _ => l.length - (intOf kv).toNat)
 case atStart => exact ⟨0, Nat.zero_le _, rfl, rfl, Hd (fun j _ h => absurd h (Nat.not_lt_zero j))⟩
 case round =>
  obtain ⟨k, hk, rfl, rfl, HA⟩ := hrel; by_cases hlt : k < l.length
  ·have hi : (k : Int) < (l.length : Int) := by omega
   obtain ⟨hw', hw⟩ := wr_sm (x := (k : Int) + 1) (by omega) (by omega); obtain ⟨x, g, off, cp, -, -, hx, e, hg, -, hc⟩ := s_cells HV.out hlt; cases e; have c0 := hc wr (Below.refl _ _); obtain ⟨q, hq⟩ : ∃ q, (s.toList == x.toList) = q := ⟨_, rfl⟩; have HQ : Hid (eqB s l[k] = q) := Hd (by rw [← hx]; exact hq); have HLT := Hd hlt; clear hc hx; cases q with
   | true =>
    have hre : r = (k : Int) := by rw [HR.out, idxP_at HLT.out HQ.out HA.out]; rfl
    subst hre; go_wp2_with fail; go_ret; exact ⟨rfl, rfl⟩
   | false =>
    have HA2 : Hid (∀ j (hj : j < l.length), j < k + 1 → eqB s l[j] = false) := Hd (fun j hj h => by
     rcases Nat.lt_succ_iff_lt_or_eq.1 h with h' | rfl
     ·exact HA.out j hj h'
     ·exact HQ.out)
    go_wp2_with fail; go_roundw
    case rel => exact ⟨k + 1, HLT.out, by go_num, by trivial, HA2⟩
    case measure => have := HLT.out; simp [intOf]; omega
  ·obtain rfl : k = l.length := by omega
   have hre : r = -1 := by rw [HR.out, idxP_no (fun j hj => HA.out j hj hj)]; rfl
   subst hre; go_wp2_with fail; go_ret; exact ⟨rfl, rfl⟩
set_option maxHeartbeats 1600000 in
set_option maxRecDepth 100000 in
theorem contains_any {A : Nat → Prop} {v : Value} {l : List ByteArray} {w : World} (s : ByteArray) (hv : RIn A w 1 v (l.map sR)) (hl : l.length ≤ 1073741824) :
  Calls Tryd.prog 22 #[v, .string s] w (fun e w' => e = .returned (.bool (hasB l s)) ∧ w' = w) := by
 obtain ⟨ao, cap, rfl, -, -⟩ := hv.form; rw [List.length_map] at hv ⊢; have HI := index_any s hv hl; have hd := idxI_nonneg (idxP (eqB s) l); rw [idxP_isSome] at hd; have hd : decide (0 ≤ idxI (idxP (eqB s) l)) = hasB l s := hd; obtain ⟨r, hr⟩ : ∃ r, r = idxI (idxP (eqB s) l) := ⟨_, rfl⟩; obtain ⟨b, hb⟩ : ∃ b, b = hasB l s := ⟨_, rfl⟩; rw [← hr] at HI hd; rw [← hb] at hd ⊢; clear hr hb; clear hv; go_enter Tryd.func22, Tryd.ntmps22; go_wp2_with fail; refine HI.mono ?_; rintro _ _ ⟨rfl, rfl⟩; go_wp2_with fail; go_ret; exact ⟨rfl, rfl⟩
def ClonePost (w : World) (e0 : TypeId) (size : Nat) (rows : List (List Value)) (e : Ending) (w' : World) : Prop :=
 ∃ v', e = .returned v' ∧ Owns w' e0 size v' rows ∧ Below w.heap.size w w' ∧ ∀ g, v'.ownBlock = some g → w.heap.size ≤ g
theorem owns_none (w : World) (t : TypeId) (size : Nat) : Owns (w.alloc (.cells #[] t)) t size (.slice (some ⟨w.heap.size, 0, none⟩) 0 0) [] :=
 ⟨⟨by simp, .inr ⟨w.heap.size, 0, #[], by simp, by omega, heap_alloc_new w _, by simp, by simp, by simp, by simp⟩⟩, by simp, by simp⟩
set_option maxRecDepth 100000 in
theorem clone_s_nil (w : World) : Calls Tryd.prog 15 #[.slice none 0 0] w fun e w' => e = .returned (.slice none 0 0) ∧ w = w' := by
 have e1 : (binOp .eql 23 (.slice none 0 0) (.slice none 0 0)).run Tryd.prog w = .ok (.bool true) w := run_eql_slice_nil w 23 9 none 0 0 Tryd.underlying23; go_enter Tryd.func15, Tryd.ntmps15; go_wp2; go_ret; exact ⟨rfl, rfl⟩
set_option maxRecDepth 100000 in
set_option maxHeartbeats 800000 in
theorem clone_s {A : Nat → Prop} {v : Value} {l : List ByteArray} {w : World} (hv : RIn A w 1 v (l.map sR)) (hl : l.length ≤ 1073741824) : Calls Tryd.prog 15 #[v] w (ClonePost w 9 1 (l.map sR)) := by
 obtain ⟨ao, cap, rfl, hn, hlies⟩ := hv.form; cases ao with
 | none =>
  obtain ⟨h0, rfl⟩ := hn rfl; rw [h0]; refine (clone_s_nil w).mono ?_; rintro e w' ⟨rfl, rfl⟩; exact ⟨_, rfl, Owns.empty _ _ _, Below.refl _ _, by simp [Value.ownBlock]⟩
 | some ad =>
  have e1 : (binOp .eql 23 (.slice (some ad) l.length cap) (.slice none 0 0)).run Tryd.prog w = .ok (.bool false) w := run_eql_slice_nil w 23 9 _ _ _ Tryd.underlying23; rw [List.length_map]; have hn2 : Hid (l.length = (l.map sR).length) := Hd (List.length_map _).symm; have hO := Hd (owns_none w 9 1); have hL : Hid (Lies (w.alloc (.cells #[] 9)) 1 (some ad) (l.map sR)) := hlies.kept fun g' off e hg => ⟨Below.heap_alloc _ _ _ hg, by simp; omega⟩
  have hr1 : Hid (([] : List (List Value)).length + (l.map sR).length ≤ maxLen) := by show _ ≤ _; unfold maxLen; simp; omega
  have hr2 : Hid ((([] : List (List Value)).length + (l.map sR).length) * 16 ≤ 140737488355328) := by show _ ≤ _; simp; omega
  clear hlies hv hn; go_enter Tryd.func15, Tryd.ntmps15; go_wp2_with (at_builtin; refine wpList_append_rows rfl (.tmp 5) (.tmp 6) 23 rfl 9 _ 1 16 Tryd.underlying23 info9 rfl (by decide) (.slice (some ⟨w.heap.size, 0, none⟩) 0 0) [] rfl hO.out (some ad) l.length cap (l.map sR) rfl hn2.out (fun e => by cases e) hL.out (sR_one _) (sR_len _) hr1.out (by have h := hr2.out; omega) ?_; intro v3 w3 o3 g3 b3; have O3 := Hd o3; have G3 := Hd g3; have B3 := Hd b3; clear o3 g3 b3); have o3 := O3.out; rw [List.nil_append] at o3; go_ret; refine ⟨v3, rfl, o3, ?_, fun k hk => ?_⟩
  ·have hm : Mod (fun k => w.heap.size ≤ k) w w3 := ((Mod.refl _ w).alloc _).grown G3.out (fun k e hk => by simp [Value.ownBlock] at e; omega); exact ⟨hm.os, hm.tape, hm.output, hm.size, fun k hk => hm.block k hk (by omega)⟩
  ·rcases B3.out with e | ⟨j, e, hj⟩
   ·rw [e] at hk; simp [Value.ownBlock] at hk; omega
   ·rw [e] at hk; cases hk; simp at hj; omega
set_option maxRecDepth 100000 in
theorem clone_co_nil (w : World) : Calls Tryd.prog 44 #[.slice none 0 0] w fun e w' => e = .returned (.slice none 0 0) ∧ w = w' := by
 have e1 : (binOp .eql 25 (.slice none 0 0) (.slice none 0 0)).run Tryd.prog w = .ok (.bool true) w := run_eql_slice_nil w 25 66 none 0 0 Tryd.underlying25; go_enter Tryd.func44, Tryd.ntmps44; go_wp2; go_ret; exact ⟨rfl, rfl⟩
set_option maxRecDepth 100000 in
set_option maxHeartbeats 800000 in
theorem clone_co {A : Nat → Prop} {v : Value} {l : List CoP} {w : World} (hv : RIn A w 3 v (l.map CoP.row)) (hl : l.length ≤ 1073741824) : Calls Tryd.prog 44 #[v] w (ClonePost w 66 3 (l.map CoP.row)) := by
 obtain ⟨ao, cap, rfl, hn, hlies⟩ := hv.form; cases ao with
 | none =>
  obtain ⟨h0, rfl⟩ := hn rfl; rw [h0]; refine (clone_co_nil w).mono ?_; rintro e w' ⟨rfl, rfl⟩; exact ⟨_, rfl, Owns.empty _ _ _, Below.refl _ _, by simp [Value.ownBlock]⟩
 | some ad =>
  have e1 : (binOp .eql 25 (.slice (some ad) l.length cap) (.slice none 0 0)).run Tryd.prog w = .ok (.bool false) w := run_eql_slice_nil w 25 66 _ _ _ Tryd.underlying25; rw [List.length_map]; have hn2 : Hid (l.length = (l.map CoP.row).length) := Hd (List.length_map _).symm; have hO := Hd (owns_none w 66 3); have hL : Hid (Lies (w.alloc (.cells #[] 66)) 3 (some ad) (l.map CoP.row)) := hlies.kept fun g' off e hg => ⟨Below.heap_alloc _ _ _ hg, by simp; omega⟩
  have hr1 : Hid (([] : List (List Value)).length + (l.map CoP.row).length ≤ maxLen) := by show _ ≤ _; unfold maxLen; simp; omega
  have hr2 : Hid ((([] : List (List Value)).length + (l.map CoP.row).length) * 40 ≤ 140737488355328) := by show _ ≤ _; simp; omega
  clear hlies hv hn; go_enter Tryd.func44, Tryd.ntmps44; go_wp2_with (at_builtin; refine wpList_append_rows rfl (.tmp 5) (.tmp 6) 25 rfl 66 _ 3 40 Tryd.underlying25 info66 rfl (by decide) (.slice (some ⟨w.heap.size, 0, none⟩) 0 0) [] rfl hO.out (some ad) l.length cap (l.map CoP.row) rfl hn2.out (fun e => by cases e) hL.out (co_one _) (co_len _) hr1.out (by have h := hr2.out; omega) ?_; intro v3 w3 o3 g3 b3; have O3 := Hd o3; have G3 := Hd g3; have B3 := Hd b3; clear o3 g3 b3); have o3 := O3.out; rw [List.nil_append] at o3; go_ret; refine ⟨v3, rfl, o3, ?_, fun k hk => ?_⟩
  ·have hm : Mod (fun k => w.heap.size ≤ k) w w3 := ((Mod.refl _ w).alloc _).grown G3.out (fun k e hk => by simp [Value.ownBlock] at e; omega); exact ⟨hm.os, hm.tape, hm.output, hm.size, fun k hk => hm.block k hk (by omega)⟩
  ·rcases B3.out with e | ⟨j, e, hj⟩
   ·rw [e] at hk; simp [Value.ownBlock] at hk; omega
   ·rw [e] at hk; cases hk; simp at hj; omega
set_option maxRecDepth 100000 in
theorem clone_pr_nil (w : World) : Calls Tryd.prog 46 #[.slice none 0 0] w fun e w' => e = .returned (.slice none 0 0) ∧ w = w' := by
 have e1 : (binOp .eql 26 (.slice none 0 0) (.slice none 0 0)).run Tryd.prog w = .ok (.bool true) w := run_eql_slice_nil w 26 45 none 0 0 Tryd.underlying26; go_enter Tryd.func46, Tryd.ntmps46; go_wp2; go_ret; exact ⟨rfl, rfl⟩
set_option maxRecDepth 100000 in
set_option maxHeartbeats 800000 in
theorem clone_pr {A : Nat → Prop} {v : Value} {l : List PrP} {w : World} (hv : RIn A w 4 v (l.map PrP.row)) (hl : l.length ≤ 1073741824) : Calls Tryd.prog 46 #[v] w (ClonePost w 45 4 (l.map PrP.row)) := by
 obtain ⟨ao, cap, rfl, hn, hlies⟩ := hv.form; cases ao with
 | none =>
  obtain ⟨h0, rfl⟩ := hn rfl; rw [h0]; refine (clone_pr_nil w).mono ?_; rintro e w' ⟨rfl, rfl⟩; exact ⟨_, rfl, Owns.empty _ _ _, Below.refl _ _, by simp [Value.ownBlock]⟩
 | some ad =>
  have e1 : (binOp .eql 26 (.slice (some ad) l.length cap) (.slice none 0 0)).run Tryd.prog w = .ok (.bool false) w := run_eql_slice_nil w 26 45 _ _ _ Tryd.underlying26; rw [List.length_map]; have hn2 : Hid (l.length = (l.map PrP.row).length) := Hd (List.length_map _).symm; have hO := Hd (owns_none w 45 4); have hL : Hid (Lies (w.alloc (.cells #[] 45)) 4 (some ad) (l.map PrP.row)) := hlies.kept fun g' off e hg => ⟨Below.heap_alloc _ _ _ hg, by simp; omega⟩
  have hr1 : Hid (([] : List (List Value)).length + (l.map PrP.row).length ≤ maxLen) := by show _ ≤ _; unfold maxLen; simp; omega
  have hr2 : Hid ((([] : List (List Value)).length + (l.map PrP.row).length) * 48 ≤ 140737488355328) := by show _ ≤ _; simp; omega
  clear hlies hv hn; go_enter Tryd.func46, Tryd.ntmps46; go_wp2_with (at_builtin; refine wpList_append_rows rfl (.tmp 5) (.tmp 6) 26 rfl 45 _ 4 48 Tryd.underlying26 info45 rfl (by decide) (.slice (some ⟨w.heap.size, 0, none⟩) 0 0) [] rfl hO.out (some ad) l.length cap (l.map PrP.row) rfl hn2.out (fun e => by cases e) hL.out (pr_one _) (pr_len _) hr1.out (by have h := hr2.out; omega) ?_; intro v3 w3 o3 g3 b3; have O3 := Hd o3; have G3 := Hd g3; have B3 := Hd b3; clear o3 g3 b3); have o3 := O3.out; rw [List.nil_append] at o3; go_ret; refine ⟨v3, rfl, o3, ?_, fun k hk => ?_⟩
  ·have hm : Mod (fun k => w.heap.size ≤ k) w w3 := ((Mod.refl _ w).alloc _).grown G3.out (fun k e hk => by simp [Value.ownBlock] at e; omega); exact ⟨hm.os, hm.tape, hm.output, hm.size, fun k hk => hm.block k hk (by omega)⟩
  ·rcases B3.out with e | ⟨j, e, hj⟩
   ·rw [e] at hk; simp [Value.ownBlock] at hk; omega
   ·rw [e] at hk; cases hk; simp at hj; omega
set_option maxRecDepth 100000 in
theorem clone_mt_nil (w : World) : Calls Tryd.prog 48 #[.slice none 0 0] w fun e w' => e = .returned (.slice none 0 0) ∧ w = w' := by
 have e1 : (binOp .eql 27 (.slice none 0 0) (.slice none 0 0)).run Tryd.prog w = .ok (.bool true) w := run_eql_slice_nil w 27 34 none 0 0 Tryd.underlying27; go_enter Tryd.func48, Tryd.ntmps48; go_wp2; go_ret; exact ⟨rfl, rfl⟩
set_option maxRecDepth 100000 in
set_option maxHeartbeats 800000 in
theorem clone_mt {A : Nat → Prop} {v : Value} {l : List MtP} {w : World} (hv : RIn A w 6 v (l.map MtP.row)) (hl : l.length ≤ 1073741824) : Calls Tryd.prog 48 #[v] w (ClonePost w 34 6 (l.map MtP.row)) := by
 obtain ⟨ao, cap, rfl, hn, hlies⟩ := hv.form; cases ao with
 | none =>
  obtain ⟨h0, rfl⟩ := hn rfl; rw [h0]; refine (clone_mt_nil w).mono ?_; rintro e w' ⟨rfl, rfl⟩; exact ⟨_, rfl, Owns.empty _ _ _, Below.refl _ _, by simp [Value.ownBlock]⟩
 | some ad =>
  have e1 : (binOp .eql 27 (.slice (some ad) l.length cap) (.slice none 0 0)).run Tryd.prog w = .ok (.bool false) w := run_eql_slice_nil w 27 34 _ _ _ Tryd.underlying27; rw [List.length_map]; have hn2 : Hid (l.length = (l.map MtP.row).length) := Hd (List.length_map _).symm; have hO := Hd (owns_none w 34 6); have hL : Hid (Lies (w.alloc (.cells #[] 34)) 6 (some ad) (l.map MtP.row)) := hlies.kept fun g' off e hg => ⟨Below.heap_alloc _ _ _ hg, by simp; omega⟩
  have hr1 : Hid (([] : List (List Value)).length + (l.map MtP.row).length ≤ maxLen) := by show _ ≤ _; unfold maxLen; simp; omega
  have hr2 : Hid ((([] : List (List Value)).length + (l.map MtP.row).length) * 48 ≤ 140737488355328) := by show _ ≤ _; simp; omega
  clear hlies hv hn; go_enter Tryd.func48, Tryd.ntmps48; go_wp2_with (at_builtin; refine wpList_append_rows rfl (.tmp 5) (.tmp 6) 27 rfl 34 _ 6 48 Tryd.underlying27 info34 rfl (by decide) (.slice (some ⟨w.heap.size, 0, none⟩) 0 0) [] rfl hO.out (some ad) l.length cap (l.map MtP.row) rfl hn2.out (fun e => by cases e) hL.out (mt_one _) (mt_len _) hr1.out (by have h := hr2.out; omega) ?_; intro v3 w3 o3 g3 b3; have O3 := Hd o3; have G3 := Hd g3; have B3 := Hd b3; clear o3 g3 b3); have o3 := O3.out; rw [List.nil_append] at o3; go_ret; refine ⟨v3, rfl, o3, ?_, fun k hk => ?_⟩
  ·have hm : Mod (fun k => w.heap.size ≤ k) w w3 := ((Mod.refl _ w).alloc _).grown G3.out (fun k e hk => by simp [Value.ownBlock] at e; omega); exact ⟨hm.os, hm.tape, hm.output, hm.size, fun k hk => hm.block k hk (by omega)⟩
  ·rcases B3.out with e | ⟨j, e, hj⟩
   ·rw [e] at hk; simp [Value.ownBlock] at hk; omega
   ·rw [e] at hk; cases hk; simp at hj; omega
end Go.Proofs.YtobjmajkcfhpoaaDoor
