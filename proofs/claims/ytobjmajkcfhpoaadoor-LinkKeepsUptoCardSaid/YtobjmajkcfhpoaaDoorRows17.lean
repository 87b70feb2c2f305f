/-
  Rows that a slice value reads; classes in memory.
-/
import Derived.Test.YtobjmajkcfhpoaaDoorPlain17
namespace Go.Proofs.YtobjmajkcfhpoaaDoor
open Go.RowKit

/-- A slice value reads these rows, in blocks of A. -/
def RIn (A : Nat → Prop) (w : World) (size : Nat) (v : Value) (rows : List (List Value)) : Prop :=
  ∃ ao cap, v = .slice ao rows.length cap ∧ Lies w size ao rows ∧ (∀ g off, ao = some ⟨g, off, none⟩ → rows ≠ [] → A g) ∧ (ao = none → rows = [] ∧ cap = 0)
def AnyB : Nat → Prop := fun _ => True
section
variable {A B : Nat → Prop} {w w' : World} {size : Nat} {v : Value} {rows : List (List Value)}
theorem RIn.form (h : RIn A w size v rows) : ∃ ao cap, v = .slice ao rows.length cap ∧ (ao = none → rows = [] ∧ cap = 0) ∧ Lies w size ao rows := by
  obtain ⟨ao, cap, hv, hl, -, hn⟩ := h
  exact ⟨ao, cap, hv, hn, hl⟩
theorem RIn.kept (h : RIn A w size v rows) (hk : ∀ g, A g → g < w.heap.size → w'.heap[g]? = w.heap[g]? ∧ g < w'.heap.size ∧ B g) : RIn B w' size v rows := by
  obtain ⟨ao, cap, hv, hl, ha, hn⟩ := h
  by_cases h0 : rows = []
  · subst h0
    exact ⟨ao, cap, hv, Lies.nil _ _ _, fun _ _ _ h => absurd rfl h, hn⟩
  · refine ⟨ao, cap, hv, hl.kept fun g off e hg => ?_, fun g off e _ => ?_, hn⟩
    · obtain ⟨h1, h2, -⟩ := hk g (ha g off e h0) hg
      exact ⟨h1, h2⟩
    · obtain ⟨r, rest, rfl⟩ := List.exists_cons_of_ne_nil h0
      obtain ⟨g', off', e', hg, -, -⟩ := hl 0 r rfl
      rw [e] at e'
      cases e'
      exact (hk g (ha g off e h0) hg).2.2
theorem RIn.under (h : RIn A w size v rows) (hb : Below w.heap.size w w') : RIn A w' size v rows := h.kept fun g hA hg => ⟨hb.block g hg, Nat.lt_of_lt_of_le hg hb.size, hA⟩
theorem RIn.weak (h : RIn A w size v rows) (hk : ∀ g, A g → g < w.heap.size → B g) : RIn B w size v rows := h.kept fun g hA hg => ⟨rfl, hg, hk g hA hg⟩
theorem RIn.of_owns {e : TypeId} (h : Owns w e size v rows) (hA : ∀ g, v.ownBlock = some g → A g) : RIn A w size v rows := by
  obtain ⟨ao, cap, hv, -, -, hl, hn, hg⟩ := h.any
  exact ⟨ao, cap, hv, hl, fun g off e _ => hA g (hg g off e).2, hn⟩
theorem RIn.nil : RIn A w size (.slice none 0 0) [] := ⟨none, 0, rfl, Lies.nil _ _ _, fun _ _ e => (by cases e), fun _ => ⟨rfl, rfl⟩⟩
/-- One row, as it lies in any later world. -/
theorem RIn.at (h : RIn A w size v rows) {i : Nat} {r : List Value} (hi : rows[i]? = some r) : ∃ g off cap, v = .slice (some ⟨g, off, none⟩) rows.length cap ∧ g < w.heap.size ∧ A g ∧ r.length = size ∧ ∀ W, Below w.heap.size w W → ∀ j u, r[j]? = some u → W.cell? ⟨g, off + i * size + j, none⟩ = some u := by
  obtain ⟨ao, cap, rfl, hl, ha, -⟩ := h
  obtain ⟨g, off, rfl, hg, hlen, hc⟩ := hl i r hi
  refine ⟨g, off, cap, rfl, hg, ha g off rfl (fun e => by rw [e] at hi; cases hi), hlen, fun W hb j u hj => ?_⟩
  exact (hb.cell (p := ⟨g, _, none⟩) hg).trans (hc j u hj)
end
/-- Rules in memory. -/
def AdIn (A : Nat → Prop) (w : World) (v : Value) (ads : List AdP) : Prop := ∃ xs : List (AdP × SV), xs.map (·.1) = ads ∧ RIn A w 4 v (xs.map AdP.row) ∧ ∀ x ∈ xs, RIn A w 1 (.slice x.2.o x.2.n x.2.c) (x.1.ot.map sR)
/-- A class in memory. -/
structure ClIn (A : Nat → Prop) (w : World) (c : ClP) (V : VS6) : Prop where
  hf : RIn A w 1 (.slice V.f.o V.f.n V.f.c) (c.fs.map sR)
  ht : RIn A w 1 (.slice V.t.o V.t.n V.t.c) (c.ts.map sR)
  ha : AdIn A w (.slice V.a.o V.a.n V.a.c) c.ad
  hc : RIn A w 3 (.slice V.c.o V.c.n V.c.c) (c.cs.map CoP.row)
  hp : RIn A w 4 (.slice V.p.o V.p.n V.p.c) (c.ps.map PrP.row)
  hm : RIn A w 6 (.slice V.m.o V.m.n V.m.c) (c.ms.map MtP.row)
/-- Classes behind a slice value. -/
structure KnIn (A B : Nat → Prop) (w : World) (v : Value) (kn : List KC) : Prop where
  rows : RIn A w 11 v (kn.map KC.row)
  cls : ∀ x ∈ kn, ClIn B w x.1 x.2
section
variable {A B A' B' : Nat → Prop} {w w' : World} {v : Value}
theorem AdIn.kept {ads : List AdP} (h : AdIn A w v ads) (hk : ∀ g, A g → g < w.heap.size → w'.heap[g]? = w.heap[g]? ∧ g < w'.heap.size ∧ B g) : AdIn B w' v ads := by
  obtain ⟨xs, e, h1, h2⟩ := h
  exact ⟨xs, e, h1.kept hk, fun x hx => (h2 x hx).kept hk⟩
theorem ClIn.kept {c : ClP} {V : VS6} (h : ClIn A w c V) (hk : ∀ g, A g → g < w.heap.size → w'.heap[g]? = w.heap[g]? ∧ g < w'.heap.size ∧ B g) : ClIn B w' c V :=
  ⟨h.hf.kept hk, h.ht.kept hk, h.ha.kept hk, h.hc.kept hk, h.hp.kept hk, h.hm.kept hk⟩
theorem ClIn.under {c : ClP} {V : VS6} (h : ClIn A w c V) (hb : Below w.heap.size w w') : ClIn A w' c V := h.kept fun g hA hg => ⟨hb.block g hg, Nat.lt_of_lt_of_le hg hb.size, hA⟩
theorem KnIn.under {kn : List KC} (h : KnIn A B w v kn) (hb : Below w.heap.size w w') : KnIn A B w' v kn := ⟨h.rows.under hb, fun x hx => (h.cls x hx).under hb⟩
theorem AdIn.nil : AdIn A w (.slice none 0 0) [] := ⟨[], rfl, RIn.nil, fun _ h => by cases h⟩
theorem ClIn.zero : ClIn A w ClP.nil VS6.nil := ⟨RIn.nil, RIn.nil, AdIn.nil, RIn.nil, RIn.nil, RIn.nil⟩
theorem KnIn.zero : KnIn A B w (.slice none 0 0) [] := ⟨RIn.nil, fun _ h => by cases h⟩
end
theorem sR_one (ls : List ByteArray) : ∀ r ∈ ls.map sR, ∀ u ∈ r, u.oneCell' = true := by
  intro r hr u hu
  obtain ⟨x, _, rfl⟩ := List.mem_map.1 hr
  simp [sR] at hu
  subst hu; rfl
theorem sR_len (ls : List ByteArray) : ∀ r ∈ ls.map sR, r.length = 1 := by
  intro r hr
  obtain ⟨x, _, rfl⟩ := List.mem_map.1 hr
  rfl
theorem co_one (ls : List CoP) : ∀ r ∈ ls.map CoP.row, ∀ u ∈ r, u.oneCell' = true := by
  intro r hr u hu
  obtain ⟨x, _, rfl⟩ := List.mem_map.1 hr
  simp [CoP.row] at hu
  rcases hu with rfl | rfl | rfl <;> rfl
theorem co_len (ls : List CoP) : ∀ r ∈ ls.map CoP.row, r.length = 3 := by
  intro r hr
  obtain ⟨x, _, rfl⟩ := List.mem_map.1 hr
  rfl
theorem pr_one (ls : List PrP) : ∀ r ∈ ls.map PrP.row, ∀ u ∈ r, u.oneCell' = true := by
  intro r hr u hu
  obtain ⟨x, _, rfl⟩ := List.mem_map.1 hr
  simp [PrP.row] at hu
  rcases hu with rfl | rfl | rfl | rfl <;> rfl
theorem pr_len (ls : List PrP) : ∀ r ∈ ls.map PrP.row, r.length = 4 := by
  intro r hr
  obtain ⟨x, _, rfl⟩ := List.mem_map.1 hr
  rfl
theorem mt_one (ls : List MtP) : ∀ r ∈ ls.map MtP.row, ∀ u ∈ r, u.oneCell' = true := by
  intro r hr u hu
  obtain ⟨x, _, rfl⟩ := List.mem_map.1 hr
  simp [MtP.row] at hu
  rcases hu with rfl | rfl | rfl | rfl | rfl | rfl <;> rfl
theorem mt_len (ls : List MtP) : ∀ r ∈ ls.map MtP.row, r.length = 6 := by
  intro r hr
  obtain ⟨x, _, rfl⟩ := List.mem_map.1 hr
  rfl
theorem info9 : (Tryd.prog.info? 9).map (fun i => (i.zero, i.size, i.bytes)) = some (some (.string .empty), 1, 16) := by kernel_rfl
theorem info66 : (Tryd.prog.info? 66).map (fun i => (i.zero, i.size, i.bytes)) = some (some (.agg #[.string .empty, .string .empty, .int .i64 0]), 3, 40) := by kernel_rfl
theorem info45 : (Tryd.prog.info? 45).map (fun i => (i.zero, i.size, i.bytes)) = some (some (.agg #[.string .empty, .bool false, .string .empty, .int .i64 0]), 4, 48) := by kernel_rfl
theorem info34 : (Tryd.prog.info? 34).map (fun i => (i.zero, i.size, i.bytes)) = some (some (.agg #[.string .empty, .bool false, .bool false, .bool false, .string .empty, .int .i64 0]), 6, 48) := by kernel_rfl
theorem info54 : (Tryd.prog.info? 54).map (fun i => (i.zero, i.size, i.bytes)) = some (some (.agg #[.string .empty, .string .empty, .slice none 0 0, .string .empty]), 4, 72) := by kernel_rfl
theorem info29 : (Tryd.prog.info? 29).map (fun i => (i.zero, i.size, i.bytes)) = some (some (.agg #[.string .empty, .int .i64 0, .bool false, .bool false, .string .empty, .slice none 0 0, .slice none 0 0, .slice none 0 0, .slice none 0 0, .slice none 0 0, .slice none 0 0]), 11, 192) := by kernel_rfl
end Go.Proofs.YtobjmajkcfhpoaaDoor
