/-
  One row of each kind, as it lies in a later world (printed by genSeq17.py).
-/
import Derived.Test.YtobjmajkcfhpoaaDoorRows17
namespace Go.Proofs.YtobjmajkcfhpoaaDoor
open Go.RowKit

theorem s_cells {A : Nat → Prop} {w : World} {v : Value} {l : List ByteArray} (h : RIn A w 1 v (l.map sR)) {k : Nat} (hk : k < l.length) :
    ∃ x g off cap, l[k]? = some x ∧ x ∈ l ∧ x = l[k] ∧ v = .slice (some ⟨g, off, none⟩) l.length cap ∧ g < w.heap.size ∧ A g ∧ ∀ W, Below w.heap.size w W → W.cell? ⟨g, off + k, none⟩ = some (.string x) := by
  obtain ⟨g, off, cap, hv, hg, hA, hl, hc⟩ := h.at (i := k) (r := sR l[k]) (by rw [List.getElem?_map, List.getElem?_eq_getElem hk]; rfl)
  refine ⟨l[k], g, off, cap, List.getElem?_eq_getElem hk, List.getElem_mem hk, rfl, by rw [hv, List.length_map], hg, hA, fun W hb => ?_⟩
  have q := hc W hb
  simpa using q 0 _ rfl
theorem co_cells {A : Nat → Prop} {w : World} {v : Value} {l : List CoP} (h : RIn A w 3 v (l.map CoP.row)) {k : Nat} (hk : k < l.length) :
    ∃ x g off cap, l[k]? = some x ∧ x ∈ l ∧ x = l[k] ∧ v = .slice (some ⟨g, off, none⟩) l.length cap ∧ g < w.heap.size ∧ A g ∧ ∀ W, Below w.heap.size w W → W.cell? ⟨g, off + k * 3, none⟩ = some (.string x.nm) ∧ W.cell? ⟨g, off + k * 3 + 1, none⟩ = some (.string x.fr) ∧ W.cell? ⟨g, off + k * 3 + 2, none⟩ = some (.int .i64 x.cd) := by
  obtain ⟨g, off, cap, hv, hg, hA, hl, hc⟩ := h.at (i := k) (r := CoP.row l[k]) (by rw [List.getElem?_map, List.getElem?_eq_getElem hk]; rfl)
  refine ⟨l[k], g, off, cap, List.getElem?_eq_getElem hk, List.getElem_mem hk, rfl, by rw [hv, List.length_map], hg, hA, fun W hb => ?_⟩
  have q := hc W hb
  exact ⟨by simpa using q 0 _ rfl, by simpa using q 1 _ rfl, by simpa using q 2 _ rfl⟩
theorem pr_cells {A : Nat → Prop} {w : World} {v : Value} {l : List PrP} (h : RIn A w 4 v (l.map PrP.row)) {k : Nat} (hk : k < l.length) :
    ∃ x g off cap, l[k]? = some x ∧ x ∈ l ∧ x = l[k] ∧ v = .slice (some ⟨g, off, none⟩) l.length cap ∧ g < w.heap.size ∧ A g ∧ ∀ W, Below w.heap.size w W → W.cell? ⟨g, off + k * 4, none⟩ = some (.string x.nm) ∧ W.cell? ⟨g, off + k * 4 + 1, none⟩ = some (.bool x.st) ∧ W.cell? ⟨g, off + k * 4 + 2, none⟩ = some (.string x.fr) ∧ W.cell? ⟨g, off + k * 4 + 3, none⟩ = some (.int .i64 x.cd) := by
  obtain ⟨g, off, cap, hv, hg, hA, hl, hc⟩ := h.at (i := k) (r := PrP.row l[k]) (by rw [List.getElem?_map, List.getElem?_eq_getElem hk]; rfl)
  refine ⟨l[k], g, off, cap, List.getElem?_eq_getElem hk, List.getElem_mem hk, rfl, by rw [hv, List.length_map], hg, hA, fun W hb => ?_⟩
  have q := hc W hb
  exact ⟨by simpa using q 0 _ rfl, by simpa using q 1 _ rfl, by simpa using q 2 _ rfl, by simpa using q 3 _ rfl⟩
theorem mt_cells {A : Nat → Prop} {w : World} {v : Value} {l : List MtP} (h : RIn A w 6 v (l.map MtP.row)) {k : Nat} (hk : k < l.length) :
    ∃ x g off cap, l[k]? = some x ∧ x ∈ l ∧ x = l[k] ∧ v = .slice (some ⟨g, off, none⟩) l.length cap ∧ g < w.heap.size ∧ A g ∧ ∀ W, Below w.heap.size w W → W.cell? ⟨g, off + k * 6, none⟩ = some (.string x.nm) ∧ W.cell? ⟨g, off + k * 6 + 1, none⟩ = some (.bool x.st) ∧ W.cell? ⟨g, off + k * 6 + 2, none⟩ = some (.bool x.ab) ∧ W.cell? ⟨g, off + k * 6 + 3, none⟩ = some (.bool x.fi) ∧ W.cell? ⟨g, off + k * 6 + 4, none⟩ = some (.string x.fr) ∧ W.cell? ⟨g, off + k * 6 + 5, none⟩ = some (.int .i64 x.cd) := by
  obtain ⟨g, off, cap, hv, hg, hA, hl, hc⟩ := h.at (i := k) (r := MtP.row l[k]) (by rw [List.getElem?_map, List.getElem?_eq_getElem hk]; rfl)
  refine ⟨l[k], g, off, cap, List.getElem?_eq_getElem hk, List.getElem_mem hk, rfl, by rw [hv, List.length_map], hg, hA, fun W hb => ?_⟩
  have q := hc W hb
  exact ⟨by simpa using q 0 _ rfl, by simpa using q 1 _ rfl, by simpa using q 2 _ rfl, by simpa using q 3 _ rfl, by simpa using q 4 _ rfl, by simpa using q 5 _ rfl⟩
theorem ad_cells {A : Nat → Prop} {w : World} {v : Value} {l : List (AdP × SV)} (h : RIn A w 4 v (l.map AdP.row)) {k : Nat} (hk : k < l.length) :
    ∃ x g off cap, l[k]? = some x ∧ x ∈ l ∧ x = l[k] ∧ v = .slice (some ⟨g, off, none⟩) l.length cap ∧ g < w.heap.size ∧ A g ∧ ∀ W, Below w.heap.size w W → W.cell? ⟨g, off + k * 4, none⟩ = some (.string x.1.tr) ∧ W.cell? ⟨g, off + k * 4 + 1, none⟩ = some (.string x.1.nm) ∧ W.cell? ⟨g, off + k * 4 + 2, none⟩ = some (.slice x.2.o x.2.n x.2.c) ∧ W.cell? ⟨g, off + k * 4 + 3, none⟩ = some (.string x.1.sa) := by
  obtain ⟨g, off, cap, hv, hg, hA, hl, hc⟩ := h.at (i := k) (r := AdP.row l[k]) (by rw [List.getElem?_map, List.getElem?_eq_getElem hk]; rfl)
  refine ⟨l[k], g, off, cap, List.getElem?_eq_getElem hk, List.getElem_mem hk, rfl, by rw [hv, List.length_map], hg, hA, fun W hb => ?_⟩
  have q := hc W hb
  exact ⟨by simpa using q 0 _ rfl, by simpa using q 1 _ rfl, by simpa using q 2 _ rfl, by simpa using q 3 _ rfl⟩
theorem kc_cells {A : Nat → Prop} {w : World} {v : Value} {l : List KC} (h : RIn A w 11 v (l.map KC.row)) {k : Nat} (hk : k < l.length) :
    ∃ x g off cap, l[k]? = some x ∧ x ∈ l ∧ x = l[k] ∧ v = .slice (some ⟨g, off, none⟩) l.length cap ∧ g < w.heap.size ∧ A g ∧ ∀ W, Below w.heap.size w W → W.cell? ⟨g, off + k * 11, none⟩ = some (.string x.1.nm) ∧ W.cell? ⟨g, off + k * 11 + 1, none⟩ = some (.int .i64 x.1.kd) ∧ W.cell? ⟨g, off + k * 11 + 2, none⟩ = some (.bool x.1.ab) ∧ W.cell? ⟨g, off + k * 11 + 3, none⟩ = some (.bool x.1.fi) ∧ W.cell? ⟨g, off + k * 11 + 4, none⟩ = some (.string x.1.pa) ∧ W.cell? ⟨g, off + k * 11 + 5, none⟩ = some (.slice x.2.f.o x.2.f.n x.2.f.c) ∧ W.cell? ⟨g, off + k * 11 + 6, none⟩ = some (.slice x.2.t.o x.2.t.n x.2.t.c) ∧ W.cell? ⟨g, off + k * 11 + 7, none⟩ = some (.slice x.2.a.o x.2.a.n x.2.a.c) ∧ W.cell? ⟨g, off + k * 11 + 8, none⟩ = some (.slice x.2.c.o x.2.c.n x.2.c.c) ∧ W.cell? ⟨g, off + k * 11 + 9, none⟩ = some (.slice x.2.p.o x.2.p.n x.2.p.c) ∧ W.cell? ⟨g, off + k * 11 + 10, none⟩ = some (.slice x.2.m.o x.2.m.n x.2.m.c) := by
  obtain ⟨g, off, cap, hv, hg, hA, hl, hc⟩ := h.at (i := k) (r := KC.row l[k]) (by rw [List.getElem?_map, List.getElem?_eq_getElem hk]; rfl)
  refine ⟨l[k], g, off, cap, List.getElem?_eq_getElem hk, List.getElem_mem hk, rfl, by rw [hv, List.length_map], hg, hA, fun W hb => ?_⟩
  have q := hc W hb
  exact ⟨by simpa using q 0 _ rfl, by simpa using q 1 _ rfl, by simpa using q 2 _ rfl, by simpa using q 3 _ rfl, by simpa using q 4 _ rfl, by simpa using q 5 _ rfl, by simpa using q 6 _ rfl, by simpa using q 7 _ rfl, by simpa using q 8 _ rfl, by simpa using q 9 _ rfl, by simpa using q 10 _ rfl⟩
end Go.Proofs.YtobjmajkcfhpoaaDoor
