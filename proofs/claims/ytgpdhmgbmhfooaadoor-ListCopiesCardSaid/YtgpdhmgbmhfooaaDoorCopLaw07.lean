/-
  ListCopies: what holds between two calls.
-/
import Derived.Test.YtgpdhmgbmhfooaaDoorFam07
namespace Go.Proofs.YtgpdhmgbmhfooaaDoor
open Go.RowKit

theorem Fam.shareAt {n : Nat} {W W' : World} {E : List Ent} (h : Fam n W E) {i : Nat} (hi : i < E.length) (i' : ListIs W' E[i].b true E[i].v E[i].mb E[i].l) (m : Mod (fun k => k = E[i].b) W W') : Fam n W' (E.set i ⟨E[i].b, true, E[i].v, E[i].mb, E[i].rv, E[i].l⟩) := by
  have hp := List.pairwise_iff_getElem.1 h.apart
  have ho := h.one _ (List.getElem_mem hi)
  have hall : ∀ j (hj : j < E.length), j ≠ i → Ap2 E[i] E[j] := fun j hj hne => by
    rcases Nat.lt_or_ge i j with h1 | h1
    · exact hp i j hi hj h1
    · exact (hp j i hj hi (by omega)).symm
  refine ⟨fun e he => ?_, ?_⟩
  · obtain ⟨j, hj, rfl⟩ := List.getElem_of_mem he
    rw [List.length_set] at hj
    rw [List.getElem_set]
    split
    · exact ⟨i', ho.items.mod m (fun g e x => owns_ne ho.items ho.lst.blk (by decide) (by rw [e, x])), ho.nb, ho.nv, ho.nm⟩
    · rename_i hne
      have oj := h.one _ (List.getElem_mem hj)
      obtain ⟨a1, a2, a3⟩ := (hall j hj (fun e => hne e.symm)).1 _ (.inl rfl)
      exact ⟨oj.lst.mod m (fun x => a1 x.symm) (fun x => a3 x) (fun g e x => a2 (by rw [e, x])), oj.items.mod m (fun g e x => owns_ne oj.items ho.lst.blk (by decide) (by rw [e, x])), oj.nb, oj.nv, oj.nm⟩
  · rw [List.pairwise_iff_getElem]
    intro a b ha hb' hab
    rw [List.length_set] at ha hb'
    rw [List.getElem_set, List.getElem_set]
    split
    · rename_i e
      subst e
      rw [if_neg (by omega)]
      exact ap_share ho (hall b hb' (by omega))
    · split
      · rename_i e
        subst e
        exact (ap_share ho (hall a ha (by omega))).symm
      · exact hp a b ha hb' hab

theorem flat_set2 : ∀ (rows : List (List Value)), (∀ r ∈ rows, r.length = 2) → ∀ (i : Nat), i < rows.length → ∀ a b, ((rows.flatten.set (i * 2) a).set (i * 2 + 1) b) = (rows.set i [a, b]).flatten
  | [], _, i, h, _, _ => by simp at h
  | r :: rest, hr, 0, _, a, b => by
    match r, hr r (by simp) with
    | [x, y], _ => simp
  | r :: rest, hr, i + 1, hi, a, b => by
    match r, hr r (by simp) with
    | [x, y], _ =>
      have ih := flat_set2 rest (fun r h => hr r (by simp [h])) i (by simpa using hi) a b
      rw [List.flatten_cons, List.set_cons_succ, List.flatten_cons, ← ih, show (i + 1) * 2 = i * 2 + 2 by omega, show i * 2 + 2 + 1 = (i * 2 + 1) + 2 by omega]
      rfl
/-- One row of a slice of the document's lists was turned. -/
theorem owns_patch {W W' : World} {g n cap : Nat} {rows : List (List Value)} {c c' : Array Value} {i : Nat} {a b : Value} (o : Owns W 47 2 (.slice (some ⟨g, 0, none⟩) n cap) rows) (hc : W.heap[g]? = some (.cells c 47 (0, 0))) (hc' : W'.heap[g]? = some (.cells c' 47 (0, 0))) (hi : i < rows.length)
    (h0 : c'[i * 2]? = some a) (h1 : c'[i * 2 + 1]? = some b) (hr : ∀ j, j ≠ i * 2 → j ≠ i * 2 + 1 → c'[j]? = c[j]?) (k0 : (c[i * 2]?).isSome = true) (k1 : (c[i * 2 + 1]?).isSome = true) (ha : a.oneCell' = true) (hb : b.oneCell' = true) :
    Owns W' 47 2 (.slice (some ⟨g, 0, none⟩) n cap) (rows.set i [a, b]) := by
  have hlen : ∀ r ∈ rows.set i [a, b], r.length = 2 := fun r hr' => by
    rcases List.mem_or_eq_of_mem_set hr' with h | rfl
    · exact o.len r h
    · rfl
  have hce : c' = (c.setIfInBounds (i * 2) a).setIfInBounds (i * 2 + 1) b := by
    have l0 : i * 2 < c.size := by
      obtain ⟨x, hx⟩ := Option.isSome_iff_exists.1 k0
      exact (Array.getElem?_eq_some_iff.1 hx).1
    have l1 : i * 2 + 1 < c.size := by
      obtain ⟨x, hx⟩ := Option.isSome_iff_exists.1 k1
      exact (Array.getElem?_eq_some_iff.1 hx).1
    apply Array.ext_getElem?
    intro j
    by_cases e1 : j = i * 2 + 1
    · subst e1
      rw [h1]
      simp [l1]
    · rw [Array.getElem?_setIfInBounds_ne (by omega)]
      by_cases e0 : j = i * 2
      · subst e0
        rw [h0]
        simp [l0]
      · rw [Array.getElem?_setIfInBounds_ne (by omega)]
        exact hr j e0 e1
  obtain rfl : n = rows.length := by
    obtain ⟨ao, k, e, _⟩ := o.any
    cases e; rfl
  have r1 := (o.row.stored (i * 2) a).1
  have r2 := (r1.stored (i * 2 + 1) b).1
  rw [flat_set2 rows o.len i hi a b] at r2
  have hV : ((W.setCell ⟨g, i * 2, none⟩ a).setCell ⟨g, i * 2 + 1, none⟩ b).heap[g]? = some (.cells c' 47 (0, 0)) := by
    rw [hce]
    exact set_blk (set_blk hc _ _) _ _
  have oV : Owns ((W.setCell ⟨g, i * 2, none⟩ a).setCell ⟨g, i * 2 + 1, none⟩ b) 47 2 (.slice (some ⟨g, 0, none⟩) rows.length cap) (rows.set i [a, b]) := by
    refine ⟨?_, hlen, fun r hr' u hu => ?_⟩
    · rw [List.length_set]; exact r2
    · rcases List.mem_or_eq_of_mem_set hr' with h | rfl
      · exact o.one r h u hu
      · simp at hu
        rcases hu with rfl | rfl
        · exact ha
        · exact hb
  exact oV.kept fun k e => by
    simp [Value.ownBlock] at e
    subst e
    exact hc'.trans hV.symm

def rowO (e : Ent) : List Value := [.pointer (some ⟨e.b, 0, none⟩)]
def rowW (e : Ent) : List Value := [e.rv, .int .i64 e.l.nx]
/-- What stands between two calls. -/
structure CP (w W : World) (E : Ent) (es : List Ent) (rb : Nat) (cm : Array Value) (vo vw : Value) (ao : Option Addr) (acts : List A) : Prop where
  tabs : Tabs w
  fam : Fam w.heap.size W (E :: es)
  blk : W.heap[rb]? = some (.cells cm 47 (0, 0))
  c0 : cm[0]? = some E.rv
  c1 : cm[1]? = some (.int .i64 E.l.nx)
  nr : w.heap.size ≤ rb
  ho : Owns W 25 1 vo (es.map rowO)
  hw : Owns W 47 2 vw (es.map rowW)
  no : ∀ g, vo.ownBlock = some g → w.heap.size ≤ g
  nw : ∀ g, vw.ownBlock = some g → rb < g
  below : Below w.heap.size w W
  lies : Lies w 5 ao (acts.map A.cells)
  good : ∀ a ∈ acts, a.Good
  len : es.length ≤ 8
section
variable {w W W' : World} {E : Ent} {es : List Ent} {rb : Nat} {cm : Array Value} {vo vw : Value} {ao : Option Addr} {acts : List A}
theorem CP.tabs' (h : CP w W E es rb cm vo vw ao acts) : ∀ W', Below w.heap.size W W' → Tabs W' := fun _ hb => h.tabs.mono (h.below.trans hb)
theorem CP.main (h : CP w W E es rb cm vo vw ao acts) : One w.heap.size W E := h.fam.one E (by simp)
theorem CP.mono (h : CP w W E es rb cm vo vw ao acts) (hb : Below W.heap.size W W') : CP w W' E es rb cm vo vw ao acts :=
  ⟨h.tabs, h.fam.below hb, (hb.block _ (lt_of_block h.blk)).trans h.blk, h.c0, h.c1, h.nr, h.ho.mod (Mod.of_below (F := fun _ => False) hb) (fun _ _ x => x), h.hw.mod (Mod.of_below (F := fun _ => False) hb) (fun _ _ x => x), h.no, h.nw, h.below.trans (hb.mono h.below.size), h.lies, h.good, h.len⟩
theorem CP.duo (h : CP w W E es rb cm vo vw ao acts) : Duo w.heap.size W E.b rb 0 ⟨E.sh, E.v, E.mb, cm, E.rv⟩ E.l E.l :=
  ⟨h.main.lst, ⟨h.blk, h.c0, h.c1, h.main.items, h.main.lst.ok⟩, h.main.nb, h.main.nv, h.main.nm, h.nr⟩
theorem CP.belowOf (h : CP w W E es rb cm vo vw ao acts) {x : Ent} (hx : x ∈ E :: es) {R : Nat} (hR : w.heap.size ≤ R) (m : Mod (fun k => Foot x.b x.sh x.v x.mb k ∨ k = R) W W') : Below w.heap.size w W' :=
  h.below.trans (m.belowB (fun k hk hf => by
    rcases hf with hf | hf
    · have := ((h.fam.one x hx).footLt hf).2; omega
    · omega) h.below.size)
theorem CP.act (h : CP w W E es rb cm vo vw ao acts) {k : Nat} (hk : k < acts.length) : ∃ g off, ao = some ⟨g, off, none⟩ ∧ acts[k].Good ∧
    W.cell? ⟨g, off + k * 5, none⟩ = some (.int .i64 acts[k].kind) ∧ W.cell? ⟨g, off + k * 5 + 1, none⟩ = some (.int .i64 acts[k].n) ∧ W.cell? ⟨g, off + k * 5 + 2, none⟩ = some (.bool acts[k].k.b) ∧ W.cell? ⟨g, off + k * 5 + 3, none⟩ = some (.int .i64 acts[k].k.n) ∧ W.cell? ⟨g, off + k * 5 + 4, none⟩ = some (.string acts[k].k.t) := by
  obtain ⟨g, off, e, hg, _, hc⟩ := h.lies k (A.cells acts[k]) (by simp [hk])
  have hb : ∀ i, W.cell? ⟨g, i, none⟩ = w.cell? ⟨g, i, none⟩ := fun i => h.below.cell (p := ⟨g, i, none⟩) hg
  exact ⟨g, off, e, h.good _ (List.getElem_mem hk), (hb _).trans (hc 0 _ rfl), (hb _).trans (hc 1 _ rfl), (hb _).trans (hc 2 _ rfl), (hb _).trans (hc 3 _ rfl), (hb _).trans (hc 4 _ rfl)⟩
/-- A block of other cells is none that a call on x turns. -/
theorem One.blkKept {n : Nat} {x : Ent} (hx : One n W x) {R k : Nat} {c : Array Value} {t : TypeId} (m : Mod (fun k => Foot x.b x.sh x.v x.mb k ∨ k = R) W W') (hk : W.heap[k]? = some (.cells c t (0, 0))) (h1 : t ≠ 61) (h2 : t ≠ 88) (h3 : k ≠ R) : W'.heap[k]? = some (.cells c t (0, 0)) :=
  m.blk hk (fun h => by
    rcases h with h | h
    · exact foot_not47 hx.lst hk h1 h2 h
    · exact h3 h)
/-- A call on the list at hand. -/
theorem CP.does (h : CP w W E es rb cm vo vw ao acts) {q : Pt} {l' : LS} (d : Duo w.heap.size W' E.b rb 0 q l' l') (m : Mod (fun k => Foot E.b E.sh E.v E.mb k ∨ k = rb) W W') (g : Gone W.heap.size 0 ⟨E.sh, E.v, E.mb, cm, E.rv⟩ q) :
    CP w W' ⟨E.b, q.sh, q.v, q.mb, q.rv, l'⟩ es rb q.c vo vw ao acts := by
  have ft := h.fam.turn (i := 0) (by simp) (x' := ⟨E.b, q.sh, q.v, q.mb, q.rv, l'⟩) rfl g.goes h.blk m ⟨d.lst, d.ref.own, d.nb, d.nv, d.nm⟩
  refine ⟨h.tabs, ft, d.ref.blk, d.ref.c0, d.ref.c1, h.nr, h.ho.mod m ?_, h.hw.mod m ?_, h.no, h.nw, h.belowOf (x := E) (by simp) h.nr m, h.lies, h.good, h.len⟩
  · rintro k e (hf | hf)
    · obtain ⟨cur, hc⟩ := owns_type h.ho e
      exact foot_not47 h.main.lst hc (by decide) (by decide) hf
    · exact owns_ne h.ho h.blk (by decide) (by rw [e, hf])
  · rintro k e (hf | hf)
    · obtain ⟨cur, hc⟩ := owns_type h.hw e
      exact foot_not47 h.main.lst hc (by decide) (by decide) hf
    · have := h.nw k e; omega
theorem CP.stands (h : CP w W E es rb cm vo vw ao acts) (i : ListIs W' E.b true E.v E.mb E.l) (j : RefAt W' rb 0 cm E.rv E.l) (m : Mod (fun k => k = E.b) W W') : CP w W' ⟨E.b, true, E.v, E.mb, E.rv, E.l⟩ es rb cm vo vw ao acts := by
  have ft := h.fam.shareAt (i := 0) (by simp) i m
  refine ⟨h.tabs, ft, j.blk, h.c0, h.c1, h.nr, h.ho.mod m ?_, h.hw.mod m ?_, h.no, h.nw, h.below.trans (m.belowB (fun k hk e => by have := h.main.nb; omega) h.below.size), h.lies, h.good, h.len⟩
  · exact fun k e e2 => owns_ne h.ho h.main.lst.blk (by decide) (by rw [e, e2])
  · exact fun k e e2 => owns_ne h.hw h.main.lst.blk (by decide) (by rw [e, e2])
/-- One of the copies. -/
theorem CP.at (h : CP w W E es rb cm vo vw ao acts) {i : Nat} (hi : i < es.length) : ∃ go co gw kw cw, vo = .slice (some ⟨go, 0, none⟩) es.length co ∧ es.length ≤ co ∧ co ≤ maxLen ∧ vw = .slice (some ⟨gw, 0, none⟩) es.length kw ∧ es.length ≤ kw ∧ kw ≤ maxLen ∧
    W.cell? ⟨go, i, none⟩ = some (.pointer (some ⟨es[i].b, 0, none⟩)) ∧ (∃ co, W.heap[go]? = some (.cells co 25 (0, 0))) ∧ W.heap[gw]? = some (.cells cw 47 (0, 0)) ∧ rb < gw ∧ Duo w.heap.size W es[i].b gw (i * 2) ⟨es[i].sh, es[i].v, es[i].mb, cw, es[i].rv⟩ es[i].l es[i].l := by
  have ho := h.fam.one es[i] (by simp [List.getElem_mem hi])
  have hne : es.map rowO ≠ [] := fun e => by simp at e; rw [e] at hi; simp at hi
  have hne2 : es.map rowW ≠ [] := fun e => by simp at e; rw [e] at hi; simp at hi
  obtain ⟨ao1, co, e1, h1, h2, h3, _, h5⟩ := h.ho.any
  obtain ⟨ao2, kw, e2, k1, k2, k3, _, k5⟩ := h.hw.any
  rw [List.length_map] at e1 h1 e2 k1
  obtain ⟨go, off, rfl, hgo, _, hc⟩ := h3 i (rowO es[i]) (by simp [hi])
  obtain ⟨rfl, hgb⟩ := h5 go off rfl
  obtain ⟨gw, off, rfl, hgw, _, kc⟩ := k3 i (rowW es[i]) (by simp [hi])
  obtain ⟨rfl, kb⟩ := k5 gw off rfl
  obtain ⟨cw, hcw⟩ := owns_type h.hw kb
  have d0 := hc 0 _ rfl
  have w0 := kc 0 _ rfl
  have w1 := kc 1 _ rfl
  rw [cell_blk hcw] at w0 w1
  simp only [Nat.zero_add, Nat.add_zero, Nat.mul_one] at d0 w0 w1
  have := h.nw gw kb
  have := h.nr
  exact ⟨go, co, gw, kw, cw, e1, h1, h2, e2, k1, k2, d0, owns_type h.ho hgb, hcw, h.nw gw kb, ⟨ho.lst, ⟨hcw, w0, w1, ho.items, ho.lst.ok⟩, ho.nb, ho.nv, ho.nm, by omega⟩⟩
theorem map_set_ent (f : Ent → List Value) (es : List Ent) (i : Nat) (e : Ent) : (es.set i e).map f = (es.map f).set i (f e) := List.map_set
theorem rowO_set {es : List Ent} {i : Nat} (hi : i < es.length) {e : Ent} (hb : e.b = es[i].b) : (es.set i e).map rowO = es.map rowO := by
  rw [map_set_ent]
  have : rowO e = (es.map rowO)[i]'(by simpa using hi) := by rw [List.getElem_map]; unfold rowO; rw [hb]
  rw [this, List.set_getElem_self]
/-- A call on one of the copies. -/
theorem CP.doesAt (h : CP w W E es rb cm vo vw ao acts) {i : Nat} (hi : i < es.length) {gw kw : Nat} {cw : Array Value} (hv : vw = .slice (some ⟨gw, 0, none⟩) es.length kw) (hcw : W.heap[gw]? = some (.cells cw 47 (0, 0))) (hgw : rb < gw) {q : Pt} {l' : LS}
    (d0 : Duo w.heap.size W es[i].b gw (i * 2) ⟨es[i].sh, es[i].v, es[i].mb, cw, es[i].rv⟩ es[i].l es[i].l)
    (d : Duo w.heap.size W' es[i].b gw (i * 2) q l' l') (m : Mod (fun k => Foot es[i].b es[i].sh es[i].v es[i].mb k ∨ k = gw) W W') (g : Gone W.heap.size (i * 2) ⟨es[i].sh, es[i].v, es[i].mb, cw, es[i].rv⟩ q) :
    CP w W' E (es.set i ⟨es[i].b, q.sh, q.v, q.mb, q.rv, l'⟩) rb cm vo vw ao acts := by
  have hmem : es[i] ∈ E :: es := by simp [List.getElem_mem hi]
  have ho := h.fam.one es[i] hmem
  have hnr := h.nr
  have ft := h.fam.turn (i := i + 1) (by simpa using hi) (x' := ⟨es[i].b, q.sh, q.v, q.mb, q.rv, l'⟩) rfl g.goes hcw m ⟨d.lst, d.ref.own, d.nb, d.nv, d.nm⟩
  refine ⟨h.tabs, ft, ho.blkKept m h.blk (by decide) (by decide) (by omega), h.c0, h.c1, h.nr, ?_, ?_, h.no, h.nw, h.belowOf hmem (by omega) m, h.lies, h.good, by rw [List.length_set]; exact h.len⟩
  · rw [rowO_set (e := ⟨es[i].b, q.sh, q.v, q.mb, q.rv, l'⟩) hi rfl]
    refine h.ho.mod m ?_
    rintro k e (hf | hf)
    · obtain ⟨cur, hc⟩ := owns_type h.ho e
      exact foot_not47 ho.lst hc (by decide) (by decide) hf
    · exact owns_ne h.ho hcw (by decide) (by rw [e, hf])
  · rw [map_set_ent, hv]
    have o := h.hw
    rw [hv] at o
    have hone : q.rv.oneCell' = true := by
      obtain ⟨a, k, e, _⟩ := d.ref.own.any
      rw [e]; rfl
    exact owns_patch o hcw d.ref.blk (by simpa using hi) d.ref.c0 d.ref.c1 g.rest (by rw [d0.ref.c0]; rfl) (by rw [d0.ref.c1]; rfl) hone rfl
theorem CP.standsAt (h : CP w W E es rb cm vo vw ao acts) {i : Nat} (hi : i < es.length) (i' : ListIs W' es[i].b true es[i].v es[i].mb es[i].l) (m : Mod (fun k => k = es[i].b) W W') :
    CP w W' E (es.set i ⟨es[i].b, true, es[i].v, es[i].mb, es[i].rv, es[i].l⟩) rb cm vo vw ao acts := by
  have hmem : es[i] ∈ E :: es := by simp [List.getElem_mem hi]
  have ho := h.fam.one es[i] hmem
  have ft := h.fam.shareAt (i := i + 1) (by simpa using hi) i' m
  have hrw : (es.set i ⟨es[i].b, true, es[i].v, es[i].mb, es[i].rv, es[i].l⟩).map rowW = es.map rowW := by
    rw [map_set_ent]
    have : rowW ⟨es[i].b, true, es[i].v, es[i].mb, es[i].rv, es[i].l⟩ = (es.map rowW)[i]'(by simpa using hi) := by rw [List.getElem_map]; rfl
    rw [this, List.set_getElem_self]
  refine ⟨h.tabs, ft, m.blk h.blk (blk_ne h.blk ho.lst.blk (by decide)), h.c0, h.c1, h.nr, ?_, ?_, h.no, h.nw, h.below.trans (m.belowB (fun k hk e => by have := ho.nb; omega) h.below.size), h.lies, h.good, by rw [List.length_set]; exact h.len⟩
  · rw [rowO_set (e := ⟨es[i].b, true, es[i].v, es[i].mb, es[i].rv, es[i].l⟩) hi rfl]
    exact h.ho.mod m (fun k e e2 => owns_ne h.ho ho.lst.blk (by decide) (by rw [e, e2]))
  · rw [hrw]
    exact h.hw.mod m (fun k e e2 => owns_ne h.hw ho.lst.blk (by decide) (by rw [e, e2]))
theorem CP.forms (h : CP w W E es rb cm vo vw ao acts) : ∃ a c a' c', vo = .slice a es.length c ∧ vw = .slice a' es.length c' := by
  obtain ⟨a, c, e1, _⟩ := h.ho.any
  obtain ⟨a', c', e2, _⟩ := h.hw.any
  rw [List.length_map] at e1 e2
  exact ⟨a, c, a', c', e1, e2⟩
/-- A copy was put behind the others. -/
theorem CP.copied (h : CP w W E es rb cm vo vw ao acts) (hl : es.length < 8) {W1 W3 : World} (i1 : ListIs W1 E.b true E.v E.mb E.l) (i2 : ListIs W1 W.heap.size true E.v E.mb E.l) (mm : Mod (fun k => k = E.b) W W1) {vo' vw' : Value}
    (m3 : Mod (fun k => vo.ownBlock = some k ∨ vw.ownBlock = some k) W1 W3) (no' : ∀ g, vo'.ownBlock = some g → w.heap.size ≤ g) (nw' : ∀ g, vw'.ownBlock = some g → rb < g)
    {x y : Ent} (hxy : (x = ⟨E.b, true, E.v, E.mb, E.rv, E.l⟩ ∧ y = ⟨W.heap.size, true, E.v, E.mb, E.rv, E.l⟩) ∨ (x = ⟨W.heap.size, true, E.v, E.mb, E.rv, E.l⟩ ∧ y = ⟨E.b, true, E.v, E.mb, E.rv, E.l⟩))
    (o3 : Owns W3 25 1 vo' (es.map rowO ++ [rowO y])) (w3 : Owns W3 47 2 vw' (es.map rowW ++ [rowW y])) : CP w W3 x (es ++ [y]) rb cm vo' vw' ao acts := by
  obtain ⟨f1, f2, f3, f4, f5, f6, f7⟩ := h.fam.copy h.below.size i1 i2 mm
  have hvo1 : Owns W1 25 1 vo (es.map rowO) := h.ho.mod mm (fun k e e2 => owns_ne h.ho h.main.lst.blk (by decide) (by rw [e, e2]))
  have hvw1 : Owns W1 47 2 vw (es.map rowW) := h.hw.mod mm (fun k e e2 => owns_ne h.hw h.main.lst.blk (by decide) (by rw [e, e2]))
  have one3 : ∀ e, One w.heap.size W1 e → One w.heap.size W3 e := fun e ho => by
    have k1 : ∀ k, (vo.ownBlock = some k ∨ vw.ownBlock = some k) → e.b ≠ k ∧ e.v.ownBlock ≠ some k ∧ e.mb ≠ k := fun k hk => by
      rcases hk with hk | hk
      · obtain ⟨cur, hc⟩ := owns_type hvo1 hk
        exact ho.not47 hc (by decide) (by decide)
      · obtain ⟨cur, hc⟩ := owns_type hvw1 hk
        exact ho.not47 hc (by decide) (by decide)
    refine ⟨ho.lst.mod m3 (fun x => (k1 _ x).1 rfl) (fun x => (k1 _ x).2.2 rfl) (fun g e2 x => (k1 _ x).2.1 e2), ho.items.mod m3 ?_, ho.nb, ho.nv, ho.nm⟩
    rintro g e2 (x | x)
    · obtain ⟨cur, hc⟩ := owns_type hvo1 x
      exact owns_ne ho.items hc (by decide) e2
    · obtain ⟨cur, hc⟩ := owns_type hvw1 x
      exact owns_ne ho.items hc (by decide) e2
  have hrb1 := mm.blk h.blk (blk_ne h.blk h.main.lst.blk (by decide))
  have hrb3 := m3.blk hrb1 (fun x => by
    rcases x with x | x
    · exact owns_ne hvo1 hrb1 (by decide) x
    · have := h.nw _ x; omega)
  have hbel : Below w.heap.size w W3 := by
    have b1 := h.below.trans (mm.belowB (fun k hk e => by have := h.main.nb; omega) h.below.size)
    refine b1.trans (m3.belowB (fun k hk x => ?_) b1.size)
    rcases x with x | x
    · have := h.no _ x; omega
    · have := h.nw _ x; have := h.nr; omega
  have hlen : (es ++ [y]).length ≤ 8 := by rw [List.length_append]; simp; omega
  have o3' : Owns W3 25 1 vo' ((es ++ [y]).map rowO) := by rw [List.map_append]; exact o3
  have w3' : Owns W3 47 2 vw' ((es ++ [y]).map rowW) := by rw [List.map_append]; exact w3
  rcases hxy with ⟨rfl, rfl⟩ | ⟨rfl, rfl⟩
  · exact ⟨h.tabs, Fam.join (one3 _ f1) (one3 _ f2) (fun e he => one3 e (f3 e he)) f4 f5 f6 f7, hrb3, h.c0, h.c1, h.nr, o3', w3', no', nw', hbel, h.lies, h.good, hlen⟩
  · exact ⟨h.tabs, Fam.join (one3 _ f2) (one3 _ f1) (fun e he => one3 e (f3 e he)) f4 f6 f5 f7.symm, hrb3, h.c0, h.c1, h.nr, o3', w3', no', nw', hbel, h.lies, h.good, hlen⟩
theorem CP.duoAt (h : CP w W E es rb cm vo vw ao acts) {i : Nat} (hi : i < es.length) {gw kw : Nat} {cw : Array Value} (hv : vw = .slice (some ⟨gw, 0, none⟩) es.length kw) (hcw : W.heap[gw]? = some (.cells cw 47 (0, 0))) (_ : rb < gw) : Duo w.heap.size W es[i].b gw (i * 2) ⟨es[i].sh, es[i].v, es[i].mb, cw, es[i].rv⟩ es[i].l es[i].l := by
  obtain ⟨go, co', gw', kw', cw', e1, h1, h2, e2, k1, k2, p0, _, hcw', hgw', DD⟩ := h.at hi
  rw [hv] at e2
  cases e2
  rw [hcw] at hcw'
  cases hcw'
  exact DD
/-- Cells of other types stay. -/
theorem CP.cellsKept (h : CP w W E es rb cm vo vw ao acts) {i : Nat} (hi : i < es.length) {gw kw go B j : Nat} {cw : Array Value} {u u0 u1 u2 u3 u4 : Value} (_ : vw = .slice (some ⟨gw, 0, none⟩) es.length kw) (hcw : W.heap[gw]? = some (.cells cw 47 (0, 0)))
    (hc : W.cell? ⟨go, j, none⟩ = some u ∧ W.cell? ⟨B, 0, none⟩ = some u0 ∧ W.cell? ⟨B, 1, none⟩ = some u1 ∧ W.cell? ⟨B, 2, none⟩ = some u2 ∧ W.cell? ⟨B, 3, none⟩ = some u3 ∧ W.cell? ⟨B, 4, none⟩ = some u4) (m : Mod (fun k => Foot es[i].b es[i].sh es[i].v es[i].mb k ∨ k = gw) W W') {co cb : Array Value} (hgo : W.heap[go]? = some (.cells co 25 (0, 0))) (hB : W.heap[B]? = some (.cells cb 36 (0, 0))) :
    W'.cell? ⟨go, j, none⟩ = some u ∧ W'.cell? ⟨B, 0, none⟩ = some u0 ∧ W'.cell? ⟨B, 1, none⟩ = some u1 ∧ W'.cell? ⟨B, 2, none⟩ = some u2 ∧ W'.cell? ⟨B, 3, none⟩ = some u3 ∧ W'.cell? ⟨B, 4, none⟩ = some u4 := by
  have ho := h.fam.one es[i] (by simp [List.getElem_mem hi])
  have k1 := ho.blkKept m hgo (by decide) (by decide) (blk_ne hgo hcw (by decide))
  have k2 := ho.blkKept m hB (by decide) (by decide) (blk_ne hB hcw (by decide))
  obtain ⟨c1, c2, c3, c4, c5, c6⟩ := hc
  rw [cell_blk hgo] at c1
  rw [cell_blk hB] at c2 c3 c4 c5 c6
  refine ⟨?_, ?_, ?_, ?_, ?_, ?_⟩
  · rw [cell_blk k1]; exact c1
  all_goals rw [cell_blk k2]; assumption
end
end Go.Proofs.YtgpdhmgbmhfooaaDoor
