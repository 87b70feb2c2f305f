/-
  A list and its copies, with the document's lists beside them.
-/
import Derived.Test.YtgpdhmgbmhfooaaDoorPlays07
namespace Go.Proofs.YtgpdhmgbmhfooaaDoor
open Go.RowKit

/-- A list, and the document's. -/
structure Ent where
  b : Nat
  sh : Bool
  v : Value
  mb : Nat
  rv : Value
  l : LS
/-- What calls on x may turn is none of y's. -/
def Ap (x y : Ent) : Prop := ∀ k, Foot x.b x.sh x.v x.mb k → k ≠ y.b ∧ y.v.ownBlock ≠ some k ∧ y.mb ≠ k
def Ap2 (x y : Ent) : Prop := Ap x y ∧ Ap y x
/-- One of the family. -/
structure One (n : Nat) (W : World) (e : Ent) : Prop where
  lst : ListIs W e.b e.sh e.v e.mb e.l
  items : Owns W 56 7 e.rv (e.l.xs.map RC)
  nb : n ≤ e.b
  nv : ∀ g, e.v.ownBlock = some g → n ≤ g
  nm : n ≤ e.mb
theorem One.footLt {n : Nat} {W : World} {e : Ent} (h : One n W e) {k : Nat} (hf : Foot e.b e.sh e.v e.mb k) : k < W.heap.size ∧ n ≤ k := by
  rcases hf with rfl | ⟨_, hf | rfl⟩
  · exact ⟨lt_of_block h.lst.blk, h.nb⟩
  · exact ⟨h.lst.own.lt hf, h.nv k hf⟩
  · exact ⟨h.lst.map.lt, h.nm⟩
theorem One.below {n : Nat} {W W' : World} {e : Ent} (h : One n W e) (hb : Below W.heap.size W W') : One n W' e :=
  ⟨h.lst.below hb, h.items.mod (Mod.of_below (F := fun _ => False) hb) (fun _ _ x => x), h.nb, h.nv, h.nm⟩
/-- A block of the document's is none of a list's. -/
theorem One.not47 {n : Nat} {W : World} {e : Ent} (h : One n W e) {R : Nat} {c : Array Value} {t : TypeId} (hR : W.heap[R]? = some (.cells c t (0, 0))) (h1 : t ≠ 61) (h2 : t ≠ 88) : e.b ≠ R ∧ e.v.ownBlock ≠ some R ∧ e.mb ≠ R := by
  refine ⟨fun x => h1 ?_, fun x => h2 ?_, fun x => ?_⟩
  · have := h.lst.blk
    rw [x, hR] at this
    injection this with this
    injection this
  · obtain ⟨cur, hc⟩ := owns_type h.lst.own x
    rw [hR] at hc
    injection hc with hc
    injection hc
  · obtain ⟨D, ⟨es, clock, hm, _⟩, _⟩ := h.lst.map
    rw [x, hR] at hm; cases hm
/-- A call on x leaves y as it was. -/
theorem One.other {n : Nat} {W W' : World} {x y : Ent} (hx : One n W x) (hy : One n W y) (ha : Ap x y) {R : Nat} {c : Array Value} (hR : W.heap[R]? = some (.cells c 47 (0, 0))) (m : Mod (fun k => Foot x.b x.sh x.v x.mb k ∨ k = R) W W') : One n W' y := by
  obtain ⟨r1, r2, r3⟩ := hy.not47 hR (by decide) (by decide)
  refine ⟨hy.lst.mod m ?_ ?_ ?_, hy.items.mod m ?_, hy.nb, hy.nv, hy.nm⟩
  · rintro (h | h)
    · exact (ha _ h).1 rfl
    · exact r1 h
  · rintro (h | h)
    · exact (ha _ h).2.2 rfl
    · exact r3 h
  · rintro g e (h | h)
    · exact (ha _ h).2.1 e
    · exact r2 (by rw [e, h])
  · rintro g e (h | h)
    · obtain ⟨cur, hc⟩ := owns_type hy.items e
      exact foot_not47 hx.lst hc (by decide) (by decide) h
    · exact owns_ne hy.items hR (by decide) (by rw [e, h])
theorem ap_turn {n : Nat} {W : World} {x x' y : Ent} (hy : One n W y) (ha : Ap2 x y) (hb : x'.b = x.b) (g : Goes W.heap.size x.sh x.v x.mb x'.sh x'.v x'.mb) : Ap2 x' y := by
  obtain ⟨h1, h2⟩ := ha
  refine ⟨fun k hf => ?_, fun k hf => ?_⟩
  · rw [hb] at hf
    by_cases hk : k < W.heap.size
    · exact h1 k (g.foot hk hf)
    · refine ⟨fun e => hk ?_, fun e => hk ?_, fun e => hk ?_⟩
      · rw [e]; exact lt_of_block hy.lst.blk
      · exact hy.lst.own.lt e
      · rw [← e]; exact hy.lst.map.lt
  · have hk := (hy.footLt hf).1
    obtain ⟨a1, a2, a3⟩ := h2 k hf
    refine ⟨by rw [hb]; exact a1, ?_, ?_⟩
    · intro e
      rcases g with ⟨_, g1, _⟩ | ⟨_, g2, _⟩
      · exact a2 (by rw [← g1]; exact e)
      · rcases g2 k e with g2 | ⟨_, g2⟩
        · omega
        · exact a2 g2
    · intro e
      rcases g with ⟨_, _, g1⟩ | ⟨_, _, g3⟩
      · exact a3 (by rw [← g1]; exact e)
      · rcases g3 with g3 | ⟨_, g3⟩
        · omega
        · exact a3 (by rw [← g3]; exact e)
/-- The family: none stands in another's way. -/
structure Fam (n : Nat) (W : World) (E : List Ent) : Prop where
  one : ∀ e ∈ E, One n W e
  apart : E.Pairwise Ap2
theorem Fam.below {n : Nat} {W W' : World} {E : List Ent} (h : Fam n W E) (hb : Below W.heap.size W W') : Fam n W' E := ⟨fun e he => (h.one e he).below hb, h.apart⟩
theorem Ap2.symm {x y : Ent} (h : Ap2 x y) : Ap2 y x := ⟨h.2, h.1⟩
theorem Fam.turn {n : Nat} {W W' : World} {E : List Ent} (h : Fam n W E) {i : Nat} (hi : i < E.length) {x' : Ent} (hb : x'.b = E[i].b) (g : Goes W.heap.size E[i].sh E[i].v E[i].mb x'.sh x'.v x'.mb) {R : Nat} {c : Array Value} (hR : W.heap[R]? = some (.cells c 47 (0, 0)))
    (m : Mod (fun k => Foot E[i].b E[i].sh E[i].v E[i].mb k ∨ k = R) W W') (hx : One n W' x') : Fam n W' (E.set i x') := by
  have hp := List.pairwise_iff_getElem.1 h.apart
  have hall : ∀ j (hj : j < E.length), j ≠ i → Ap2 E[i] E[j] := fun j hj hne => by
    rcases Nat.lt_or_ge i j with h1 | h1
    · exact hp i j hi hj h1
    · exact (hp j i hj hi (by omega)).symm
  refine ⟨fun e he => ?_, ?_⟩
  · obtain ⟨j, hj, rfl⟩ := List.getElem_of_mem he
    rw [List.length_set] at hj
    rw [List.getElem_set]
    split
    · exact hx
    · rename_i hne
      exact (h.one _ (List.getElem_mem hi)).other (h.one _ (List.getElem_mem hj)) (hall j hj (fun e => hne e.symm)).1 hR m
  · rw [List.pairwise_iff_getElem]
    intro a b ha hb' hab
    rw [List.length_set] at ha hb'
    have key : ∀ j (hj : j < E.length), j ≠ i → Ap2 x' E[j] := fun j hj hne => ap_turn (h.one _ (List.getElem_mem hj)) (hall j hj hne) hb g
    rw [List.getElem_set, List.getElem_set]
    split
    · rename_i e
      subst e
      rw [if_neg (by omega)]
      exact key b hb' (by omega)
    · split
      · rename_i e
        subst e
        exact (key a ha (by omega)).symm
      · exact hp a b ha hb' hab
/-- A copy. -/
theorem ap_copy {n : Nat} {W : World} {m : Ent} (hm : One n W m) : Ap2 ⟨m.b, true, m.v, m.mb, m.rv, m.l⟩ ⟨W.heap.size, true, m.v, m.mb, m.rv, m.l⟩ := by
  have h1 := lt_of_block hm.lst.blk
  refine ⟨fun k hf => ?_, fun k hf => ?_⟩
  · rcases hf with rfl | ⟨hf, _⟩
    · exact ⟨by show m.b ≠ W.heap.size; omega, hm.lst.ne1, hm.lst.ne2⟩
    · cases hf
  · rcases hf with rfl | ⟨hf, _⟩
    · exact ⟨by show W.heap.size ≠ m.b; omega, fun e => Nat.lt_irrefl _ (hm.lst.own.lt e), fun e => by have := hm.lst.map.lt; have e' : m.mb = W.heap.size := e; omega⟩
    · cases hf
theorem ap_share {n : Nat} {W : World} {m y : Ent} (_ : One n W m) (ha : Ap2 m y) : Ap2 ⟨m.b, true, m.v, m.mb, m.rv, m.l⟩ y := by
  refine ⟨fun k hf => ?_, fun k hf => ha.2 k hf⟩
  rcases hf with rfl | ⟨hf, _⟩
  · exact ha.1 _ (.inl rfl)
  · cases hf
theorem ap_fresh {n : Nat} {W : World} {m y : Ent} (hy : One n W y) (ha : Ap2 m y) : Ap2 ⟨W.heap.size, true, m.v, m.mb, m.rv, m.l⟩ y := by
  refine ⟨fun k hf => ?_, fun k hf => ?_⟩
  · rcases hf with rfl | ⟨hf, _⟩
    · refine ⟨fun e => ?_, fun e => Nat.lt_irrefl _ (hy.lst.own.lt e), fun e => ?_⟩
      · have := lt_of_block hy.lst.blk; have e' : W.heap.size = y.b := e; omega
      · have := hy.lst.map.lt; have e' : y.mb = W.heap.size := e; omega
    · cases hf
  · have h1 := (hy.footLt hf).1
    obtain ⟨a1, a2, a3⟩ := ha.2 k hf
    exact ⟨fun e => by have e' : k = W.heap.size := e; omega, a2, a3⟩
theorem Fam.copy {n : Nat} {W W' : World} {m : Ent} {es : List Ent} (h : Fam n W (m :: es)) (hn : n ≤ W.heap.size) (i1 : ListIs W' m.b true m.v m.mb m.l) (i2 : ListIs W' W.heap.size true m.v m.mb m.l) (mm : Mod (fun k => k = m.b) W W') :
    One n W' ⟨m.b, true, m.v, m.mb, m.rv, m.l⟩ ∧ One n W' ⟨W.heap.size, true, m.v, m.mb, m.rv, m.l⟩ ∧ (∀ e ∈ es, One n W' e) ∧ es.Pairwise Ap2 ∧ (∀ e ∈ es, Ap2 ⟨m.b, true, m.v, m.mb, m.rv, m.l⟩ e) ∧ (∀ e ∈ es, Ap2 ⟨W.heap.size, true, m.v, m.mb, m.rv, m.l⟩ e) ∧
      Ap2 ⟨m.b, true, m.v, m.mb, m.rv, m.l⟩ ⟨W.heap.size, true, m.v, m.mb, m.rv, m.l⟩ := by
  have hm := h.one m (by simp)
  have hp := List.pairwise_cons.1 h.apart
  have hit : Owns W' 56 7 m.rv (m.l.xs.map RC) := hm.items.mod mm (fun g e x => owns_ne hm.items hm.lst.blk (by decide) (by rw [e, x]))
  refine ⟨⟨i1, hit, hm.nb, hm.nv, hm.nm⟩, ⟨i2, hit, hn, hm.nv, hm.nm⟩, fun e he => ?_, hp.2, fun e he => ap_share hm (hp.1 e he), fun e he => ap_fresh (h.one e (by simp [he])) (hp.1 e he), ap_copy hm⟩
  have ha := (hp.1 e he).1 _ (.inl rfl)
  have ho := h.one e (by simp [he])
  exact ⟨ho.lst.mod mm (fun x => ha.1 x.symm) (fun x => ha.2.2 x) (fun g e x => ha.2.1 (by rw [e, x])), ho.items.mod mm (fun g e x => owns_ne ho.items hm.lst.blk (by decide) (by rw [e, x])), ho.nb, ho.nv, ho.nm⟩
theorem Fam.join {n : Nat} {W : World} {x y : Ent} {es : List Ent} (hx : One n W x) (hy : One n W y) (ho : ∀ e ∈ es, One n W e) (hp : es.Pairwise Ap2) (hx' : ∀ e ∈ es, Ap2 x e) (hy' : ∀ e ∈ es, Ap2 y e) (hxy : Ap2 x y) : Fam n W (x :: (es ++ [y])) := by
  refine ⟨fun e he => ?_, ?_⟩
  · simp at he
    rcases he with rfl | he | rfl
    · exact hx
    · exact ho e he
    · exact hy
  · rw [List.pairwise_cons, List.pairwise_append]
    refine ⟨fun e he => ?_, hp, by simp, fun a ha b hb => ?_⟩
    · simp at he
      rcases he with he | rfl
      · exact hx' e he
      · exact hxy
    · rw [List.mem_singleton.1 hb]
      exact (hy' a ha).symm
end Go.Proofs.YtgpdhmgbmhfooaaDoor
