/-
  ListAppends: what holds within a round.
-/
import Derived.Test.YtgpdhmgbmhfooaaDoorWalkS07
import Derived.Test.YtgpdhmgbmhfooaaDoorAppP07
import Derived.Test.YtgpdhmgbmhfooaaDoorMarks
namespace Go.Proofs.YtgpdhmgbmhfooaaDoor
open Go.RowKit

structure PtL where
  sh : Bool
  v : Value
  mb : Nat
/-- What holds all along. -/
structure AB0 (w W : World) (b N1 : Nat) (p : PtL) (l : LS) (Ds : List Nat) : Prop where
  tabs : Tabs w
  below : Below w.heap.size w W
  lst : ListIs W b p.sh p.v p.mb l
  nb : w.heap.size ≤ b
  nv : ∀ g, p.v.ownBlock = some g → w.heap.size ≤ g
  nm : w.heap.size ≤ p.mb
  x2 : W.heap[w.heap.size]? = some (.cells #[.bool false] 4 (0, 0))
  x3 : W.heap[N1]? = some (.cells #[.pointer (some ⟨b, 0, none⟩)] 25 (0, 0))
  marks : MarksAt (w.heap.size + 1) Ds W
section
variable {w W W' : World} {b N1 : Nat} {p q : PtL} {l l' : LS} {Ds : List Nat}
theorem AB0.tabsW (h : AB0 w W b N1 p l Ds) : Tabs W := h.tabs.mono h.below
theorem AB0.mono (h : AB0 w W b N1 p l Ds) (hb : Below W.heap.size W W') : AB0 w W' b N1 p l Ds :=
  ⟨h.tabs, h.below.trans (hb.mono h.below.size), h.lst.below hb, h.nb, h.nv, h.nm, (hb.block _ (lt_of_block h.x2)).trans h.x2, (hb.block _ (lt_of_block h.x3)).trans h.x3, h.marks.below hb⟩
theorem AB0.notFoot (h : AB0 w W b N1 p l Ds) {k : Nat} {c : Array Value} {t : TypeId} (hk : W.heap[k]? = some (.cells c t (0, 0))) (h1 : t ≠ 61) (h2 : t ≠ 88) : ¬ Foot b p.sh p.v p.mb k := foot_not47 h.lst hk h1 h2
/-- A call on the list. -/
theorem AB0.op (h : AB0 w W b N1 p l Ds) (i : ListIs W' b q.sh q.v q.mb l') (m : Mod (Foot b p.sh p.v p.mb) W W') (g : Goes W.heap.size p.sh p.v p.mb q.sh q.v q.mb) : AB0 w W' b N1 q l' Ds := by
  have hs := h.below.size
  refine ⟨h.tabs, h.below.trans (m.belowB (fun x hx hf => ?_) hs), i, h.nb, ?_, ?_, m.blk h.x2 (h.notFoot h.x2 (by decide) (by decide)), m.blk h.x3 (h.notFoot h.x3 (by decide) (by decide)), h.marks.mod m (fun D hD hf => ?_)⟩
  · rcases hf with hf | ⟨_, hf | hf⟩
    · have := h.nb; omega
    · have := h.nv x hf; omega
    · have := h.nm; omega
  · intro x hx
    rcases g with ⟨_, g2, _⟩ | ⟨_, g2, _⟩
    · rw [g2] at hx; exact h.nv x hx
    · rcases g2 x hx with e | ⟨_, e⟩
      · omega
      · exact h.nv x e
  · rcases g with ⟨_, _, g2⟩ | ⟨_, _, g2⟩
    · rw [g2]; exact h.nm
    · rcases g2 with e | ⟨_, e⟩
      · omega
      · rw [e]; exact h.nm
  · have := foot_rec h.lst hf (h.marks.at_ D hD)
    cases this
/-- A loop's record is turned. -/
theorem AB0.loop (h : AB0 w W b N1 p l Ds) {row : Option Nat} {B : Nat} (hB : w.heap.size ≤ B) (hg : W.grownBy W' row) (hr : ∀ r, row = some r → B ≤ r ∧ ∃ o : Loop, W.heap[r]? = some (.loop o)) : AB0 w W' b N1 p l Ds :=
  ⟨h.tabs, h.below.grown hg h.below.size (fun q e => by have := (hr q e).1; omega), h.lst.loop hg hr, h.nb, h.nv, h.nm, grown_blk h.x2 (cells_noloop _ _ _) hg hr, grown_blk h.x3 (cells_noloop _ _ _) hg hr, MarksAt.own (β := Unit) B () W W' row h.marks hg hr⟩
end
/-- What holds within a round. -/
structure AS (w W : World) (b N1 A6 A7 : Nat) (p : PtL) (l : LS) (Ds : List Nat) (a : A) (vk : Value) (ks : List K) : Prop where
  b0 : AB0 w W b N1 p l Ds
  x6 : W.heap[A6]? = some (AB a)
  x7 : W.heap[A7]? = some (.cells #[vk] 37 (0, 0))
  n7 : w.heap.size < A7
  rows : Owns W 23 3 vk (ks.map K.cells)
  nk : ∀ g, vk.ownBlock = some g → w.heap.size < g
section
variable {w W W' : World} {b N1 A6 A7 : Nat} {p q : PtL} {l l' : LS} {Ds : List Nat} {a : A} {vk : Value} {ks : List K}
theorem AS.mono (h : AS w W b N1 A6 A7 p l Ds a vk ks) (hb : Below W.heap.size W W') : AS w W' b N1 A6 A7 p l Ds a vk ks :=
  ⟨h.b0.mono hb, (hb.block _ (lt_of_block h.x6)).trans h.x6, (hb.block _ (lt_of_block h.x7)).trans h.x7, h.n7, h.rows.mod (Mod.of_below (F := fun _ => False) hb) (fun _ _ x => x), h.nk⟩
theorem AS.op (h : AS w W b N1 A6 A7 p l Ds a vk ks) (i : ListIs W' b q.sh q.v q.mb l') (m : Mod (Foot b p.sh p.v p.mb) W W') (g : Goes W.heap.size p.sh p.v p.mb q.sh q.v q.mb) : AS w W' b N1 A6 A7 q l' Ds a vk ks :=
  ⟨h.b0.op i m g, m.blk h.x6 (h.b0.notFoot h.x6 (by decide) (by decide)), m.blk h.x7 (h.b0.notFoot h.x7 (by decide) (by decide)), h.n7, h.rows.mod m (fun x e hf => by
    obtain ⟨cur, hc⟩ := owns_type h.rows e
    exact h.b0.notFoot hc (by decide) (by decide) hf), h.nk⟩
theorem AS.loop (h : AS w W b N1 A6 A7 p l Ds a vk ks) {row : Option Nat} {B : Nat} (hB : w.heap.size ≤ B) (hg : W.grownBy W' row) (hr : ∀ r, row = some r → B ≤ r ∧ ∃ o : Loop, W.heap[r]? = some (.loop o)) : AS w W' b N1 A6 A7 p l Ds a vk ks :=
  ⟨h.b0.loop hB hg hr, grown_blk h.x6 (cells_noloop _ _ _) hg hr, grown_blk h.x7 (cells_noloop _ _ _) hg hr, h.n7, (Mod.refl (fun q => row = some q) W).grown hg (fun _ e _ => e) |> fun hm => h.rows.mod hm (fun g e x => by
      obtain ⟨_, o, ho⟩ := hr _ x
      obtain ⟨cur, hc⟩ := owns_type h.rows e
      rw [hc] at ho; cases ho), h.nk⟩
/-- A key is appended to the keys ahead. -/
theorem AS.push (h : AS w W b N1 A6 A7 p l Ds a vk ks) {W5 : World} {v' : Value} {k : K} (ho : Owns W5 23 3 v' (ks.map K.cells ++ [k.cells])) (hg : W.grownBy W5 vk.ownBlock) (hn : v'.ownBlock = vk.ownBlock ∨ ∃ g, v'.ownBlock = some g ∧ W.heap.size ≤ g) :
    AS w (W5.setCell ⟨A7, 0, none⟩ v') b N1 A6 A7 p l Ds a v' (ks ++ [k]) ∧ Mod (fun q => vk.ownBlock = some q ∨ q = A7) W (W5.setCell ⟨A7, 0, none⟩ v') := by
  have hs := h.b0.below.size
  have m5 : Mod (fun q => vk.ownBlock = some q ∨ q = A7) W W5 := (Mod.refl _ W).grown hg (fun _ e _ => .inl e)
  have m6 : Mod (fun q => q = A7) W5 (W5.setCell ⟨A7, 0, none⟩ v') := (Mod.refl _ _).setCell _ _ (fun _ => rfl)
  have m : Mod (fun q => vk.ownBlock = some q ∨ q = A7) W (W5.setCell ⟨A7, 0, none⟩ v') := m5.trans (m6.mono (fun _ _ e => .inr e))
  have hno : ∀ {q : Nat} {c : Array Value} {t : TypeId}, W.heap[q]? = some (.cells c t (0, 0)) → t ≠ 23 → t ≠ 37 → ¬ (vk.ownBlock = some q ∨ q = A7) := fun hq h1 h2 e => by
    rcases e with e | e
    · obtain ⟨cur, hc⟩ := owns_type h.rows e
      exact blk_ne hq hc h1 rfl
    · exact blk_ne hq h.x7 h2 e
  have hno' : ∀ {q : Nat} {o : Obj}, W.heap[q]? = some o → o.isCells = false → ¬ (vk.ownBlock = some q ∨ q = A7) := fun hq h1 e => by
    rcases e with e | e
    · obtain ⟨cur, hc⟩ := owns_type h.rows e
      rw [hc] at hq; cases hq; cases h1
    · rw [e, h.x7] at hq; cases hq; cases h1
  have x7' : W5.heap[A7]? = some (.cells #[vk] 37 (0, 0)) := ((Mod.refl (fun q => vk.ownBlock = some q) W).grown hg (fun _ e _ => e)).blk h.x7 (fun e => by
    obtain ⟨cur, hc⟩ := owns_type h.rows e
    exact blk_ne h.x7 hc (by decide) rfl)
  refine ⟨⟨⟨h.b0.tabs, h.b0.below.trans (m.belowB (fun x hx hf => ?_) hs), h.b0.lst.mod m (hno h.b0.lst.blk (by decide) (by decide)) ?_ (fun g e => ?_), h.b0.nb, h.b0.nv, h.b0.nm, m.blk h.b0.x2 (hno h.b0.x2 (by decide) (by decide)), m.blk h.b0.x3 (hno h.b0.x3 (by decide) (by decide)), h.b0.marks.mod m (fun D hD => hno' (h.b0.marks.at_ D hD) rfl)⟩,
    m.blk h.x6 (hno h.x6 (by decide) (by decide)), ?_, h.n7, ?_, ?_⟩, m⟩
  · rcases hf with hf | hf
    · have := h.nk x hf; omega
    · have := h.n7; omega
  · obtain ⟨D, ⟨es, clock, hm, _⟩, _⟩ := h.b0.lst.map
    exact hno' hm rfl
  · obtain ⟨cur, hc⟩ := owns_type h.b0.lst.own e
    exact hno hc (by decide) (by decide)
  · have := set_blk x7' 0 v'
    simpa using this
  · have : (ks ++ [k]).map K.cells = ks.map K.cells ++ [k.cells] := by simp
    rw [this]
    exact ho.mod m6 (fun g e x => by
      obtain ⟨cur, hc⟩ := owns_type ho e
      exact blk_ne hc x7' (by decide) x)
  · intro g e
    rcases hn with hn | ⟨g', hn, hg'⟩
    · rw [hn] at e; exact h.nk g e
    · rw [hn] at e; cases e
      have := lt_of_block h.b0.x2
      omega
/-- The list shares its parts. -/
theorem AB0.shared (h : AB0 w W b N1 p l Ds) (i : ListIs W' b true p.v p.mb l) (m : Mod (fun k => k = b) W W') : AB0 w W' b N1 ⟨true, p.v, p.mb⟩ l Ds :=
  ⟨h.tabs, h.below.trans (m.belowB (fun x hx hf => by have := h.nb; omega) h.below.size), i, h.nb, h.nv, h.nm, m.blk h.x2 (blk_ne h.x2 h.lst.blk (by decide)), m.blk h.x3 (blk_ne h.x3 h.lst.blk (by decide)), h.marks.mod m (fun D hD e => by
    have := h.marks.at_ D hD
    rw [e, h.lst.blk] at this; cases this)⟩
theorem AS.shared (h : AS w W b N1 A6 A7 p l Ds a vk ks) (i : ListIs W' b true p.v p.mb l) (m : Mod (fun k => k = b) W W') : AS w W' b N1 A6 A7 ⟨true, p.v, p.mb⟩ l Ds a vk ks :=
  ⟨h.b0.shared i m, m.blk h.x6 (blk_ne h.x6 h.b0.lst.blk (by decide)), m.blk h.x7 (blk_ne h.x7 h.b0.lst.blk (by decide)), h.n7, h.rows.mod m (fun x e hf => owns_ne h.rows h.b0.lst.blk (by decide) (by rw [e, hf])), h.nk⟩
theorem AB0.krS (h : AB0 w W b N1 p l Ds) (B : Nat) (m : Mod (fun k => k = b) W W') : KeepsR B W W' := KeepsR.of_mod B m (fun q o e ho => by rw [e, h.lst.blk] at ho; cases ho; rfl)
end
end Go.Proofs.YtgpdhmgbmhfooaaDoor
