/-
  ListWalks: what holds while a list is gone over.
-/
import Derived.Test.YtgpdhmgbmhfooaaDoorPlays07
namespace Go.Proofs.YtgpdhmgbmhfooaaDoor
open Go.RowKit

/-- What has come in and been laid: it is the same all the while. -/
structure WK where
  aw : Option Addr
  cw : Nat
  whiles : List A
  leave : Int
  N1 : Nat
  X : Nat
  v0 : Value
  rv0 : Value
  l0 : LS
structure WI (w W : World) (b : Nat) (k : WK) (p : Pt) (l : LS) (i : Int) : Prop where
  tabs : Tabs w
  below : Below w.heap.size w W
  duo : Duo w.heap.size W b (k.N1 + 1) 0 p l l
  x4 : W.heap[w.heap.size]? = some (.cells #[.slice k.aw k.whiles.length k.cw] 34 (0, 0))
  x5 : W.heap[w.heap.size + 1]? = some (.cells #[.int .u8 k.leave] 5 (0, 0))
  x6 : W.heap[w.heap.size + 1 + 1]? = some (.cells #[.bool false] 4 (0, 0))
  x7 : W.heap[k.N1]? = some (.cells #[.pointer (some ⟨b, 0, none⟩)] 25 (0, 0))
  xa : W.heap[k.X + 1]? = some (.cells #[.pointer (some ⟨b, 0, none⟩)] 25 (0, 0))
  was : W.heap[k.X]? = some (.cells #[k.rv0, .int .i64 k.l0.nx] 47 (0, 0))
  items : Owns W 56 7 k.rv0 (k.l0.xs.map RC)
  nn : W.heap[k.X + 1 + 1]? = some (.cells #[.int .i64 i] 3 (0, 0))
  hX : k.N1 + 1 < k.X
  lies : Lies w 5 k.aw (k.whiles.map A.cells)
  good : ∀ a ∈ k.whiles, a.Good
  keep : ∀ g, k.v0.ownBlock = some g → ¬ Foot b p.sh p.v p.mb g ∧ ∃ cur, W.heap[g]? = some (.cells cur 88 (0, 0))
section
variable {w W W' : World} {b : Nat} {k : WK} {p : Pt} {l : LS} {i : Int}
theorem WI.tabs' (h : WI w W b k p l i) : ∀ W', Below w.heap.size W W' → Tabs W' := fun _ hb => h.tabs.mono (h.below.trans hb)
theorem WI.mono (h : WI w W b k p l i) (hb : Below W.heap.size W W') : WI w W' b k p l i := by
  have hk : ∀ {q : Nat} {o : Obj}, W.heap[q]? = some o → W'.heap[q]? = some o := fun hq => (hb.block _ (lt_of_block hq)).trans hq
  exact ⟨h.tabs, h.below.trans (hb.mono h.below.size), ⟨h.duo.lst.below hb, h.duo.ref.below hb, h.duo.nb, h.duo.nv, h.duo.nm, h.duo.nr⟩, hk h.x4, hk h.x5, hk h.x6, hk h.x7, hk h.xa, hk h.was, h.items.mod (Mod.of_below (F := fun _ => False) hb) (fun _ _ x => x), hk h.nn, h.hX, h.lies, h.good,
    fun g e => ⟨(h.keep g e).1, by obtain ⟨cur, hc⟩ := (h.keep g e).2; exact ⟨cur, hk hc⟩⟩⟩
/-- A block of other cells is none that a call turns. -/
theorem WI.kept (h : WI w W b k p l i) (m : Mod (fun q => Foot b p.sh p.v p.mb q ∨ q = k.N1 + 1) W W') {q : Nat} {c : Array Value} {t : TypeId} (hq : W.heap[q]? = some (.cells c t (0, 0))) (h1 : t ≠ 61) (h2 : t ≠ 88) (h3 : q ≠ k.N1 + 1) : W'.heap[q]? = some (.cells c t (0, 0)) :=
  m.blk hq (fun e => by
    rcases e with e | e
    · exact foot_not47 h.duo.lst hq h1 h2 e
    · exact h3 e)
theorem WI.kp (h : WI w W b k p l i) (m : Mod (fun q => Foot b p.sh p.v p.mb q ∨ q = k.N1 + 1) W W') (c : Nat) : KpL k.v0 c W W' := fun g cs t e hc => m.blk hc (fun x => by
  obtain ⟨hf, cur, hcur⟩ := h.keep g e
  rcases x with x | x
  · exact hf x
  · exact blk_ne hcur h.duo.ref.blk (by decide) x)
theorem foot_rec {W : World} {b : Nat} {sh : Bool} {v : Value} {mb : Nat} {l : LS} (i : ListIs W b sh v mb l) {q : Nat} {o : Obj} (hf : Foot b sh v mb q) (ho : W.heap[q]? = some o) : isRec o = false := by
  rcases hf with rfl | ⟨_, hf | rfl⟩
  · rw [i.blk] at ho; cases ho; rfl
  · obtain ⟨cur, hc⟩ := owns_type i.own hf
    rw [hc] at ho; cases ho; rfl
  · obtain ⟨D, ⟨es, clock, hm, _⟩, _⟩ := i.map
    rw [hm] at ho; cases ho; rfl
theorem WI.kr (h : WI w W b k p l i) (B : Nat) (m : Mod (fun q => Foot b p.sh p.v p.mb q ∨ q = k.N1 + 1) W W') : KeepsR B W W' := KeepsR.of_mod B m (fun q o hq ho => by
  rcases hq with hq | hq
  · exact foot_rec h.duo.lst hq ho
  · rw [hq, h.duo.ref.blk] at ho; cases ho; rfl)
theorem WI.does (h : WI w W b k p l i) {q : Pt} {l' : LS} (d : Duo w.heap.size W' b (k.N1 + 1) 0 q l' l') (m : Mod (fun x => Foot b p.sh p.v p.mb x ∨ x = k.N1 + 1) W W') (g : Gone W.heap.size 0 p q) : WI w W' b k q l' i := by
  have hne := h.hX
  refine ⟨h.tabs, h.below.trans (m.belowB (fun x hx hf => ?_) h.below.size), d, h.kept m h.x4 (by decide) (by decide) (blk_ne h.x4 h.duo.ref.blk (by decide)), h.kept m h.x5 (by decide) (by decide) (blk_ne h.x5 h.duo.ref.blk (by decide)), h.kept m h.x6 (by decide) (by decide) (blk_ne h.x6 h.duo.ref.blk (by decide)), h.kept m h.x7 (by decide) (by decide) (by omega), h.kept m h.xa (by decide) (by decide) (by omega),
    h.kept m h.was (by decide) (by decide) (by omega), h.items.mod m (fun x e hf => ?_), h.kept m h.nn (by decide) (by decide) (by omega), h.hX, h.lies, h.good, fun x e => ?_⟩
  · rcases hf with (hf | ⟨_, hf | hf⟩) | hf
    · have := h.duo.nb; omega
    · have := h.duo.nv x hf; omega
    · have := h.duo.nm; omega
    · have := h.duo.nr; omega
  · rcases hf with hf | hf
    · obtain ⟨cur, hc⟩ := owns_type h.items e
      exact foot_not47 h.duo.lst hc (by decide) (by decide) hf
    · exact owns_ne h.items h.duo.ref.blk (by decide) (by rw [e, hf])
  · obtain ⟨hf, cur, hc⟩ := h.keep x e
    refine ⟨fun hf' => hf (g.goes.foot (lt_of_block hc) hf'), cur, ?_⟩
    have := h.kp m 0 x cur 88 e hc
    exact this
/-- The list shares its parts. -/
theorem WI.shared (h : WI w W b k p l i) (i' : ListIs W' b true p.v p.mb l) (m : Mod (fun q => q = b) W W') : WI w W' b k ⟨true, p.v, p.mb, p.c, p.rv⟩ l i := by
  have hb := h.duo.lst.blk
  have hk : ∀ {q : Nat} {c : Array Value} {t : TypeId}, W.heap[q]? = some (.cells c t (0, 0)) → t ≠ 61 → W'.heap[q]? = some (.cells c t (0, 0)) := fun hq ht => m.blk hq (blk_ne hq hb ht)
  refine ⟨h.tabs, h.below.trans (m.belowB (fun x hx hf => by have := h.duo.nb; omega) h.below.size), ⟨i', h.duo.ref.mod m (blk_ne h.duo.ref.blk hb (by decide)) (fun g e x => owns_ne h.duo.ref.own hb (by decide) (by rw [e, x])), h.duo.nb, h.duo.nv, h.duo.nm, h.duo.nr⟩, hk h.x4 (by decide), hk h.x5 (by decide), hk h.x6 (by decide), hk h.x7 (by decide), hk h.xa (by decide), hk h.was (by decide),
    h.items.mod m (fun g e x => owns_ne h.items hb (by decide) (by rw [e, x])), hk h.nn (by decide), h.hX, h.lies, h.good, fun g e => ?_⟩
  obtain ⟨hf, cur, hc⟩ := h.keep g e
  refine ⟨fun hf' => ?_, cur, hk hc (by decide)⟩
  rcases hf' with rfl | ⟨x, _⟩
  · exact hf (.inl rfl)
  · cases x
theorem WI.kpS (h : WI w W b k p l i) (m : Mod (fun q => q = b) W W') (c : Nat) : KpL k.v0 c W W' := h.kp (m.mono (fun _ _ e => .inl (.inl e))) c
theorem WI.krS (h : WI w W b k p l i) (B : Nat) (m : Mod (fun q => q = b) W W') : KeepsR B W W' := h.kr B (m.mono (fun _ _ e => .inl (.inl e)))
/-- A loop's record is turned. -/
theorem WI.loop (h : WI w W b k p l i) {row : Option Nat} {B : Nat} (hB : w.heap.size ≤ B) (hg : W.grownBy W' row) (hr : ∀ r, row = some r → B ≤ r ∧ ∃ o : Loop, W.heap[r]? = some (.loop o)) : WI w W' b k p l i :=
  ⟨h.tabs, h.below.grown hg h.below.size (fun q e => by have := (hr q e).1; omega), ⟨h.duo.lst.loop hg hr, h.duo.ref.loop hg hr, h.duo.nb, h.duo.nv, h.duo.nm, h.duo.nr⟩, grown_blk h.x4 (cells_noloop _ _ _) hg hr, grown_blk h.x5 (cells_noloop _ _ _) hg hr, grown_blk h.x6 (cells_noloop _ _ _) hg hr, grown_blk h.x7 (cells_noloop _ _ _) hg hr, grown_blk h.xa (cells_noloop _ _ _) hg hr, grown_blk h.was (cells_noloop _ _ _) hg hr,
    (Mod.refl (fun q => row = some q) W).grown hg (fun _ e _ => e) |> fun hm => h.items.mod hm (fun g e x => by
      obtain ⟨_, o, ho⟩ := hr _ x
      obtain ⟨cur, hc⟩ := owns_type h.items e
      rw [hc] at ho; cases ho), grown_blk h.nn (cells_noloop _ _ _) hg hr, h.hX, h.lies, h.good, fun g e => ⟨(h.keep g e).1, by obtain ⟨cur, hc⟩ := (h.keep g e).2; exact ⟨cur, grown_blk hc (cells_noloop _ _ _) hg hr⟩⟩⟩
/-- The count is set. -/
theorem WI.count (h : WI w W b k p l i) (y : Int) : WI w (W.setCell ⟨k.X + 1 + 1, 0, none⟩ (.int .i64 y)) b k p l y ∧ Mod (fun q => q = k.X + 1 + 1) W (W.setCell ⟨k.X + 1 + 1, 0, none⟩ (.int .i64 y)) := by
  have hm : Mod (fun q => q = k.X + 1 + 1) W (W.setCell ⟨k.X + 1 + 1, 0, none⟩ (.int .i64 y)) := (Mod.refl _ _).setCell _ _ (fun _ => rfl)
  have hX := h.hX
  have hnr := h.duo.nr
  have hk : ∀ {q : Nat} {c : Array Value} {t : TypeId}, W.heap[q]? = some (.cells c t (0, 0)) → t ≠ 3 → (W.setCell ⟨k.X + 1 + 1, 0, none⟩ (.int .i64 y)).heap[q]? = some (.cells c t (0, 0)) := fun hq ht => hm.blk hq (blk_ne hq h.nn ht)
  refine ⟨⟨h.tabs, h.below.setCell (p := ⟨k.X + 1 + 1, 0, none⟩) (by show w.heap.size ≤ k.X + 1 + 1; omega) _, ⟨h.duo.lst.mod hm (blk_ne h.duo.lst.blk h.nn (by decide)) ?_ ?_, h.duo.ref.mod hm (blk_ne h.duo.ref.blk h.nn (by decide)) (fun g e x => owns_ne h.duo.ref.own h.nn (by decide) (by rw [e, x])), h.duo.nb, h.duo.nv, h.duo.nm, h.duo.nr⟩, hk h.x4 (by decide), hk h.x5 (by decide), hk h.x6 (by decide), hk h.x7 (by decide), hk h.xa (by decide), hk h.was (by decide),
    h.items.mod hm (fun g e x => owns_ne h.items h.nn (by decide) (by rw [e, x])), ?_, h.hX, h.lies, h.good, fun g e => ⟨(h.keep g e).1, by obtain ⟨cur, hc⟩ := (h.keep g e).2; exact ⟨cur, hk hc (by decide)⟩⟩⟩, hm⟩
  · intro e
    obtain ⟨D, ⟨es, clock, hmm, _⟩, _⟩ := h.duo.lst.map
    rw [e, h.nn] at hmm; cases hmm
  · exact fun g e x => owns_ne h.duo.lst.own h.nn (by decide) (by rw [e, x])
  · have := set_blk h.nn 0 (.int .i64 y)
    simpa using this
/-- The list shares its parts, and is gone over from now on. -/
theorem WI.start (h : WI w W b k p l i) (i' : ListIs W' b true p.v p.mb l) (m : Mod (fun q => q = b) W W') : WI w W' b { k with v0 := p.v } ⟨true, p.v, p.mb, p.c, p.rv⟩ l i := by
  have h' := h.shared i' m
  refine ⟨h'.tabs, h'.below, h'.duo, h'.x4, h'.x5, h'.x6, h'.x7, h'.xa, h'.was, h'.items, h'.nn, h'.hX, h'.lies, h'.good, fun g e => ⟨?_, owns_type i'.own e⟩⟩
  rintro (rfl | ⟨x, _⟩)
  · exact i'.ne1 e
  · cases x
/-- Another count is set. -/
theorem WI.cellAt (h : WI w W b k p l i) {M : Nat} {c : Array Value} (hM : W.heap[M]? = some (.cells c 3 (0, 0))) (hne : M ≠ k.X + 1 + 1) (hw : w.heap.size ≤ M) (y : Value) : WI w (W.setCell ⟨M, 0, none⟩ y) b k p l i ∧ Mod (fun q => q = M) W (W.setCell ⟨M, 0, none⟩ y) := by
  have hm : Mod (fun q => q = M) W (W.setCell ⟨M, 0, none⟩ y) := (Mod.refl _ _).setCell _ _ (fun _ => rfl)
  have hk : ∀ {q : Nat} {c : Array Value} {t : TypeId}, W.heap[q]? = some (.cells c t (0, 0)) → t ≠ 3 → (W.setCell ⟨M, 0, none⟩ y).heap[q]? = some (.cells c t (0, 0)) := fun hq ht => hm.blk hq (blk_ne hq hM ht)
  refine ⟨⟨h.tabs, h.below.setCell (p := ⟨M, 0, none⟩) hw _, ⟨h.duo.lst.mod hm (blk_ne h.duo.lst.blk hM (by decide)) ?_ ?_, h.duo.ref.mod hm (blk_ne h.duo.ref.blk hM (by decide)) (fun g e x => owns_ne h.duo.ref.own hM (by decide) (by rw [e, x])), h.duo.nb, h.duo.nv, h.duo.nm, h.duo.nr⟩, hk h.x4 (by decide), hk h.x5 (by decide), hk h.x6 (by decide), hk h.x7 (by decide), hk h.xa (by decide), hk h.was (by decide),
    h.items.mod hm (fun g e x => owns_ne h.items hM (by decide) (by rw [e, x])), hm.blk h.nn (fun e => hne e.symm), h.hX, h.lies, h.good, fun g e => ⟨(h.keep g e).1, by obtain ⟨cur, hc⟩ := (h.keep g e).2; exact ⟨cur, hk hc (by decide)⟩⟩⟩, hm⟩
  · intro e
    obtain ⟨D, ⟨es, clock, hmm, _⟩, _⟩ := h.duo.lst.map
    rw [e, hM] at hmm; cases hmm
  · exact fun g e x => owns_ne h.duo.lst.own hM (by decide) (by rw [e, x])
theorem WI.actW (h : WI w W b k p l i) {j : Nat} (hj : j < k.whiles.length) : ∃ g off, k.aw = some ⟨g, off, none⟩ ∧ k.whiles[j].Good ∧
    W.cell? ⟨g, off + j * 5, none⟩ = some (.int .i64 k.whiles[j].kind) ∧ W.cell? ⟨g, off + j * 5 + 1, none⟩ = some (.int .i64 k.whiles[j].n) ∧ W.cell? ⟨g, off + j * 5 + 2, none⟩ = some (.bool k.whiles[j].k.b) ∧ W.cell? ⟨g, off + j * 5 + 3, none⟩ = some (.int .i64 k.whiles[j].k.n) ∧ W.cell? ⟨g, off + j * 5 + 4, none⟩ = some (.string k.whiles[j].k.t) := by
  obtain ⟨g, off, e, hg, _, hc⟩ := h.lies j (A.cells k.whiles[j]) (by simp [hj])
  have hb : ∀ i, W.cell? ⟨g, i, none⟩ = w.cell? ⟨g, i, none⟩ := fun i => h.below.cell (p := ⟨g, i, none⟩) hg
  exact ⟨g, off, e, h.good _ (List.getElem_mem hj), (hb _).trans (hc 0 _ rfl), (hb _).trans (hc 1 _ rfl), (hb _).trans (hc 2 _ rfl), (hb _).trans (hc 3 _ rfl), (hb _).trans (hc 4 _ rfl)⟩
/-- What a round's walk has turned. -/
structure WR (w W2 W : World) (B b : Nat) (k : WK) (p : Pt) (l : LS) (i : Int) : Prop where
  wi : WI w W b k p l i
  kp : KpL k.v0 0 W2 W
  kr : KeepsR B W2 W
  keep2 : ∀ g, k.v0.ownBlock = some g → ∃ cur, W2.heap[g]? = some (.cells cur 88 (0, 0))
section
variable {W2 : World} {B : Nat}
theorem KpL.of_below {v : Value} {c : Nat} (hb : Below W.heap.size W W') : KpL v c W W' := fun _ _ _ _ hc => (hb.block _ (lt_of_block hc)).trans hc
theorem WR.mono (h : WR w W2 W B b k p l i) (hb : Below W.heap.size W W') : WR w W2 W' B b k p l i := ⟨h.wi.mono hb, h.kp.trans (KpL.of_below hb), h.kr.trans (KeepsR.of_below B hb), h.keep2⟩
theorem WR.does (h : WR w W2 W B b k p l i) {q : Pt} {l' : LS} (d : Duo w.heap.size W' b (k.N1 + 1) 0 q l' l') (m : Mod (fun x => Foot b p.sh p.v p.mb x ∨ x = k.N1 + 1) W W') (g : Gone W.heap.size 0 p q) : WR w W2 W' B b k q l' i :=
  ⟨h.wi.does d m g, h.kp.trans (h.wi.kp m 0), h.kr.trans (h.wi.kr B m), h.keep2⟩
theorem WR.shared (h : WR w W2 W B b k p l i) (i' : ListIs W' b true p.v p.mb l) (m : Mod (fun q => q = b) W W') : WR w W2 W' B b k ⟨true, p.v, p.mb, p.c, p.rv⟩ l i :=
  ⟨h.wi.shared i' m, h.kp.trans (h.wi.kpS m 0), h.kr.trans (h.wi.krS B m), h.keep2⟩
theorem WR.loop (h : WR w W2 W B b k p l i) {row : Option Nat} {B' : Nat} (hB : w.heap.size ≤ B') (hB2 : W2.heap.size ≤ B') (hg : W.grownBy W' row) (hr : ∀ r, row = some r → B' ≤ r ∧ ∃ o : Loop, W.heap[r]? = some (.loop o)) : WR w W2 W' B b k p l i := by
  refine ⟨h.wi.loop hB hg hr, h.kp.trans (fun g cs t _ hc => grown_blk hc (cells_noloop _ _ _) hg hr), ⟨Nat.le_trans h.kr.size hg.size, fun q o hq ho hrec => ?_⟩, h.keep2⟩
  have h1 := h.kr.same q o hq ho hrec
  refine (hg.block q (lt_of_block h1) (fun e => ?_)).trans h1
  have := (hr q e.symm).1
  have := lt_of_block ho
  omega
theorem WR.count (h : WR w W2 W B b k p l i) (y : Int) : WR w W2 (W.setCell ⟨k.X + 1 + 1, 0, none⟩ (.int .i64 y)) B b k p l y := by
  obtain ⟨h1, h2⟩ := h.wi.count y
  refine ⟨h1, h.kp.trans (fun g cs t e hc => h2.blk hc (fun x => ?_)), h.kr.trans (KeepsR.of_mod B h2 (fun q o e ho => by rw [e, h.wi.nn] at ho; cases ho; rfl)), h.keep2⟩
  obtain ⟨_, cur, hcur⟩ := h.wi.keep g e
  exact blk_ne hcur h.wi.nn (by decide) x
end
end
/-- The result is laid, and two marks are shut. -/
theorem fin2 {w W : World} (hb : Below w.heap.size w W) (x6 : W.heap[w.heap.size + 1 + 1]? = some (.cells #[.bool false] 4 (0, 0))) {D1 D2 : Nat} (h2 : W.heap[D2]? = some (.deferred (some []))) (h1 : W.heap[D1]? = some (.deferred (some []))) (hlt : D1 < D2) (hw : w.heap.size + 3 ≤ D1) :
    (W.setCell ⟨w.heap.size + 1 + 1, 0, none⟩ (.bool true)).heap[D2]? = some (.deferred (some [])) ∧ ((W.setCell ⟨w.heap.size + 1 + 1, 0, none⟩ (.bool true)).putObj D2 (.deferred none)).heap[D1]? = some (.deferred (some [])) ∧
    (((W.setCell ⟨w.heap.size + 1 + 1, 0, none⟩ (.bool true)).putObj D2 (.deferred none)).putObj D1 (.deferred none)).cell? ⟨w.heap.size + 1 + 1, 0, none⟩ = some (.bool true) ∧
    Below w.heap.size w (((W.setCell ⟨w.heap.size + 1 + 1, 0, none⟩ (.bool true)).putObj D2 (.deferred none)).putObj D1 (.deferred none)) := by
  have m : Mod (fun q => q = w.heap.size + 1 + 1) W (W.setCell ⟨w.heap.size + 1 + 1, 0, none⟩ (.bool true)) := (Mod.refl _ _).setCell _ _ (fun _ => rfl)
  have y2 := m.blk h2 (by omega)
  have y1 := m.blk h1 (by omega)
  have yx := set_blk x6 0 (.bool true)
  have hb1 : Below w.heap.size w (W.setCell ⟨w.heap.size + 1 + 1, 0, none⟩ (.bool true)) := hb.setCell (p := ⟨w.heap.size + 1 + 1, 0, none⟩) (by show _ ≤ w.heap.size + 1 + 1; omega) _
  have hb2 := hb1.grown (grownBy_putObj' _ D2 (.deferred none)) hb1.size (fun k e => by cases e; omega)
  have hb3 := hb2.grown (grownBy_putObj' _ D1 (.deferred none)) hb2.size (fun k e => by cases e; omega)
  exact ⟨y2, (World.putObj_heap_other (by omega)).trans y1, cell_blk ((World.putObj_heap_other (by omega)).trans ((World.putObj_heap_other (by omega)).trans yx)) 0, hb3⟩
end Go.Proofs.YtgpdhmgbmhfooaaDoor
