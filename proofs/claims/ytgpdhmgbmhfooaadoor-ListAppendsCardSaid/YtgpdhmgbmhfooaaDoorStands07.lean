/-
  The walk of 'stands': has a list the document's items?
-/
import Derived.Test.YtgpdhmgbmhfooaaDoorSeq07
import Derived.Test.YtgpdhmgbmhfooaaDoorIter07
namespace Go.Proofs.YtgpdhmgbmhfooaaDoor
open Go.RowKit Go.Shelf

attribute [local go_sem] Oper.semAt_some

/-- What stands while the items are gone through. -/
structure SI (n : Nat) (w W : World) (b rb ro : Nat) (sh : Bool) (p : Pt) (l : LS) (i : Int) : Prop where
  lst : ListIs W b sh p.v p.mb l
  ref : RefAt W rb ro p.c p.rv l
  tabs : ∀ W, Below n w W → Tabs W
  below : Below n w W
  hn : n ≤ w.heap.size
  nb : n ≤ b
  x2 : W.heap[w.heap.size]? = some (.cells #[.pointer (some ⟨b, 0, none⟩)] 25 (0, 0))
  x3 : W.heap[w.heap.size + 1]? = some (.cells #[.pointer (some ⟨rb, ro, none⟩)] 49 (0, 0))
  x4 : W.heap[w.heap.size + 1 + 1]? = some (.cells #[.bool false] 4 (0, 0))
  x5 : W.heap[w.heap.size + 1 + 1 + 1]? = some (.cells #[.int .i64 i] 3 (0, 0))
  mod : Mod (fun k => k = b) w W
theorem SI.tabsW {n : Nat} {w W : World} {b rb ro : Nat} {sh : Bool} {p : Pt} {l : LS} {i : Int} (h : SI n w W b rb ro sh p l i) : Tabs W := h.tabs W h.below
theorem SI.mono {n : Nat} {w W W' : World} {b rb ro : Nat} {sh : Bool} {p : Pt} {l : LS} {i : Int} (h : SI n w W b rb ro sh p l i) (hb : Below W.heap.size W W') : SI n w W' b rb ro sh p l i :=
  ⟨h.lst.below hb, h.ref.below hb, h.tabs, h.below.trans (hb.mono (Nat.le_trans h.hn h.mod.size)), h.hn, h.nb, (hb.block _ (lt_of_block h.x2)).trans h.x2, (hb.block _ (lt_of_block h.x3)).trans h.x3, (hb.block _ (lt_of_block h.x4)).trans h.x4, (hb.block _ (lt_of_block h.x5)).trans h.x5, h.mod.trans (Mod.of_below hb)⟩
theorem grown_blk {W W' : World} {row : Option Nat} {B : Nat} {k : Nat} {o : Obj} (hk : W.heap[k]? = some o) (ho : ∀ x, o ≠ .loop x) (hg : W.grownBy W' row) (hr : ∀ r, row = some r → B ≤ r ∧ ∃ o : Loop, W.heap[r]? = some (.loop o)) : W'.heap[k]? = some o :=
  ownL_block (β := Unit) B k o ho () W W' row hk hg hr
theorem ListIs.loop {W W' : World} {row : Option Nat} {B : Nat} {b : Nat} {sh : Bool} {v : Value} {mb : Nat} {l : LS} (i : ListIs W b sh v mb l) (hg : W.grownBy W' row) (hr : ∀ r, row = some r → B ≤ r ∧ ∃ o : Loop, W.heap[r]? = some (.loop o)) : ListIs W' b sh v mb l := by
  have hm : Mod (fun k => row = some k) W W' := (Mod.refl _ W).grown hg (fun _ e _ => e)
  refine i.mod hm (fun e => ?_) (fun e => ?_) (fun g hg e => ?_)
  · obtain ⟨_, o, ho⟩ := hr _ e; rw [i.blk] at ho; cases ho
  · obtain ⟨_, o, ho⟩ := hr _ e
    obtain ⟨D, ⟨es, clock, hm, _⟩, _⟩ := i.map
    rw [hm] at ho; cases ho
  · obtain ⟨_, o, ho⟩ := hr _ e
    obtain ⟨cur, hc⟩ := owns_type i.own hg
    rw [hc] at ho; cases ho
theorem RefAt.loop {W W' : World} {row : Option Nat} {B : Nat} {rb ro : Nat} {c : Array Value} {v : Value} {l : LS} (i : RefAt W rb ro c v l) (hg : W.grownBy W' row) (hr : ∀ r, row = some r → B ≤ r ∧ ∃ o : Loop, W.heap[r]? = some (.loop o)) : RefAt W' rb ro c v l := by
  have hm : Mod (fun k => row = some k) W W' := (Mod.refl _ W).grown hg (fun _ e _ => e)
  refine i.mod hm (fun e => ?_) (fun g hg e => ?_)
  · obtain ⟨_, o, ho⟩ := hr _ e; rw [i.blk] at ho; cases ho
  · obtain ⟨_, o, ho⟩ := hr _ e
    obtain ⟨cur, hc⟩ := owns_type i.own hg
    rw [hc] at ho; cases ho
theorem cells_noloop (c : Array Value) (t : TypeId) (fr : Nat × Nat) : ∀ x, Obj.cells c t fr ≠ .loop x := fun x e => by cases e
theorem SI.loop {n : Nat} {w W W' : World} {b rb ro : Nat} {sh : Bool} {p : Pt} {l : LS} {i : Int} (h : SI n w W b rb ro sh p l i) {row : Option Nat} {B : Nat} (hB : w.heap.size ≤ B) (hg : W.grownBy W' row) (hr : ∀ r, row = some r → B ≤ r ∧ ∃ o : Loop, W.heap[r]? = some (.loop o)) : SI n w W' b rb ro sh p l i :=
  ⟨h.lst.loop hg hr, h.ref.loop hg hr, h.tabs, h.below.grown hg (Nat.le_trans h.hn h.mod.size) (fun k e => by have := (hr k e).1; have := h.hn; omega), h.hn, h.nb,
    grown_blk h.x2 (cells_noloop _ _ _) hg hr, grown_blk h.x3 (cells_noloop _ _ _) hg hr, grown_blk h.x4 (cells_noloop _ _ _) hg hr, grown_blk h.x5 (cells_noloop _ _ _) hg hr, h.mod.grown hg (fun k e hk => by have := (hr k e).1; omega)⟩
/-- The count goes one on. -/
theorem SI.count {n : Nat} {w W : World} {b rb ro : Nat} {sh : Bool} {p : Pt} {l : LS} {i : Int} (h : SI n w W b rb ro sh p l i) (y : Int) : SI n w (W.setCell ⟨w.heap.size + 1 + 1 + 1, 0, none⟩ (.int .i64 y)) b rb ro sh p l y := by
  have hm : Mod (fun k => k = w.heap.size + 1 + 1 + 1) W (W.setCell ⟨w.heap.size + 1 + 1 + 1, 0, none⟩ (.int .i64 y)) := (Mod.refl _ _).setCell _ _ (fun _ => rfl)
  refine ⟨h.lst.mod hm ?_ ?_ ?_, h.ref.mod hm ?_ ?_, h.tabs, h.below.setCell (p := ⟨w.heap.size + 1 + 1 + 1, 0, none⟩) (by have := h.hn; show n ≤ w.heap.size + 1 + 1 + 1; omega) _, h.hn, h.nb, hm.blk h.x2 (by omega), hm.blk h.x3 (by omega), hm.blk h.x4 (by omega), ?_, h.mod.setCell _ _ (fun hk => absurd hk (by simp only; omega))⟩
  · exact fun e => blk_ne h.lst.blk h.x5 (by decide) e
  · intro e
    obtain ⟨D, ⟨es, clock, hm, _⟩, _⟩ := h.lst.map
    rw [e, h.x5] at hm; cases hm
  · intro g e e2
    obtain ⟨cur, hc⟩ := owns_type h.lst.own e
    exact blk_ne hc h.x5 (by decide) e2
  · exact fun e => blk_ne h.ref.blk h.x5 (by decide) e
  · intro g e e2
    obtain ⟨cur, hc⟩ := owns_type h.ref.own e
    exact blk_ne hc h.x5 (by decide) e2
  · have := set_blk h.x5 0 (.int .i64 y)
    simpa using this
theorem keeps_of_mod {Z : Nat → Prop} {W W' : World} (B : Nat) (m : Mod Z W W') (hz : ∀ k, Z k → ∃ cs t fr, W.heap[k]? = some (.cells cs t fr)) : KeepsR B W W' :=
  KeepsR.of_mod B m (fun k o h hk => by obtain ⟨cs, t, fr, hc⟩ := hz k h; rw [hk] at hc; cases hc; rfl)
theorem SI.shared {n : Nat} {w W W' : World} {b rb ro : Nat} {sh sh' : Bool} {p : Pt} {l : LS} {i : Int} (h : SI n w W b rb ro sh p l i) (i' : ListIs W' b sh' p.v p.mb l) (m : Mod (fun k => k = b) W W') : SI n w W' b rb ro sh' p l i :=
  ⟨i', h.ref.mod m (fun e => blk_ne h.ref.blk h.lst.blk (by decide) e) (fun g e e2 => by obtain ⟨cur, hc⟩ := owns_type h.ref.own e; exact blk_ne hc h.lst.blk (by decide) e2), h.tabs,
    h.below.trans (m.belowB (fun k hk e => by have := h.nb; omega) (Nat.le_trans h.hn h.mod.size)), h.hn, h.nb, m.blk h.x2 (blk_ne h.x2 h.lst.blk (by decide)), m.blk h.x3 (blk_ne h.x3 h.lst.blk (by decide)), m.blk h.x4 (blk_ne h.x4 h.lst.blk (by decide)), m.blk h.x5 (blk_ne h.x5 h.lst.blk (by decide)), h.mod.trans m⟩
/-- What a round's walk has turned. -/
structure RI (n : Nat) (w W0 W : World) (b rb ro : Nat) (p : Pt) (l : LS) (i : Int) (q : K) (B : Nat) : Prop where
  si : SI n w W b rb ro true p l i
  key : W.heap[B]? = some (KB q.b q.n q.t)
  bel : Below W0.heap.size W0 W
theorem RI.mono {n : Nat} {w W0 W W' : World} {b rb ro : Nat} {p : Pt} {l : LS} {i : Int} {q : K} {B : Nat} (h : RI n w W0 W b rb ro p l i q B) (hb : Below W.heap.size W W') : RI n w W0 W' b rb ro p l i q B :=
  ⟨h.si.mono hb, (hb.block _ (lt_of_block h.key)).trans h.key, h.bel.trans (hb.mono h.bel.size)⟩
def StandsPost (w : World) (b rb ro : Nat) (p : Pt) (l : LS) (e : Ending) (w' : World) : Prop :=
  e = .returned (.bool true) ∧ ListIs w' b true p.v p.mb l ∧ RefAt w' rb ro p.c p.rv l ∧ Mod (fun k => k = b) w w'

theorem SI.done {n : Nat} {w W : World} {b rb ro : Nat} {p : Pt} {l : LS} {i : Int} (h : SI n w W b rb ro true p l i) {D : Nat} (hD : W.heap[D]? = some (.deferred (some []))) (hw : w.heap.size + 4 ≤ D) :
    ((W.setCell ⟨w.heap.size + 1 + 1, 0, none⟩ (.bool true)).drew).heap[D]? = some (.deferred (some [])) ∧
    (((W.setCell ⟨w.heap.size + 1 + 1, 0, none⟩ (.bool true)).drew).putObj D (.deferred none)).cell? ⟨w.heap.size + 1 + 1, 0, none⟩ = some (.bool true) ∧
    StandsPost w b rb ro p l (.returned (.bool true)) (((W.setCell ⟨w.heap.size + 1 + 1, 0, none⟩ (.bool true)).drew).putObj D (.deferred none)) := by
  have hm : Mod (fun k => k = w.heap.size + 1 + 1) W ((W.setCell ⟨w.heap.size + 1 + 1, 0, none⟩ (.bool true)).drew) := ((Mod.refl (fun k => k = w.heap.size + 1 + 1) W).setCell _ _ (fun _ => rfl)).drew
  have hd : ((W.setCell ⟨w.heap.size + 1 + 1, 0, none⟩ (.bool true)).drew).heap[D]? = some (.deferred (some [])) := hm.blk hD (by omega)
  have hm2 : Mod (fun k => k = w.heap.size + 1 + 1 ∨ k = D) W (((W.setCell ⟨w.heap.size + 1 + 1, 0, none⟩ (.bool true)).drew).putObj D (.deferred none)) :=
    hm.mono (fun _ _ e => .inl e) |>.grown (grownBy_putObj' _ _ _) (fun k e _ => by cases e; exact .inr rfl)
  have x4 : ((W.setCell ⟨w.heap.size + 1 + 1, 0, none⟩ (.bool true)).drew).heap[w.heap.size + 1 + 1]? = some (.cells #[.bool true] 4 (0, 0)) := by
    have := set_blk h.x4 0 (.bool true)
    show (W.setCell ⟨w.heap.size + 1 + 1, 0, none⟩ (.bool true)).heap[w.heap.size + 1 + 1]? = _
    simpa using this
  have nl : ∀ {k : Nat} {c : Array Value} {t : TypeId}, W.heap[k]? = some (.cells c t (0, 0)) → t ≠ 4 → ¬ (k = w.heap.size + 1 + 1 ∨ k = D) := fun hk ht e => by
    rcases e with e | e
    · exact blk_ne hk h.x4 ht e
    · rw [e, hD] at hk; cases hk
  refine ⟨hd, cell_blk ((World.putObj_heap_other (by omega)).trans x4) 0, rfl, h.lst.mod hm2 (nl h.lst.blk (by decide)) ?_ ?_, h.ref.mod hm2 (nl h.ref.blk (by decide)) ?_, h.mod.trans' hm2 (fun k hk e => by omega)⟩
  · rintro (e | e)
    · obtain ⟨E, ⟨es, clock, hmm, _⟩, _⟩ := h.lst.map
      rw [e, h.x4] at hmm; cases hmm
    · obtain ⟨E, ⟨es, clock, hmm, _⟩, _⟩ := h.lst.map
      rw [e, hD] at hmm; cases hmm
  · intro g e
    obtain ⟨cur, hc⟩ := owns_type h.lst.own e
    exact nl hc (by decide)
  · intro g e
    obtain ⟨cur, hc⟩ := owns_type h.ref.own e
    exact nl hc (by decide)

set_option maxRecDepth 100000 in
set_option maxHeartbeats 3200000 in
theorem stands_any {n : Nat} {b rb ro : Nat} {p : Pt} {l : LS} (w : World) (hn : n ≤ w.heap.size) (ht : ∀ W, Below n w W → Tabs W) (D : Duo n w b rb ro p l l) :
    Calls Tryd.prog 27 #[.pointer (some ⟨b, 0, none⟩), .pointer (some ⟨rb, ro, none⟩)] w (StandsPost w b rb ro p l) := by
  obtain ⟨ao, cap, hv, hlc, hcm, -, -, -⟩ := D.ref.own.any
  rw [List.length_map] at hv hlc
  have hlen := D.lst.ok.len
  have hnx1 := D.lst.ok.lo
  have hnx2 := D.lst.ok.hi
  have H0 : Hid (∀ o p q : Obj, Below w.heap.size w (((w.alloc o).alloc p).alloc q)) := fun o p q => below3 w o p q
  obtain ⟨c0, c1⟩ := D.ref.cells
  rw [hv] at c0
  have hrl := lt_of_block D.ref.blk
  have z2 : Hid ((((w.alloc (.cells #[.pointer (some ⟨b, 0, none⟩)] 25)).alloc (.cells #[.pointer (some ⟨rb, ro, none⟩)] 49)).alloc (.cells #[.bool false] 4)).heap[w.heap.size]? = some (.cells #[.pointer (some ⟨b, 0, none⟩)] 25 (0, 0))) := alloc_blk (alloc_blk (heap_alloc_new _ _) _) _
  have z3 : Hid ((((w.alloc (.cells #[.pointer (some ⟨b, 0, none⟩)] 25)).alloc (.cells #[.pointer (some ⟨rb, ro, none⟩)] 49)).alloc (.cells #[.bool false] 4)).heap[w.heap.size + 1]? = some (.cells #[.pointer (some ⟨rb, ro, none⟩)] 49 (0, 0))) := alloc_blk (by have h := heap_alloc_new (w.alloc (.cells #[.pointer (some ⟨b, 0, none⟩)] 25)) (.cells #[.pointer (some ⟨rb, ro, none⟩)] 49); simpa using h) _
  have z4 : Hid ((((w.alloc (.cells #[.pointer (some ⟨b, 0, none⟩)] 25)).alloc (.cells #[.pointer (some ⟨rb, ro, none⟩)] 49)).alloc (.cells #[.bool false] 4)).heap[w.heap.size + 1 + 1]? = some (.cells #[.bool false] 4 (0, 0))) := by have h := heap_alloc_new ((w.alloc (.cells #[.pointer (some ⟨b, 0, none⟩)] 25)).alloc (.cells #[.pointer (some ⟨rb, ro, none⟩)] 49)) (.cells #[.bool false] 4); simp only [World.size_alloc] at h; exact h
  have DH := Lib.hid D
  have DI : Hid (ListIs (((w.alloc (.cells #[.pointer (some ⟨b, 0, none⟩)] 25)).alloc (.cells #[.pointer (some ⟨rb, ro, none⟩)] 49)).alloc (.cells #[.bool false] 4)) b p.sh p.v p.mb l) := D.lst.below (below3 _ _ _ _)
  have DR : Hid (RefAt (((w.alloc (.cells #[.pointer (some ⟨b, 0, none⟩)] 25)).alloc (.cells #[.pointer (some ⟨rb, ro, none⟩)] 49)).alloc (.cells #[.bool false] 4)) rb ro p.c p.rv l) := D.ref.below (below3 _ _ _ _)
  have DB : Hid (Below w.heap.size w (((w.alloc (.cells #[.pointer (some ⟨b, 0, none⟩)] 25)).alloc (.cells #[.pointer (some ⟨rb, ro, none⟩)] 49)).alloc (.cells #[.bool false] 4)) ∧ (((w.alloc (.cells #[.pointer (some ⟨b, 0, none⟩)] 25)).alloc (.cells #[.pointer (some ⟨rb, ro, none⟩)] 49)).alloc (.cells #[.bool false] 4)).heap.size = w.heap.size + 1 + 1 + 1) := ⟨below3 _ _ _ _, by simp only [World.size_alloc]⟩
  have HTS := Lib.hid ht
  have HV := Lib.hid hv
  have e0 := int_same7 (l.xs.length : Int)
  have e1 := int_same7 l.nx
  clear D c0 c1 hcm hlc H0 ht hv
  refine callsIn_wide.1 (callsIn_of_wp_marks (F := Fence.wide) (n := 5) Tryd.func27 rfl trivial ?_ rfl)
  refine wpIn_wide.2 ?_
  simp only [Tryd.ntmps27, List.size_toArray, List.length_cons, List.length_nil, Nat.reduceAdd, Nat.reduceSub, Array.replicate_succ, Array.replicate_zero, List.push_toArray, List.append_toArray, List.nil_append, List.cons_append]
  go_wp2_with fail
  generalize hW : ((w.alloc _).alloc _).alloc _ = W0 at z2 z3 z4 DI DR DB ⊢
  clear hW
  have q2 := cell_blk z2.out 0
  have q3 := cell_blk z3.out 0
  obtain ⟨c0, c1⟩ := DR.out.cells
  rw [HV.out] at c0
  go_quiet (first
    | (go_at_call 21; exact Calls.quiet_of_same ((llen_any _ (DI.out.drewN _)).mono fun e w' h => ⟨h.1, h.2.symm⟩))
    | (go_at_call 23; exact Calls.quiet_of_same ((lnext_any _ (DI.out.drewN _)).mono fun e w' h => ⟨h.1, h.2.symm⟩)))
  clear q2 q3 c0 c1
  have hs : W0.heap.size = w.heap.size + 1 + 1 + 1 := DB.out.2
  have S0 : Hid (SI n w ((W0.drewN nq).alloc (.cells #[.int .i64 0] 3)) b rb ro p.sh p l 0) := by
    have hb : Below w.heap.size w ((W0.drewN nq).alloc (.cells #[.int .i64 0] 3)) := (belowN DB.out.1 nq).alloc (by show _ ≤ W0.heap.size; omega) _
    have hb0 : Below W0.heap.size W0 ((W0.drewN nq).alloc (.cells #[.int .i64 0] 3)) := (belowN (Below.refl _ _) nq).alloc (Nat.le_refl _) _
    have x5 := heap_alloc_new (W0.drewN nq) (.cells #[.int .i64 0] 3)
    have hs' : (W0.drewN nq).heap.size = w.heap.size + 1 + 1 + 1 := DB.out.2
    rw [hs'] at x5
    exact ⟨DI.out.below hb0, DR.out.below hb0, HTS.out, hb.mono hn, hn, DH.out.nb, (hb0.block _ (lt_of_block z2.out)).trans z2.out, (hb0.block _ (lt_of_block z3.out)).trans z3.out, (hb0.block _ (lt_of_block z4.out)).trans z4.out, x5, Mod.of_below hb⟩
  have q2 := cell_blk S0.out.x2 0
  clear z2 z3 z4 DI DR e0 e1 hrl
  go_wp2_with fail
  clear hs
  generalize hW : (W0.drewN nq).alloc _ = W1 at S0 q2 ⊢
  clear hW
  refine (all_fn (some ⟨b, 0, none⟩) _).mono ?_
  rintro e Wf ⟨rfl, rfl⟩
  have F0 := Lib.hid (S0.out.mono (below_alloc1 W1 (.cells #[.pointer (some ⟨b, 0, none⟩)] 25)))
  have hB0 := Lib.hid (heap_alloc_new W1 (.cells #[.pointer (some ⟨b, 0, none⟩)] 25))
  have hs0 : Hid (w.heap.size + 4 ≤ W1.heap.size) := lt_of_block S0.out.x5
  clear S0 q2 DB
  go_wp2_with fail
  refine (wpIn_wide (n := 5)).1 ?_
  refine rangeG_outer (F := Fence.wide) (n := 5) rfl (by omega) (gf := 53) (lbs := #[.pointer (some ⟨W1.heap.size, 0, none⟩)]) rfl trivial (enters_of Tryd.func53 (by kernel_rfl) rfl) (all_seq W1.heap.size 4 _ F0.out.lst hB0.out) (Below.refl _ _)
    (I := fun _ j W => SI n w W b rb ro true p l j) (Ix := fun _ _ _ _ => False) ?body ?start ?done ?stop
  case stop => exact fun _ _ _ _ _ _ _ h => h.elim
  case start =>
    rintro c W2 W3 hb ⟨i3, m3⟩
    have S2 := F0.out.mono hb
    exact ⟨keeps_of_mod _ m3 (fun k e => by subst e; exact ⟨_, _, _, S2.lst.blk⟩), S2.shared i3 m3⟩
  case body =>
    have hBw : w.heap.size ≤ (W1.alloc (.cells #[.pointer (some ⟨b, 0, none⟩)] 25)).heap.size := by have := hs0.out; simp; omega
    refine ⟨fun _ => rfl, KpL.trans, fun c W l o o' _ h ho => KpL.putObj h ho, fun c s W W' row h hg hr => SI.loop h hBw hg hr, fun _ _ _ _ _ _ h _ _ => h, ?_⟩
    intro lq c j W hlq hloop HI hj
    have HI' := Lib.hid HI
    have HL := Lib.hid hloop
    obtain ⟨y, x, hyx⟩ : ∃ y x, (y, x) = l.xs[j] := ⟨_, _, rfl⟩
    have he : encL l.xs j = #[.agg #[.bool y.b, .int .i64 y.n, .string y.t], .int .i64 x] := by unfold encL; rw [itAt_lt hj, ← hyx]; rfl
    have HYX := Lib.hid hyx
    rw [he]
    clear HI hloop hyx he F0 hB0 hnx1 hnx2
    gi_wp2
    have hbA := below_alloc1 W (KB y.b y.n y.t)
    refine ⟨KeepsR.of_below _ (below_alloc1 _ _), fun k cs t _ hc => alloc_blk hc _, (by obtain ⟨r, hr⟩ := HL.out; exact ⟨r, alloc_blk hr _⟩), ?_⟩
    intro st W2 hW2 hst
    have R2 : Hid (RI n w W2 W2 b rb ro p l j y W.heap.size) := by
      obtain ⟨r, hr⟩ := HL.out
      have hr' := alloc_blk hr (KB y.b y.n y.t)
      have hne : W.heap.size ≠ lq := fun e => by have := lt_of_block hr; omega
      refine ⟨?_, ?_, Below.refl _ _⟩
      · rw [hW2]
        exact (HI'.out.mono hbA).loop hBw (grownBy_putObj' _ lq st) (fun k e => by cases e; exact ⟨hlq, r, hr'⟩)
      · rw [hW2]
        exact (World.putObj_heap_other hne).trans (heap_alloc_new W (KB y.b y.n y.t))
    have KB2 := Lib.hid (fun (W' : World) (m : Mod (fun k => k = w.heap.size + 1 + 1 + 1) W2 W') => (keeps_of_mod (W1.alloc (.cells #[.pointer (some ⟨b, 0, none⟩)] 25)).heap.size m (fun k e => by subst e; exact ⟨_, _, _, R2.out.si.x5⟩)))
    have KB3 : Hid (∀ k, p.v.ownBlock = some k → ¬ k = w.heap.size + 1 + 1 + 1) := fun k e => by
      obtain ⟨cur, hc⟩ := owns_type R2.out.si.lst.own e
      exact blk_ne hc R2.out.si.x5 (by decide)
    clear hW2 hbA HL HI'
    have q3 := cell_blk R2.out.si.x3 0
    have q5 := cell_blk R2.out.si.x5 0
    obtain ⟨c0, c1⟩ := R2.out.si.ref.cells
    have hown := R2.out.si.ref.own
    rw [HV.out] at c0 hown
    obtain ⟨g, rfl, -, hlc, hcm, hgl, d0, d1, d2, -, d4, -, -⟩ := ritem hown hj
    rw [← HYX.out] at d0 d1 d2 d4
    obtain ⟨a0, a1, a2⟩ := cells3 R2.out.key
    have hi1 : (j : Int) < (l.xs.length : Int) := by omega
    have g1 : decide (l.xs.length ≤ j) = false := by simp; omega
    have e1 := fun w => key_neq y y w
    rw [K.same_self] at e1
    have e2 : (x != x) = false := by simp
    clear hown hlc hcm hgl
    gi_wp2
    refine round_region_quiet (by kernel_rfl) (by kernel_rfl) (by kernel_rfl) (fun ⟨_, _, h⟩ => h) ?_
    repeat (go_big_quiet_step (fail))
    refine wpQuiet_nil ?_
    intro _ hw'
    obtain ⟨nr, hw''⟩ := hw'
    subst hw''
    clear g1 q3 q5 c0 c1 d0 d1 d2 d4 a0 a1 a2 e1 e2
    have R3 : Hid (RI n w W2 (W2.drewN nr) b rb ro p l j y W.heap.size) := R2.out.mono (belowN (Below.refl _ _) nr)
    clear R2
    generalize hW3 : W2.drewN nr = W3 at R3 ⊢
    clear hW3
    have q2 := cell_blk R3.out.si.x2 0
    have q5 := cell_blk R3.out.si.x5 0
    have HA : Calls Tryd.prog 29 #[.pointer (some ⟨b, 0, none⟩), .int .i64 j] W3 (fun e w' => e = .returned (.tuple #[.agg #[.bool y.b, .int .i64 y.n, .string y.t], .int .i64 x, .bool true]) ∧ Below W3.heap.size W3 w') := by
      have := at_in j hj W3 R3.out.si.lst
      rw [← HYX.out] at this
      exact this
    gi_wp2
    refine ⟨trivial, (CallsIn.inRound lq (callsIn_wide.2 HA)).mono ?_⟩
    rintro e W4 ⟨rfl, hb⟩
    have R4 := Lib.hid ((R3.out.mono hb).mono (below_alloc1 W4 (KB y.b y.n y.t)))
    have K4 := Lib.hid (heap_alloc_new W4 (KB y.b y.n y.t))
    clear hb R3 q2 q5 HA
    have q2 := cell_blk R4.out.si.x2 0
    obtain ⟨a0, a1, a2⟩ := cells3 R4.out.key
    have HG : ∀ W, Tabs W → ListIs W b true p.v p.mb l → Calls Tryd.prog 20 #[.pointer (some ⟨b, 0, none⟩), .agg #[.bool y.b, .int .i64 y.n, .string y.t]] W (fun e w' => e = .returned (.tuple #[.int .i64 x, .bool true]) ∧ Below W.heap.size W w') := fun W hT hL => by
      have hyl : y = l.xs[j].1 := by rw [← HYX.out]
      have hno := hL.ok.norm _ (List.getElem_mem hj)
      have := get_any (k := y) (by rw [hyl]; exact hno.toGood) W hT hL
      have hg : getP y l = (x, true) := by
        unfold getP
        rw [hyl, hno.same, findK_once hL.ok.once hj]
        simp [hj, ← HYX.out]
      rw [hg] at this
      exact this
    gi_wp2
    refine ⟨trivial, (CallsIn.inRound lq (callsIn_wide.2 (HG _ R4.out.si.tabsW R4.out.si.lst))).mono ?_⟩
    rintro e W5 ⟨rfl, hb⟩
    have R5 := Lib.hid (R4.out.mono hb)
    have K5 := Lib.hid ((hb.block _ (lt_of_block K4.out)).trans K4.out)
    clear hb R4 K4 q2 HG a0 a1 a2
    obtain ⟨a0, a1, a2⟩ := cells3 R5.out.key
    obtain ⟨b0, b1, b2⟩ := cells3 K5.out
    have q5 := cell_blk R5.out.si.x5 0
    have f5 := free_blk R5.out.si.x5 0
    have e1 := fun w => key_neq y y w
    rw [K.same_self] at e1
    have e2 : (x != x) = false := by simp
    have hw : IntKind.i64.wrap ((j : Int) + 1) = (j : Int) + 1 := wrap_in (by omega) (by omega)
    have hw' : wrap64 ((j : Int) + 1) = (j : Int) + 1 := wrap64_in' (by omega) (by omega)
    gi_wp2
    have hm : Mod (fun k => k = w.heap.size + 1 + 1 + 1) W2 (W5.setCell ⟨w.heap.size + 1 + 1 + 1, 0, none⟩ (.int .i64 ((j : Int) + 1))) := (Mod.of_below R5.out.bel).setCell _ _ (fun _ => rfl)
    exact ⟨KB2.out _ hm, fun k cs t e hc => hm.blk hc (KB3.out k e), by show SI n w _ b rb ro true p l ((j + 1 : Nat) : Int); rw [show ((j + 1 : Nat) : Int) = (j : Int) + 1 by omega]; exact R5.out.si.count _⟩
  case done =>
    rintro Dm c W hD HI hK
    have S := Lib.hid HI
    have HKD : Hid (W.heap[Dm]? = some (.deferred (some [])) ∧ w.heap.size + 4 ≤ Dm) := ⟨hK, by have := hs0.out; simp at hD; omega⟩
    have q2 := cell_blk S.out.x2 0
    have q5 := cell_blk S.out.x5 0
    clear HI hK hD F0 hB0
    go_wp2_with fail
    have HA : Calls Tryd.prog 29 #[.pointer (some ⟨b, 0, none⟩), .int .i64 l.xs.length] W (fun e w' => e = .returned (.tuple #[.agg #[.bool false, .int .i64 0, .string ⟨#[]⟩], .int .i64 0, .bool false]) ∧ Below W.heap.size W w') := at_out _ l.xs.length (by omega) (Int.le_refl _) W (llen_any _ (S.out.lst.below (below_alloc1 _ _)))
    refine HA.mono ?_
    rintro e W2 ⟨rfl, hb⟩
    have S2 := Lib.hid ((S.out.mono hb).mono (below_alloc1 W2 (KB false 0 ⟨#[]⟩)))
    have K2 : Hid ((W2.alloc (KB false 0 ⟨#[]⟩)).heap[Dm]? = some (.deferred (some []))) := alloc_blk ((hb.block _ (lt_of_block HKD.out.1)).trans HKD.out.1) _
    clear hb HA S q2 q5
    have q2 := cell_blk S2.out.x2 0
    go_wp2_with fail
    have HA : ∀ W, Calls Tryd.prog 29 #[.pointer (some ⟨b, 0, none⟩), .int .i64 (-1)] W (fun e w' => e = .returned (.tuple #[.agg #[.bool false, .int .i64 0, .string ⟨#[]⟩], .int .i64 0, .bool false]) ∧ Below W.heap.size W w') := fun W => at_low (-1) (by omega) W
    refine (HA _).mono ?_
    rintro e W3 ⟨rfl, hb⟩
    have S3 := Lib.hid ((S2.out.mono hb).mono (below_alloc1 W3 (KB false 0 ⟨#[]⟩)))
    have K3 : Hid ((W3.alloc (KB false 0 ⟨#[]⟩)).heap[Dm]? = some (.deferred (some []))) := alloc_blk ((hb.block _ (lt_of_block K2.out)).trans K2.out) _
    clear hb S2 K2 q2 HA
    have q3 := cell_blk S3.out.x3 0
    have q4 := cell_blk S3.out.x4 0
    have f4 := free_blk S3.out.x4 0
    have q5 := cell_blk S3.out.x5 0
    obtain ⟨c0, c1⟩ := S3.out.ref.cells
    rw [HV.out] at c0
    have e0 := int_same7 (l.xs.length : Int)
    go_wp2_with fail
    go_region
    all_goals go_wp2_with fail
    obtain ⟨x1, xc, xb⟩ := S3.out.done K3.out HKD.out.2
    refine ⟨by simp, .inl ⟨_, _, rfl, run_takeDeferred x1, ?_⟩⟩
    refine ⟨.bool true, ?_, xb⟩
    simp [results, Tryd.results27, go_sem, xc]
end Go.Proofs.YtgpdhmgbmhfooaaDoor
