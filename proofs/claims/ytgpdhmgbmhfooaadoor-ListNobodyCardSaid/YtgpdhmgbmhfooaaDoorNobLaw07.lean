/-
  ListNobody: the walk.
-/
import Derived.Test.YtgpdhmgbmhfooaaDoorIter07
namespace Go.Proofs.YtgpdhmgbmhfooaaDoor
open Go.RowKit Go.Shelf

abbrev nobB : Obj := .cells #[.bool false, .bool false, .slice none 0 0, .map none, .int .i64 0] 61 (0, 0)
/-- What stands while ListNobody goes on. -/
structure NbS (w W : World) (k : K) (Ds : List Nat) : Prop where
  tabs : Tabs w
  key : W.heap[w.heap.size]? = some (KB k.b k.n k.t)
  res : W.heap[w.heap.size + 1]? = some (.cells #[.bool false] 4)
  nob : W.heap[w.heap.size + 1 + 1]? = some nobB
  sl : W.heap[w.heap.size + 1 + 1 + 1]? = some (.cells #[.pointer none, .pointer (some ⟨w.heap.size + 1 + 1, 0, none⟩)] 25)
  below : Below w.heap.size w W
  ds : ∀ D ∈ Ds, w.heap.size + 4 ≤ D ∧ W.heap[D]? = some (.deferred (some []))
theorem NbS.tabsW {w W : World} {k : K} {Ds : List Nat} (h : NbS w W k Ds) : Tabs W := h.tabs.mono h.below
theorem NbS.mono {w W W' : World} {k : K} {Ds : List Nat} (h : NbS w W k Ds) (hb : Below W.heap.size W W') : NbS w W' k Ds :=
  ⟨h.tabs, (hb.block _ (lt_of_block h.key)).trans h.key, (hb.block _ (lt_of_block h.res)).trans h.res, (hb.block _ (lt_of_block h.nob)).trans h.nob, (hb.block _ (lt_of_block h.sl)).trans h.sl, h.below.trans (hb.mono h.below.size),
    fun D hD => ⟨(h.ds D hD).1, (hb.block _ (lt_of_block (h.ds D hD).2)).trans (h.ds D hD).2⟩⟩
theorem NbS.add {w W : World} {k : K} {Ds : List Nat} (h : NbS w W k Ds) {D : Nat} (hD : w.heap.size + 4 ≤ D) (hd : W.heap[D]? = some (.deferred (some []))) : NbS w W k (D :: Ds) :=
  ⟨h.tabs, h.key, h.res, h.nob, h.sl, h.below, fun D' hD' => by
    rcases List.mem_cons.1 hD' with rfl | h'
    · exact ⟨hD, hd⟩
    · exact h.ds _ h'⟩
theorem NbS.lst {w W : World} {k : K} {Ds : List Nat} (h : NbS w W k Ds) : Nobody W (some ⟨w.heap.size + 1 + 1, 0, none⟩) := .inr ⟨_, rfl, h.nob⟩

theorem nbS_start {w : World} (k : K) (ht : Tabs w) : NbS w ((((w.alloc (KB k.b k.n k.t)).alloc (.cells #[.bool false] 4)).alloc (.cells #[.bool false, .bool false, .slice none 0 0, .map none, .int .i64 0] 61)).alloc (.cells #[.pointer none, .pointer (some ⟨w.heap.size + 1 + 1, 0, none⟩)] 25)) k [] := by
  have h1 := heap_alloc_new w (KB k.b k.n k.t)
  have h2 := heap_alloc_new (w.alloc (KB k.b k.n k.t)) (.cells #[.bool false] 4)
  have h3 := heap_alloc_new ((w.alloc (KB k.b k.n k.t)).alloc (.cells #[.bool false] 4)) nobB
  have h4 := heap_alloc_new (((w.alloc (KB k.b k.n k.t)).alloc (.cells #[.bool false] 4)).alloc nobB) (.cells #[.pointer none, .pointer (some ⟨w.heap.size + 1 + 1, 0, none⟩)] 25)
  simp only [World.size_alloc] at h2 h3 h4
  have hb : Below w.heap.size w ((((w.alloc (KB k.b k.n k.t)).alloc (.cells #[.bool false] 4)).alloc nobB).alloc (.cells #[.pointer none, .pointer (some ⟨w.heap.size + 1 + 1, 0, none⟩)] 25)) :=
    ((((Below.refl _ w).alloc (Nat.le_refl _) _).alloc (by simp) _).alloc (by simp; omega) _).alloc (by simp; omega) _
  exact ⟨ht, alloc_blk (alloc_blk (alloc_blk h1 _) _) _, alloc_blk (alloc_blk h2 _) _, alloc_blk h3 _, h4, hb, fun D h => by cases h⟩
theorem put_other {w : World} {l k : Nat} (o : Obj) (h : k ≠ l) : (w.putObj l o).heap[k]? = w.heap[k]? := by
  simp only [World.putObj, Array.getElem?_setIfInBounds]
  rw [if_neg (fun e => h e.symm)]
theorem below_put {n l : Nat} {w W : World} (h : Below n w W) (o : Obj) (hn : n ≤ w.heap.size) (hl : n ≤ l) : Below n w (W.putObj l o) :=
  h.grown (grownBy_putObj' W l o) (Nat.le_trans hn h.size) (fun k e => by cases e; exact hl)
/-- The two marks' blocks are shut behind the call. -/
theorem NbS.done {w W : World} {k : K} {D1 D0 : Nat} (h : NbS w W k [D1, D0]) (hne : D0 < D1) (u : Value) :
    (W.setCell ⟨w.heap.size + 1, 0, none⟩ u).heap[D1]? = some (.deferred (some [])) ∧ ((W.setCell ⟨w.heap.size + 1, 0, none⟩ u).putObj D1 (.deferred none)).heap[D0]? = some (.deferred (some [])) ∧
    (((W.setCell ⟨w.heap.size + 1, 0, none⟩ u).putObj D1 (.deferred none)).putObj D0 (.deferred none)).cell? ⟨w.heap.size + 1, 0, none⟩ = some u ∧
    Below w.heap.size w (((W.setCell ⟨w.heap.size + 1, 0, none⟩ u).putObj D1 (.deferred none)).putObj D0 (.deferred none)) := by
  obtain ⟨g1, e1⟩ := h.ds D1 (by simp)
  obtain ⟨g0, e0⟩ := h.ds D0 (by simp)
  have x1 : (W.setCell ⟨w.heap.size + 1, 0, none⟩ u).heap[D1]? = some (.deferred (some [])) := (Below.heap_setCell _ _ _ _ (fun c => by simp at c; omega)).trans e1
  have x0 : (W.setCell ⟨w.heap.size + 1, 0, none⟩ u).heap[D0]? = some (.deferred (some [])) := (Below.heap_setCell _ _ _ _ (fun c => by simp at c; omega)).trans e0
  have b := set_blk h.res 0 u
  refine ⟨x1, (put_other _ (by omega)).trans x0, cell_blk ((put_other _ (by omega)).trans ((put_other _ (by omega)).trans b)) 0, ?_⟩
  exact below_put (below_put (h.below.setCell (p := ⟨w.heap.size + 1, 0, none⟩) (by show _ ≤ w.heap.size + 1; omega) _) _ (Nat.le_refl _) (by omega)) _ (Nat.le_refl _) (by omega)

set_option maxRecDepth 100000 in
set_option maxHeartbeats 3200000 in
theorem nobody_of (k : K) (n : Int) (w : World) (ht : Tabs w) : Calls Tryd.prog 8 #[k.v, .int .i64 n] w (BoolPost w true) := by
  have HGet : ∀ (p : Option Addr) (W : World), Nobody W p → Calls Tryd.prog 20 #[.pointer p, .agg #[.bool k.b, .int .i64 k.n, .string k.t]] W fun e w' => e = .returned (.tuple #[.int .i64 0, .bool false]) ∧ Below W.heap.size W w' := fun p W h => nob_get k W h
  have HAt : ∀ (p : Option Addr) (W : World), Nobody W p → Calls Tryd.prog 29 #[.pointer p, .int .i64 n] W fun e w' => e = .returned (.tuple #[.agg #[.bool false, .int .i64 0, .string ⟨#[]⟩], .int .i64 0, .bool false]) ∧ Below W.heap.size W w' := fun p W h => nob_at n W h
  have HAp : ∀ (p : Option Addr) (W : World), Nobody W p → Calls Tryd.prog 24 #[.pointer p, .int .i64 n] W fun e w' => e = .returned (.tuple #[.agg #[.bool false, .int .i64 0, .string ⟨#[]⟩], .int .i64 5]) ∧ Below W.heap.size W w' := fun p W h => nob_append n W h
  have HSet : ∀ (p : Option Addr) (W : World), Nobody W p → Calls Tryd.prog 19 #[.pointer p, .agg #[.bool k.b, .int .i64 k.n, .string k.t], .int .i64 n] W fun e w' => e = .returned (.int .i64 5) ∧ Below W.heap.size W w' := fun p W h => nob_set k n W h
  have HDel : ∀ (p : Option Addr) (W : World), Nobody W p → Calls Tryd.prog 25 #[.pointer p, .agg #[.bool k.b, .int .i64 k.n, .string k.t]] W fun e w' => e = .returned (.bool false) ∧ Below W.heap.size W w' := fun p W h => nob_del k W h
  have HLen : ∀ (p : Option Addr) (W : World), Nobody W p → Calls Tryd.prog 21 #[.pointer p] W fun e w' => e = .returned (.int .i64 0) ∧ W = w' := fun p W h => nob_len W h
  have HNext : ∀ (p : Option Addr) (W : World), Nobody W p → Calls Tryd.prog 23 #[.pointer p] W fun e w' => e = .returned (.int .i64 (-1)) ∧ W = w' := fun p W h => nob_next W h
  have HCopy : ∀ (p : Option Addr) (W : World), Nobody W p → Calls Tryd.prog 28 #[.pointer p] W fun e w' => e = .returned (.pointer none) ∧ W = w' := fun p W h => nob_copy W h
  have S0 := Lib.hid (nbS_start k ht)
  clear ht
  unfold K.v
  refine callsIn_wide.1 (callsIn_of_wp_marks (F := Fence.wide) (n := 5) Tryd.func8 rfl trivial ?_ rfl)
  refine wpIn_wide.2 ?_
  simp only [Tryd.ntmps8, List.size_toArray, List.length_cons, List.length_nil, Nat.reduceAdd, Nat.reduceSub, Array.replicate_succ, Array.replicate_zero, List.push_toArray, List.append_toArray, List.nil_append, List.cons_append]
  go_wp2_with fail
  generalize hW : World.alloc (World.alloc (World.alloc (World.alloc w _) _) _) _ = W0 at S0 ⊢
  clear hW
  refine wp_loop_rounds 3 ?_
  rw [rounds_succ]
  obtain ⟨a0, a1, a2⟩ := cells3 S0.out.key
  have s0 : World.cell? _ ⟨w.heap.size + 1 + 1 + 1, 0, none⟩ = some (.pointer none) := cell_blk S0.out.sl 0
  go_wp2_with fail
  clear s0
  refine (HGet none _ (.inl rfl)).mono ?_
  rintro e Wa ⟨rfl, hb⟩
  have A0 := Lib.hid (S0.out.mono hb)
  clear a0 a1 a2 hb S0
  go_wp2_with fail
  refine (HAt none _ (.inl rfl)).mono ?_
  rintro e Wb ⟨rfl, hb⟩
  have B0 := Lib.hid ((A0.out.mono hb).mono (below_alloc1 Wb (KB false 0 ⟨#[]⟩)))
  clear hb A0
  go_wp2_with fail
  refine (HAp none _ (.inl rfl)).mono ?_
  rintro e Wc ⟨rfl, hb⟩
  have C0 := Lib.hid ((B0.out.mono hb).mono (below_alloc1 Wc (KB false 0 ⟨#[]⟩)))
  clear hb B0
  obtain ⟨a0, a1, a2⟩ := cells3 C0.out.key
  go_wp2_with fail
  refine (HSet none _ (.inl rfl)).mono ?_
  rintro e Wd ⟨rfl, hb⟩
  have D0 := Lib.hid (C0.out.mono hb)
  clear a0 a1 a2 hb C0
  obtain ⟨a0, a1, a2⟩ := cells3 D0.out.key
  go_wp2_with fail
  refine (HDel none _ (.inl rfl)).mono ?_
  rintro e We ⟨rfl, hb⟩
  have E0 := Lib.hid (D0.out.mono hb)
  clear a0 a1 a2 hb D0
  go_wp2_with (first
    | (go_at_call 21; refine (HLen none _ (.inl rfl)).mono ?_; rintro e w' ⟨rfl, rfl⟩)
    | (go_at_call 23; refine (HNext none _ (.inl rfl)).mono ?_; rintro e w' ⟨rfl, rfl⟩)
    | (go_at_call 28; refine (HCopy none _ (.inl rfl)).mono ?_; rintro e w' ⟨rfl, rfl⟩))
  refine (all_fn none _).mono ?_
  rintro e Wf ⟨rfl, rfl⟩
  have F0 := Lib.hid (E0.out.mono (below_alloc1 We (.cells #[.pointer none] 25)))
  have hB0 := heap_alloc_new We (.cells #[.pointer none] 25)
  have hs0 : w.heap.size + 4 ≤ We.heap.size := lt_of_block E0.out.sl
  clear E0
  go_wp2_with fail
  refine rangeFunc_none (gf := 53) (lb := #[.pointer (some ⟨We.heap.size, 0, none⟩)]) rfl (enters_of Tryd.func53 (by kernel_rfl) rfl) (fun l W hW => nob_iter l _ W ((.inl rfl)) (cell_blk ((hW.block _ (lt_of_block hB0)).trans hB0) 0)) ?_
  intro Dm0 W1 hD hb hK
  have S1 := Lib.hid ((F0.out.mono hb).add (D := Dm0) (by have e : (We.alloc (.cells #[.pointer none] 25)).heap.size = We.heap.size + 1 := World.size_alloc _ _; omega) hK)
  clear F0 hB0 hs0 hD hb hK
  go_wp2_with fail
  rw [rounds_succ]
  obtain ⟨a0, a1, a2⟩ := cells3 S1.out.key
  have s0 : World.cell? _ ⟨w.heap.size + 1 + 1 + 1, 1, none⟩ = some (.pointer (some ⟨w.heap.size + 1 + 1, 0, none⟩)) := cell_blk S1.out.sl 1
  go_wp2_with fail
  clear s0
  refine (HGet (some ⟨w.heap.size + 1 + 1, 0, none⟩) _ S1.out.lst).mono ?_
  rintro e Wa ⟨rfl, hb⟩
  have A1 := Lib.hid (S1.out.mono hb)
  clear a0 a1 a2 hb S1
  go_wp2_with fail
  refine (HAt (some ⟨w.heap.size + 1 + 1, 0, none⟩) _ A1.out.lst).mono ?_
  rintro e Wb ⟨rfl, hb⟩
  have B1 := Lib.hid ((A1.out.mono hb).mono (below_alloc1 Wb (KB false 0 ⟨#[]⟩)))
  clear hb A1
  go_wp2_with fail
  refine (HAp (some ⟨w.heap.size + 1 + 1, 0, none⟩) _ B1.out.lst).mono ?_
  rintro e Wc ⟨rfl, hb⟩
  have C1 := Lib.hid ((B1.out.mono hb).mono (below_alloc1 Wc (KB false 0 ⟨#[]⟩)))
  clear hb B1
  obtain ⟨a0, a1, a2⟩ := cells3 C1.out.key
  go_wp2_with fail
  refine (HSet (some ⟨w.heap.size + 1 + 1, 0, none⟩) _ C1.out.lst).mono ?_
  rintro e Wd ⟨rfl, hb⟩
  have D1 := Lib.hid (C1.out.mono hb)
  clear a0 a1 a2 hb C1
  obtain ⟨a0, a1, a2⟩ := cells3 D1.out.key
  go_wp2_with fail
  refine (HDel (some ⟨w.heap.size + 1 + 1, 0, none⟩) _ D1.out.lst).mono ?_
  rintro e We ⟨rfl, hb⟩
  have E1 := Lib.hid (D1.out.mono hb)
  clear a0 a1 a2 hb D1
  go_wp2_with (first
    | (go_at_call 21; refine (HLen (some ⟨w.heap.size + 1 + 1, 0, none⟩) _ E1.out.lst).mono ?_; rintro e w' ⟨rfl, rfl⟩)
    | (go_at_call 23; refine (HNext (some ⟨w.heap.size + 1 + 1, 0, none⟩) _ E1.out.lst).mono ?_; rintro e w' ⟨rfl, rfl⟩)
    | (go_at_call 28; refine (HCopy (some ⟨w.heap.size + 1 + 1, 0, none⟩) _ E1.out.lst).mono ?_; rintro e w' ⟨rfl, rfl⟩))
  refine (all_fn (some ⟨w.heap.size + 1 + 1, 0, none⟩) _).mono ?_
  rintro e Wf ⟨rfl, rfl⟩
  have F1 := Lib.hid (E1.out.mono (below_alloc1 We (.cells #[.pointer (some ⟨w.heap.size + 1 + 1, 0, none⟩)] 25)))
  have hB1 := heap_alloc_new We (.cells #[.pointer (some ⟨w.heap.size + 1 + 1, 0, none⟩)] 25)
  have hs1 : w.heap.size + 4 ≤ We.heap.size := lt_of_block E1.out.sl
  clear E1
  go_wp2_with fail
  refine rangeFunc_none (gf := 53) (lb := #[.pointer (some ⟨We.heap.size, 0, none⟩)]) rfl (enters_of Tryd.func53 (by kernel_rfl) rfl) (fun l W hW => nob_iter l _ W ((Lib.hid (F1.out.mono hW)).out.lst) (cell_blk ((hW.block _ (lt_of_block hB1)).trans hB1) 0)) ?_
  intro Dm1 W2 hD hb hK
  have S2 := Lib.hid ((F1.out.mono hb).add (D := Dm1) (by have e : (We.alloc (.cells #[.pointer (some ⟨w.heap.size + 1 + 1, 0, none⟩)] 25)).heap.size = We.heap.size + 1 := World.size_alloc _ _; omega) hK)
  have hne : Hid (Dm0 < Dm1) := Nat.lt_of_lt_of_le (lt_of_block (F1.out.ds Dm0 (by simp)).2) hD
  clear F1 hB1 hs1 hD hb hK
  go_wp2_with fail
  rw [rounds_succ]
  have H18 := lalive_any _ S2.out.tabsW
  go_wp2_with fail
  refine H18.mono ?_
  rintro e Wl ⟨rfl, hb⟩
  have T := Lib.hid (S2.out.mono hb)
  clear hb S2 H18
  have r0 := T.out.res
  have r1 := cell_blk r0 0
  have r2 := free_blk r0 0
  go_wp2_with fail
  clear r0 r1 r2
  obtain ⟨x1, x0, xc, xb⟩ := T.out.done hne.out (.bool true)
  clear T hne
  refine ⟨by simp, .inl ⟨_, _, rfl, run_takeDeferred x1, ?_⟩⟩
  refine ⟨by simp, .inl ⟨_, _, rfl, run_takeDeferred x0, ?_⟩⟩
  refine ⟨.bool true, ?_, rfl, xb⟩
  simp [results, Tryd.results8, go_sem, xc]
end Go.Proofs.YtgpdhmgbmhfooaaDoor
