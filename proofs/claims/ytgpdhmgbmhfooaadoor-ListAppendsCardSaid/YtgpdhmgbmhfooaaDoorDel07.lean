/-
  The walk of Del.
-/
import Derived.Test.YtgpdhmgbmhfooaaDoorDelP07
namespace Go.Proofs.YtgpdhmgbmhfooaaDoor
open Go.RowKit

/-- What Del leaves. -/
def DelPost (w : World) (b : Nat) (sh : Bool) (v : Value) (mb : Nat) (r : Bool × LS) (e : Ending) (w' : World) : Prop :=
  e = .returned (.bool r.1) ∧ ∃ sh' v' mb', ListIs w' b sh' v' mb' r.2 ∧ Mod (Foot b sh v mb) w w' ∧ Goes w.heap.size sh v mb sh' v' mb'

/-- An item is struck; the items from i on are not numbered anew yet. -/
structure DelS (w W : World) (b : Nat) (sh : Bool) (v : Value) (mb : Nat) (l : LS) (g cap mb' : Nat) (i : Nat) : Prop where
  blk : W.heap[b]? = some (.cells #[.bool true, .bool false, .slice (some ⟨g, 0, none⟩) l.xs.length cap, .map (some mb'), .int .i64 l.nx] 61 (0, 0))
  own : Owns W 88 4 (.slice (some ⟨g, 0, none⟩) l.xs.length cap) (l.xs.map It.cells)
  map : MapIs W mb' (numG l.xs i) l.xs.length
  ne1 : g ≠ b
  ne2 : mb' ≠ b
  ne3 : g ≠ mb'
  ok : l.Ok
  mod : Mod (Foot b sh v mb) w W
  goes : Goes w.heap.size sh v mb false (.slice (some ⟨g, 0, none⟩) l.xs.length cap) mb'
  hm : mb' < w.heap.size → Foot b sh v mb mb'
  cm : cap ≤ maxLen
theorem DelS.len {w W : World} {b : Nat} {sh : Bool} {v : Value} {mb : Nat} {l : LS} {g cap mb' i : Nat} (h : DelS w W b sh v mb l g cap mb' i) : l.xs.length ≤ 2048 := h.ok.len
theorem DelS.step {w W : World} {b : Nat} {sh : Bool} {v : Value} {mb : Nat} {l : LS} {g cap mb' i : Nat} (h : DelS w W b sh v mb l g cap mb' i) (hi : i < l.xs.length) {x : K} (hx : l.xs[i].1 = x) :
    ∃ w', (Instr.mapUpdate 59 (.map (some mb')) (.agg #[.bool x.b, .int .i64 x.n, .string x.t]) (.int .i64 i)).run Tryd.prog W.drew = .ok () w' ∧ DelS w w' b sh v mb l g cap mb' (i + 1) := by
  have hl := h.ok.len
  have hm1 : MapIs W.drew mb' (numG l.xs i) l.xs.length := h.map.kept rfl
  obtain ⟨w', hrun, hM, hG⟩ := hm1.put (by unfold maxLen; omega) (h.ok.norm _ (List.getElem_mem hi)).toGood (v := (i : Int)) (by omega) (by omega)
  rw [hx] at hrun hM
  have hs : (numG l.xs i x).isSome = true := by rw [← hx]; exact numG_some h.ok.once hi i
  rw [if_pos hs] at hM
  have hX : Mod (fun k => k = mb') W.drew w' := (Mod.refl _ _).grown hG (fun k e _ => by cases e; rfl)
  refine ⟨w', hrun, hX.blk h.blk (fun e => h.ne2 e.symm), ?_, hM.congr fun y _ => ?_, h.ne1, h.ne2, h.ne3, h.ok, ?_, h.goes, h.hm, h.cm⟩
  · exact (h.own.kept (w' := W.drew) (fun _ _ => rfl)).mod hX (fun k e c => h.ne3 (by cases e; exact c))
  · rw [numG_step h.ok.once hi y, hx]
  · exact (h.mod.drew).grown hG (fun k e hk => by cases e; exact h.hm hk)
theorem DelS.done {w W : World} {b : Nat} {sh : Bool} {v : Value} {mb : Nat} {l : LS} {g cap mb' : Nat} (h : DelS w W b sh v mb l g cap mb' l.xs.length) : DelPost w b sh v mb (true, l) (.returned (.bool true)) W := by
  have hM := h.map
  rw [numG_end] at hM
  exact ⟨rfl, false, _, mb', ⟨h.blk, h.own, hM, fun e => h.ne1 (by cases e; rfl), h.ne2, fun e => h.ne3 (by cases e; rfl), h.ok⟩, h.mod, h.goes⟩
theorem ldelete_list {g cap j : Nat} {us ys : List It} {w : World} (hys : ys = us.eraseIdx j) (hown : Owns w 88 4 (.slice (some ⟨g, 0, none⟩) us.length cap) (us.map It.cells)) (hj : j < us.length) (hlc : us.length ≤ cap) (hcm : cap ≤ maxLen) :
    Calls Tryd.prog 54 #[.slice (some ⟨g, 0, none⟩) us.length cap, .int .i64 j, .int .i64 ((j : Int) + 1)] w fun e w' =>
      e = .returned (.slice (some ⟨g, 0, none⟩) ys.length cap) ∧ Owns w' 88 4 (.slice (some ⟨g, 0, none⟩) ys.length cap) (ys.map It.cells) ∧ w.grownBy w' (some g) := by
  subst hys
  obtain ⟨M, hM⟩ := pred_of_lt hj
  have hl : (us.eraseIdx j).length = M := by rw [List.length_eraseIdx_of_lt hj, hM]; rfl
  rw [hM] at hown hlc
  rw [hM, hl, ← take_drop_erase]
  exact ldelete_any g cap j M us w hown hM (by omega) hlc hcm
theorem DelS.item {w W : World} {b : Nat} {sh : Bool} {v : Value} {mb : Nat} {l : LS} {g cap mb' i : Nat} (h : DelS w W b sh v mb l g cap mb' i) (hi : i < l.xs.length) :
    W.cell? ⟨g, i * 4, none⟩ = some (.bool l.xs[i].1.b) ∧ W.cell? ⟨g, i * 4 + 1, none⟩ = some (.int .i64 l.xs[i].1.n) ∧ W.cell? ⟨g, i * 4 + 2, none⟩ = some (.string l.xs[i].1.t) := by
  obtain ⟨ao, cap', hv, h1, h2, h3, _, h5⟩ := h.own.any
  rw [List.length_map] at hv
  obtain ⟨g', off, rfl, hg, _, hc⟩ := h3 i (It.cells l.xs[i]) (by simp [hi])
  obtain ⟨rfl, _⟩ := h5 g' off rfl
  cases hv
  have d0 := hc 0 _ rfl
  have d1 := hc 1 _ rfl
  have d2 := hc 2 _ rfl
  simp only [Nat.zero_add, Nat.add_zero] at d0 d1 d2
  exact ⟨d0, d1, d2⟩
theorem delS_start {w W3 w4 w5 w6 : World} {b : Nat} {sh : Bool} {v0 : Value} {mb mb4 gg cap4 B j : Nat} {l : LS} {ys : List It} {q : K}
    (A3 : InList w W3 b sh v0 mb l B q) (m4 : Mod (fun k => k = b) W3 w4)
    (g4 : ∀ g, (Value.slice (some ⟨gg, 0, none⟩) l.xs.length cap4).ownBlock = some g → W3.heap.size ≤ g ∨ (sh = false ∧ v0.ownBlock = some g)) (n4 : W3.heap.size ≤ mb4 ∨ (sh = false ∧ mb4 = mb))
    (i4 : ListIs w4 b false (.slice (some ⟨gg, 0, none⟩) l.xs.length cap4) mb4 l)
    (X5 : Mod (fun k => k = mb4) (w4.drewN 1) w5) (M5 : MapIs w5 mb4 (fun x => if x = q then none else placeF l.xs x) (l.xs.length - 1))
    (O6 : Owns w6 88 4 (.slice (some ⟨gg, 0, none⟩) ys.length cap4) (ys.map It.cells)) (G6 : w5.grownBy w6 (some gg))
    (B6 : w6.heap[b]? = some (.cells #[.bool true, .bool false, .slice (some ⟨gg, 0, none⟩) l.xs.length cap4, .map (some mb4), .int .i64 l.nx] 61 (0, 0)))
    (hys : ys = l.xs.eraseIdx j) (hf : findK q l.xs = some j) (hcm : cap4 ≤ maxLen) :
    DelS w (w6.setCell ⟨b, 2, none⟩ (.slice (some ⟨gg, 0, none⟩) ys.length cap4)) b sh v0 mb ⟨ys, l.nx⟩ gg cap4 mb4 j := by
  have hj := findK_lt hf
  have hgb : gg ≠ b := fun e => i4.ne1 (by rw [e]; rfl)
  have hgm : gg ≠ mb4 := fun e => i4.ne3 (by rw [e]; rfl)
  have hmb := i4.ne2
  have hlen : ys.length = l.xs.length - 1 := by rw [hys, List.length_eraseIdx_of_lt hj]
  have hs3 := A3.below.size
  have hm : mb4 < w.heap.size → Foot b sh v0 mb mb4 := fun h => by
    rcases n4 with h1 | ⟨h1, h2⟩
    · omega
    · exact .inr ⟨h1, .inr h2⟩
  have hg : gg < w.heap.size → Foot b sh v0 mb gg := fun h => by
    rcases g4 gg rfl with h1 | ⟨h1, h2⟩
    · omega
    · exact .inr ⟨h1, .inl h2⟩
  have X6 : Mod (fun k => k = gg) w5 w6 := (Mod.refl _ _).grown G6 (fun k e _ => by cases e; rfl)
  have Y6 : Mod (fun k => k = b) w6 (w6.setCell ⟨b, 2, none⟩ (.slice (some ⟨gg, 0, none⟩) ys.length cap4)) := (Mod.refl _ _).setCell _ _ (fun _ => rfl)
  refine ⟨?_, O6.mod Y6 (fun g e x => hgb (by cases e; exact x)), ?_, hgb, hmb, hgm, ?_, ?_, ?_, hm, hcm⟩
  · have := set_blk B6 2 (.slice (some ⟨gg, 0, none⟩) ys.length cap4)
    simpa using this
  · have h1 : MapIs w5 mb4 (numG ys j) ys.length := by
      rw [hlen]
      exact M5.congr fun x _ => by rw [hys, numG_start i4.ok.once hf x]
    exact (h1.mod X6 (fun e => hgm e.symm)).mod Y6 hmb
  · rw [hys]; exact del_ok i4.ok j
  · refine (((((Mod.of_below A3.below).trans' m4 (fun k _ e => .inl e)).drewN 1).trans' X5 (fun k hk e => ?_)).trans' X6 (fun k hk e => ?_)).trans' Y6 (fun k hk e => .inl e)
    · subst e; exact hm hk
    · subst e; exact hg hk
  · refine .inr ⟨rfl, fun g e => ?_, ?_⟩
    · rcases g4 g (by cases e; rfl) with h1 | h1
      · exact .inl (by omega)
      · exact .inr h1
    · rcases n4 with h1 | h1
      · exact .inl (by omega)
      · exact .inr h1
set_option maxRecDepth 100000 in
set_option maxHeartbeats 3200000 in
theorem del_none {b : Nat} {sh : Bool} {v : Value} {mb : Nat} {l : LS} {k : K} (hk : k.Good) (hf : findK k.norm l.xs = none) (w : World) (ht : Tabs w) (i : ListIs w b sh v mb l) :
    Calls Tryd.prog 25 #[.pointer (some ⟨b, 0, none⟩), k.v] w (DelPost w b sh v mb (false, l)) := by
  have hN := (K.norm_is hk).toGood
  obtain ⟨q, hq⟩ : ∃ q, q = k.norm := ⟨_, rfl⟩
  have HN : ∀ w, Tabs w → Calls Tryd.prog 15 #[.agg #[.bool k.b, .int .i64 k.n, .string k.t]] w fun e w' => e = .returned (.agg #[.bool q.b, .int .i64 q.n, .string q.t]) ∧ Below w.heap.size w w' := fun w h => by rw [hq]; exact norm_any k hk w h
  rw [← hq] at hN hf
  obtain ⟨ao, cap, hv, -⟩ := i.own.any
  rw [List.length_map] at hv
  subst hv
  have A0 : InList w (w.alloc (KB k.b k.n k.t)) b sh _ mb l w.heap.size k := ⟨ht, i.below (below_alloc1 _ _), heap_alloc_new _ _, below_alloc1 _ _⟩
  have c0 := (cells5 A0.lst.blk).1
  have HF := Lib.hid (⟨hN, hf, lt_of_block i.blk, i.map.lt, fun g e => i.own.lt (g := g) e⟩ : _ ∧ _ ∧ _ ∧ _ ∧ _)
  have AH := Lib.hid A0
  clear i ht hk hN hf hq A0
  unfold K.v
  go_enter Tryd.func25, Tryd.ntmps25
  go_wp2_with (go_at_call 51; refine (lok_any _ _ _ c0).mono ?_; rintro e w' ⟨rfl, rfl⟩)
  refine (HN _ AH.out.tabsW).mono ?_; rintro e w1 ⟨rfl, hb⟩; have A1 := Lib.hid (AH.out.mono hb); clear AH hb HN c0
  obtain ⟨f0, f1, f2⟩ := free3 A1.out.key
  obtain ⟨a0, a1, a2⟩ := cells3 A1.out.key
  have A2 : InList w _ b sh _ mb l w.heap.size q := A1.out.store (Nat.le_refl _) (by have := HF.out.2.2.1; omega) (by have := HF.out.2.2.2.1; omega) (fun e => by have := HF.out.2.2.2.2 _ e; omega) q
  go_wp2_with fail
  clear f0 f1 f2 a0 a1 a2
  go_region_held3 (fun W => W.cell? ⟨b, 3, none⟩ = some (.map (some mb)) ∧ W.cell? ⟨w.heap.size, 0, none⟩ = some (.bool q.b) ∧ W.cell? ⟨w.heap.size, 1, none⟩ = some (.int .i64 q.n) ∧ W.cell? ⟨w.heap.size, 2, none⟩ = some (.string q.t) ∧
    (Instr.lookup 59 (.map (some mb)) (.agg #[.bool q.b, .int .i64 q.n, .string q.t]) true).run Tryd.prog W = .ok (.tuple #[.int .i64 0, .bool false]) W ∧ InList w W b sh (.slice ao l.xs.length cap) mb l w.heap.size q)
    (first
      | assumption
      | exact setSN (InList.drew A2) HF.out.1 HF.out.2.1)
    (fail)
  have A3 := Lib.hid (InList.drew A2)
  generalize hW3 : World.drew _ = W3 at A3 ⊢
  clear hW3 A1 A2
  rename_i hHeld
  clear hHeld
  go_wp2_with fail
  go_ret
  exact ⟨rfl, sh, _, mb, A3.out.lst, Mod.of_below A3.out.below, Goes.refl _ _ _ _⟩

set_option maxRecDepth 100000 in
set_option maxHeartbeats 3200000 in
theorem del_some {b : Nat} {sh : Bool} {v : Value} {mb : Nat} {l : LS} {k : K} {j : Nat} (hk : k.Good) (hf : findK k.norm l.xs = some j) (hj : j < l.xs.length) (w : World) (ht : Tabs w) (i : ListIs w b sh v mb l) :
    Calls Tryd.prog 25 #[.pointer (some ⟨b, 0, none⟩), k.v] w (DelPost w b sh v mb (true, ⟨l.xs.eraseIdx j, l.nx⟩)) := by
  have hN := (K.norm_is hk).toGood
  obtain ⟨q, hq⟩ : ∃ q, q = k.norm := ⟨_, rfl⟩
  have HN : ∀ w, Tabs w → Calls Tryd.prog 15 #[.agg #[.bool k.b, .int .i64 k.n, .string k.t]] w fun e w' => e = .returned (.agg #[.bool q.b, .int .i64 q.n, .string q.t]) ∧ Below w.heap.size w w' := fun w h => by rw [hq]; exact norm_any k hk w h
  rw [← hq] at hN hf
  obtain ⟨ao, cap, hv, -⟩ := i.own.any
  rw [List.length_map] at hv
  subst hv
  have A0 : InList w (w.alloc (KB k.b k.n k.t)) b sh _ mb l w.heap.size k := ⟨ht, i.below (below_alloc1 _ _), heap_alloc_new _ _, below_alloc1 _ _⟩
  have c0 := (cells5 A0.lst.blk).1
  have HF := Lib.hid (⟨hN, hf, lt_of_block i.blk, i.map.lt, fun g e => i.own.lt (g := g) e⟩ : _ ∧ _ ∧ _ ∧ _ ∧ _)
  have HJ := Lib.hid hj
  obtain ⟨ys, hys⟩ : ∃ ys, ys = l.xs.eraseIdx j := ⟨_, rfl⟩
  rw [← hys]
  have HYS := Lib.hid hys
  clear hys
  have AH := Lib.hid A0
  clear i ht hk hN hf hq A0
  unfold K.v
  go_enter Tryd.func25, Tryd.ntmps25
  go_wp2_with (go_at_call 51; refine (lok_any _ _ _ c0).mono ?_; rintro e w' ⟨rfl, rfl⟩)
  refine (HN _ AH.out.tabsW).mono ?_; rintro e w1 ⟨rfl, hb⟩; have A1 := Lib.hid (AH.out.mono hb); clear AH hb HN c0
  obtain ⟨f0, f1, f2⟩ := free3 A1.out.key
  obtain ⟨a0, a1, a2⟩ := cells3 A1.out.key
  have A2 : InList w _ b sh _ mb l w.heap.size q := A1.out.store (Nat.le_refl _) (by have := HF.out.2.2.1; omega) (by have := HF.out.2.2.2.1; omega) (fun e => by have := HF.out.2.2.2.2 _ e; omega) q
  go_wp2_with fail
  clear f0 f1 f2 a0 a1 a2
  go_region_held3 (fun W => W.cell? ⟨b, 3, none⟩ = some (.map (some mb)) ∧ W.cell? ⟨w.heap.size, 0, none⟩ = some (.bool q.b) ∧ W.cell? ⟨w.heap.size, 1, none⟩ = some (.int .i64 q.n) ∧ W.cell? ⟨w.heap.size, 2, none⟩ = some (.string q.t) ∧
    (Instr.lookup 59 (.map (some mb)) (.agg #[.bool q.b, .int .i64 q.n, .string q.t]) true).run Tryd.prog W = .ok (.tuple #[.int .i64 j, .bool true]) W ∧ InList w W b sh (.slice ao l.xs.length cap) mb l w.heap.size q)
    (first
      | assumption
      | exact setSY (InList.drew A2) HF.out.1 HF.out.2.1)
    (fail)
  have A3 := Lib.hid (InList.drew A2)
  generalize hW3 : World.drew _ = W3 at A3 ⊢
  clear hW3 A1 A2
  rename_i hHeld
  clear hHeld
  obtain ⟨c0, c1, c2, c3, c4⟩ := cells5 A3.out.lst.blk
  go_wp2_with fail
  refine (own_any _ A3.out.lst).mono ?_; rintro e w4 ⟨rfl, v4, mb4, i4, m4, g4, n4⟩
  obtain ⟨gg, cap4, rfl, hlc, hcm, hgl, d0, d1, d2, d3⟩ := i4.item hj
  clear d0 d1 d2 d3 c0 c1 c2 c3 c4
  have hbB : b < w.heap.size := HF.out.2.2.1
  have key4 : w4.heap[w.heap.size]? = some (KB q.b q.n q.t) := m4.blk A3.out.key (fun e => by omega)
  have nB1 : mb4 ≠ w.heap.size := by
    have h1 := HF.out.2.2.2.1
    have h2 := lt_of_block A3.out.key
    rcases n4 with h | ⟨_, h⟩ <;> omega
  have hin : (placeF l.xs q).isSome = true := by unfold placeF; rw [HF.out.2.1]; rfl
  obtain ⟨w5, hrun, M5, G5⟩ := (i4.drewN 1).map.del (ty := 0) HF.out.1 hin
  have hrun' : (Builtin.delete_ #[59, 23] 0 #[.map (some mb4), .agg #[.bool q.b, .int .i64 q.n, .string q.t]]).run Tryd.prog w4.drew = .ok (.tuple #[]) w5 := hrun
  obtain ⟨a0, a1, a2, a3, a4⟩ := cells5 i4.blk
  obtain ⟨k0', k1', k2'⟩ := cells3 key4
  have b5 := (G5.block b (lt_of_block i4.blk) (fun e => i4.ne2 (by cases e; rfl))).trans i4.blk
  obtain ⟨e0, e1, e2, e3, e4⟩ := cells5 b5
  have X5 : Mod (fun k => k = mb4) (w4.drewN 1) w5 := (Mod.refl _ _).grown G5 (fun k e _ => by cases e; rfl)
  have O5 := Lib.hid ((i4.drewN 1).own.mod X5 (fun g e x => i4.ne3 (by rw [e, x])))
  have X5' := Lib.hid X5
  have M5' := Lib.hid M5
  have I4 := Lib.hid i4
  have X4 := Lib.hid (⟨m4, g4, n4⟩ : _ ∧ _ ∧ _)
  clear X5 M5 G5 i4 m4 g4 n4 hin
  have hw : IntKind.i64.wrap ((j : Int) + 1) = (j : Int) + 1 := wrap_in (by omega) (by unfold maxLen at hcm; omega)
  have hw' : wrap64 ((j : Int) + 1) = (j : Int) + 1 := wrap64_in' (by omega) (by unfold maxLen at hcm; omega)
  clear hrun
  go_wp2_with fail
  go_region
  have HD := ldelete_list HYS.out O5.out hj hlc hcm
  have HE := Lib.hid b5
  have hD' := (lt_of_block b5)
  clear b5 hrun' a0 a1 a2 a3 a4 k0' k1' k2'
  go_wp2_with fail
  refine HD.mono ?_
  rintro e w6 ⟨rfl, O6, G6⟩
  have hgb : gg ≠ b := fun e => I4.out.ne1 (by rw [e]; rfl)
  have hgm : gg ≠ mb4 := fun e => I4.out.ne3 (by rw [e]; rfl)
  have B6 := (G6.block b hD' (fun e => hgb (by cases e; rfl))).trans HE.out
  have c2 := cell_blk B6 2
  have f2 := free_blk B6 2
  have SS : DelS w (w6.setCell ⟨b, 2, none⟩ (.slice (some ⟨gg, 0, none⟩) ys.length cap4)) b sh (.slice ao l.xs.length cap) mb ⟨ys, l.nx⟩ gg cap4 mb4 j :=
    delS_start A3.out X4.out.1 X4.out.2.1 X4.out.2.2 I4.out X5'.out M5'.out O6 G6 B6 HYS.out HF.out.2.1 hcm
  clear HD HE hD' B6 O6 G6
  go_wp2_with fail
  have S0 := Lib.hid SS
  have HLj : Hid (j ≤ ys.length) := Lib.hid (by rw [HYS.out, List.length_eraseIdx_of_lt HJ.out]; have := HJ.out; omega)
  have hys := SS.len
  clear SS c2 f2 HYS HF HJ A3 O5 X5' M5' I4 X4
  go_loopw [5] (fun i wr => ∃ p : Nat, p ≤ ys.length ∧ i = .int .i64 p ∧ Hid (DelS w wr b sh (.slice ao l.xs.length cap) mb ⟨ys, l.nx⟩ gg cap4 mb4 p)) (fun i _ => ys.length - (intOf i).toNat)
  case atStart => exact ⟨j, HLj.out, rfl, S0⟩
  case round =>
    obtain ⟨p, hp, rfl, HS⟩ := hrel
    obtain ⟨c0, c1, c2, c3, c4⟩ := cells5 HS.out.blk
    by_cases hlt : p < ys.length
    · obtain ⟨w', hrun, HS'⟩ := HS.out.step (i := p) hlt rfl
      obtain ⟨d0, d1, d2⟩ := HS.out.item (i := p) hlt
      have HN := Lib.hid HS'
      clear HS'
      have hl := HN.out.ok.len
      have hw : IntKind.i64.wrap ((p : Int) + 1) = (p : Int) + 1 := wrap_in (by omega) (by simp only at hl; omega)
      have hw' : wrap64 ((p : Int) + 1) = (p : Int) + 1 := wrap64_in' (by omega) (by simp only at hl; omega)
      clear hl HS
      go_wp2_with fail
      go_region
      go_wp2_with fail
      go_roundw
      case rel =>
        refine ⟨p + 1, hlt, ?_, ?_⟩
        · exact congrArg (Value.int .i64) (by omega)
        · exact HN
      case measure =>
        clear hw hw' hrun hj hlc hcm hgl hbB nB1
        exact Nat.sub_lt_sub_left hlt (Nat.lt_succ_self p)
    · obtain rfl : p = ys.length := by omega
      go_wp2_with fail
      go_ret
      exact HS.out.done

theorem del_any {b : Nat} {sh : Bool} {v : Value} {mb : Nat} {l : LS} {k : K} (hk : k.Good) (w : World) (ht : Tabs w) (i : ListIs w b sh v mb l) :
    Calls Tryd.prog 25 #[.pointer (some ⟨b, 0, none⟩), k.v] w (DelPost w b sh v mb (delP k l)) := by
  cases hf : findK k.norm l.xs with
  | none =>
    have e : delP k l = (false, l) := by unfold delP; rw [hf]
    rw [e]
    exact del_none hk hf w ht i
  | some j =>
    have hj := findK_lt hf
    have e : delP k l = (true, ⟨l.xs.eraseIdx j, l.nx⟩) := by unfold delP; rw [hf]
    rw [e]
    exact del_some hk hf hj w ht i
end Go.Proofs.YtgpdhmgbmhfooaaDoor
