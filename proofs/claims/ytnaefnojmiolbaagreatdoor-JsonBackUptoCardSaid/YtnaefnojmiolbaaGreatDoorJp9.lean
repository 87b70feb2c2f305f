/-
  The walks of Copy and All; All's iterator: its contract.
  The walk of pack's all: a list's items in a slice of their own (printed by genAllZ.py).
-/
import Derived.Test.YtnaefnojmiolbaaGreatDoorJp2
import Derived.Test.YtnaefnojmiolbaaGreatDoorJp8
namespace Go.Proofs.YtnaefnojmiolbaaGreatDoor
open Go.RowKit Go.Shelf

attribute [local go_sem] Oper.semAt_some
/-- What Copy leaves. -/
def CopyPost (w : World) (b : Nat) (v : Value) (mb : Nat) (nx : Int) (e : Ending) (w' : World) : Prop :=
  e = .returned (.pointer (some ⟨w.heap.size, 0, none⟩)) ∧ w'.heap[w.heap.size]? = some (.cells #[.bool true, .bool true, v, .map (some mb), .int .i64 nx] 161 (0, 0)) ∧ Mod (fun k => k = b) w w'
set_option maxRecDepth 100000 in
theorem copy_any {b : Nat} {v : Value} {mb : Nat} {l : LS} {ys : List It2} (w : World) (i : LIs w b v mb l ys) : Calls Tryz.prog 130 #[.pointer (some ⟨b, 0, none⟩)] w (CopyPost w b v mb l.nx) := by
  obtain ⟨ao, cap, hv, -⟩ := i.own.any
  rw [rows2_len] at hv
  subst hv
  obtain ⟨c0, c1, c2, c3, c4⟩ := cells5 i.blk
  have f1 := free_blk i.blk 1
  have hb1 := set_blk i.blk 1 (.bool true)
  simp only [Array.setIfInBounds] at hb1
  have I := Lib.hid i
  obtain ⟨e0, e1, e2, e3, e4⟩ := cells5 (b := b) (m := true) (sh := true) (v := .slice ao ys.length cap) (mv := .map (some mb)) (nv := .int .i64 l.nx) (by simpa using hb1)
  clear i hb1
  go_enter Tryz.func130, Tryz.ntmps130
  go_wp2_with (go_at_call 128; refine (lok_any _ _ _ c0).mono ?_; rintro e w' ⟨rfl, rfl⟩)
  refine bodyPost_ret (v := .pointer (some ⟨w.heap.size, 0, none⟩)) (by simp [results, Tryz.results130, go_sem]) rfl ⟨rfl, ?_, ?_⟩
  · have h2 := heap_alloc_new (w.setCell ⟨b, 1, none⟩ (.bool true)) (.cells #[.bool true, .bool true, .slice ao ys.length cap, .map (some mb), .int .i64 l.nx] 161)
    rw [World.size_setCell] at h2
    exact h2
  · exact ((Mod.refl (fun k => k = b) w).setCell _ _ (fun _ => rfl)).alloc _
theorem all_fn (p : Option Addr) (w : World) : Calls Tryz.prog 100 #[.pointer p] w fun e w' => e = .returned (.func (.func 129) #[] #[.pointer (some ⟨w.heap.size, 0, none⟩)]) ∧ w' = w.alloc (.cells #[.pointer p] 129) := by
  go_enter Tryz.func100, Tryz.ntmps100
  go_wp2
  go_ret
  exact ⟨rfl, rfl⟩
theorem owns_type {w : World} {e size : Nat} {v : Value} {rows : List (List Value)} (o : Owns w e size v rows) {g : Nat} (hg : v.ownBlock = some g) : ∃ cur, w.heap[g]? = some (.cells cur e (0, 0)) := owns_blk o hg
def y0 : It2 := ((k0, .mk 0 0 ⟨#[]⟩ []), .slice none 0 0)
def itAt (ys : List It2) (j : Nat) : It2 := ys[j]?.getD y0
theorem itAt_lt {ys : List It2} {j : Nat} (h : j < ys.length) : itAt ys j = ys[j] := by unfold itAt; simp [h]
abbrev encL (ys : List It2) (j : Nat) : Array Value := #[(itAt ys j).1.1.v, (itAt ys j).1.2.v (itAt ys j).2]
/-- What the iterator does ahead of the first round: it marks the list. -/
def PreL (b : Nat) (_ : Nat) (W W' : World) : Prop := Mod (fun k => k = b) W W'
/-- What a round must keep: the items. -/
def KpL (v : Value) (_ : Nat) (W W' : World) : Prop := ∀ k cs t, v.ownBlock = some k → W.heap[k]? = some (.cells cs t (0, 0)) → W'.heap[k]? = some (.cells cs t (0, 0))
theorem KpL.owns {v : Value} {c : Nat} {W W' : World} {e : TypeId} {size : Nat} {rows : List (List Value)} (h : KpL v c W W') (o : Owns W e size v rows) : Owns W' e size v rows :=
  o.kept fun g e => by
    obtain ⟨cur, hc⟩ := owns_type o e
    rw [h g cur _ e hc, hc]
theorem KpL.trans {v : Value} {c : Nat} {A B C : World} (h : KpL v c A B) (k : KpL v c B C) : KpL v c A C := fun q cs t e hc => k q cs t e (h q cs t e hc)
theorem KpL.putObj {v : Value} {c : Nat} {W : World} {l : Nat} {o o' : Obj} (hl : W.heap[l]? = some o) (ho : o.isCells = false) : KpL v c W (W.putObj l o') := fun k cs t _ hc => by
  have hne : k ≠ l := fun e => by
    rw [e, hl] at hc
    cases hc
    cases ho
  exact (World.putObj_heap_other hne).trans hc
abbrev LB (y : K) (x : VT) (c : Value) : Obj := .cells #[.bool y.b, .int .i64 y.n, .string y.t, .int .i64 x.k, .int .i64 x.n, .string x.t, c] 167 (0, 0)
set_option maxRecDepth 100000 in
set_option maxHeartbeats 3200000 in
theorem all_seq {b mb : Nat} {v : Value} {l : LS} {ys : List It2} (B : Nat) (m : Nat) (w : World) (i : LIs w b v mb l ys) (hB : w.heap[B]? = some (.cells #[.pointer (some ⟨b, 0, none⟩)] 129 (0, 0))) :
    SeqG Fence.wide m Tryz.prog 129 #[.pointer (some ⟨B, 0, none⟩)] (encL ys) (PreL b) (KpL v) ys.length w := by
  obtain ⟨ao, cap, hv, -⟩ := i.own.any
  rw [rows2_len] at hv
  subst hv
  intro q J Jx W hbW hJa hY hP
  have iW := i.under hbW
  have c0 := (cells5 iW.blk).1
  have cB := cell_blk ((hbW.block _ (lt_of_block hB)).trans hB) 0
  have HC := copy_any W iW
  have hlen : ys.length ≤ 2048 := by rw [i.len]; exact i.ok.len
  have HS : Hid (∀ y ∈ ys, ∃ co cc, y.2 = .slice co y.1.2.xs.length cc) := Lib.hid (fun y hy => by obtain ⟨co, cc, h, -⟩ := (i.val y hy).form; exact ⟨co, cc, h⟩)
  have HI := Lib.hid iW
  have HY := Lib.hid hY
  have HP := Lib.hid hP
  have HJ := Lib.hid hJa
  clear i hB iW hY hP hJa hbW
  refine callsIn_of_wp Tryz.func129 rfl trivial ?_ rfl
  simp only [Tryz.ntmps129, List.size_toArray, List.length_cons, List.length_nil, Nat.reduceAdd, Nat.reduceSub, Array.replicate_succ, Array.replicate_zero, List.push_toArray, List.append_toArray, List.nil_append, List.cons_append]
  gi_wp2_with (first
    | (refine ⟨trivial, fun h => (by cases h), ?_⟩; gi_at_call 128; refine (callsIn_wide.2 (lok_any _ _ _ c0)).mono ?_; rintro e w' ⟨rfl, rfl⟩)
    | (refine ⟨trivial, fun h => (by cases h), ?_⟩; gi_at_call 130; refine (callsIn_wide.2 HC).mono ?_; rintro e w1 ⟨rfl, i2, m1⟩; have P0 := HP.out 0 w1 m1; have c2 := (cells5 i2).2.2.1; have O1 := Lib.hid (HI.out.own.mod m1 (fun g e x => HI.out.ne1 (by rw [e, x]))); clear HP i2 m1))
  gi_loopw [16] (fun i wr => ∃ k : Nat, k ≤ ys.length ∧ i = .int .i64 k ∧ Hid (J 0 k wr ∧ Owns wr 167 7 (.slice ao ys.length cap) (rows2 ys))) (fun i _ => ys.length - (intOf i).toNat)
  case atStart => exact ⟨0, Nat.zero_le _, rfl, P0, O1.out⟩
  case round =>
    obtain ⟨k, hk, rfl, HS2⟩ := hrel
    by_cases hlt : k < ys.length
    · obtain ⟨ao', cap', hv, h1, h2, h3, _, h5⟩ := HS2.out.2.any
      rw [rows2_len] at hv
      cases hv
      obtain ⟨g, off, rfl, hg, _, hc⟩ := h3 k (itCells ys[k].1 ys[k].2) (by simp [rows2, hlt])
      obtain ⟨rfl, _⟩ := h5 g off rfl
      have d0 := hc 0 _ rfl
      have d1 := hc 1 _ rfl
      have d2 := hc 2 _ rfl
      have d3 := hc 3 _ rfl
      have d4 := hc 4 _ rfl
      have d5 := hc 5 _ rfl
      have d6 := hc 6 _ rfl
      simp only [Nat.zero_add, Nat.add_zero] at d0 d1 d2 d3 d4 d5 d6
      have hi1 : (k : Int) < (ys.length : Int) := by omega
      obtain ⟨co, cc, hcv⟩ := HS.out ys[k] (List.getElem_mem hlt)
      obtain ⟨y, x, c, hyx⟩ : ∃ y x c, ((y, x), c) = ys[k] := ⟨_, _, _, rfl⟩
      rw [← hyx] at d0 d1 d2 d3 d4 d5 d6 hcv
      have hcv : c = .slice co x.xs.length cc := hcv
      subst hcv
      have HR := HY.out 0 k (wr.alloc (LB y x (.slice co x.xs.length cc))) (HJ.out _ _ _ _ HS2.out.1) hlt
      have he : encL ys k = #[.agg #[.bool y.b, .int .i64 y.n, .string y.t], .agg #[.int .i64 x.k, .int .i64 x.n, .string x.t, .slice co x.xs.length cc]] := by unfold encL; rw [itAt_lt hlt, ← hyx]; rfl
      rw [he] at HR
      obtain ⟨fn, tmps, assign, body, hy, hR⟩ := HR
      clear h1 h2 h3 h5 hc hyx he HY hg
      gi_wp2
      refine ⟨fun h => (by cases h), hR.mono ?_⟩
      clear hy hR
      rintro e W3 (⟨rfl, hJ3, hk3⟩ | ⟨rfl, hJx3⟩)
      · gi_wp2
        go_roundw
        case rel => exact ⟨k + 1, hlt, by go_num, hJ3, hk3.owns (HS2.out.2.kept (fun g e => Below.heap_alloc _ _ _ (HS2.out.2.lt e)))⟩
        case measure => exact Nat.sub_lt_sub_left hlt (Nat.lt_succ_self k)
      · gi_wp2
        refine bodyPost_ret (results_none rfl _ _ _) rfl ?_
        exact ⟨⟨_, rfl⟩, 0, .inr ⟨k, hlt, hJx3⟩⟩
    · obtain rfl : k = ys.length := by omega
      gi_wp2
      refine bodyPost_end (v := .tuple #[]) (by simp [results, Tryz.results129, go_sem]) rfl ?_
      exact ⟨⟨_, rfl⟩, 0, .inl HS2.out.1⟩
end Go.Proofs.YtnaefnojmiolbaaGreatDoor

namespace Go.Proofs.YtnaefnojmiolbaaGreatDoor
open Go.RowKit Go.Shelf

attribute [local go_sem] Oper.semAt_some
theorem info64 : (Tryz.prog.info? 64).map (fun i => (i.zero, i.size, i.bytes)) = some (some (.agg #[.bool false, .int .i64 0, .string ⟨#[]⟩, .int .i64 0, .int .i64 0, .string ⟨#[]⟩, .slice none 0 0]), 7, 88) := by kernel_rfl
theorem keeps_of_mod {Z : Nat → Prop} {W W' : World} (B : Nat) (m : Mod Z W W') (hz : ∀ k, Z k → k < W.heap.size → ∃ cs t fr, W.heap[k]? = some (.cells cs t fr)) : KeepsR B W W' :=
  KeepsR.of_mod B m (fun k o h ho => by obtain ⟨cs, t, fr, hc⟩ := hz k h (lt_of_block ho); rw [hc] at ho; cases ho; rfl)
theorem grown_blk {W W' : World} {row : Option Nat} {B : Nat} {k : Nat} {o : Obj} (hk : W.heap[k]? = some o) (ho : ∀ x, o ≠ .loop x) (hg : W.grownBy W' row) (hr : ∀ r, row = some r → B ≤ r ∧ ∃ o : Loop, W.heap[r]? = some (.loop o)) : W'.heap[k]? = some o :=
  ownL_block (β := Unit) B k o ho () W W' row hk hg hr
theorem cells_noloop (cs : Array Value) (t : TypeId) (fr : Nat × Nat) : ∀ x, (Obj.cells cs t fr) ≠ .loop x := fun x e => by cases e
/-- While a list is gone over: what has come out so far. -/
structure AI (w W : World) (b : Nat) (ys : List It2) (j : Nat) (vo : Value) : Prop where
  out : W.heap[w.heap.size]? = some (.cells #[vo] 22 (0, 0))
  own : Owns W 64 7 vo (rows2 (ys.take j))
  fresh : ∀ g, vo.ownBlock = some g → w.heap.size < g
  mod : Mod (fun k => k = b) w W
theorem AI.loop {w W W' : World} {b : Nat} {ys : List It2} {j : Nat} {vo : Value} (h : AI w W b ys j vo) {row : Option Nat} {B : Nat} (hB : w.heap.size < B) (hg : W.grownBy W' row) (hr : ∀ r, row = some r → B ≤ r ∧ ∃ o : Loop, W.heap[r]? = some (.loop o)) : AI w W' b ys j vo :=
  ⟨grown_blk h.out (cells_noloop _ _ _) hg hr, h.own.kept fun g e => by
      obtain ⟨cur, hc⟩ := owns_type h.own e
      rw [grown_blk hc (cells_noloop _ _ _) hg hr, hc], h.fresh, h.mod.grown hg (fun k e hk => by have := (hr k e).1; omega)⟩
theorem AI.under {w W W' : World} {b : Nat} {ys : List It2} {j : Nat} {vo : Value} (h : AI w W b ys j vo) (hb : Below W.heap.size W W') : AI w W' b ys j vo :=
  ⟨(hb.block _ (lt_of_block h.out)).trans h.out, h.own.kept fun g e => hb.block g (h.own.lt e), h.fresh, h.mod.trans (Mod.of_below hb)⟩
theorem SQ.set0 {B : Nat} {q : K} {x : VT} {c : Value} {W : World} {b : Nat} {v : Value} (h : SQ B q x c W) (h1 : b ≠ B) (h2 : b ≠ B + 1) : SQ B q x c (W.setCell ⟨b, 0, none⟩ v) :=
  h.mod ((Mod.refl (fun k => k = b) W).setCell _ _ (fun _ => rfl)) (fun e => h1 e.symm) (fun e => h2 e.symm)
/-- Within a round: the item has come. -/
structure AR (w W2 : World) (b : Nat) (ys : List It2) (j : Nat) (vo : Value) (B0 : Nat) (v : Value) : Prop where
  ai : AI w W2 b ys j vo
  hj : j < ys.length
  hB : w.heap.size < B0
  nb : b < w.heap.size
  vlt : ∀ g, v.ownBlock = some g → g < w.heap.size
section
variable {w W2 w6 : World} {b : Nat} {ys : List It2} {j : Nat} {vo v : Value} {g7 cap6 B0 : Nat} {o : Obj} {y : K} {x : VT} {co : Option Addr} {cc : Nat}
theorem ar_mod (_R : AR w W2 b ys j vo B0 v) (G6 : (W2.drew.alloc o).grownBy w6 vo.ownBlock) : Mod (fun k => k = w.heap.size ∨ vo.ownBlock = some k) W2 w6 :=
  ((Mod.refl (fun k => k = w.heap.size ∨ vo.ownBlock = some k) W2).drew.alloc o).grown G6 (fun _k e _ => .inr e)
theorem ar_g (V6 : (Value.slice (some ⟨g7, 0, none⟩) (j + 1) cap6).ownBlock = vo.ownBlock ∨ ∃ k, (Value.slice (some ⟨g7, 0, none⟩) (j + 1) cap6).ownBlock = some k ∧ (W2.drew.alloc o).heap.size ≤ k) : g7 < W2.heap.size → vo.ownBlock = some g7 := fun h => by
  rcases V6 with e | ⟨k, e, hk⟩
  · rw [← e]; rfl
  · have h3 : g7 = k := Option.some.inj e
    simp at hk
    omega
theorem ar_fresh (R : AR w W2 b ys j vo B0 v) (V6 : (Value.slice (some ⟨g7, 0, none⟩) (j + 1) cap6).ownBlock = vo.ownBlock ∨ ∃ k, (Value.slice (some ⟨g7, 0, none⟩) (j + 1) cap6).ownBlock = some k ∧ (W2.drew.alloc o).heap.size ≤ k) : w.heap.size < g7 := by
  rcases V6 with e | ⟨k, e, hk⟩
  · exact R.ai.fresh g7 e.symm
  · have h3 : g7 = k := Option.some.inj e
    have := lt_of_block R.ai.out
    simp at hk
    omega
theorem take_rows {ys : List It2} {j : Nat} {y : It2} (hy : ys[j]? = some y) : rows2 (ys.take (j + 1)) = rows2 (ys.take j) ++ [itCells y.1 y.2] := by
  rw [List.take_add_one, hy]
  simp [rows2]
/-- What a round leaves. -/
def ArPost (w W2 W : World) (b : Nat) (ys : List It2) (j B0 : Nat) (v : Value) : Prop := KeepsR B0 W2 W ∧ KpL v 0 W2 W ∧ ∃ vo', AI w W b ys (j + 1) vo'
theorem ar_post (R : AR w W2 b ys j vo B0 v) {W : World} {vo' : Value} (m : Mod (fun k => k = w.heap.size ∨ vo.ownBlock = some k) W2 W) (h1 : W.heap[w.heap.size]? = some (.cells #[vo'] 22 (0, 0))) (h2 : Owns W 64 7 vo' (rows2 (ys.take (j + 1)))) (h3 : ∀ g, vo'.ownBlock = some g → w.heap.size < g) : ArPost w W2 W b ys j B0 v := by
  refine ⟨keeps_of_mod _ m (fun k e _ => ?_), fun k cs t e hc => m.blk hc (fun h => ?_), vo', h1, h2, h3, R.ai.mod.trans' m (fun i hi e => ?_)⟩
  · rcases e with rfl | e
    · exact ⟨_, _, _, R.ai.out⟩
    · obtain ⟨cur, hc⟩ := owns_type R.ai.own e
      exact ⟨_, _, _, hc⟩
  · have := R.vlt k e
    rcases h with h | h
    · omega
    · have := R.ai.fresh k h; omega
  · rcases e with rfl | e
    · omega
    · have := R.ai.fresh i e; omega
theorem round_doneA (R : AR w W2 b ys j vo B0 v) (B6 : w6.heap[w.heap.size]? = some (.cells #[vo] 22 (0, 0))) (O6 : Owns w6 64 7 (.slice (some ⟨g7, 0, none⟩) (j + 1) cap6) (rows2 (ys.take j) ++ [zrow])) (hn : (rows2 (ys.take j)).length = j)
    (G6 : (W2.drew.alloc o).grownBy w6 vo.ownBlock) (V6 : (Value.slice (some ⟨g7, 0, none⟩) (j + 1) cap6).ownBlock = vo.ownBlock ∨ ∃ k, (Value.slice (some ⟨g7, 0, none⟩) (j + 1) cap6).ownBlock = some k ∧ (W2.drew.alloc o).heap.size ≤ k) (hbg : w.heap.size ≠ g7) (hy : ys[j]? = some ((y, x), .slice co x.xs.length cc)) :
    ArPost w W2 ((put7 w6 g7 (j * 7) (.bool y.b) (.int .i64 y.n) (.string y.t) (.int .i64 x.k) (.int .i64 x.n) (.string x.t) (.slice co x.xs.length cc)).setCell ⟨w.heap.size, 0, none⟩ (.slice (some ⟨g7, 0, none⟩) (j + 1) cap6)) b ys j B0 v := by
  have hb7 := put7_mod (o := j * 7) (a0 := .bool y.b) (a1 := .int .i64 y.n) (a2 := .string y.t) (a3 := .int .i64 x.k) (a4 := .int .i64 x.n) (a5 := .string x.t) (a6 := .slice co x.xs.length cc) |>.blk B6 hbg
  refine ar_post R (vo' := .slice (some ⟨g7, 0, none⟩) (j + 1) cap6) ?_ (by have := set_blk hb7 0 (.slice (some ⟨g7, 0, none⟩) (j + 1) cap6); simpa using this) ?_ (fun g e => by have h3 : g7 = g := Option.some.inj e; rw [← h3]; exact ar_fresh R V6)
  · exact ((ar_mod R G6).trans' put7_mod (fun i hi e => .inr (by subst e; exact ar_g V6 hi))).setCell _ _ (fun _ => .inl rfl)
  · rw [take_rows hy]
    have o7 := owns_put7 O6 hn (.bool y.b) (.int .i64 y.n) (.string y.t) (.int .i64 x.k) (.int .i64 x.n) (.string x.t) (.slice co x.xs.length cc) (by simp [Value.oneCell'])
    exact o7.kept fun g e => by
      have h3 : g7 = g := Option.some.inj e
      exact Below.heap_setCell _ _ _ _ (fun e2 => hbg (by rw [h3]; exact e2.symm))
theorem round_doneB (R : AR w W2 b ys j vo B0 v) (B6 : w6.heap[w.heap.size]? = some (.cells #[vo] 22 (0, 0))) (O6 : Owns w6 64 7 (.slice (some ⟨g7, 0, none⟩) (j + 1) cap6) (rows2 (ys.take j) ++ [zrow])) (hn : (rows2 (ys.take j)).length = j)
    (G6 : (W2.drew.alloc o).grownBy w6 vo.ownBlock) (V6 : (Value.slice (some ⟨g7, 0, none⟩) (j + 1) cap6).ownBlock = vo.ownBlock ∨ ∃ k, (Value.slice (some ⟨g7, 0, none⟩) (j + 1) cap6).ownBlock = some k ∧ (W2.drew.alloc o).heap.size ≤ k) (hbg : w.heap.size ≠ g7) (hy : ys[j]? = some ((y, x), .slice co x.xs.length cc)) :
    ArPost w W2 (put7 (w6.setCell ⟨w.heap.size, 0, none⟩ (.slice (some ⟨g7, 0, none⟩) (j + 1) cap6)) g7 (j * 7) (.bool y.b) (.int .i64 y.n) (.string y.t) (.int .i64 x.k) (.int .i64 x.n) (.string x.t) (.slice co x.xs.length cc)) b ys j B0 v := by
  have hb7 : (w6.setCell ⟨w.heap.size, 0, none⟩ (.slice (some ⟨g7, 0, none⟩) (j + 1) cap6)).heap[w.heap.size]? = some (.cells #[.slice (some ⟨g7, 0, none⟩) (j + 1) cap6] 22 (0, 0)) := by have := set_blk B6 0 (.slice (some ⟨g7, 0, none⟩) (j + 1) cap6); simpa using this
  refine ar_post R (vo' := .slice (some ⟨g7, 0, none⟩) (j + 1) cap6) ?_ (put7_mod.blk hb7 hbg) ?_ (fun g e => by have h3 : g7 = g := Option.some.inj e; rw [← h3]; exact ar_fresh R V6)
  · exact ((ar_mod R G6).setCell ⟨w.heap.size, 0, none⟩ (.slice (some ⟨g7, 0, none⟩) (j + 1) cap6) (fun _ => .inl rfl)).trans' put7_mod (fun i hi e => .inr (by subst e; exact ar_g V6 hi))
  · rw [take_rows hy]
    have o6 : Owns (w6.setCell ⟨w.heap.size, 0, none⟩ (.slice (some ⟨g7, 0, none⟩) (j + 1) cap6)) 64 7 (.slice (some ⟨g7, 0, none⟩) (j + 1) cap6) (rows2 (ys.take j) ++ [zrow]) := O6.kept fun g e => by
      have h3 : g7 = g := Option.some.inj e
      exact Below.heap_setCell _ _ _ _ (fun e2 => hbg (by rw [h3]; exact e2.symm))
    exact owns_put7 o6 hn (.bool y.b) (.int .i64 y.n) (.string y.t) (.int .i64 x.k) (.int .i64 x.n) (.string x.t) (.slice co x.xs.length cc) (by simp [Value.oneCell'])
end
/-- Items owned in blocks of items are items behind a slice value. -/
theorem vt64_of {W : World} {vo : Value} {ys : List It2} (o : Owns W 64 7 vo (rows2 ys)) (hv : ∀ y ∈ ys, VT64 W y.2 y.1.2.xs) (hl : ys.length ≤ 140737488355328) : VT64 W vo (ys.map (·.1)) := by
  obtain ⟨ao, cap, hvo, -, -, hl2, -, hown⟩ := o.any
  have hlen : (rows2 ys).length = (ys.map (·.1)).length := by rw [rows2_len, List.length_map]
  rw [hlen] at hvo
  subst hvo
  refine VAt.mk ao cap (ys.map (·.1)) (fun j => (itAt ys j).2) ?_ ?_ (by rw [List.length_map]; exact hl) ?_
  · have e : rowsV (ys.map (·.1)) (fun j => (itAt ys j).2) = rows2 ys := by
      unfold rowsV rows2
      apply List.ext_getElem
      · simp
      · intro i h1 h2
        simp at h1 h2
        simp [itAt_lt (ys := ys) (j := i) (by omega)]
    rw [e]
    exact hl2
  · intro g off e hne
    obtain ⟨rfl, hown2⟩ := hown g off e
    obtain ⟨cur, hc⟩ := owns_type o hown2
    exact ⟨cur, _, hc⟩
  · intro j hj
    have hj' : j < ys.length := by simpa using hj
    rw [itAt_lt hj']
    simpa using hv ys[j] (List.getElem_mem hj')
/-- What all leaves. -/
def AllPost (w : World) (b : Nat) (xs : List It) (e : Ending) (w' : World) : Prop :=
  ∃ co cc, e = .returned (.slice co xs.length cc) ∧ VT64 w' (.slice co xs.length cc) xs ∧ Mod (fun k => k = b) w w'
set_option maxRecDepth 100000 in
set_option maxHeartbeats 6400000 in
theorem all_any {b mb : Nat} {v : Value} {l : LS} {ys : List It2} (w : World) (i : LIs w b v mb l ys) : Calls Tryz.prog 120 #[.pointer (some ⟨b, 0, none⟩)] w (AllPost w b l.xs) := by
  have hlen : ys.length ≤ 2048 := by rw [i.len]; exact i.ok.len
  have HI := Lib.hid i
  have hb1 := below_alloc1 w (.cells #[.slice none 0 0] 22)
  have HO := Lib.hid (heap_alloc_new w (.cells #[.slice none 0 0] 22))
  have HB1 := Lib.hid hb1
  clear i hb1
  refine callsIn_wide.1 (callsIn_of_wp_marks (F := Fence.wide) (n := 5) Tryz.func120 rfl trivial ?_ rfl)
  refine wpIn_wide.2 ?_
  simp only [Tryz.ntmps120, List.size_toArray, List.length_cons, List.length_nil, Nat.reduceAdd, Nat.reduceSub, Array.replicate_succ, Array.replicate_zero, List.push_toArray, List.append_toArray, List.nil_append, List.cons_append]
  go_wp2_with fail
  refine (all_fn (some ⟨b, 0, none⟩) _).mono ?_
  rintro e Wf ⟨rfl, rfl⟩
  have A0 : Hid (AI w ((w.alloc (.cells #[.slice none 0 0] 22)).alloc (.cells #[.pointer (some ⟨b, 0, none⟩)] 129)) b ys 0 (.slice none 0 0)) := Lib.hid ⟨alloc_blk HO.out _, Owns.empty _ _ _, fun g e => by simp [Value.ownBlock] at e, ((Mod.refl _ w).alloc _).alloc _⟩
  have L0 := Lib.hid (HI.out.under (HB1.out.alloc (by simp) (.cells #[.pointer (some ⟨b, 0, none⟩)] 129)))
  have hPB := Lib.hid (heap_alloc_new (w.alloc (.cells #[.slice none 0 0] 22)) (.cells #[.pointer (some ⟨b, 0, none⟩)] 129))
  have hs0 : Hid (((w.alloc (.cells #[.slice none 0 0] 22)).alloc (.cells #[.pointer (some ⟨b, 0, none⟩)] 129)).heap.size = w.heap.size + 2) := Lib.hid (by simp)
  have hlow : Hid (b < w.heap.size ∧ ∀ g, v.ownBlock = some g → g < w.heap.size) := Lib.hid ⟨lt_of_block HI.out.blk, fun g e => HI.out.own.lt e⟩
  go_wp2_with fail
  generalize hW : (w.alloc (.cells #[.slice none 0 0] 22)).alloc (.cells #[.pointer (some ⟨b, 0, none⟩)] 129) = W1 at A0 L0 hPB hs0 ⊢
  clear hW
  refine (wpIn_wide (n := 5)).1 ?_
  refine rangeG_outer (F := Fence.wide) (n := 5) rfl (by omega) (gf := 129) (lbs := #[.pointer (some ⟨(w.alloc (.cells #[.slice none 0 0] 22)).heap.size, 0, none⟩)]) (by simp [Act.eval]) trivial (enters_of Tryz.func129 (by kernel_rfl) rfl) (all_seq (w.alloc (.cells #[.slice none 0 0] 22)).heap.size 4 _ L0.out hPB.out) (Below.refl _ _)
    (I := fun _ j W => ∃ vo, AI w W b ys j vo) (Ix := fun _ _ _ _ => False) ?body ?start ?done ?stop
  case stop => exact fun _ _ _ _ _ _ _ h => h.elim
  case start =>
    rintro c W2 W3 hb m3
    have A2 := A0.out.under hb
    have hbl : b < w.heap.size := hlow.out.1
    have L2 := L0.out.under hb
    exact ⟨keeps_of_mod _ m3 (fun k e _ => by subst e; exact ⟨_, _, _, L2.blk⟩), .slice none 0 0, m3.blk A2.out (fun e => by omega), A2.own.kept (fun g e => by simp [Value.ownBlock] at e), A2.fresh, A2.mod.trans m3⟩
  case body =>
    have hBw : w.heap.size < W1.heap.size := by have := hs0.out; omega
    refine ⟨fun _ => rfl, KpL.trans, fun c W l o o' _ h ho => KpL.putObj h ho, fun c s W W' row h hg hr => by obtain ⟨vo, h⟩ := h; exact ⟨vo, h.loop hBw hg hr⟩, fun _ _ _ _ _ _ h _ _ => h, ?_⟩
    intro lq c j W hlq hloop HI2 hj
    obtain ⟨vo, hAI⟩ := HI2
    have HA := Lib.hid hAI
    have HL2 := Lib.hid hloop
    obtain ⟨co, cc, hcv⟩ : ∃ co cc, (ys[j]).2 = .slice co (ys[j]).1.2.xs.length cc := by obtain ⟨co, cc, h, -⟩ := (HI.out.val ys[j] (List.getElem_mem hj)).form; exact ⟨co, cc, h⟩
    obtain ⟨y, x, c2, hyx⟩ : ∃ y x c2, ((y, x), c2) = ys[j] := ⟨_, _, _, rfl⟩
    rw [← hyx] at hcv
    have hcv : c2 = .slice co x.xs.length cc := hcv
    subst hcv
    have HYX : Hid (ys[j]? = some ((y, x), .slice co x.xs.length cc)) := Lib.hid (by rw [List.getElem?_eq_getElem hj, ← hyx])
    have he : encL ys j = #[.agg #[.bool y.b, .int .i64 y.n, .string y.t], .agg #[.int .i64 x.k, .int .i64 x.n, .string x.t, .slice co x.xs.length cc]] := by unfold encL; rw [itAt_lt hj, ← hyx]; rfl
    rw [he]
    have HJ := Lib.hid hj
    clear hAI hloop hyx he hj
    gi_wp2
    have hbA : Below W.heap.size W ((W.alloc (KB y.b y.n y.t)).alloc (VB x (.slice co x.xs.length cc))) := (below_alloc1 W _).alloc (by simp) _
    refine ⟨KeepsR.of_below _ hbA, fun k cs t _ hc => alloc_blk (alloc_blk hc _) _, (by obtain ⟨r, hr⟩ := HL2.out; exact ⟨r, alloc_blk (alloc_blk hr _) _⟩), ?_⟩
    intro st
    obtain ⟨W2, hW2⟩ : ∃ W2, W2 = (((W.alloc (KB y.b y.n y.t)).alloc (VB x (.slice co x.xs.length cc))).putObj lq (.loop st)) := ⟨_, rfl⟩
    rw [← hW2]
    have hlqW : lq < W.heap.size := by obtain ⟨r, hr⟩ := HL2.out; exact lt_of_block hr
    have R2 : Hid (AR w W2 b ys j vo W1.heap.size v) := by
      refine Lib.hid ⟨?_, HJ.out, hBw, hlow.out.1, hlow.out.2⟩
      rw [hW2]
      obtain ⟨r, hr⟩ := HL2.out
      exact (HA.out.under hbA).loop hBw (grownBy_putObj' _ lq (.loop st)) (fun k e => by cases e; exact ⟨hlq, r, alloc_blk (alloc_blk hr _) _⟩)
    have hKV : Hid (SQ W.heap.size y x (.slice co x.xs.length cc) W2) := by
      refine Lib.hid ⟨?_, ?_⟩
      · rw [hW2]
        exact (World.putObj_heap_other (by omega)).trans (alloc_blk (heap_alloc_new W (KB y.b y.n y.t)) _)
      · rw [hW2]
        have h := heap_alloc_new (W.alloc (KB y.b y.n y.t)) (VB x (.slice co x.xs.length cc))
        rw [World.size_alloc] at h
        exact (World.putObj_heap_other (by omega)).trans h
    have hkbs : Hid (w.heap.size < W.heap.size ∧ ∀ g, vo.ownBlock = some g → g < W.heap.size) := Lib.hid ⟨lt_of_block HA.out.out, fun g e => HA.out.own.lt e⟩
    clear hW2 hbA HL2 HA hlqW
    generalize W.heap.size = kb at hKV hkbs ⊢
    obtain ⟨ao, cap, hvo, -⟩ := R2.out.ai.own.any
    have hjl : (rows2 (ys.take j)).length = j := by rw [rows2_len, List.length_take]; have := HJ.out; omega
    rw [hjl] at hvo
    subst hvo
    have q0 := cell_blk R2.out.ai.out 0
    have hO : ∀ (o : Obj), Hid (Owns (W2.drew.alloc o) 64 7 (.slice ao j cap) (rows2 (ys.take j))) := fun o => R2.out.ai.own.kept fun g e => Below.heap_alloc _ _ _ (R2.out.ai.own.lt e)
    have hL : Hid (Lies (W2.drew.alloc (.cells #[.bool false, .int .i64 0, .string ⟨#[]⟩, .int .i64 0, .int .i64 0, .string ⟨#[]⟩, .slice none 0 0] 64)) 7 (some ⟨W2.heap.size, 0, none⟩) [zrow]) := lies_new W2.drew zrow 64 rfl
    have hj2 := HJ.out
    have hR1 : Hid ((rows2 (ys.take j)).length + [zrow].length ≤ maxLen) := by show _ ≤ _; rw [hjl]; unfold maxLen; simp; omega
    have hR2 : Hid (((rows2 (ys.take j)).length + [zrow].length) * 88 ≤ 140737488355328) := by show _ ≤ _; rw [hjl]; simp; omega
    have hR3 : Hid ((rows2 (ys.take j) ++ [zrow]).length = j + 1) := by show _ = _; rw [List.length_append, hjl]; rfl
    have hR4 : Hid ((rows2 (ys.take j)).length = j) := hjl
    have hB : ∀ (o : Obj), Hid ((W2.drew.alloc o).heap[w.heap.size]? = some (.cells #[.slice ao j cap] 22 (0, 0)) ∧ w.heap.size < (W2.drew.alloc o).heap.size) := fun o => ⟨alloc_blk (w := W2.drew) R2.out.ai.out o, by have := lt_of_block R2.out.ai.out; simp; omega⟩
    have hN1 : Hid ((some w.heap.size : Option Nat) ≠ (Value.slice ao j cap).ownBlock) := fun e => by have := R2.out.ai.fresh _ e.symm; omega
    have hN2 : Hid (∀ g, (Value.slice ao j cap).ownBlock = some g → g ≠ kb ∧ g ≠ kb + 1) := fun g e => by have := hkbs.out.2 g e; omega
    have hbs : w.heap.size < W2.heap.size := lt_of_block R2.out.ai.out
    have hks : kb < W2.heap.size := lt_of_block hKV.out.1
    have hks1 : kb + 1 < W2.heap.size := lt_of_block hKV.out.2
    have hXA : ∀ (o : Obj), SQ kb y x (.slice co x.xs.length cc) (W2.drew.alloc o) := fun o => ⟨alloc_blk (w := W2.drew) hKV.out.1 o, alloc_blk (w := W2.drew) hKV.out.2 o⟩
    have hXX : ∀ w6, (W2.drew.alloc (.cells #[.bool false, .int .i64 0, .string ⟨#[]⟩, .int .i64 0, .int .i64 0, .string ⟨#[]⟩, .slice none 0 0] 64)).grownBy w6 (Value.slice ao j cap).ownBlock → SQ kb y x (.slice co x.xs.length cc) w6 := fun w6 g6 => SQ.grown (hXA _) g6 (fun e => (hN2.out kb e.symm).1 rfl) (fun e => (hN2.out (kb + 1) e.symm).2 rfl)
    have hnb : Hid (w.heap.size ≠ kb ∧ w.heap.size ≠ kb + 1) := Lib.hid (by have := hkbs.out.1; omega)
    have hi6 : (j : Int) < (j : Int) + 1 := by omega
    have hi7 : (0 : Int) ≤ (j : Int) := by omega
    clear hjl hj2
    gi_wp2
    refine round_region_held (S := (fun W => W.heap[kb]? = some (KB y.b y.n y.t) ∧ W.heap[kb + 1]? = some (VB x (.slice co x.xs.length cc)))) (by kernel_rfl) (by kernel_rfl) (fun ⟨_, _, h⟩ => h) (by exact hKV.out) (fun hHeld => ?_)
    refine wpAnyH_take (i := 1) (oi := ?oz1_) (v := ?vz1_) ?hiz1_ (by kernel_rfl) (by kernel_rfl) (by kernel_rfl) (fun _ _ _ h => h) ?hyz1_ (by assumption) ?restz1_
    case hiz1_ => simp only [gA, gS, gZ]; rfl
    case hyz1_ =>
      refine Or.inl ⟨by rfl, ?_⟩
      intro w hSw; obtain ⟨u0, u1, u2⟩ := cells3 hSw.1; obtain ⟨t0, t1, t2, t3⟩ := vb_cells hSw.2; go_simp <;> (with_reducible rfl)
    (try simp only [Act.put, pA, pZ, pS])
    refine wpAnyH_take (i := 2) (oi := ?oz2_) (v := ?vz2_) ?hiz2_ (by kernel_rfl) (by kernel_rfl) (by kernel_rfl) (fun _ _ _ h => h) ?hyz2_ (by assumption) ?restz2_
    case hiz2_ => simp only [gA, gS, gZ]; rfl
    case hyz2_ =>
      refine Or.inl ⟨by rfl, ?_⟩
      intro w hSw; obtain ⟨u0, u1, u2⟩ := cells3 hSw.1; obtain ⟨t0, t1, t2, t3⟩ := vb_cells hSw.2; go_simp <;> (with_reducible rfl)
    (try simp only [Act.put, pA, pZ, pS])
    refine wpAnyH_take (i := 3) (oi := ?oz3_) (v := ?vz3_) ?hiz3_ (by kernel_rfl) (by kernel_rfl) (by kernel_rfl) (fun _ _ _ h => h) ?hyz3_ (by assumption) ?restz3_
    case hiz3_ => simp only [gA, gS, gZ]; rfl
    case hyz3_ =>
      refine Or.inl ⟨by rfl, ?_⟩
      intro w hSw; obtain ⟨u0, u1, u2⟩ := cells3 hSw.1; obtain ⟨t0, t1, t2, t3⟩ := vb_cells hSw.2; go_simp <;> (with_reducible rfl)
    (try simp only [Act.put, pA, pZ, pS])
    refine wpAnyH_ready (rs := [0, 5]) (by kernel_rfl) (by simp) ?_
    refine AllReadyH.cons rfl (fun K hK => ?_) (AllReadyH.cons rfl (fun K hK => ?_) AllReadyH.nil)
    · go_simp
      refine hK.out _ _ hHeld (fun hHeld0 => ?_)
      clear hK K
      (try simp only [Act.put, pA, pZ, pS])
      refine wpAnyH_take (i := 4) (oi := ?oz4_) (v := ?vz4_) ?hiz4_ (by kernel_rfl) (by kernel_rfl) (by kernel_rfl) (fun _ _ _ h => h) ?hyz4_ (by assumption) ?restz4_
      case hiz4_ => simp only [gA, gS, gZ]; rfl
      case hyz4_ =>
        refine Or.inl ⟨by rfl, ?_⟩
        intro w hSw; obtain ⟨u0, u1, u2⟩ := cells3 hSw.1; obtain ⟨t0, t1, t2, t3⟩ := vb_cells hSw.2; go_simp <;> (with_reducible rfl)
      (try simp only [Act.put, pA, pZ, pS])
      refine wpAnyH_ready (rs := [5]) (by kernel_rfl) (by simp) ?_
      refine AllReadyH.cons rfl (fun K hK => ?_) AllReadyH.nil
      go_simp
      refine hK.out _ _ (hXA _) (fun hHeld5 => ?_)
      clear hK K
      (try simp only [Act.put, pA, pZ, pS])
      refine wpAnyH_ready (rs := [6]) (by kernel_rfl) (by simp) ?_
      refine AllReadyH.cons rfl (fun K hK => ?_) AllReadyH.nil
      refine step_append_rows rfl (.tmp 10) (.tmp 15) 22 rfl 64 _ 7 88 Tryz.underlying22 info64 rfl (by decide) (.slice ao j cap) (rows2 (ys.take j)) (by simp [Act.eval]) (hO _).out (some ⟨W2.heap.size, 0, none⟩) 1 1 [zrow] (by simp [Act.eval]) rfl (fun e => by cases e) hL.out (by simp [Value.oneCell']) (by simp) hR1.out hR2.out ?_
      intro v6 w6 o6 g6 b6
      obtain ⟨g7, cap6, hv6, -, -, -⟩ := o6.addr (by simp)
      rw [hR3.out] at hv6; subst hv6
      have hbg : w.heap.size ≠ g7 := fun e => by
        rcases b6 with h | ⟨k, h, hk⟩
        · exact hN1.out (by rw [← h, e]; rfl)
        · have h3 : g7 = k := Option.some.inj h
          simp at hk
          omega
      have hgb : g7 ≠ w.heap.size := fun e => hbg e.symm
      have n7 : g7 ≠ kb ∧ g7 ≠ kb + 1 := by
        rcases b6 with h | ⟨k, h, hk⟩
        · exact hN2.out g7 h.symm
        · have h3 : g7 = k := Option.some.inj h
          simp at hk
          omega
      have S6 := hXX w6 g6
      have B6 := Lib.hid ((g6.block w.heap.size (hB _).out.2 hN1.out).trans (hB _).out.1)
      have z2 := cell_blk B6.out 0; have ff := free_blk B6.out 0; simp at z2
      have p0 : w6.cell? ⟨g7, j * 7, none⟩ = some (.bool false) := owns_last o6 hR4.out 0 _ rfl
      have p1 := owns_last o6 hR4.out 1 _ rfl
      have p2 := owns_last o6 hR4.out 2 _ rfl
      have p3 := owns_last o6 hR4.out 3 _ rfl
      have p4 := owns_last o6 hR4.out 4 _ rfl
      have p5 := owns_last o6 hR4.out 5 _ rfl
      have p6 := owns_last o6 hR4.out 6 _ rfl
      have q0 := o6.free (g := g7) rfl (j * 7)
      have q1 := o6.free (g := g7) rfl (j * 7 + 1)
      have q2 := o6.free (g := g7) rfl (j * 7 + 2)
      have q3 := o6.free (g := g7) rfl (j * 7 + 3)
      have q4 := o6.free (g := g7) rfl (j * 7 + 4)
      have q5 := o6.free (g := g7) rfl (j * 7 + 5)
      have q6 := o6.free (g := g7) rfl (j * 7 + 6)
      have O6 := Lib.hid o6; have G6 := Lib.hid g6; have V6 := Lib.hid b6; clear o6 g6 b6
      refine hK.out _ _ S6 (fun hHeld6 => ?_)
      clear hK K
      (try simp only [Act.put, pA])
      refine wpAnyH_take (i := 7) (oi := ?oz5_) (v := ?vz5_) ?hiz5_ (by kernel_rfl) (by kernel_rfl) (by kernel_rfl) (fun _ _ _ h => h) ?hyz5_ (by assumption) ?restz5_
      case hiz5_ => simp only [gA, gS, gZ]; rfl
      case hyz5_ =>
        refine Or.inl ⟨by rfl, ?_⟩
        intro w hSw; obtain ⟨u0, u1, u2⟩ := cells3 hSw.1; obtain ⟨t0, t1, t2, t3⟩ := vb_cells hSw.2; go_simp <;> (with_reducible rfl)
      (try simp only [Act.put])
      refine wpAnyH_ready (rs := [8, 9]) (by kernel_rfl) (by simp) ?_
      refine AllReadyH.cons rfl (fun K hK => ?_) (AllReadyH.cons rfl (fun K hK => ?_) AllReadyH.nil)
      · go_simp
        refine hK.out _ _ (S6.put7 n7.1 n7.2) (fun hHeld8 => ?_)
        clear hK K
        (try simp only [Act.put, pA, pZ, pS])
        refine wpAnyH_ready (rs := [9]) (by kernel_rfl) (by simp) ?_
        refine AllReadyH.cons rfl (fun K hK => ?_) AllReadyH.nil
        go_simp
        refine hK.out _ _ ((S6.put7 n7.1 n7.2).set0 hnb.out.1 hnb.out.2) (fun hHeld9 => ?_)
        clear hK K
        (try simp only [Act.put, pA, pZ, pS])
        refine wpAnyH_done (by kernel_rfl) ?_ _
        exact round_doneA R2.out B6.out O6.out hR4.out G6.out V6.out hbg HYX.out
      · go_simp
        refine hK.out _ _ (S6.set0 hnb.out.1 hnb.out.2) (fun hHeld9 => ?_)
        clear hK K
        (try simp only [Act.put, pA, pZ, pS])
        refine wpAnyH_ready (rs := [8]) (by kernel_rfl) (by simp) ?_
        refine AllReadyH.cons rfl (fun K hK => ?_) AllReadyH.nil
        go_simp
        refine hK.out _ _ ((S6.set0 hnb.out.1 hnb.out.2).put7 n7.1 n7.2) (fun hHeld8 => ?_)
        clear hK K
        (try simp only [Act.put, pA, pZ, pS])
        refine wpAnyH_done (by kernel_rfl) ?_ _
        exact round_doneB R2.out B6.out O6.out hR4.out G6.out V6.out hbg HYX.out
    · go_simp
      refine hK.out _ _ (hXA _) (fun hHeld5 => ?_)
      clear hK K
      (try simp only [Act.put, pA, pZ, pS])
      refine wpAnyH_ready (rs := [0]) (by kernel_rfl) (by simp) ?_
      refine AllReadyH.cons rfl (fun K hK => ?_) AllReadyH.nil
      go_simp
      refine hK.out _ _ (hXA _) (fun hHeld0 => ?_)
      clear hK K
      (try simp only [Act.put, pA, pZ, pS])
      refine wpAnyH_take (i := 4) (oi := ?oz6_) (v := ?vz6_) ?hiz6_ (by kernel_rfl) (by kernel_rfl) (by kernel_rfl) (fun _ _ _ h => h) ?hyz6_ (by assumption) ?restz6_
      case hiz6_ => simp only [gA, gS, gZ]; rfl
      case hyz6_ =>
        refine Or.inl ⟨by rfl, ?_⟩
        intro w hSw; obtain ⟨u0, u1, u2⟩ := cells3 hSw.1; obtain ⟨t0, t1, t2, t3⟩ := vb_cells hSw.2; go_simp <;> (with_reducible rfl)
      (try simp only [Act.put, pA, pZ, pS])
      refine wpAnyH_ready (rs := [6]) (by kernel_rfl) (by simp) ?_
      refine AllReadyH.cons rfl (fun K hK => ?_) AllReadyH.nil
      refine step_append_rows rfl (.tmp 10) (.tmp 15) 22 rfl 64 _ 7 88 Tryz.underlying22 info64 rfl (by decide) (.slice ao j cap) (rows2 (ys.take j)) (by simp [Act.eval]) (hO _).out (some ⟨W2.heap.size, 0, none⟩) 1 1 [zrow] (by simp [Act.eval]) rfl (fun e => by cases e) hL.out (by simp [Value.oneCell']) (by simp) hR1.out hR2.out ?_
      intro v6 w6 o6 g6 b6
      obtain ⟨g7, cap6, hv6, -, -, -⟩ := o6.addr (by simp)
      rw [hR3.out] at hv6; subst hv6
      have hbg : w.heap.size ≠ g7 := fun e => by
        rcases b6 with h | ⟨k, h, hk⟩
        · exact hN1.out (by rw [← h, e]; rfl)
        · have h3 : g7 = k := Option.some.inj h
          simp at hk
          omega
      have hgb : g7 ≠ w.heap.size := fun e => hbg e.symm
      have n7 : g7 ≠ kb ∧ g7 ≠ kb + 1 := by
        rcases b6 with h | ⟨k, h, hk⟩
        · exact hN2.out g7 h.symm
        · have h3 : g7 = k := Option.some.inj h
          simp at hk
          omega
      have S6 := hXX w6 g6
      have B6 := Lib.hid ((g6.block w.heap.size (hB _).out.2 hN1.out).trans (hB _).out.1)
      have z2 := cell_blk B6.out 0; have ff := free_blk B6.out 0; simp at z2
      have p0 : w6.cell? ⟨g7, j * 7, none⟩ = some (.bool false) := owns_last o6 hR4.out 0 _ rfl
      have p1 := owns_last o6 hR4.out 1 _ rfl
      have p2 := owns_last o6 hR4.out 2 _ rfl
      have p3 := owns_last o6 hR4.out 3 _ rfl
      have p4 := owns_last o6 hR4.out 4 _ rfl
      have p5 := owns_last o6 hR4.out 5 _ rfl
      have p6 := owns_last o6 hR4.out 6 _ rfl
      have q0 := o6.free (g := g7) rfl (j * 7)
      have q1 := o6.free (g := g7) rfl (j * 7 + 1)
      have q2 := o6.free (g := g7) rfl (j * 7 + 2)
      have q3 := o6.free (g := g7) rfl (j * 7 + 3)
      have q4 := o6.free (g := g7) rfl (j * 7 + 4)
      have q5 := o6.free (g := g7) rfl (j * 7 + 5)
      have q6 := o6.free (g := g7) rfl (j * 7 + 6)
      have O6 := Lib.hid o6; have G6 := Lib.hid g6; have V6 := Lib.hid b6; clear o6 g6 b6
      refine hK.out _ _ S6 (fun hHeld6 => ?_)
      clear hK K
      (try simp only [Act.put, pA])
      refine wpAnyH_take (i := 7) (oi := ?oz7_) (v := ?vz7_) ?hiz7_ (by kernel_rfl) (by kernel_rfl) (by kernel_rfl) (fun _ _ _ h => h) ?hyz7_ (by assumption) ?restz7_
      case hiz7_ => simp only [gA, gS, gZ]; rfl
      case hyz7_ =>
        refine Or.inl ⟨by rfl, ?_⟩
        intro w hSw; obtain ⟨u0, u1, u2⟩ := cells3 hSw.1; obtain ⟨t0, t1, t2, t3⟩ := vb_cells hSw.2; go_simp <;> (with_reducible rfl)
      (try simp only [Act.put])
      refine wpAnyH_ready (rs := [8, 9]) (by kernel_rfl) (by simp) ?_
      refine AllReadyH.cons rfl (fun K hK => ?_) (AllReadyH.cons rfl (fun K hK => ?_) AllReadyH.nil)
      · go_simp
        refine hK.out _ _ (S6.put7 n7.1 n7.2) (fun hHeld8 => ?_)
        clear hK K
        (try simp only [Act.put, pA, pZ, pS])
        refine wpAnyH_ready (rs := [9]) (by kernel_rfl) (by simp) ?_
        refine AllReadyH.cons rfl (fun K hK => ?_) AllReadyH.nil
        go_simp
        refine hK.out _ _ ((S6.put7 n7.1 n7.2).set0 hnb.out.1 hnb.out.2) (fun hHeld9 => ?_)
        clear hK K
        (try simp only [Act.put, pA, pZ, pS])
        refine wpAnyH_done (by kernel_rfl) ?_ _
        exact round_doneA R2.out B6.out O6.out hR4.out G6.out V6.out hbg HYX.out
      · go_simp
        refine hK.out _ _ (S6.set0 hnb.out.1 hnb.out.2) (fun hHeld9 => ?_)
        clear hK K
        (try simp only [Act.put, pA, pZ, pS])
        refine wpAnyH_ready (rs := [8]) (by kernel_rfl) (by simp) ?_
        refine AllReadyH.cons rfl (fun K hK => ?_) AllReadyH.nil
        go_simp
        refine hK.out _ _ ((S6.set0 hnb.out.1 hnb.out.2).put7 n7.1 n7.2) (fun hHeld8 => ?_)
        clear hK K
        (try simp only [Act.put, pA, pZ, pS])
        refine wpAnyH_done (by kernel_rfl) ?_ _
        exact round_doneB R2.out B6.out O6.out hR4.out G6.out V6.out hbg HYX.out
  case done =>
    rintro Dm c W hD HI2 hK
    obtain ⟨vo, hAI⟩ := HI2
    have HA := Lib.hid hAI
    have HKD : Hid (W.heap[Dm]? = some (.deferred (some []))) := hK
    have q2 := cell_blk HA.out.out 0
    clear hK
    go_wp2_with fail
    have oW := HA.out.own
    rw [List.take_length] at oW
    have hDm : w.heap.size < Dm := by have := hs0.out; omega
    have hmW : Mod (fun k => k = b) w (W.putObj Dm (.deferred none)) := HA.out.mod.grown (grownBy_putObj' _ _ _) (fun k e hk => by cases e; omega)
    have oW2 : Owns (W.putObj Dm (.deferred none)) 64 7 vo (rows2 ys) := oW.kept fun g e => by
      obtain ⟨cur, hc⟩ := owns_type oW e
      exact World.putObj_heap_other (fun e2 => by rw [e2, HKD.out] at hc; cases hc)
    have hVT := vt64_of oW2 (fun y hy => VT64.mod (HI.out.val y hy) hmW (fun g e ⟨cs, fr, hc⟩ => by subst e; rw [HI.out.blk] at hc; cases hc)) (by omega)
    rw [HI.out.fst] at hVT
    obtain ⟨co, cc, hvo, -⟩ := hVT.form
    subst hvo
    refine ⟨by simp, .inl ⟨_, _, rfl, run_takeDeferred HKD.out, ?_⟩⟩
    refine ⟨.slice co l.xs.length cc, ?_, co, cc, rfl, hVT, hmW⟩
    simp [results, Tryz.results120, go_sem]
end Go.Proofs.YtnaefnojmiolbaaGreatDoor
