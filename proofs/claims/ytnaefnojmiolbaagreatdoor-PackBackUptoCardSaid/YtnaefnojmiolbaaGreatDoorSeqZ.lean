/-
  The walks of Copy and All; All's iterator: its contract.
-/
import Derived.Test.YtnaefnojmiolbaaGreatDoorRangeG
import Derived.Test.YtnaefnojmiolbaaGreatDoorSetZ
namespace Go.Proofs.YtnaefnojmiolbaaGreatDoor
open Go.RowKit Go.Shelf

attribute [local go_sem] Oper.semAt_some
/-- What Copy leaves. -/
def CopyPost (w : World) (b : Nat) (v : Value) (mb : Nat) (nx : Int) (e : Ending) (w' : World) : Prop :=
  e = .returned (.pointer (some ⟨w.heap.size, 0, none⟩)) ∧ w'.heap[w.heap.size]? = some (.cells #[.bool true, .bool true, v, .map (some mb), .int .i64 nx] 161 (0, 0)) ∧ Mod (fun k => k = b) w w'
set_option maxRecDepth 100000 in
theorem copy_any {b : Nat} {v : Value} {mb : Nat} {l : LS} {ys : List It2} (w : World) (i : LIs w b v mb l ys) : Calls Tryz.prog 130 #[.pointer (some ⟨b, 0, none⟩)] w (CopyPost w b v mb l.nx) := by
  obtain ⟨ao, cap, hv, -⟩ := i.own.any
  rw [rows2_len] at hv
  subst hv
  obtain ⟨c0, c1, c2, c3, c4⟩ := cells5 i.blk
  have f1 := free_blk i.blk 1
  have hb1 := set_blk i.blk 1 (.bool true)
  simp only [Array.setIfInBounds] at hb1
  have I := Lib.hid i
  obtain ⟨e0, e1, e2, e3, e4⟩ := cells5 (b := b) (m := true) (sh := true) (v := .slice ao ys.length cap) (mv := .map (some mb)) (nv := .int .i64 l.nx) (by simpa using hb1)
  clear i hb1
  go_enter Tryz.func130, Tryz.ntmps130
  go_wp2_with (go_at_call 128; refine (lok_any _ _ _ c0).mono ?_; rintro e w' ⟨rfl, rfl⟩)
  refine bodyPost_ret (v := .pointer (some ⟨w.heap.size, 0, none⟩)) (by simp [results, Tryz.results130, go_sem]) rfl ⟨rfl, ?_, ?_⟩
  · have h2 := heap_alloc_new (w.setCell ⟨b, 1, none⟩ (.bool true)) (.cells #[.bool true, .bool true, .slice ao ys.length cap, .map (some mb), .int .i64 l.nx] 161)
    rw [World.size_setCell] at h2
    exact h2
  · exact ((Mod.refl (fun k => k = b) w).setCell _ _ (fun _ => rfl)).alloc _
theorem all_fn (p : Option Addr) (w : World) : Calls Tryz.prog 100 #[.pointer p] w fun e w' => e = .returned (.func (.func 129) #[] #[.pointer (some ⟨w.heap.size, 0, none⟩)]) ∧ w' = w.alloc (.cells #[.pointer p] 129) := by
  go_enter Tryz.func100, Tryz.ntmps100
  go_wp2
  go_ret
  exact ⟨rfl, rfl⟩
theorem owns_type {w : World} {e size : Nat} {v : Value} {rows : List (List Value)} (o : Owns w e size v rows) {g : Nat} (hg : v.ownBlock = some g) : ∃ cur, w.heap[g]? = some (.cells cur e (0, 0)) := owns_blk o hg
def y0 : It2 := ((k0, .mk 0 0 ⟨#[]⟩ []), .slice none 0 0)
def itAt (ys : List It2) (j : Nat) : It2 := ys[j]?.getD y0
theorem itAt_lt {ys : List It2} {j : Nat} (h : j < ys.length) : itAt ys j = ys[j] := by unfold itAt; simp [h]
abbrev encL (ys : List It2) (j : Nat) : Array Value := #[(itAt ys j).1.1.v, (itAt ys j).1.2.v (itAt ys j).2]
/-- What the iterator does ahead of the first round: it marks the list. -/
def PreL (b : Nat) (_ : Nat) (W W' : World) : Prop := Mod (fun k => k = b) W W'
/-- What a round must keep: the items. -/
def KpL (v : Value) (_ : Nat) (W W' : World) : Prop := ∀ k cs t, v.ownBlock = some k → W.heap[k]? = some (.cells cs t (0, 0)) → W'.heap[k]? = some (.cells cs t (0, 0))
theorem KpL.owns {v : Value} {c : Nat} {W W' : World} {e : TypeId} {size : Nat} {rows : List (List Value)} (h : KpL v c W W') (o : Owns W e size v rows) : Owns W' e size v rows :=
  o.kept fun g e => by
    obtain ⟨cur, hc⟩ := owns_type o e
    rw [h g cur _ e hc, hc]
theorem KpL.trans {v : Value} {c : Nat} {A B C : World} (h : KpL v c A B) (k : KpL v c B C) : KpL v c A C := fun q cs t e hc => k q cs t e (h q cs t e hc)
theorem KpL.putObj {v : Value} {c : Nat} {W : World} {l : Nat} {o o' : Obj} (hl : W.heap[l]? = some o) (ho : o.isCells = false) : KpL v c W (W.putObj l o') := fun k cs t _ hc => by
  have hne : k ≠ l := fun e => by
    rw [e, hl] at hc
    cases hc
    cases ho
  exact (World.putObj_heap_other hne).trans hc
abbrev LB (y : K) (x : VT) (c : Value) : Obj := .cells #[.bool y.b, .int .i64 y.n, .string y.t, .int .i64 x.k, .int .i64 x.n, .string x.t, c] 167 (0, 0)
set_option maxRecDepth 100000 in
set_option maxHeartbeats 3200000 in
theorem all_seq {b mb : Nat} {v : Value} {l : LS} {ys : List It2} (B : Nat) (m : Nat) (w : World) (i : LIs w b v mb l ys) (hB : w.heap[B]? = some (.cells #[.pointer (some ⟨b, 0, none⟩)] 129 (0, 0))) :
    SeqG Fence.wide m Tryz.prog 129 #[.pointer (some ⟨B, 0, none⟩)] (encL ys) (PreL b) (KpL v) ys.length w := by
  obtain ⟨ao, cap, hv, -⟩ := i.own.any
  rw [rows2_len] at hv
  subst hv
  intro q J Jx W hbW hJa hY hP
  have iW := i.under hbW
  have c0 := (cells5 iW.blk).1
  have cB := cell_blk ((hbW.block _ (lt_of_block hB)).trans hB) 0
  have HC := copy_any W iW
  have hlen : ys.length ≤ 2048 := by rw [i.len]; exact i.ok.len
  have HS : Hid (∀ y ∈ ys, ∃ co cc, y.2 = .slice co y.1.2.xs.length cc) := Lib.hid (fun y hy => by obtain ⟨co, cc, h, -⟩ := (i.val y hy).form; exact ⟨co, cc, h⟩)
  have HI := Lib.hid iW
  have HY := Lib.hid hY
  have HP := Lib.hid hP
  have HJ := Lib.hid hJa
  clear i hB iW hY hP hJa hbW
  refine callsIn_of_wp Tryz.func129 rfl trivial ?_ rfl
  simp only [Tryz.ntmps129, List.size_toArray, List.length_cons, List.length_nil, Nat.reduceAdd, Nat.reduceSub, Array.replicate_succ, Array.replicate_zero, List.push_toArray, List.append_toArray, List.nil_append, List.cons_append]
  gi_wp2_with (first
    | (refine ⟨trivial, fun h => (by cases h), ?_⟩; gi_at_call 128; refine (callsIn_wide.2 (lok_any _ _ _ c0)).mono ?_; rintro e w' ⟨rfl, rfl⟩)
    | (refine ⟨trivial, fun h => (by cases h), ?_⟩; gi_at_call 130; refine (callsIn_wide.2 HC).mono ?_; rintro e w1 ⟨rfl, i2, m1⟩; have P0 := HP.out 0 w1 m1; have c2 := (cells5 i2).2.2.1; have O1 := Lib.hid (HI.out.own.mod m1 (fun g e x => HI.out.ne1 (by rw [e, x]))); clear HP i2 m1))
  gi_loopw [16] (fun i wr => ∃ k : Nat, k ≤ ys.length ∧ i = .int .i64 k ∧ Hid (J 0 k wr ∧ Owns wr 167 7 (.slice ao ys.length cap) (rows2 ys))) (fun i _ => ys.length - (intOf i).toNat)
  case atStart => exact ⟨0, Nat.zero_le _, rfl, P0, O1.out⟩
  case round =>
    obtain ⟨k, hk, rfl, HS2⟩ := hrel
    by_cases hlt : k < ys.length
    · obtain ⟨ao', cap', hv, h1, h2, h3, _, h5⟩ := HS2.out.2.any
      rw [rows2_len] at hv
      cases hv
      obtain ⟨g, off, rfl, hg, _, hc⟩ := h3 k (itCells ys[k].1 ys[k].2) (by simp [rows2, hlt])
      obtain ⟨rfl, _⟩ := h5 g off rfl
      have d0 := hc 0 _ rfl
      have d1 := hc 1 _ rfl
      have d2 := hc 2 _ rfl
      have d3 := hc 3 _ rfl
      have d4 := hc 4 _ rfl
      have d5 := hc 5 _ rfl
      have d6 := hc 6 _ rfl
      simp only [Nat.zero_add, Nat.add_zero] at d0 d1 d2 d3 d4 d5 d6
      have hi1 : (k : Int) < (ys.length : Int) := by omega
      obtain ⟨co, cc, hcv⟩ := HS.out ys[k] (List.getElem_mem hlt)
      obtain ⟨y, x, c, hyx⟩ : ∃ y x c, ((y, x), c) = ys[k] := ⟨_, _, _, rfl⟩
      rw [← hyx] at d0 d1 d2 d3 d4 d5 d6 hcv
      have hcv : c = .slice co x.xs.length cc := hcv
      subst hcv
      have HR := HY.out 0 k (wr.alloc (LB y x (.slice co x.xs.length cc))) (HJ.out _ _ _ _ HS2.out.1) hlt
      have he : encL ys k = #[.agg #[.bool y.b, .int .i64 y.n, .string y.t], .agg #[.int .i64 x.k, .int .i64 x.n, .string x.t, .slice co x.xs.length cc]] := by unfold encL; rw [itAt_lt hlt, ← hyx]; rfl
      rw [he] at HR
      obtain ⟨fn, tmps, assign, body, hy, hR⟩ := HR
      clear h1 h2 h3 h5 hc hyx he HY hg
      gi_wp2
      refine ⟨fun h => (by cases h), hR.mono ?_⟩
      clear hy hR
      rintro e W3 (⟨rfl, hJ3, hk3⟩ | ⟨rfl, hJx3⟩)
      · gi_wp2
        go_roundw
        case rel => exact ⟨k + 1, hlt, by go_num, hJ3, hk3.owns (HS2.out.2.kept (fun g e => Below.heap_alloc _ _ _ (HS2.out.2.lt e)))⟩
        case measure => exact Nat.sub_lt_sub_left hlt (Nat.lt_succ_self k)
      · gi_wp2
        refine bodyPost_ret (results_none rfl _ _ _) rfl ?_
        exact ⟨⟨_, rfl⟩, 0, .inr ⟨k, hlt, hJx3⟩⟩
    · obtain rfl : k = ys.length := by omega
      gi_wp2
      refine bodyPost_end (v := .tuple #[]) (by simp [results, Tryz.results129, go_sem]) rfl ?_
      exact ⟨⟨_, rfl⟩, 0, .inl HS2.out.1⟩
end Go.Proofs.YtnaefnojmiolbaaGreatDoor
