/-
  The walks of the memo's own calls: Get whole, Put, Paths.
-/
import Derived.Test.YtchiedlagdecoaaGet19
namespace Go.Proofs.Ytchiedlagdecoaa
open Go.RowKit

theorem get_any (b : Nat) (v : Value) (most h m : Int) (us : List U) (p : ByteArray) (st : Int) (w : World) (i : MemoIs w b v most us h m) (hh : 0 ≤ h ∧ h ≤ 4611686018427387904) (hm : 0 ≤ m ∧ m ≤ 4611686018427387904) :
    Calls Try.prog 13 #[.pointer (some ⟨b, 0, none⟩), .string p, .int .i64 st] w (GetPost w b v most us h m p st) := by
  cases hf : find p us with
  | none => exact get_none b v most h m us p st w i hm hf
  | some k =>
    have hk := find_lt hf
    by_cases hs : us[k].stamp = st
    · exact get_hit b v most h m us p st w k i hh hf hk hs
    · exact get_miss b v most h m us p st w k i hm hf hk hs

theorem delete0 (g cap M : Nat) (us : List U) (w : World) (hown : Owns w 52 3 (.slice (some ⟨g, 0, none⟩) (M + 1) cap) (us.map U.cells)) (hM : us.length = M + 1) (hlc : M + 1 ≤ cap) (hcm : cap ≤ maxLen) :
    Calls Try.prog 25 #[.slice (some ⟨g, 0, none⟩) (M + 1) cap, .int .i64 0, .int .i64 1] w fun e w' =>
      e = .returned (.slice (some ⟨g, 0, none⟩) M cap) ∧ Owns w' 52 3 (.slice (some ⟨g, 0, none⟩) M cap) ((us.drop 1).map U.cells) ∧ w.grownBy w' (some g) := by
  have := delete_any g cap 0 M us w hown hM (Nat.zero_le _) hlc hcm
  simpa using this

set_option maxHeartbeats 1600000 in
theorem put_any (b : Nat) (v : Value) (most h m : Int) (us : List U) (p : ByteArray) (st u : Int) (w : World) (i : MemoIs w b v most us h m) (hl : us.length < 4398046511103) :
    Calls Try.prog 17 #[.pointer (some ⟨b, 0, none⟩), .string p, .int .i64 st, .int .i64 u] w (SetPost w b v most (putU most p st u us) h m) := by
  have hb := lt_of_block i.blk
  have c0 := cell_blk i.blk 0
  simp at c0
  have I := Lib.hid i
  clear i
  go_enter Try.func17, Try.ntmps17
  go_wp2_with (go_at_call 23; refine (ok_any _ _ _ c0).mono ?_; rintro e w' ⟨rfl, rfl⟩)
  refine (drop_any b _ most h m us p _ I.out).mono ?_
  rintro e w2 ⟨rfl, ⟨v2, i2, hv2⟩, hm2⟩
  clear c0
  have M2 := Lib.hid hm2
  have V2 := Lib.hid hv2
  have I2 := Lib.hid i2
  obtain ⟨ao, cap2, hform, _, _, _, _, hblk2⟩ := i2.own.any
  rw [List.length_map] at hform
  subst hform
  have y2 := cell_blk i2.blk 2
  simp at y2
  have hO : ∀ (o : Obj), Hid (Owns (w2.alloc o) 52 3 (.slice ao (dropU p us).length cap2) ((dropU p us).map U.cells)) := fun o => i2.own.kept fun g e => Below.heap_alloc _ _ _ (i2.own.lt e)
  have hL : Hid (Lies (w2.alloc (.cells (U.mk p st u).cells.toArray 52)) 3 (some ⟨w2.heap.size, 0, none⟩) [(U.mk p st u).cells]) := lies_new w2 _ _ rfl
  have hdl := drop_len p us
  have hR1 : Hid (((dropU p us).map U.cells).length + [(U.mk p st u).cells].length ≤ maxLen) := by show _ ≤ _; unfold maxLen; simp; omega
  have hR2 : Hid ((((dropU p us).map U.cells).length + [(U.mk p st u).cells].length) * 32 ≤ 140737488355328) := by show _ ≤ _; simp; omega
  have hB : ∀ (o : Obj), Hid ((w2.alloc o).heap[b]? = some (.cells #[.bool true, .int .i64 most, .slice ao (dropU p us).length cap2, .int .i64 h, .int .i64 m] 43 (0, 0)) ∧ b < (w2.alloc o).heap.size) := fun o => ⟨alloc_blk i2.blk o, by have := lt_of_block i2.blk; simp; omega⟩
  have hb2 := lt_of_block i2.blk
  clear hm2 hv2 i2 hblk2 hdl
  go_wp2_with (at_builtin; refine wpList_append_rows rfl (.tmp 18) (.tmp 23) 41 rfl 52 _ 3 32 Try.underlying41 info52 rfl (by decide) (.slice ao (dropU p us).length cap2) ((dropU p us).map U.cells) rfl (hO _).out (some ⟨w2.heap.size, 0, none⟩) 1 1 [(U.mk p st u).cells] rfl rfl (fun e => by cases e) hL.out (by simp [U.cells]; exact ⟨rfl, rfl, rfl⟩) (by simp [U.cells]) hR1.out hR2.out ?_; intro v3 w3 o3 g3 b3; obtain ⟨ao3, cap3, hv3, _⟩ := o3.any; subst hv3; have B3 := Lib.hid ((g3.block b (hB _).out.2 (fun e => I2.out.ne e.symm)).trans (hB _).out.1); have z1 := cell_blk B3.out 1; have z2 := cell_blk B3.out 2; have ff := free_blk B3.out; simp at z1 z2; have O3 := Lib.hid o3; have G3 := Lib.hid g3; have B3' := Lib.hid b3; clear o3 g3 b3)
  have e3 : ((dropU p us).map U.cells ++ [(U.mk p st u).cells]).length = (dropU p us).length + 1 := by simp
  have o3 := O3.out
  have b3 := B3'.out
  have m3 : Mod (fun j => (Value.slice ao (dropU p us).length cap2).ownBlock = some j) w2 w3 := ((Mod.refl _ w2).alloc _).grown G3.out (fun _ e _ => e)
  rw [e3] at o3 b3
  have v2 := V2.out
  have ha : dropU p us ++ [U.mk p st u] = addU p st u us := rfl
  have hal : (addU p st u us).length = (dropU p us).length + 1 := by unfold addU; simp
  have hdl := drop_len p us
  have I4 : MemoIs (w3.setCell ⟨b, 2, none⟩ (.slice ao3 ((dropU p us).length + 1) cap3)) b (.slice ao3 ((dropU p us).length + 1) cap3) most (addU p st u us) h m := by
    refine MemoIs.set2 B3.out (by rw [← ha, List.map_append]; exact o3) ?_ (by omega)
    rcases b3 with e | ⟨j, e, hj⟩
    · rw [e]; exact I2.out.ne
    · rw [e]; simp at hj ⊢; omega
  have M4 : Mod (fun k => k = b ∨ v.ownBlock = some k) w (w3.setCell ⟨b, 2, none⟩ (.slice ao3 ((dropU p us).length + 1) cap3)) :=
    (M2.out.trans (m3.mono (fun j _ e => .inr (by rw [← v2]; exact e)))).setCell _ _ (fun _ => .inl rfl)
  have V4 : (Value.slice ao3 ((dropU p us).length + 1) cap3).ownBlock = v.ownBlock ∨ ∃ k, (Value.slice ao3 ((dropU p us).length + 1) cap3).ownBlock = some k ∧ w.heap.size ≤ k := by
    rcases b3 with e | ⟨j, e, hj⟩
    · exact .inl (e.trans v2)
    · refine .inr ⟨j, e, ?_⟩
      have := M2.out.size
      simp at hj; omega
  rw [← hal] at I4 M4 V4
  rw [← hal]
  generalize w3.setCell ⟨b, 2, none⟩ (.slice ao3 (addU p st u us).length cap3) = w4 at *
  clear o3 b3 m3 v2 ha e3 G3 O3 B3 B3' z1 z2 ff hO hL hR1 hR2 hB M2 V2 I2 hdl I y2
  have HP := put_len most p st u us
  have d1 := cell_blk I4.blk 1
  have d2 := cell_blk I4.blk 2
  simp at d1 d2
  have J4 := Lib.hid I4
  have K4 := Lib.hid M4
  have L4 := Lib.hid V4
  have HA := Lib.hid hal
  clear I4 M4 V4 hal
  by_cases hc : most < ((addU p st u us).length : Int)
  · have hp : Hid (putU most p st u us = (addU p st u us).drop 1) := by show _ = _; unfold putU; simp only; rw [if_pos hc]
    obtain ⟨M, hM⟩ : ∃ M, (addU p st u us).length = M + 1 := ⟨(dropU p us).length, HA.out⟩
    obtain ⟨g, cap, hform, hlc, hcm, hg⟩ := J4.out.own.addr (by intro e; simp at e; rw [e] at hM; simp at hM)
    simp only [Value.slice.injEq] at hform
    obtain ⟨rfl, _, rfl⟩ := hform
    rw [List.length_map, hM] at hlc
    have hne : b ≠ g := fun e => J4.out.ne (by simp [Value.ownBlock, e])
    rw [hM] at J4 L4 d2 hc
    rw [hM]
    have HM := Lib.hid hM
    clear hM
    go_quiet (fail)
    rename_i nq
    go_wp2_with fail
    refine (delete0 g cap3 M (addU p st u us) (w4.drewN nq) (J4.out.own.kept fun _ _ => rfl) HM.out hlc hcm).mono ?_
    rintro e w5 ⟨rfl, hown, hgrow⟩
    have B5 : w5.heap[b]? = _ := (hgrow.block b (lt_of_block J4.out.blk) (by simpa using hne)).trans J4.out.blk
    have f2 := free_blk B5 2
    have d5 := cell_blk B5 2
    simp at d5
    have HB5 := Lib.hid B5
    have HO5 := Lib.hid hown
    have HG5 := Lib.hid hgrow
    clear B5 hown hgrow d1 d2
    go_wp2
    go_end0
    have hdl : ((addU p st u us).drop 1).length = M := by simp [HM.out]
    have hlen := J4.out.len
    refine ⟨rfl, ⟨.slice (some ⟨g, 0, none⟩) M cap3, ?_, .inr L4.out⟩, ?_⟩
    · rw [hp.out]
      exact MemoIs.set2 HB5.out HO5.out (by simp [Value.ownBlock]; exact fun e => hne e.symm) (by simp; omega)
    · have := K4.out.drewN nq
      refine (this.grown HG5.out (fun k e hk => ?_)).setCell _ _ (fun _ => .inl rfl)
      rcases L4.out with e' | ⟨j, e', hj⟩
      · simp [Value.ownBlock] at e'; simp at e; subst e; exact .inr e'.symm
      · simp [Value.ownBlock] at e'; simp at e; omega
  · have hp : Hid (putU most p st u us = addU p st u us) := by show _ = _; unfold putU; simp only; rw [if_neg hc]
    go_quiet (fail)
    rename_i nq
    go_wp2
    go_end0
    refine ⟨rfl, ⟨_, ?_, .inr L4.out⟩, K4.out.drewN nq⟩
    rw [hp.out]
    exact ⟨J4.out.blk, J4.out.own.kept fun _ _ => rfl, J4.out.ne, J4.out.len⟩
end Go.Proofs.Ytchiedlagdecoaa
