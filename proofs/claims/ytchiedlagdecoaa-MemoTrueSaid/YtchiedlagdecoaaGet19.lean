/-
  The walks of the memo's own calls: Get where the path is there, Put, Paths.
-/
import Derived.Test.YtchiedlagdecoaaWalk19
namespace Go.Proofs.Ytchiedlagdecoaa
open Go.RowKit

theorem wrap_in {x : Int} (h0 : -9223372036854775808 ≤ x) (h1 : x ≤ 9223372036854775807) : IntKind.i64.wrap x = x := by rw [IntKind.wrap_i64]; omega

theorem unit_cells {w : World} {g n cap k : Nat} {us : List U} (o : Owns w 52 3 (.slice (some ⟨g, 0, none⟩) n cap) (us.map U.cells)) (hk : k < us.length) :
    w.cell? ⟨g, k * 3, none⟩ = some (.string us[k].path) ∧ w.cell? ⟨g, k * 3 + 1, none⟩ = some (.int .i64 us[k].stamp) ∧ w.cell? ⟨g, k * 3 + 2, none⟩ = some (.int .i64 us[k].u) := by
  obtain ⟨ao, cap', hv, _, _, hl, _, _⟩ := o.any
  cases hv
  obtain ⟨g', off, e, _, _, hc⟩ := hl k us[k].cells (by simp [hk])
  cases e
  have c0 := hc 0 _ rfl
  have c1 := hc 1 _ rfl
  have c2 := hc 2 _ rfl
  simp only [Nat.zero_add, Nat.add_zero] at c0 c1 c2
  exact ⟨c0, c1, c2⟩

set_option maxHeartbeats 800000 in
theorem get_miss (b : Nat) (v : Value) (most h m : Int) (us : List U) (p : ByteArray) (st : Int) (w : World) (k : Nat) (i : MemoIs w b v most us h m) (hm : 0 ≤ m ∧ m ≤ 4611686018427387904) (hf : find p us = some k) (hk : k < us.length) (hs : us[k].stamp ≠ st) :
    Calls Try.prog 13 #[.pointer (some ⟨b, 0, none⟩), .string p, .int .i64 st] w (GetPost w b v most us h m p st) := by
  have hb := lt_of_block i.blk
  have c0 := cell_blk i.blk 0
  simp at c0
  have I := Lib.hid i
  have HI : idx p us = k := by unfold idx; rw [hf]
  have hit : hitU p st us = none := by unfold hitU; rw [hf]; simp only [List.getElem?_eq_getElem hk]; rw [if_neg hs]
  have HH := Lib.hid hit
  obtain ⟨hm0, hm1⟩ := hm
  have hwr : IntKind.i64.wrap (m + 1) = m + 1 := wrap_in (by omega) (by omega)
  obtain ⟨g, cap, rfl, hlc, hcm, hg⟩ := i.own.addr (by intro e; simp at e; subst e; simp at hk)
  rw [List.length_map] at hlc
  rw [List.length_map] at I
  have hst : (us[k].stamp == st) = false := by simpa using hs
  clear i hf hit
  go_enter Try.func13, Try.ntmps13
  go_wp2_with (first
    | (go_at_call 23; refine (ok_any _ _ _ c0).mono ?_; rintro e w' ⟨rfl, rfl⟩)
    | (go_at_call 24; refine (at_any b _ most h m us p _ I.out).mono ?_; rintro e w1 ⟨rfl, hbel⟩; have I1 := Lib.hid (I.out.mod (F := fun _ => False) (Mod.of_below hbel) (fun x => x) (fun _ _ x => x)); have c2 := cell_blk I1.out.blk 2; obtain ⟨_, d1, _⟩ := unit_cells I1.out.own hk; have c4 := cell_blk I1.out.blk 4; have f4 := free_blk I1.out.blk 4; simp at c2 c4; clear c0)
    | (go_at_call 19; refine (drop_any b _ most h (m + 1) us p _ (I1.out.set4 (m + 1))).mono ?_; rintro e w2 ⟨rfl, ⟨v2, i2, hv2⟩, hm2⟩; have I2 := Lib.hid i2; have M2 := Lib.hid hm2; have V2 := Lib.hid hv2; clear i2 hm2 hv2))
  go_ret2
  refine ⟨by rw [HH.out]; rfl, ⟨v2, ?_, .inl V2.out⟩, ?_⟩
  · rw [HH.out]; unfold getU; rw [HH.out]; exact I2.out
  · rw [List.length_map]; exact ((Mod.of_below hbel).setCell _ _ (fun _ => .inl rfl)).trans' M2.out (fun _ _ x => x)

set_option maxHeartbeats 1600000 in
theorem get_hit (b : Nat) (v : Value) (most h m : Int) (us : List U) (p : ByteArray) (st : Int) (w : World) (k : Nat) (i : MemoIs w b v most us h m) (hm : 0 ≤ h ∧ h ≤ 4611686018427387904) (hf : find p us = some k) (hk : k < us.length) (hs : us[k].stamp = st) :
    Calls Try.prog 13 #[.pointer (some ⟨b, 0, none⟩), .string p, .int .i64 st] w (GetPost w b v most us h m p st) := by
  have hb := lt_of_block i.blk
  have c0 := cell_blk i.blk 0
  simp at c0
  have I := Lib.hid i
  have HI : idx p us = k := by unfold idx; rw [hf]
  have hit : hitU p st us = some us[k] := by unfold hitU; rw [hf]; simp only [List.getElem?_eq_getElem hk]; rw [if_pos hs]
  have HH := Lib.hid hit
  obtain ⟨hm0, hm1⟩ := hm
  have hwr : IntKind.i64.wrap (h + 1) = h + 1 := wrap_in (by omega) (by omega)
  obtain ⟨g, cap, rfl, hlc, hcm, hg⟩ := i.own.addr (by intro e; simp at e; subst e; simp at hk)
  rw [List.length_map] at hlc
  rw [List.length_map] at I
  have hst : (us[k].stamp == st) = true := by simpa using hs
  have HS := Lib.hid hs
  have HF := Lib.hid hf
  clear i hf hit hs
  go_enter Try.func13, Try.ntmps13
  go_wp2_with (first
    | (go_at_call 23; refine (ok_any _ _ _ c0).mono ?_; rintro e w' ⟨rfl, rfl⟩)
    | (go_at_call 24; refine (at_any b _ most h m us p _ I.out).mono ?_; rintro e w1 ⟨rfl, hbel⟩; have I1 := Lib.hid (I.out.mod (F := fun _ => False) (Mod.of_below hbel) (fun x => x) (fun _ _ x => x)); have c2 := cell_blk I1.out.blk 2; obtain ⟨d0, d1, d2⟩ := unit_cells I1.out.own hk; simp at c2; clear c0)
    | (go_at_call 19; refine (drop_any b _ most h m us p _ (I1.out.mod ((Mod.refl (fun _ => False) _).alloc _) (fun x => x) (fun _ _ x => x))).mono ?_; rintro e w2 ⟨rfl, ⟨v2, i2, hv2⟩, hm2⟩))
  have hb1 : b < w1.heap.size := lt_of_block I1.out.blk
  have hg1 : g < w1.heap.size := I1.out.own.lt rfl
  have hx := hm2.blk (heap_alloc_new w1 _) (by rintro (e | e) <;> (try simp [Value.ownBlock] at e) <;> omega)
  have x0 := cell_blk hx 0
  have x1 := cell_blk hx 1
  have x2 := cell_blk hx 2
  simp at x0 x1 x2
  have HX := Lib.hid hx
  have M2 := Lib.hid hm2
  have V2 := Lib.hid hv2
  have I2 := Lib.hid i2
  obtain ⟨ao, cap2, hform, _, _, _, _, hblk2⟩ := i2.own.any
  rw [List.length_map] at hform
  subst hform
  have y2 := cell_blk i2.blk 2
  simp at y2
  have hO : ∀ (o : Obj), Hid (Owns (w2.drew.alloc o) 52 3 (.slice ao (dropU p us).length cap2) ((dropU p us).map U.cells)) := fun o => i2.own.kept fun g e => Below.heap_alloc _ _ _ (i2.own.lt e)
  have hL : Hid (Lies (w2.drew.alloc (.cells us[k].cells.toArray 52)) 3 (some ⟨w2.heap.size, 0, none⟩) [us[k].cells]) := lies_new w2.drew _ _ rfl
  have hdl := drop_len_hit HF.out
  have hul := I1.out.len
  have hR1 : Hid (((dropU p us).map U.cells).length + [us[k].cells].length ≤ maxLen) := by show _ ≤ _; unfold maxLen; simp; omega
  have hR2 : Hid ((((dropU p us).map U.cells).length + [us[k].cells].length) * 32 ≤ 140737488355328) := by show _ ≤ _; simp; omega
  have hB : ∀ (o : Obj), Hid ((w2.drew.alloc o).heap[b]? = some (.cells #[.bool true, .int .i64 most, .slice ao (dropU p us).length cap2, .int .i64 h, .int .i64 m] 43 (0, 0)) ∧ b < (w2.drew.alloc o).heap.size) := fun o => ⟨alloc_blk (w := w2.drew) i2.blk o, by have := lt_of_block i2.blk; simp; omega⟩
  have hX : ∀ (o : Obj), Hid ((w2.drew.alloc o).heap[w1.heap.size]? = some (.cells #[.string us[k].path, .int .i64 us[k].stamp, .int .i64 us[k].u] 52 (0, 0)) ∧ w1.heap.size < (w2.drew.alloc o).heap.size) :=
    fun o => ⟨alloc_blk (w := w2.drew) HX.out o, by have := lt_of_block HX.out; simp; omega⟩
  have hXn : Hid ((some w1.heap.size : Option Nat) ≠ (Value.slice ao (dropU p us).length cap2).ownBlock) := by show _ ≠ _; rw [V2.out]; simp [Value.ownBlock]; omega
  have hb2 := lt_of_block i2.blk
  clear hx hm2 hv2 i2 hblk2 hdl hul
  go_wp2
  go_region_law (refine step_append_rows rfl (.tmp 58) (.tmp 60) 41 rfl 52 _ 3 32 Try.underlying41 info52 rfl (by decide) (.slice ao (dropU p us).length cap2) ((dropU p us).map U.cells) (by simp [Act.eval]) (hO _).out (some ⟨w2.heap.size, 0, none⟩) 1 1 [us[k].cells] (by simp [Act.eval]) rfl (fun e => by cases e) hL.out (by simp [U.cells]; exact ⟨rfl, rfl, rfl⟩) (by simp [U.cells]) hR1.out hR2.out ?_; intro v3 w3 o3 g3 b3; obtain ⟨ao3, cap3, hv3, _⟩ := o3.any; subst hv3; have B3 := Lib.hid ((g3.block b (hB _).out.2 (fun e => I2.out.ne e.symm)).trans (hB _).out.1); have z2 := cell_blk B3.out 2; have z3 := cell_blk B3.out 3; have x3 := cell_blk ((g3.block _ (hX _).out.2 hXn.out).trans (hX _).out.1) 2; have ff := free_blk B3.out; simp at z2 z3 x3; have O3 := Lib.hid o3; have G3 := Lib.hid g3; have B3' := Lib.hid b3; clear o3 g3 b3)
  all_goals clear d0 d1 d2 c2 x0 x1 x2 y2 hO hL hB hX hXn hR1 hR2
  all_goals go_wp2
  all_goals go_ret2
  all_goals
    have e3 : ((dropU p us).map U.cells ++ [us[k].cells]).length = (dropU p us).length + 1 := by simp
    have o3 := O3.out
    have b3 := B3'.out
    have m3 : Mod (fun j => (Value.slice ao (dropU p us).length cap2).ownBlock = some j) w2 w3 := ((Mod.refl _ w2).alloc _).drew.grown G3.out (fun _ e _ => e)
    have l2 : w1.heap.size < w2.heap.size := lt_of_block HX.out
    rw [e3] at o3 b3
    rw [List.length_map]
    have v2 := V2.out
    refine ⟨by rw [HH.out]; rfl, ⟨.slice ao3 ((dropU p us).length + 1) cap3, ?_, ?_⟩, ?_⟩
    · rw [HH.out]; unfold getU; rw [HH.out]
      refine (MemoIs.set2 (us' := dropU p us ++ [us[k]]) B3.out (by rw [List.map_append]; exact o3) ?_ ?_).set3 (h + 1)
      · rcases b3 with e | ⟨j, e, hj⟩
        · rw [e]; exact I2.out.ne
        · rw [e]; simp at hj ⊢; omega
      · rw [List.length_append]; have := drop_len_hit HF.out; have := I1.out.len; simp; omega
    · rcases b3 with e | ⟨j, e, hj⟩
      · exact .inl (e.trans v2)
      · refine .inr ⟨j, e, ?_⟩
        have := hbel.size
        simp at hj; omega
    · have a1 : Mod (fun j => j = b ∨ (Value.slice (some ⟨g, 0, none⟩) us.length cap).ownBlock = some j) w w1 := Mod.of_below hbel
      have a2 := a1.trans ((((Mod.refl _ w1).alloc _).trans M2.out).trans (m3.mono (fun j _ e => .inr (by rw [← v2]; exact e))))
      exact (a2.setCell _ _ (fun _ => .inl rfl)).setCell _ _ (fun _ => .inl rfl)
end Go.Proofs.Ytchiedlagdecoaa
