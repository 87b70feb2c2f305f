/-
  The walks of the document's memo: Get, Put.
-/
import Derived.Test.YtchiedlagdecoaaRef19
namespace Go.Proofs.Ytchiedlagdecoaa
open Go.RowKit

/-- What the document's Get leaves and answers. -/
def RGetPost (w : World) (b : Nat) (v : Value) (most : Int) (us : List U) (h m : Int) (p : ByteArray) (st : Int) (e : Ending) (w' : World) : Prop :=
  e = .returned (.tuple #[.int .i64 ((hitU p st us).elim 0 U.u), .bool (hitU p st us).isSome]) ∧
  (∃ v', RefIs w' b v' most (getU p st us) (if (hitU p st us).isSome then h + 1 else h) (if (hitU p st us).isSome then m else m + 1) ∧ (v'.ownBlock = v.ownBlock ∨ Fresh w v')) ∧ Mod (fun k => k = b) w w'

set_option maxHeartbeats 800000 in
theorem rget_none (b : Nat) (v : Value) (most h m : Int) (us : List U) (p : ByteArray) (st : Int) (w : World) (i : RefIs w b v most us h m) (hm : 0 ≤ m ∧ m ≤ 4611686018427387904) (hf : find p us = none) :
    Calls Try.prog 20 #[.pointer (some ⟨b, 0, none⟩), .string p, .int .i64 st] w (RGetPost w b v most us h m p st) := by
  have c3 := cell_blk i.blk 3
  have f3 := free_blk i.blk 3
  simp at c3
  have I := Lib.hid i
  have HI : idx p us = -1 := by unfold idx; rw [hf]
  have hit : hitU p st us = none := by unfold hitU; rw [hf]
  have HH := Lib.hid hit
  have HF := Lib.hid hf
  obtain ⟨hm0, hm1⟩ := hm
  have hwr : IntKind.i64.wrap (m + 1) = m + 1 := by rw [IntKind.wrap_i64]; omega
  clear i hf hit
  go_enter Try.func20, Try.ntmps20
  go_wp2_with (go_at_call 26; refine (rat_any b v most h m us p _ I.out).mono ?_; rintro e w1 ⟨rfl, rfl⟩)
  refine (rdrop_any b v most h (m + 1) us p _ (RefIs.set I.out.blk I.out.reads I.out.ne I.out.len rfl)).mono ?_
  rintro e w2 ⟨rfl, ⟨v2, i2, hv2⟩, hm2⟩
  have I2 := Lib.hid i2; have M2 := Lib.hid hm2; have V2 := Lib.hid hv2
  clear i2 hm2 hv2 c3 f3
  go_wp2
  go_ret2
  refine ⟨by rw [HH.out]; rfl, ⟨v2, ?_, ?_⟩, ?_⟩
  · rw [HH.out]; unfold getU; rw [HH.out]; exact I2.out
  · rcases V2.out with ⟨rfl, _⟩ | ⟨_, hfr⟩
    · exact .inl rfl
    · exact .inr (fun k e => by have := hfr k e; simpa using this)
  · exact ((Mod.refl (fun k => k = b) w).setCell _ _ (fun _ => rfl)).trans M2.out

set_option maxHeartbeats 800000 in
theorem rget_miss (b : Nat) (v : Value) (most h m : Int) (us : List U) (p : ByteArray) (st : Int) (w : World) (k : Nat) (i : RefIs w b v most us h m) (hm : 0 ≤ m ∧ m ≤ 4611686018427387904) (hf : find p us = some k) (hk : k < us.length) (hs : us[k].stamp ≠ st) :
    Calls Try.prog 20 #[.pointer (some ⟨b, 0, none⟩), .string p, .int .i64 st] w (RGetPost w b v most us h m p st) := by
  have I := Lib.hid i
  have HI : idx p us = k := by unfold idx; rw [hf]
  have hit : hitU p st us = none := by unfold hitU; rw [hf]; simp only [List.getElem?_eq_getElem hk]; rw [if_neg hs]
  have HH := Lib.hid hit
  have HF := Lib.hid hf
  obtain ⟨hm0, hm1⟩ := hm
  have hwr : IntKind.i64.wrap (m + 1) = m + 1 := wrap_in (by omega) (by omega)
  obtain ⟨ao, cap, rfl, hlc, -, hu, -, -⟩ := i.reads
  obtain ⟨g, off, rfl, hg, -, hc⟩ := hu k us[k].cells (by simp [hk])
  have d1 := hc 1 _ rfl
  have c1 := cell_blk i.blk 1
  have c3 := cell_blk i.blk 3
  have f3 := free_blk i.blk 3
  simp at c1 c3
  have hst : (us[k].stamp == st) = false := by simpa using hs
  have hst' : (us[k].stamp != st) = true := by simpa using hs
  clear i hf hit hu hc
  go_enter Try.func20, Try.ntmps20
  go_wp2_with (go_at_call 26; refine (rat_any b _ most h m us p _ I.out).mono ?_; rintro e w1 ⟨rfl, rfl⟩)
  refine (rdrop_any b _ most h (m + 1) us p _ (RefIs.set I.out.blk I.out.reads I.out.ne I.out.len rfl)).mono ?_
  rintro e w2 ⟨rfl, ⟨v2, i2, hv2⟩, hm2⟩
  have I2 := Lib.hid i2; have M2 := Lib.hid hm2; have V2 := Lib.hid hv2
  clear i2 hm2 hv2 c3 f3 c1 d1
  go_wp2
  go_ret2
  refine ⟨by rw [HH.out]; rfl, ⟨v2, ?_, ?_⟩, ?_⟩
  · rw [HH.out]; unfold getU; rw [HH.out]; exact I2.out
  · rcases V2.out with ⟨rfl, _⟩ | ⟨_, hfr⟩
    · exact .inl rfl
    · exact .inr (fun k e => by have := hfr k e; simpa using this)
  · exact ((Mod.refl (fun k => k = b) w).setCell _ _ (fun _ => rfl)).trans M2.out

set_option maxHeartbeats 1600000 in
theorem rget_hit (b : Nat) (v : Value) (most h m : Int) (us : List U) (p : ByteArray) (st : Int) (w : World) (k : Nat) (i : RefIs w b v most us h m) (hm : 0 ≤ h ∧ h ≤ 4611686018427387904) (hf : find p us = some k) (hk : k < us.length) (hs : us[k].stamp = st) :
    Calls Try.prog 20 #[.pointer (some ⟨b, 0, none⟩), .string p, .int .i64 st] w (RGetPost w b v most us h m p st) := by
  have I := Lib.hid i
  have hb := lt_of_block i.blk
  have HI : idx p us = k := by unfold idx; rw [hf]
  have hit : hitU p st us = some us[k] := by unfold hitU; rw [hf]; simp only [List.getElem?_eq_getElem hk]; rw [if_pos hs]
  have HH := Lib.hid hit
  have HF := Lib.hid hf
  obtain ⟨hm0, hm1⟩ := hm
  have hwr : IntKind.i64.wrap (h + 1) = h + 1 := wrap_in (by omega) (by omega)
  obtain ⟨ao, cap, rfl, hlc, -, hu, -, -⟩ := i.reads
  obtain ⟨g, off, rfl, hg, -, hc⟩ := hu k us[k].cells (by simp [hk])
  have d0 := hc 0 _ rfl
  have d1 := hc 1 _ rfl
  have d2 := hc 2 _ rfl
  rw [Nat.add_zero] at d0
  have c1 := cell_blk i.blk 1
  simp at c1
  have hst : (us[k].stamp == st) = true := by simpa using hs
  have hst' : (us[k].stamp != st) = false := by simpa using hs
  have HS := Lib.hid hs
  clear i hf hit hu hc hs
  go_enter Try.func20, Try.ntmps20
  go_wp2_with (go_at_call 26; refine (rat_any b _ most h m us p _ I.out).mono ?_; rintro e w1 ⟨rfl, rfl⟩)
  refine (rdrop_any b _ most h m us p _ (I.out.mod' ((Mod.refl _ _).alloc _))).mono ?_
  rintro e w2 ⟨rfl, ⟨v2, i2, hv2⟩, hm2⟩
  have hx := hm2.blk (heap_alloc_new w _) (by omega)
  have x0 := cell_blk hx 0
  have x1 := cell_blk hx 1
  have x2 := cell_blk hx 2
  simp at x0 x1 x2
  have HX := Lib.hid hx
  have hv2' : Owns w2 49 3 v2 ((dropU p us).map U.cells) ∧ Fresh (w.alloc (.cells #[.string us[k].path, .int .i64 us[k].stamp, .int .i64 us[k].u] 49)) v2 := by
    rcases hv2 with ⟨_, h⟩ | h
    · rw [HF.out] at h; cases h
    · exact h
  obtain ⟨o2, fr2⟩ := hv2'
  have M2 := Lib.hid hm2
  have O2 := Lib.hid o2
  have F2 := Lib.hid fr2
  have I2 := Lib.hid i2
  obtain ⟨ao, cap2, hform, -⟩ := o2.any
  rw [List.length_map] at hform
  subst hform
  have y2 := cell_blk i2.blk 1
  simp at y2
  have hdl := drop_len_hit HF.out
  have hul := I.out.len
  have hO : ∀ (o : Obj), Hid (Owns (w2.drew.alloc o) 49 3 (.slice ao (dropU p us).length cap2) ((dropU p us).map U.cells)) := fun o => O2.out.kept fun g e => Below.heap_alloc _ _ _ (O2.out.lt e)
  have hL : Hid (Lies (w2.drew.alloc (.cells us[k].cells.toArray 49)) 3 (some ⟨w2.heap.size, 0, none⟩) [us[k].cells]) := lies_new w2.drew _ _ rfl
  have hR1 : Hid (((dropU p us).map U.cells).length + [us[k].cells].length ≤ maxLen) := by show _ ≤ _; unfold maxLen; simp; omega
  have hR2 : Hid ((((dropU p us).map U.cells).length + [us[k].cells].length) * 32 ≤ 140737488355328) := by show _ ≤ _; simp; omega
  have hB : ∀ (o : Obj), Hid ((w2.drew.alloc o).heap[b]? = some (.cells #[.int .i64 most, .slice ao (dropU p us).length cap2, .int .i64 h, .int .i64 m] 27 (0, 0)) ∧ b < (w2.drew.alloc o).heap.size) := fun o => ⟨alloc_blk (w := w2.drew) I2.out.blk o, by have := lt_of_block I2.out.blk; simp; omega⟩
  have hX : ∀ (o : Obj), Hid ((w2.drew.alloc o).heap[w.heap.size]? = some (.cells #[.string us[k].path, .int .i64 us[k].stamp, .int .i64 us[k].u] 49 (0, 0)) ∧ w.heap.size < (w2.drew.alloc o).heap.size) :=
    fun o => ⟨alloc_blk (w := w2.drew) HX.out o, by have := lt_of_block HX.out; simp; omega⟩
  have hXn : Hid ((some w.heap.size : Option Nat) ≠ (Value.slice ao (dropU p us).length cap2).ownBlock) := fun e => by have := F2.out _ e.symm; simp at this; omega
  have hb2 := lt_of_block I2.out.blk
  clear hx hm2 hv2 i2 hdl hul o2 fr2 c1 d0 d1 d2
  go_wp2
  go_region_law (refine step_append_rows rfl (.tmp 51) (.tmp 53) 25 rfl 49 _ 3 32 Try.underlying25 info49 rfl (by decide) (.slice ao (dropU p us).length cap2) ((dropU p us).map U.cells) (by simp [Act.eval]) (hO _).out (some ⟨w2.heap.size, 0, none⟩) 1 1 [us[k].cells] (by simp [Act.eval]) rfl (fun e => by cases e) hL.out (by simp [U.cells]; exact ⟨rfl, rfl, rfl⟩) (by simp [U.cells]) hR1.out hR2.out ?_; intro v3 w3 o3 g3 b3; obtain ⟨ao3, cap3, hv3, -⟩ := o3.any; subst hv3; have B3 := Lib.hid ((g3.block b (hB _).out.2 (fun e => I2.out.ne e.symm)).trans (hB _).out.1); have z1 := cell_blk B3.out 1; have z2 := cell_blk B3.out 2; have x3 := cell_blk ((g3.block _ (hX _).out.2 hXn.out).trans (hX _).out.1) 2; have ff := free_blk B3.out; simp at z1 z2 x3; have O3 := Lib.hid o3; have G3 := Lib.hid g3; have B3' := Lib.hid b3; clear o3 g3 b3)
  all_goals clear x0 x1 x2 y2 hO hL hB hX hXn hR1 hR2
  all_goals go_wp2
  all_goals go_ret2
  all_goals
    have e3 : ((dropU p us).map U.cells ++ [us[k].cells]).length = (dropU p us).length + 1 := by simp
    have o3 := O3.out
    have b3 := B3'.out
    have m3 : Mod (fun j => (Value.slice ao (dropU p us).length cap2).ownBlock = some j) w2 w3 := ((Mod.refl _ w2).alloc _).drew.grown G3.out (fun _ e _ => e)
    have l2 : w.heap.size < w2.heap.size := lt_of_block HX.out
    rw [e3] at o3 b3
    have fr3 : Fresh w (.slice ao3 ((dropU p us).length + 1) cap3) := by
      intro j e
      rcases b3 with e' | ⟨j', e', hj⟩
      · have := F2.out j (e'.symm.trans e); simp at this; omega
      · rw [e'] at e; cases e; simp at hj; omega
    refine ⟨by rw [HH.out]; rfl, ⟨.slice ao3 ((dropU p us).length + 1) cap3, ?_, .inr fr3⟩, ?_⟩
    · rw [HH.out]; unfold getU; rw [HH.out]
      have hn : (Value.slice ao3 ((dropU p us).length + 1) cap3).ownBlock ≠ some b := fun e => by have := fr3 b e; omega
      have hl : (dropU p us ++ [us[k]]).length ≤ 4398046511103 := by have := drop_len_hit HF.out; have := I.out.len; simp; omega
      have r3 : Reads w3 (.slice ao3 ((dropU p us).length + 1) cap3) (dropU p us ++ [us[k]]) := Reads.of_owns (by rw [List.map_append]; exact o3)
      have s1 := RefIs.set (j := 1) (us' := dropU p us ++ [us[k]]) B3.out r3 hn hl rfl
      exact RefIs.set (j := 2) s1.blk s1.reads s1.ne s1.len rfl
    · have a1 : Mod (fun j => j = b) w w2 := ((Mod.refl _ w).alloc _).trans M2.out
      have a2 := a1.trans' m3 (fun i hi e => by have := F2.out i e; simp at this; omega)
      exact (a2.setCell _ _ (fun _ => rfl)).setCell _ _ (fun _ => rfl)

theorem rget_any (b : Nat) (v : Value) (most h m : Int) (us : List U) (p : ByteArray) (st : Int) (w : World) (i : RefIs w b v most us h m) (hh : 0 ≤ h ∧ h ≤ 4611686018427387904) (hm : 0 ≤ m ∧ m ≤ 4611686018427387904) :
    Calls Try.prog 20 #[.pointer (some ⟨b, 0, none⟩), .string p, .int .i64 st] w (RGetPost w b v most us h m p st) := by
  cases hf : find p us with
  | none => exact rget_none b v most h m us p st w i hm hf
  | some k =>
    have hk := find_lt hf
    by_cases hs : us[k].stamp = st
    · exact rget_hit b v most h m us p st w k i hh hf hk hs
    · exact rget_miss b v most h m us p st w k i hm hf hk hs
end Go.Proofs.Ytchiedlagdecoaa
