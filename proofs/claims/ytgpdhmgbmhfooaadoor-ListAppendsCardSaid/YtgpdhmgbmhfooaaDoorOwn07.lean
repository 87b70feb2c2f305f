/-
  The walk of own: a list that is shared gets items and a map of its own.
-/
import Derived.Test.YtgpdhmgbmhfooaaDoorItems07
import Derived.Maps.Ext
namespace Go.Proofs.YtgpdhmgbmhfooaaDoor
open Go.RowKit Go.Maps

set_option maxRecDepth 100000 in
/-- Every key that a map can hold is one. -/
theorem key_shape {key : Value} {q : Lit} (h : keyOf Tryd.prog 23 key = some q) : ∃ x : K, key = .agg #[.bool x.b, .int .i64 x.n, .string x.t] := by
  obtain ⟨m, hm⟩ := pred_of_lt row23
  unfold keyOf at h
  rw [Tryd.underlying23] at h
  simp only [keyType23, Bool.true_and] at h
  split at h
  · rename_i hf
    cases key <;> simp [Value.formed, Tryd.underlying23, cells23] at hf
    rename_i cs
    obtain ⟨l⟩ := cs
    rw [hm] at h
    match l, hf with
    | [c0, c1, c2], _ =>
      simp [Program.keyLits, Tryd.underlying23, cells23, Tryd.underlying4, Tryd.underlying3, Tryd.underlying9, c4, c3, c9, Value.cells] at h
      cases c0 <;> simp at h
      cases c1 <;> simp at h
      cases c2 <;> simp at h
      rename_i bb kd y q _z
      by_cases hx : kd = IntKind.i64
      · subst hx; exact ⟨⟨bb, y, q⟩, rfl⟩
      · simp [hx] at h
  · cases h
theorem int_shape {v : Value} {y : DataW Unit × List MemPlace} (h : plainElem Tryd.prog 3 v = some y) : ∃ c : Int, v = .int .i64 c := by
  obtain ⟨c, hc, _⟩ := plainElem_int_inv Tryd.underlying3 h
  exact ⟨c, hc⟩
set_option maxRecDepth 100000 in
theorem own_free {b : Nat} {v : Value} {mb : Nat} {l : LS} (w : World) (i : ListIs w b false v mb l) : Calls Tryd.prog 52 #[.pointer (some ⟨b, 0, none⟩)] w fun e w' => e = .returned (.tuple #[]) ∧ w = w' := by
  obtain ⟨c0, c1, c2, c3, c4⟩ := cells5 i.blk
  clear i
  go_enter Tryd.func52, Tryd.ntmps52
  go_wp2_with fail
  exact bodyPost_ret (v := .tuple #[]) (by simp [results, Tryd.results52, go_sem]) rfl ⟨rfl, rfl⟩
/-- What own leaves. -/
def OwnPost (w : World) (b : Nat) (l : LS) (e : Ending) (w' : World) : Prop :=
  e = .returned (.tuple #[]) ∧ ∃ v' mb', ListIs w' b false v' mb' l ∧ Mod (fun k => k = b) w w' ∧ (∀ g, v'.ownBlock = some g → w.heap.size ≤ g) ∧ w.heap.size ≤ mb'
set_option maxRecDepth 100000 in
set_option maxHeartbeats 3200000 in
theorem own_shared {b : Nat} {v : Value} {mb : Nat} {l : LS} (w : World) (i : ListIs w b true v mb l) : Calls Tryd.prog 52 #[.pointer (some ⟨b, 0, none⟩)] w (OwnPost w b l) := by
  have hmm := @run_makeMap Tryd.prog
  obtain ⟨c0, c1, c2, c3, c4⟩ := cells5 i.blk
  have HC : Calls Tryd.prog 75 #[v] w (ClonePost w (l.xs.map It.cells)) := lclone_list i.own i.ok.len
  have I := Lib.hid i
  clear i
  go_enter Tryd.func52, Tryd.ntmps52
  go_wp2_with fail
  refine HC.mono ?_
  rintro e w1 ⟨v1, rfl, ho, hb, hnew⟩
  obtain ⟨ao1, cap1, hv1, -⟩ := ho.any
  rw [List.length_map] at hv1
  subst hv1
  have I1 := Lib.hid (I.out.below hb)
  have O1 := Lib.hid ho
  have B1 := Lib.hid hb
  have N1 := Lib.hid hnew
  clear ho hb hnew HC c0 c1 c2 c3 c4
  have hblt := lt_of_block I.out.blk
  have hb1 := lt_of_block I1.out.blk
  have I2 : Hid (ListIs (w1.setCell ⟨b, 2, none⟩ (.slice ao1 l.xs.length cap1)) b true (.slice ao1 l.xs.length cap1) mb l) := by
    have hne : (Value.slice ao1 l.xs.length cap1).ownBlock ≠ some b := fun e => by have := N1.out b e; omega
    refine ⟨?_, O1.out.kept fun g e => Below.heap_setCell _ _ _ _ (fun x => hne (by rw [e, x])), I1.out.map.kept (Below.heap_setCell _ _ _ _ I1.out.ne2), hne, I1.out.ne2, fun e => ?_, I1.out.ok⟩
    · have := set_blk I1.out.blk 2 (.slice ao1 l.xs.length cap1)
      simpa using this
    · have := N1.out mb e
      have := I.out.map.lt
      omega
  obtain ⟨d0, d1, d2, d3, d4⟩ := cells5 I2.out.blk
  have c2 := cell_blk I1.out.blk 2
  have f2 := free_blk I1.out.blk 2
  have m2 := I2.out.map.lenIs 3
  obtain ⟨c0, c1, -, c3, c4⟩ := cells5 I1.out.blk
  simp at c2
  obtain ⟨D0, ho0, ht0, hs0, hF0⟩ := I2.out.map
  have H0 := Lib.hid (⟨ht0, hs0, hF0⟩ : _ ∧ _ ∧ _)
  have hz0 : Hid (size D0 = l.xs.length ∧ l.xs.length ≤ 2048) := ⟨hs0, I2.out.ok.len⟩
  have HO0 := Lib.hid ho0
  clear ht0 hs0 hF0 ho0
  have hmh : ∀ w, (Instr.makeMap 59 (some (.int .i64 l.xs.length))).run Tryd.prog w = .ok (.map (some w.heap.size)) (w.alloc (.map #[] 0)) := fun w => by
    simp [Instr.makeMap, run_underlying Tryd.underlying59, go_sem]
  go_wp2_with (first
    | (at_range; refine wpList_range_own _ rfl _ 59 rfl 23 3 keyed Tryd.underlying59 _ mb l.xs.length D0 rfl (HO0.out.alloc _) ?_; intro w0 hrg0 hg0 hsz0)
    | fail)
  have e1 : ((w1.setCell ⟨b, 2, none⟩ (.slice ao1 l.xs.length cap1)).alloc (.map #[] 0)).heap.size = w1.heap.size + 1 := by simp
  have e2 : (w1.setCell ⟨b, 2, none⟩ (.slice ao1 l.xs.length cap1)).heap.size = w1.heap.size := by simp
  generalize hW2 : w1.setCell ⟨b, 2, none⟩ (.slice ao1 l.xs.length cap1) = w2 at *
  have HW := Lib.hid hW2
  clear hW2 m2 d0 d1 d2 d3 d4 c0 c1 c2 c3 c4 f2
  rw [e1] at hrg0 hsz0 ⊢
  have HRG := Lib.hid hrg0
  have HG0 := Lib.hid hg0
  have HE := Lib.hid (⟨e1, e2, hsz0⟩ : _ ∧ _ ∧ _)
  clear hrg0 hg0 e1 hsz0
  go_frame
  go_loopw [4] (fun _ wr => ∃ (left : Lit → Bool) (cnt : Nat) (Dout : DataW Unit), Hid (wr.ranges Tryd.prog 23 (plainElem Tryd.prog 3) mb (w1.heap.size + 1) l.xs.length D0 left cnt ∧ cnt ≤ Maps.size D0 ∧
      wr.ownsMap Tryd.prog 23 (plainElem Tryd.prog 3) w1.heap.size (Maps.size D0 - cnt) Dout ∧ Agree Dout D0 left ∧ Below w1.heap.size w2 wr))
    (fun _ wr => wr.rangeLeft mb (w1.heap.size + 1))
  case atStart =>
    have hm := World.ownsMap_made (H := Unit) w2 Tryd.prog 23 (plainElem Tryd.prog 3)
    rw [e2] at hm
    refine ⟨_, _, .map [], HRG.out, Nat.le_refl _, (hm.kept HG0.out (by simp)).mono (Nat.zero_le _), agree_start D0, ?_⟩
    have hb0 : Below w1.heap.size w2 w2 := Below.refl _ _
    exact (hb0.alloc (by omega) _).grown HG0.out (by rw [HE.out.1]; omega) (fun j hj => by cases hj)
  case round =>
    obtain ⟨left, cnt, Dout, HREL⟩ := hrel
    have hrg := HREL.out.1
    go_wp2_with (first
      | (at_next; refine wpList_next_ranges _ rfl _ rfl 23 keyed (plainElem Tryd.prog 3) (fun x : K => .agg #[.bool x.b, .int .i64 x.n, .string x.t]) (Value.int .i64) (fun key q h => key_shape h) (fun v y h => int_shape h) mb (w1.heap.size + 1) l.xs.length D0 left cnt rfl hrg ?_ ?_)
      | fail)
    · intro hc0 hl0
      obtain ⟨hrg1, hcs, hout, hA, hnx⟩ := HREL.out
      have e := agree_end hA hl0 (hout.canon keyed) (hrg1.owns.canon keyed)
      subst e
      have I3 : ListIs wr b true (.slice ao1 l.xs.length cap1) mb l := I2.out.below (by rw [HE.out.2.1]; exact hnx)
      have M3 : MapIs wr w1.heap.size (placeF l.xs) l.xs.length := by
        obtain ⟨t1, t2, t3⟩ := H0.out
        refine ⟨Dout, ?_, t1, t2, t3⟩
        rw [hc0, Nat.sub_zero, t2] at hout
        exact hout
      have B3 := Lib.hid hnx
      have f1 := free_blk I3.blk 1
      have f3 := free_blk I3.blk 3
      have c1 := cell_blk I3.blk 1
      have c3 := cell_blk I3.blk 3
      have HI3 := Lib.hid I3
      have HM3 := Lib.hid M3
      clear hrg1 hcs hout hA hnx hc0 hl0 I3 M3 HREL hrg
      simp at c1 c3
      go_wp2_with fail
      go_end0
      have hbN : w1.heap.size ≠ b := by omega
      have hne := HI3.out.ne1
      refine ⟨rfl, .slice ao1 l.xs.length cap1, w1.heap.size, ⟨?_, ?_, ?_, hne, hbN, ?_, HI3.out.ok⟩, ?_, N1.out, by have := B1.out.size; omega⟩
      · have := set_blk (set_blk HI3.out.blk 3 (.map (some w1.heap.size))) 1 (.bool false)
        simpa using this
      · exact HI3.out.own.kept fun g e => (Below.heap_setCell _ _ _ _ (fun x => hne (by rw [e, x]))).trans (Below.heap_setCell _ _ _ _ (fun x => hne (by rw [e, x])))
      · exact HM3.out.kept ((Below.heap_setCell _ _ _ _ hbN).trans (Below.heap_setCell _ _ _ _ hbN))
      · intro e
        have := O1.out.lt e
        omega
      · have m1 : Mod (fun k => k = b) w w2 := by
          rw [← HW.out]
          exact (Mod.of_below B1.out).setCell _ _ (fun _ => rfl)
        have m2 : Mod (fun k => k = b) w2 wr := by
          have hb := B3.out
          rw [← HE.out.2.1] at hb
          exact Mod.of_below hb
        exact ((m1.trans m2).setCell _ _ (fun _ => rfl)).setCell _ _ (fun _ => rfl)
    · intro x c q d ps w3 cnt1 hkey hlx hy hat hrg1 hlt hg1 hs1 hen
      obtain ⟨-, hcs, hout, hA, hnx⟩ := HREL.out
      have hout1 := Lib.hid (hout.kept hg1 (by simp))
      have hnb : Hid (Maps.size D0 - cnt < maxLen) := by show _ < _; have := hz0.out; unfold maxLen; omega
      have HX := Lib.hid (⟨hlx, hat, hs1, hkey, hy⟩ : _ ∧ _ ∧ _ ∧ _ ∧ _)
      have HY := Lib.hid (⟨hrg1, hlt, hg1, hcs, hA, hnx, hout.isMap⟩ : _ ∧ _ ∧ _ ∧ _ ∧ _ ∧ _ ∧ _)
      clear hlx hat hs1 hkey hy hrg1 hlt hg1 hcs hA hnx hout HREL
      go_wp2_with (first
        | (at_mapUpdate; refine wpList_mapUpdate_own _ rfl _ _ _ 59 rfl 23 3 keyed Tryd.underlying59 _ w1.heap.size _ _ rfl (hout1.out.alloc _) hnb.out _ _ q rfl rfl HX.out.2.2.2.1 d ps HX.out.2.2.2.2 ?_; intro w4 hout4 hg4; have HO4 := Lib.hid hout4; have HG4 := Lib.hid hg4; clear hout4 hg4; go_frame)
        | fail)
      obtain ⟨hlx, hat, hs1, hkey, hy⟩ := HX.out
      obtain ⟨hrg1, hlt, hg1, hcs, hA, hnx, him⟩ := HY.out
      have hmN : mb ≠ w1.heap.size := by have := I1.out.map.lt; omega
      have hrg2 := (hrg1.alloc (.cells #[.bool x.b, .int .i64 x.n, .string x.t] 23)).kept HG4.out (fun e => hmN (Option.some.inj e)) (fun e => by have := Option.some.inj e; omega)
      have hz := hz0.out
      go_roundw
      case rel =>
        refine ⟨_, cnt1, _, hrg2, by omega, HO4.out.mono (by omega), agree_step hA him (keyed.one.key ⟨_, hkey⟩) hat, ?_⟩
        have hsz := hnx.size
        have hb3 := hnx.grown hg1 (by omega) (fun j hj => by cases hj; omega)
        exact (hb3.alloc (by omega) _).grown HG4.out (by simp; omega) (fun j hj => by cases hj; omega)
      case measure => rw [hrg2.left_eq, hrg.left_eq]; exact hlt
end Go.Proofs.YtgpdhmgbmhfooaaDoor
