/-
  The walk of Push.
-/
import Derived.Test.YtoomffplaopijaaCalls12
namespace Go.Proofs.Ytoomffplaopijaa
open Go.RowKit

set_option maxHeartbeats 1600000 in
theorem push_any {b : Nat} {fv : Value} {hf : Bool} {h : Shape} {s : Sk} {w : World} (i : StackIs w b fv hf h s) (x : ByteArray) :
    Calls Try.prog 16 #[.pointer (some ⟨b, 0, none⟩), .string x] w (GivePost w b fv hf h (push hf s x.toList).2 (.int .i64 (push hf s x.toList).1)) := by
  obtain ⟨ao, cap, hv⟩ := i.rowForm
  have c0 := cell_blk i.blk 0
  simp at c0
  have I := Lib.hid i
  have hdeep := i.ok.deep
  have emp : (ByteArray.empty).toList = [] := List.eq_nil_of_length_eq_zero (by rw [size_toList]; rfl)
  cases hm : (mk hf x.toList []).isSome with
  | false =>
    have HP : Hid (push hf s x.toList = (6, s)) := by show _ = _; unfold push; rw [hm]; rfl
    have HM := Lib.hid hm
    clear i hv hm
    go_enter Try.func16, Try.ntmps16
    go_wp2_with (first | (go_at_call 28; refine (ok_any _ _ _ c0).mono ?_; rintro e w' ⟨rfl, rfl⟩) | (go_at_call 29; refine (make_any I.out x ByteArray.empty (by decide)).mono ?_; rintro e w1 ⟨rfl, hb⟩; rw [emp, HM.out]; have HB := Lib.hid hb; clear hb))
    go_ret
    exact ⟨by rw [HP.out]; rfl, by rw [HP.out]; exact Left.below I.out HB.out⟩
  | true =>
    have HM := Lib.hid hm
    by_cases hd : 32 ≤ s.bufs.length
    · have HP : Hid (push hf s x.toList = (8, s)) := by show _ = _; unfold push; rw [hm, if_pos rfl, if_pos hd]
      have hd' : (32 : Int) ≤ (s.bufs.length : Int) := by omega
      clear i hm
      go_enter Try.func16, Try.ntmps16
      go_wp2_with (first | (go_at_call 28; refine (ok_any _ _ _ c0).mono ?_; rintro e w' ⟨rfl, rfl⟩) | (go_at_call 29; refine (make_any I.out x ByteArray.empty (by decide)).mono ?_; rintro e w1 ⟨rfl, hb⟩; rw [emp, HM.out]; have HB := Lib.hid hb; have c2 := cell_blk (I.out.stayB hb).blk 2; simp at c2; rw [hv] at c2; clear hb))
      go_ret
      exact ⟨by rw [HP.out]; rfl, by rw [HP.out]; exact Left.below I.out HB.out⟩
    · have HP : Hid (push hf s x.toList = (0, { s with bufs := s.bufs ++ [⟨x.toList, []⟩] })) := by show _ = _; unfold push; rw [hm, if_pos rfl, if_neg hd]
      have OK : Hid (Ok hf { s with bufs := s.bufs ++ [⟨x.toList, []⟩] }) := push_ok i.ok _ hm hd
      have hd' : (s.bufs.length : Int) < 32 := by omega
      have hbv : h.vb.ownBlock ≠ some b := fun e => by have := i.sep _ _ _ (own_00 h b) ((own_10 h b).trans e); simp at this
      have hR1 : Hid ((rowOf h.xs).length + 1 ≤ maxLen) := by show _ ≤ _; unfold maxLen rowOf; rw [List.length_map, i.len]; omega
      have hR2 : Hid (((rowOf h.xs).length + 1) * 8 ≤ 140737488355328) := by show _ ≤ _; unfold rowOf; rw [List.length_map, i.len]; omega
      have hrl : (rowOf h.xs).length = s.bufs.length := by unfold rowOf; rw [List.length_map, i.len]
      have HRL := Lib.hid hrl
      have HV := Lib.hid hv
      clear i hm hd hv hrl
      go_enter Try.func16, Try.ntmps16
      go_wp2_with (first
        | (go_at_call 28; refine (ok_any _ _ _ c0).mono ?_; rintro e w' ⟨rfl, rfl⟩)
        | (go_at_call 29; refine (make_any I.out x ByteArray.empty (by decide)).mono ?_; rintro e w1 ⟨rfl, hb⟩; rw [emp, HM.out]; have HB := Lib.hid hb; have I1 := Lib.hid (I.out.stayB hb); have c2 := cell_blk I1.out.blk 2; simp at c2; rw [HV.out] at c2; clear hb; have hO : ∀ (o o' : Obj), Hid (Owns ((w1.alloc o).alloc o') 54 1 (.slice ao s.bufs.length cap) (rowOf h.xs)) := fun o o' => HV.out ▸ I1.out.rows.kept fun g e => by { have := I1.out.rows.lt e; rw [Below.heap_alloc _ _ _ (by simp; omega), Below.heap_alloc _ _ _ this] }; have hL : ∀ (o : Obj), Hid (Lies ((w1.alloc o).alloc (.cells #[.pointer (some ⟨w1.heap.size, 0, none⟩)] 54)) 1 (some ⟨w1.heap.size + 1, 0, none⟩) [[.pointer (some ⟨w1.heap.size, 0, none⟩)]]) := fun o => lies_new' (w1.alloc o) _ _ _ rfl (by simp); have hbl := lt_of_block I1.out.blk; have hD : ∀ (o o' : Obj), Hid (((w1.alloc o).alloc o').heap[b]? = some (.cells #[.bool true, fv, h.vb, h.bv, .int .i64 s.mark, .int .i64 s.first, .int .i64 (s.total : Int)] 50 (0, 0))) := fun o o' => alloc_blk (alloc_blk I1.out.blk o) o')
        | (at_builtin; refine wpList_append_rows rfl (.tmp 30) (.tmp 34) 47 rfl 54 _ 1 8 Try.underlying47 info54 rfl (by decide) (.slice ao s.bufs.length cap) (rowOf h.xs) rfl (hO _ _).out (some ⟨w1.heap.size + 1, 0, none⟩) 1 1 [[.pointer (some ⟨w1.heap.size, 0, none⟩)]] rfl rfl (fun e => by cases e) (hL _).out (by simp; exact rfl) (by simp) hR1.out hR2.out ?_; intro v3 w3 o3 g3 b3; obtain ⟨ao3, cap3, hv3, -⟩ := o3.any; rw [List.length_append] at hv3; subst hv3; have B3 := Lib.hid ((g3.block b (lt_of_block (hD _ _).out) (by rw [← HV.out]; exact hbv.symm)).trans (hD _ _).out); have ff := free_blk B3.out; have z2 := cell_blk B3.out 2; simp at z2; have O3 := Lib.hid o3; have G3 := Lib.hid g3; have X3 := Lib.hid b3; clear o3 g3 b3))
      go_ret
      refine ⟨by rw [HP.out]; rfl, ?_⟩
      rw [HP.out]
      have g3 := G3.out
      have x3 := X3.out
      rw [← HV.out] at g3 x3
      have i1 := I1.out
      have hne : h.vb.ownBlock ≠ some w1.heap.size := fun e => Nat.lt_irrefl _ (i1.rows.lt e)
      have hP : ∀ o : Obj, ((w1.alloc (.cells #[.string x, .slice none 0 0] 57)).alloc o).heap[w1.heap.size]? = some (.cells #[.string x, .slice none 0 0] 57 (0, 0)) := fun o => alloc_blk (heap_alloc_new w1 _) o
      have P3 := (g3.block w1.heap.size (lt_of_block (hP _)) hne.symm).trans (hP _)
      have hm3 := (((Mod.refl (fun j => j = b ∨ h.vb.ownBlock = some j) w1).alloc (.cells #[.string x, .slice none 0 0] 57)).alloc _).grown g3 (fun j e _ => .inr e)
      refine Left.trans (Mod.of_below HB.out) (fun _ x => .inl x) (i1.more (.slice ao3 ((rowOf h.xs).length + 1) cap3) w1.heap.size x.toList (hm3.setCell _ _ (fun _ => .inl rfl)) (Nat.le_refl _) ?_ ?_ ?_ ?_ rfl rfl OK.out)
      · have t := set_blk B3.out 2 (.slice ao3 ((rowOf h.xs).length + 1) cap3)
        simp at t
        rw [t]
        show _ = some (Obj.cells #[_, _, _, _, _, _, .int .i64 ((s.bottom.length + bytesOf (s.bufs ++ [⟨x.toList, []⟩]) : Nat) : Int)] _ _)
        rw [bytesOf_append]
        rfl
      · rw [str_of]
        exact set_other P3 (fun e => by have := hbl; have e' : w1.heap.size = b := e; omega)
      · rcases x3 with e | ⟨j, e, hj⟩
        · exact .inl e
        · refine .inr ⟨j, e, ?_⟩
          simp at hj; omega
      · show Owns _ 54 1 _ (rowOf (h.xs ++ [⟨w1.heap.size, .slice none 0 0⟩]))
        have e : rowOf (h.xs ++ [⟨w1.heap.size, .slice none 0 0⟩]) = rowOf h.xs ++ [[.pointer (some ⟨w1.heap.size, 0, none⟩)]] := by unfold rowOf; rw [List.map_append]; rfl
        rw [e]
        refine O3.out.kept fun q e => Below.heap_setCell _ _ _ _ fun e' => ?_
        have e'' : q = b := e'
        subst e''
        rcases x3 with e3 | ⟨j, e3, hj⟩
        · exact hbv (e3.symm.trans e)
        · rw [e3] at e; cases e
          simp at hj
          omega
end Go.Proofs.Ytoomffplaopijaa
