/-
  The walk of 'come' on the bottom.
-/
import Derived.Test.YtoomffplaopijaaCome12
namespace Go.Proofs.Ytoomffplaopijaa
open Go.RowKit

set_option maxHeartbeats 1600000 in
theorem come_bottom {b : Nat} {fv : Value} {hf : Bool} {h : Shape} {s : Sk} {w : World} (i : StackIs w b fv hf h s) (x : ByteArray) (ht : s.total + x.size ≤ 65536) :
    Calls Try.prog 30 #[.pointer (some ⟨b, 0, none⟩), .int .i64 0, .string x] w (ComePost w b fv hf h (come s 0 x.toList)) := by
  have hbt : h.bv.ownBlock ≠ some b := fun e => by have := i.sep _ _ _ (own_00 h b) ((own_20 h b).trans e); simp at this
  obtain ⟨ao, tcap, htv, -, -, -, -⟩ := i.bot.any
  have c3 := cell_blk i.blk 3
  have c4 := cell_blk i.blk 4
  have c5 := cell_blk i.blk 5
  have c6 := cell_blk i.blk 6
  have ff := free_blk i.blk
  simp at c3 c4 c5 c6
  rw [htv] at c3
  have hbl := lt_of_block i.blk
  have hwr : IntKind.i64.wrap ((s.total : Int) + (x.size : Int)) = (s.total : Int) + (x.size : Int) := wrap_in (by omega) (by omega)
  have hlen : Hid (s.bottom.length + x.size ≤ 140737488355328) := by
    show _ ≤ _
    unfold Sk.total at ht
    omega
  have e1 := come0_total s x.toList
  rw [size_toList] at e1
  have ok' : Ok hf (come s 0 x.toList) := come0_ok i.ok _ (by rw [size_toList]; exact ht)
  have hbm : s.bottom.length ≤ 65536 := by unfold Sk.total at ht; omega
  -- the numbers behind: the same whether the first mark is set or not
  obtain ⟨fst, hfst⟩ : ∃ fst, fst = (come s 0 x.toList).first := ⟨_, rfl⟩
  have key : ∀ (w1 : World), w1.heap[b]? = some (.cells #[.bool true, fv, h.vb, h.bv, .int .i64 s.mark, .int .i64 fst, .int .i64 ((s.total : Int) + (x.size : Int))] 50 (0, 0)) → Mod (fun j => j = b ∨ h.bv.ownBlock = some j) w w1 →
      ∀ (v2 : Value) (w2 : World), OwnsB w2 5 v2 (s.bottom ++ x.toList) → w1.grownBy w2 h.bv.ownBlock → (v2.ownBlock = h.bv.ownBlock ∨ ∃ k, v2.ownBlock = some k ∧ w1.heap.size ≤ k) →
      (∃ a, w2.cell? ⟨b, 3, none⟩ = some a) ∧ w2.frozen? ⟨b, 3, none⟩ = false ∧ Left w b fv hf h (come s 0 x.toList) (w2.setCell ⟨b, 3, none⟩ v2) := by
    intro w1 hb1 m1 v2 w2 o2 g2 x2
    have B2 := (g2.block b (lt_of_block hb1) hbt.symm).trans hb1
    refine ⟨⟨_, by rw [cell_blk B2]; rfl⟩, free_blk B2 3, ?_⟩
    refine i.setBottom v2 ((m1.grown g2 (fun j e _ => .inr e)).setCell _ _ (fun _ => .inl rfl)) ?_ (Owns.kept o2 fun q e => Below.heap_setCell _ _ _ _ ?_) ?_ rfl ok'
    · rw [e1, ← hfst]
      have t : (w2.setCell ⟨b, 3, none⟩ v2).heap[b]? = some (.cells #[.bool true, fv, h.vb, v2, .int .i64 s.mark, .int .i64 fst, .int .i64 ((s.total : Int) + (x.size : Int))] 50 (0, 0)) := by simpa using set_blk B2 3 v2
      exact t
    · rcases x2 with h | ⟨j, h, hj⟩
      · rw [h] at e; exact fun e' => hbt (e.trans (congrArg some e'))
      · rw [h] at e; cases e
        have := lt_of_block hb1
        intro e'
        have e'' : q = b := e'
        omega
    · rcases x2 with h | ⟨j, h, hj⟩
      · exact .inl h
      · exact .inr (.inr ⟨j, h, Nat.le_trans m1.size hj⟩)
  have KEY := Lib.hid key
  have HTV := Lib.hid htv
  have HF := Lib.hid hfst
  have I := Lib.hid i
  clear key htv hfst e1 ok'
  by_cases hb0 : s.bottom = []
  · have hb1 : ((s.bottom.length : Int) == 0) = true := by rw [hb0]; rfl
    by_cases hx0 : x.toList = []
    · have hx1 : x.toList.isEmpty = true := by rw [hx0]; rfl
      have HO : Hid (OwnsB (w.setCell ⟨b, 6, none⟩ (.int .i64 ((s.total : Int) + (x.size : Int)))) 5 (.slice ao s.bottom.length tcap) s.bottom) := by
        have o : OwnsB (w.setCell ⟨b, 6, none⟩ (.int .i64 ((s.total : Int) + (x.size : Int)))) 5 h.bv s.bottom := Owns.kept I.out.bot fun q e => by
          have hq : q ≠ b := fun e' => hbt (e.trans (congrArg some e'))
          exact Below.heap_setCell _ _ _ _ hq
        rw [HTV.out] at o
        exact o
      have HB : Hid ((w.setCell ⟨b, 6, none⟩ (.int .i64 ((s.total : Int) + (x.size : Int)))).heap[b]? = some (.cells #[.bool true, fv, h.vb, h.bv, .int .i64 s.mark, .int .i64 fst, .int .i64 ((s.total : Int) + (x.size : Int))] 50 (0, 0))) := by
        show _ = _
        rw [HF.out, show (come s 0 x.toList).first = s.first from (by show (if _ then _ else _) = _; rw [if_neg (fun e => e.2 hx0)])]
        simpa using set_blk I.out.blk 6 (.int .i64 ((s.total : Int) + (x.size : Int)))
      have HM : Hid (Mod (fun j => j = b ∨ h.bv.ownBlock = some j) w (w.setCell ⟨b, 6, none⟩ (.int .i64 ((s.total : Int) + (x.size : Int))))) := (Mod.refl _ w).setCell _ _ (fun _ => .inl rfl)
      have hv0 : h.bv.ownBlock = (Value.slice ao s.bottom.length tcap).ownBlock := by rw [HTV.out]
      have HV := Lib.hid hv0
      clear hv0 i hb0 hx0
      go_enter Try.func30, Try.ntmps30
      go_wp2_with (at_builtin; refine wpList_append_str rfl (.tmp 56) (.tmp 57) 48 9 rfl 5 Try.underlying48 Try.underlying9 info5 (.slice ao s.bottom.length tcap) s.bottom rfl HO.out x rfl hlen.out ?_; intro v2 w2 o2 g2 b2; obtain ⟨⟨a3, d3⟩, f3, L⟩ := KEY.out _ HB.out HM.out v2 w2 o2 (by rw [HV.out]; exact g2) (by rw [HV.out]; exact b2); obtain ⟨ao2, cap2, hv2, -, -, -, -⟩ := o2.any; subst hv2; rw [List.length_append] at L; have LL := Lib.hid L; clear L o2 g2 b2)
      go_end0
      exact ⟨rfl, LL.out⟩
    · have hx1 : x.toList.isEmpty = false := by simpa using hx0
      have HO : Hid (OwnsB ((w.setCell ⟨b, 6, none⟩ (.int .i64 ((s.total : Int) + (x.size : Int)))).setCell ⟨b, 5, none⟩ (.int .i64 s.mark)) 5 (.slice ao s.bottom.length tcap) s.bottom) := by
        have o : OwnsB ((w.setCell ⟨b, 6, none⟩ (.int .i64 ((s.total : Int) + (x.size : Int)))).setCell ⟨b, 5, none⟩ (.int .i64 s.mark)) 5 h.bv s.bottom := Owns.kept I.out.bot fun q e => by
          have hq : q ≠ b := fun e' => hbt (e.trans (congrArg some e'))
          rw [Below.heap_setCell _ _ _ _ hq, Below.heap_setCell _ _ _ _ hq]
        rw [HTV.out] at o
        exact o
      have HB : Hid (((w.setCell ⟨b, 6, none⟩ (.int .i64 ((s.total : Int) + (x.size : Int)))).setCell ⟨b, 5, none⟩ (.int .i64 s.mark)).heap[b]? = some (.cells #[.bool true, fv, h.vb, h.bv, .int .i64 s.mark, .int .i64 fst, .int .i64 ((s.total : Int) + (x.size : Int))] 50 (0, 0))) := by
        show _ = _
        rw [HF.out, show (come s 0 x.toList).first = s.mark from (by show (if _ then _ else _) = _; rw [if_pos ⟨hb0, hx0⟩])]
        simpa using set_blk (set_blk I.out.blk 6 (.int .i64 ((s.total : Int) + (x.size : Int)))) 5 (.int .i64 s.mark)
      have HM : Hid (Mod (fun j => j = b ∨ h.bv.ownBlock = some j) w ((w.setCell ⟨b, 6, none⟩ (.int .i64 ((s.total : Int) + (x.size : Int)))).setCell ⟨b, 5, none⟩ (.int .i64 s.mark))) := ((Mod.refl _ w).setCell _ _ (fun _ => .inl rfl)).setCell _ _ (fun _ => .inl rfl)
      have hv0 : h.bv.ownBlock = (Value.slice ao s.bottom.length tcap).ownBlock := by rw [HTV.out]
      have HV := Lib.hid hv0
      clear hv0 i hb0 hx0
      go_enter Try.func30, Try.ntmps30
      go_wp2_with (at_builtin; refine wpList_append_str rfl (.tmp 56) (.tmp 57) 48 9 rfl 5 Try.underlying48 Try.underlying9 info5 (.slice ao s.bottom.length tcap) s.bottom rfl HO.out x rfl hlen.out ?_; intro v2 w2 o2 g2 b2; obtain ⟨⟨a3, d3⟩, f3, L⟩ := KEY.out _ HB.out HM.out v2 w2 o2 (by rw [HV.out]; exact g2) (by rw [HV.out]; exact b2); obtain ⟨ao2, cap2, hv2, -, -, -, -⟩ := o2.any; subst hv2; rw [List.length_append] at L; have LL := Lib.hid L; clear L o2 g2 b2)
      go_end0
      exact ⟨rfl, LL.out⟩
  · have hb1 : ((s.bottom.length : Int) == 0) = false := by
      have : s.bottom.length ≠ 0 := fun e => hb0 (List.eq_nil_of_length_eq_zero e)
      simp; omega
    have HO : Hid (OwnsB (w.setCell ⟨b, 6, none⟩ (.int .i64 ((s.total : Int) + (x.size : Int)))) 5 (.slice ao s.bottom.length tcap) s.bottom) := by
      have o : OwnsB (w.setCell ⟨b, 6, none⟩ (.int .i64 ((s.total : Int) + (x.size : Int)))) 5 h.bv s.bottom := Owns.kept I.out.bot fun q e => by
        have hq : q ≠ b := fun e' => hbt (e.trans (congrArg some e'))
        exact Below.heap_setCell _ _ _ _ hq
      rw [HTV.out] at o
      exact o
    have HB : Hid ((w.setCell ⟨b, 6, none⟩ (.int .i64 ((s.total : Int) + (x.size : Int)))).heap[b]? = some (.cells #[.bool true, fv, h.vb, h.bv, .int .i64 s.mark, .int .i64 fst, .int .i64 ((s.total : Int) + (x.size : Int))] 50 (0, 0))) := by
      show _ = _
      rw [HF.out, show (come s 0 x.toList).first = s.first from (by show (if _ then _ else _) = _; rw [if_neg (fun e => hb0 e.1)])]
      simpa using set_blk I.out.blk 6 (.int .i64 ((s.total : Int) + (x.size : Int)))
    have HM : Hid (Mod (fun j => j = b ∨ h.bv.ownBlock = some j) w (w.setCell ⟨b, 6, none⟩ (.int .i64 ((s.total : Int) + (x.size : Int))))) := (Mod.refl _ w).setCell _ _ (fun _ => .inl rfl)
    have hv0 : h.bv.ownBlock = (Value.slice ao s.bottom.length tcap).ownBlock := by rw [HTV.out]
    have HV := Lib.hid hv0
    clear hv0 i hb0
    go_enter Try.func30, Try.ntmps30
    go_wp2_with (at_builtin; refine wpList_append_str rfl (.tmp 56) (.tmp 57) 48 9 rfl 5 Try.underlying48 Try.underlying9 info5 (.slice ao s.bottom.length tcap) s.bottom rfl HO.out x rfl hlen.out ?_; intro v2 w2 o2 g2 b2; obtain ⟨⟨a3, d3⟩, f3, L⟩ := KEY.out _ HB.out HM.out v2 w2 o2 (by rw [HV.out]; exact g2) (by rw [HV.out]; exact b2); obtain ⟨ao2, cap2, hv2, -, -, -, -⟩ := o2.any; subst hv2; rw [List.length_append] at L; have LL := Lib.hid L; clear L o2 g2 b2)
    go_end0
    exact ⟨rfl, LL.out⟩
end Go.Proofs.Ytoomffplaopijaa
