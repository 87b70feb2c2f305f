/-
  The walks of the document's PushIf, Push, Write.
-/
import Derived.Test.YtoomffplaopijaaRCome12
namespace Go.Proofs.Ytoomffplaopijaa
open Go.RowKit

theorem mk_true (n t : Bs) : mk true n t = fl n t := by
  unfold mk
  by_cases h : n = []
  · rw [if_pos h]; unfold fl; rw [if_pos h]
  · rw [if_neg h]; rfl

set_option maxHeartbeats 1600000 in
theorem rpushif_any {b : Nat} {v : Value} {s : Sk} {w : World} (i : RefIs w b v s) (x : ByteArray) (ok : Bool) (hm : (mk true x.toList []).isSome = ok) :
    Calls Try.prog 37 #[.pointer (some ⟨b, 0, none⟩), .string x, .bool ok] w (RGive w b v (push true s x.toList).2 (.int .i64 (push true s x.toList).1)) := by
  cases ok with
  | false =>
    have HP : Hid (push true s x.toList = (6, s)) := by show _ = _; unfold push; rw [hm]; rfl
    have I := Lib.hid i
    clear hm i
    go_enter Try.func37, Try.ntmps37
    go_wp2
    go_ret
    exact ⟨by rw [HP.out]; rfl, by rw [HP.out]; exact RLeft.refl I.out⟩
  | true =>
    have I := Lib.hid i
    obtain ⟨ao, cap, hv, -, -, -, -⟩ := i.form
    have c0 := cell_blk i.blk 0
    simp at c0
    rw [hv] at c0
    by_cases hd : 32 ≤ s.bufs.length
    · have HP : Hid (push true s x.toList = (8, s)) := by show _ = _; unfold push; rw [hm, if_pos rfl, if_pos hd]
      have hd' : (32 : Int) ≤ (s.bufs.length : Int) := by omega
      clear hm i hv hd
      go_enter Try.func37, Try.ntmps37
      go_wp2
      go_ret
      exact ⟨by rw [HP.out]; rfl, by rw [HP.out]; exact RLeft.refl I.out⟩
    · have HP : Hid (push true s x.toList = (0, { s with bufs := s.bufs ++ [⟨x.toList, []⟩] })) := by show _ = _; unfold push; rw [hm, if_pos rfl, if_neg hd]
      have OK : Hid (Ok true { s with bufs := s.bufs ++ [⟨x.toList, []⟩] }) := push_ok i.ok _ hm hd
      have hd' : (s.bufs.length : Int) < 32 := by omega
      have hR1 : Hid ((rRows s.bufs).length + 1 ≤ maxLen) := by show _ ≤ _; unfold maxLen; rw [rRows_len]; omega
      have hR2 : Hid (((rRows s.bufs).length + 1) * 32 ≤ 140737488355328) := by show _ ≤ _; rw [rRows_len]; omega
      have hrl : Hid ((rRows s.bufs).length = s.bufs.length) := rRows_len _
      clear hm i hv hd
      go_enter Try.func37, Try.ntmps37
      go_wp2_with fail
      refine (own_any I.out).mono ?_
      rintro e w1 ⟨rfl, v1, i1, x1, m1⟩
      obtain ⟨ao1, cap1, hv1, -, -, -, -⟩ := i1.form
      subst hv1
      have I1 := Lib.hid i1
      have d0 := cell_blk i1.blk 0
      simp at d0
      have hO : ∀ (o : Obj), Hid (Owns (w1.alloc o) 62 2 (.slice ao1 s.bufs.length cap1) (rRows s.bufs)) := fun o => i1.rows.kept fun g e => Below.heap_alloc _ _ _ (i1.rows.lt e)
      have hL : Hid (Lies (w1.alloc (.cells (Bf.cells ⟨x.toList, []⟩).toArray 62)) 2 (some ⟨w1.heap.size, 0, none⟩) [Bf.cells ⟨x.toList, []⟩]) := lies_new w1 _ _ rfl
      have hst : (Bf.cells ⟨x.toList, []⟩).toArray = #[.string x, .string .empty] := by unfold Bf.cells; rw [str_of]; rfl
      have hL' : Hid (Lies (w1.alloc (.cells #[.string x, .string .empty] 62)) 2 (some ⟨w1.heap.size, 0, none⟩) [Bf.cells ⟨x.toList, []⟩]) := by have := hL.out; rw [hst] at this; exact this
      have hB : ∀ (o : Obj), Hid ((w1.alloc o).heap[b]? = some (.cells #[.slice ao1 s.bufs.length cap1, .string (str s.bottom), .int .i64 s.mark, .int .i64 s.first] 42 (0, 0))) := fun o => alloc_blk i1.blk o
      have hnb : Hid ((Value.slice ao1 s.bufs.length cap1).ownBlock ≠ some b) := i1.ne
      have hbl := lt_of_block i1.blk
      have X1 := Lib.hid x1
      have M1 := Lib.hid m1
      clear hL hst x1 m1 i1 c0
      go_wp2_with (at_builtin; refine wpList_append_rows rfl (.tmp 21) (.tmp 24) 40 rfl 62 _ 2 32 Try.underlying40 info62 rfl (by decide) (.slice ao1 s.bufs.length cap1) (rRows s.bufs) rfl (hO _).out (some ⟨w1.heap.size, 0, none⟩) 1 1 [Bf.cells ⟨x.toList, []⟩] rfl rfl (fun e => by cases e) hL'.out (by simp [Bf.cells]; exact ⟨rfl, rfl⟩) (by simp [Bf.cells]) hR1.out hR2.out ?_; intro v3 w3 o3 g3 b3; obtain ⟨ao3, cap3, hv3, -⟩ := o3.any; rw [List.length_append, List.length_singleton] at hv3; subst hv3; have B3 := Lib.hid ((g3.block b (lt_of_block (hB _).out) hnb.out.symm).trans (hB _).out); have ff := free_blk B3.out 0; have z0 := cell_blk B3.out 0; simp at z0; have O3 := Lib.hid o3; have G3 := Lib.hid g3; have X3 := Lib.hid b3; clear o3 g3 b3)
      go_ret
      refine ⟨by rw [HP.out]; rfl, ?_⟩
      rw [HP.out]
      have x3 := X3.out
      have hm3 := ((Mod.refl (fun k => k = b ∨ (Value.slice ao1 s.bufs.length cap1).ownBlock = some k) w1).alloc (.cells #[.string x, .string .empty] 62)).grown G3.out (fun j e _ => .inr e.symm.symm)
      have hn3 : (Value.slice ao3 ((rRows s.bufs).length + 1) cap3).ownBlock ≠ some b := by
        intro e
        rcases x3 with h | ⟨j, h, hj⟩
        · exact hnb.out (h.symm.trans e)
        · rw [h] at e; cases e; simp at hj; omega
      have hr3 : rRows (s.bufs ++ [⟨x.toList, []⟩]) = rRows s.bufs ++ [Bf.cells ⟨x.toList, []⟩] := by unfold rRows; rw [List.map_append]; rfl
      refine RLeft.trans (X1.out.elim (fun h => .inr (.inl h)) (fun h => .inr (.inr h))) (M1.out.mono fun _ _ h => .inl h) ⟨_, RefIs.setField B3.out 0 _ (s' := { s with bufs := s.bufs ++ [⟨x.toList, []⟩] }) (by show Owns w3 62 2 _ (rRows (s.bufs ++ [⟨x.toList, []⟩])); rw [hr3]; exact O3.out) hn3 OK.out rfl, ?_, hm3.setCell _ _ (fun _ => .inl rfl)⟩
      rcases x3 with h | ⟨j, h, hj⟩
      · exact .inl h
      · exact .inr (.inr ⟨j, h, by simp at hj; omega⟩)

theorem emp_list : (ByteArray.empty).toList = [] := List.eq_nil_of_length_eq_zero (by rw [size_toList]; rfl)

set_option maxHeartbeats 800000 in
theorem rpush_any {b : Nat} {v : Value} {s : Sk} {w : World} (i : RefIs w b v s) (x : ByteArray) :
    Calls Try.prog 32 #[.pointer (some ⟨b, 0, none⟩), .string x] w (RGive w b v (push true s x.toList).2 (.int .i64 (push true s x.toList).1)) := by
  have I := Lib.hid i
  clear i
  go_enter Try.func32, Try.ntmps32
  go_wp2_with fail
  refine (filter_any x .empty _ (by decide)).mono ?_
  rintro e w1 ⟨rfl, hb⟩
  rw [emp_list]
  have hm : (mk true x.toList []).isSome = (fl x.toList []).isSome := by rw [mk_true]
  have HM := Lib.hid hm
  have I1 := Lib.hid (I.out.stay (Mod.of_below hb))
  have HB := Lib.hid hb
  clear hb hm
  go_wp2_with fail
  refine (rpushif_any I1.out x _ HM.out).mono ?_
  rintro e w2 ⟨rfl, hl⟩
  have HL := Lib.hid hl
  clear hl
  go_wp2_with fail
  go_ret
  exact ⟨rfl, RLeft.trans (.inl rfl) (Mod.of_below HB.out) HL.out⟩

set_option maxHeartbeats 1600000 in
theorem rwrite_any {b : Nat} {v : Value} {s : Sk} {w : World} (i : RefIs w b v s) (x : ByteArray) (hx : x.size ≤ 140737488351232) :
    Calls Try.prog 33 #[.pointer (some ⟨b, 0, none⟩), .string x] w (RGive w b v (write s x.toList).2 (.int .i64 (write s x.toList).1)) := by
  have I := Lib.hid i
  have ht := i.ok.total
  clear i
  by_cases hbig : 65536 < s.total + x.size
  · have HP : Hid (write s x.toList = (8, s)) := by show _ = _; unfold write; rw [size_toList, if_pos hbig]
    have hbig' : (65536 : Int) < (s.total : Int) + (x.size : Int) := by omega
    clear hbig
    go_enter Try.func33, Try.ntmps33
    go_wp2_with (go_at_call 38; refine (size_any I.out).mono ?_; rintro e w1 ⟨rfl, rfl⟩)
    go_ret
    exact ⟨by rw [HP.out]; rfl, by rw [HP.out]; exact RLeft.refl I.out⟩
  · have HP : Hid (write s x.toList = (0, come s s.bufs.length x.toList)) := by show _ = _; unfold write; rw [size_toList, if_neg hbig]
    have hbig' : (s.total : Int) + (x.size : Int) ≤ 65536 := by omega
    have hbig2 : Hid (s.total + x.size ≤ 65536) := Nat.le_of_not_lt hbig
    clear hbig
    go_enter Try.func33, Try.ntmps33
    go_wp2_with (go_at_call 38; refine (size_any I.out).mono ?_; rintro e w1 ⟨rfl, rfl⟩)
    refine (own_any I.out).mono ?_
    rintro e w1 ⟨rfl, v1, i1, x1, m1⟩
    obtain ⟨ao1, cap1, hv1, -, -, -, -⟩ := i1.form
    subst hv1
    have I1 := Lib.hid i1
    have d0 := cell_blk i1.blk 0
    simp at d0
    have X1 := Lib.hid x1
    have M1 := Lib.hid m1
    clear i1 x1 m1
    have hc : Calls Try.prog 40 #[.pointer (some ⟨b, 0, none⟩), .int .i64 (s.bufs.length : Int), .string x] w1 (RGive w1 b (.slice ao1 s.bufs.length cap1) (come s s.bufs.length x.toList) (.tuple #[])) := by
      cases hl : s.bufs.length with
      | zero => have := rcome_bottom I1.out x hbig2.out; rw [hl] at this; exact this
      | succ k =>
        have := rcome_level I1.out (k := k) (List.getElem?_eq_getElem (by omega)) x hbig2.out
        rw [hl] at this
        exact this
    have HC := Lib.hid hc
    clear hc
    go_wp2_with fail
    refine HC.out.mono ?_
    rintro e w2 ⟨rfl, hl⟩
    have HL := Lib.hid hl
    clear hl
    go_wp2_with fail
    go_ret
    exact ⟨by rw [HP.out]; rfl, by rw [HP.out]; exact RLeft.trans (X1.out.elim (fun h => .inr (.inl h)) (fun h => .inr (.inr h))) (M1.out.mono fun _ _ h => .inl h) HL.out⟩
end Go.Proofs.Ytoomffplaopijaa
