/-
  The walk of 'does': Clean and Drop.
-/
import Derived.Test.YtoomffplaopijaaDoes12
namespace Go.Proofs.Ytoomffplaopijaa
open Go.RowKit

theorem Duo.open {K : Nat → Prop} {w : World} {a b : Nat} {s t : Sk} (l : Duo K w a b s t) : ∃ v, RefIs w b v t ∧ ∀ t' w', RLeft w b v t' w' → Duo K w' a b s t' ∧ Mod (fun k => ¬ K k) w w' := by
  obtain ⟨hK, h, v, i, j, p, q, r⟩ := l
  refine ⟨v, j, fun t' w' ⟨v', j', o, m⟩ => ⟨⟨fun k x => Nat.lt_of_lt_of_le (hK k x) m.size, h, v', i.mod m (fun l k e x => x.elim (p k ⟨l, e⟩).2.1 (p k ⟨l, e⟩).2.2), j', fun k x => ⟨(p k x).1, (p k x).2.1, fun e => ?_⟩, q, fun k e z => ?_⟩, m.mono fun k _ x => x.elim (fun e => by rw [e]; exact q) (r k)⟩⟩
  · rcases o with y | y | ⟨j0, y, hj⟩
    · exact (p k x).2.2 (y ▸ e)
    · rw [y] at e; cases e
    · rw [y] at e; cases e
      obtain ⟨l, e'⟩ := x
      have := i.lt l _ e'
      omega
  · rcases o with y | y | ⟨j0, y, hj⟩
    · exact r k (y ▸ e) z
    · rw [y] at e; cases e
    · rw [y] at e; cases e
      have := hK _ z
      omega
theorem StillPost.mk {w w' : World} {e : Ending} {x : Value} {n : Nat} (h : e = .returned x) (hw : w' = w.drewN n) : e = .returned x ∧ Mod (fun _ => False) w w' := ⟨h, by rw [hw]; exact (Mod.refl _ w).drewN n⟩

set_option maxRecDepth 100000 in
set_option maxHeartbeats 3200000 in
theorem does_2 {K : Nat → Prop} {a b : Nat} {s : Sk} {w : World} (l : Duo K w a b s s) (kind : Int) (x : ByteArray) (n : Int) (hk : kindOf kind = 2) :
    Calls Try.prog 23 #[.pointer (some ⟨a, 0, none⟩), .pointer (some ⟨b, 0, none⟩), .agg #[.int .i64 kind, .string x, .int .i64 n]] w (DoesPost K w a b (stepS kind x.toList n s)) := by
  have hw := kind_facts (kind := kind)
  have L0 := Lib.hid (l.box (.cells #[.int .i64 kind, .string x, .int .i64 n] 28))
  have HS : Hid (stepS kind x.toList n s = clean s) := by show _ = _; unfold stepS; rw [if_neg (by omega), if_neg (by omega), if_pos hk]
  have hok := l.ok
  unfold kindOf at hk
  clear l
  by_cases h0 : s.bufs.length = 0
  · have HN := Lib.hid (topB_none h0).2
    have HC := Lib.hid (clean_none h0)
    clear h0
    go_enter Try.func23, Try.ntmps23
    go_wp2_with fail
    refine (d_ltop L0.out).mono ?_
    rintro e w1 ⟨rfl, n1, hw1⟩
    rw [HN.out]
    have L1 := Lib.hid (L0.out.drewN n1)
    rw [← hw1] at L1
    have M1 : Hid (Mod (fun k => ¬ Kb K w.heap.size k) (w.alloc (.cells #[.int .i64 kind, .string x, .int .i64 n] 28)) w1) := by rw [hw1]; exact (Mod.refl _ _).drewN n1
    clear hw1
    go_wp2_with fail
    refine (d_clean L1.out).mono ?_
    rw [HN.out]
    rintro e w2 ⟨rfl, l, m⟩
    have L2 := Lib.hid l
    have M2 := Lib.hid (M1.out.trans m)
    clear l m
    go_wp2_with fail
    go_ret
    exact ⟨rfl, by rw [HS.out]; have := L2.out.unbox; rw [HC.out] at this ⊢; exact this, kb_unbox M2.out⟩
  · obtain ⟨M, f, hM, hMk, -, he⟩ := topB_at h0
    have HE := Lib.hid he
    have HM := Lib.hid hM
    have HMK := Lib.hid hMk
    have hd := hok.deep
    rw [hM] at hd
    have hwr : IntKind.i64.wrap ((M : Int) + 1 - 1) = M := wrap_in' M (by omega)
    have n1 : Hid (M + 1 = (rRows s.bufs).length) := by show _ = _; rw [rRows_len, hM]
    have r1 : Hid (([] : List (List Value)).length + (rRows s.bufs).length ≤ maxLen) := by show _ ≤ _; unfold maxLen; rw [rRows_len, hM]; simp; omega
    have r2 : Hid ((([] : List (List Value)).length + (rRows s.bufs).length) * 32 ≤ 140737488355328) := by show _ ≤ _; rw [rRows_len, hM]; simp; omega
    clear h0 hM hMk he hok
    go_enter Try.func23, Try.ntmps23
    go_wp2_with fail
    refine (d_ltop L0.out).mono ?_
    rintro e w1 ⟨rfl, n1', hw1⟩
    rw [HE.out]
    have L1 := Lib.hid (L0.out.drewN n1')
    rw [← hw1] at L1
    have M1 : Hid (Mod (fun k => ¬ Kb K w.heap.size k) (w.alloc (.cells #[.int .i64 kind, .string x, .int .i64 n] 28)) w1) := by rw [hw1]; exact (Mod.refl _ _).drewN n1'
    clear hw1
    obtain ⟨v, j, hleft⟩ := L1.out.open
    have HLEFT := Lib.hid hleft
    obtain ⟨ao, cap, hv, hcap, hcm, hl, hno⟩ := j.form
    rw [HM.out] at hv
    have J := Lib.hid j
    have HL := Lib.hid hl
    have HN := Lib.hid hno
    have B := Lib.hid j.blk
    have c0 := cell_blk j.blk 0
    simp at c0
    rw [hv] at c0
    have HV := Lib.hid hv
    clear j hl hno hv hleft hcap hcm
    go_wp2_with (at_builtin; refine wpList_append_rows rfl (.const (.slice none 0 0)) (.tmp 52) 40 rfl 62 _ 2 32 Try.underlying40 info62 rfl (by decide) (.slice none 0 0) [] rfl (Owns.empty _ _ _) ao (M + 1) cap (rRows s.bufs) rfl n1.out HN.out HL.out (rRows_one _) (rRows_size _) r1.out r2.out ?_; intro v3 w3 o3 g3 b3; rw [List.nil_append] at o3; obtain ⟨ao3, cap3, hv3, hc3, -⟩ := o3.any; rw [← n1.out] at hv3 hc3; subst hv3; have B3 := Lib.hid ((g3.block b (lt_of_block B.out) (by simp [Value.ownBlock])).trans B.out); have ff := free_blk B3.out 0; have z0 := cell_blk B3.out 0; simp at z0; have O3 := Lib.hid o3; have G3 := Lib.hid g3; have X3 := Lib.hid b3; clear o3 g3 b3 c0)
    have x3 : (Value.slice ao3 (M + 1) cap3).ownBlock = none ∨ ∃ j, (Value.slice ao3 (M + 1) cap3).ownBlock = some j ∧ w1.heap.size ≤ j := by
      rcases X3.out with h | h
      · exact .inl h
      · exact .inr h
    have hn : (Value.slice ao3 (M + 1) cap3).ownBlock ≠ some b := by
      intro e
      have := lt_of_block B.out
      rcases x3 with h | ⟨j, h, hj⟩
      · rw [h] at e; cases e
      · rw [h] at e; cases e; omega
    have j4 : RefIs (w3.setCell ⟨b, 0, none⟩ (.slice ao3 (M + 1) cap3)) b (.slice ao3 (M + 1) cap3) s := RefIs.setField B3.out 0 (.slice ao3 (M + 1) cap3) O3.out hn J.out.ok rfl
    have m4 : Mod (fun k => k = b ∨ v.ownBlock = some k) w1 (w3.setCell ⟨b, 0, none⟩ (.slice ao3 (M + 1) cap3)) := ((Mod.refl (fun k => k = b ∨ v.ownBlock = some k) w1).grown G3.out (fun k e _ => by simp [Value.ownBlock] at e)).setCell _ _ (fun _ => .inl rfl)
    obtain ⟨g, cap4, hv4, h1, h2, d2, d3, -, df⟩ := j4.at HMK.out
    rw [HM.out] at hv4
    cases hv4
    have y0 := cell_blk j4.blk 0
    simp at y0
    have hl5 := j4.setText rfl HMK.out [] (clean s) (clean_bufs HM.out HMK.out) rfl rfl rfl (clean_ok j4.ok HM.out HMK.out)
    rw [str_nil] at hl5
    have R5 : Hid (∀ k, RLeft w1 b v (clean s) (((w3.setCell ⟨b, 0, none⟩ (.slice (some ⟨g, 0, none⟩) (M + 1) cap3)).setCell ⟨g, M * 2 + 1, none⟩ (.string .empty)).drewN k)) := fun k =>
      RLeft.trans (x3.elim (fun h => .inr (.inl h)) (fun h => .inr (.inr h))) m4 ⟨_, hl5.1.stay ((Mod.refl _ _).drewN k), .inl rfl, (hl5.2.mono fun _ _ h => .inr h).drewN k⟩
    generalize w3.setCell ⟨b, 0, none⟩ (.slice (some ⟨g, 0, none⟩) (M + 1) cap3) = w4 at *
    clear z0 ff j4 m4 hl5 x3 hn B3 O3 G3 X3
    go_wp2_with fail
    go_region
    have L6 := Lib.hid (HLEFT.out _ _ (R5.out 1)).1
    have M6 := Lib.hid (M1.out.trans (HLEFT.out _ _ (R5.out 1)).2)
    go_wp2_with fail
    refine (d_clean L6.out).mono ?_
    rw [HE.out]
    rintro e w7 ⟨rfl, l, m⟩
    have L7 := Lib.hid l
    have M7 := Lib.hid (M6.out.trans m)
    clear l m
    go_wp2_with fail
    go_ret
    exact ⟨rfl, by rw [HS.out]; exact L7.out.unbox, kb_unbox M7.out⟩

theorem drop_bufs {s : Sk} {M : Nat} {f : Bf} (hM : s.bufs.length = M + 1) (hMk : s.bufs[M]? = some f) : (dropS s).bufs = s.bufs.take M := by
  unfold dropS popB
  show (clean s).bufs.take ((clean s).bufs.length - 1) = _
  rw [clean_len, hM, clean_bufs hM hMk]
  show (s.bufs.set M _).take M = _
  rw [List.take_set_of_le (Nat.le_refl _)]
theorem drop_ok {s : Sk} (o : Ok true s) {M : Nat} {f : Bf} (hM : s.bufs.length = M + 1) (hMk : s.bufs[M]? = some f) : Ok true (dropS s) :=
  popB_ok (clean_ok o hM hMk) (by rw [clean_len, hM]) (clean_top hM hMk) rfl
theorem RefIs.dropTop {w : World} {b : Nat} {v : Value} {s : Sk} (i : RefIs w b v s) {M g cap : Nat} {f : Bf} (hv : v = .slice (some ⟨g, 0, none⟩) (M + 1) cap) (hM : s.bufs.length = M + 1) (hMk : s.bufs[M]? = some f) (n : Nat) :
    RLeft w b v (dropS s) ((w.setCell ⟨b, 0, none⟩ (.slice (some ⟨g, 0, none⟩) M cap)).drewN n) := by
  subst hv
  have ht : rRows (dropS s).bufs = (rRows s.bufs).take M := by
    rw [drop_bufs hM hMk]
    unfold rRows
    rw [List.map_take]
  have ho := Owns.take i.rows M (by rw [rRows_len]; omega)
  have r : RefIs (w.setCell ⟨b, 0, none⟩ (.slice (some ⟨g, 0, none⟩) M cap)) b (.slice (some ⟨g, 0, none⟩) M cap) (dropS s) :=
    RefIs.setField i.blk 0 _ (by rw [ht]; exact ho) i.ne (drop_ok i.ok hM hMk) rfl
  exact ⟨_, r.stay ((Mod.refl _ _).drewN n), .inl rfl, ((Mod.refl _ w).setCell _ _ (fun _ => .inl rfl)).drewN n⟩

set_option maxRecDepth 100000 in
set_option maxHeartbeats 3200000 in
theorem does_3 {K : Nat → Prop} {a b : Nat} {s : Sk} {w : World} (l : Duo K w a b s s) (kind : Int) (x : ByteArray) (n : Int) (hk : kindOf kind = 3) :
    Calls Try.prog 23 #[.pointer (some ⟨a, 0, none⟩), .pointer (some ⟨b, 0, none⟩), .agg #[.int .i64 kind, .string x, .int .i64 n]] w (DoesPost K w a b (stepS kind x.toList n s)) := by
  have hw := kind_facts (kind := kind)
  have L0 := Lib.hid (l.box (.cells #[.int .i64 kind, .string x, .int .i64 n] 28))
  have HS : Hid (stepS kind x.toList n s = dropS s) := by show _ = _; unfold stepS; rw [if_neg (by omega), if_neg (by omega), if_neg (by omega), if_pos hk]
  have hok := l.ok
  unfold kindOf at hk
  clear l
  by_cases h0 : s.bufs.length = 0
  · have HN := Lib.hid (topB_none h0).2
    have HC := Lib.hid (dropS_none h0)
    have e1 : ((ByteArray.empty).toList == (ByteArray.empty).toList) = true := by simp
    clear h0
    go_enter Try.func23, Try.ntmps23
    go_wp2_with fail
    refine (d_ltop L0.out).mono ?_
    rintro e w1 ⟨rfl, n1, hw1⟩
    rw [HN.out]
    have L1 := Lib.hid (L0.out.drewN n1)
    rw [← hw1] at L1
    have M1 : Hid (Mod (fun k => ¬ Kb K w.heap.size k) (w.alloc (.cells #[.int .i64 kind, .string x, .int .i64 n] 28)) w1) := by rw [hw1]; exact (Mod.refl _ _).drewN n1
    clear hw1
    go_wp2_with fail
    refine (d_drop L1.out).mono ?_
    rw [HN.out]
    rintro e w2 ⟨rfl, l, m⟩
    have L2 := Lib.hid l
    have M2 := Lib.hid (M1.out.trans m)
    clear l m
    go_wp2_with fail
    go_ret
    exact ⟨rfl, by rw [HS.out]; have := L2.out.unbox; rw [HC.out] at this ⊢; exact this, kb_unbox M2.out⟩
  · obtain ⟨M, f, hM, hMk, -, he⟩ := topB_at h0
    have HE := Lib.hid he
    have HM := Lib.hid hM
    have HMK := Lib.hid hMk
    have hd := hok.deep
    rw [hM] at hd
    have hwr : IntKind.i64.wrap ((M : Int) + 1 - 1) = M := wrap_in' M (by omega)
    have e1 : ((str f.text).toList == (str f.text).toList) = true := by simp
    have hwr' : wrap64 (M : Int) = M := wrap64_small (by omega)
    clear h0 hM hMk he hok
    go_enter Try.func23, Try.ntmps23
    go_wp2_with fail
    refine (d_ltop L0.out).mono ?_
    rintro e w1 ⟨rfl, n1', hw1⟩
    rw [HE.out]
    have L1 := Lib.hid (L0.out.drewN n1')
    rw [← hw1] at L1
    have M1 : Hid (Mod (fun k => ¬ Kb K w.heap.size k) (w.alloc (.cells #[.int .i64 kind, .string x, .int .i64 n] 28)) w1) := by rw [hw1]; exact (Mod.refl _ _).drewN n1'
    clear hw1
    obtain ⟨v, j, hleft⟩ := L1.out.open
    obtain ⟨g, cap, hv, hcap, hcm, -, -, -, -⟩ := j.at HMK.out
    rw [HM.out] at hv hcap
    have HLEFT : Hid (Duo (Kb K w.heap.size) ((w1.setCell ⟨b, 0, none⟩ (.slice (some ⟨g, 0, none⟩) M cap)).drewN 1) a b s (dropS s) ∧ Mod (fun k => ¬ Kb K w.heap.size k) w1 ((w1.setCell ⟨b, 0, none⟩ (.slice (some ⟨g, 0, none⟩) M cap)).drewN 1)) := hleft _ _ (j.dropTop hv HM.out HMK.out 1)
    have c0 := cell_blk j.blk 0
    have f0 := free_blk j.blk 0
    simp at c0
    rw [hv] at c0
    clear j hv hleft
    go_wp2_with fail
    go_region
    have M6 := Lib.hid (M1.out.trans HLEFT.out.2)
    go_wp2_with fail
    refine (d_drop HLEFT.out.1).mono ?_
    rw [HE.out]
    rintro e w7 ⟨rfl, l, m⟩
    have L7 := Lib.hid l
    have M7 := Lib.hid (M6.out.trans m)
    clear l m
    go_wp2_with fail
    go_ret
    exact ⟨rfl, by rw [HS.out]; exact L7.out.unbox, kb_unbox M7.out⟩

theorem does_any {K : Nat → Prop} {a b : Nat} {s : Sk} {w : World} (l : Duo K w a b s s) (kind : Int) (x : ByteArray) (n : Int) (hx : x.size ≤ 140737488351232) :
    Calls Try.prog 23 #[.pointer (some ⟨a, 0, none⟩), .pointer (some ⟨b, 0, none⟩), .agg #[.int .i64 kind, .string x, .int .i64 n]] w (DoesPost K w a b (stepS kind x.toList n s)) := by
  rcases kind_range kind with h | h | h | h | h | h | h | h
  · exact does_0 l kind x n h
  · exact does_1 l kind x n hx h
  · exact does_2 l kind x n h
  · exact does_3 l kind x n h
  · exact does_4 l kind x n h
  · exact does_5 l kind x n h
  · exact does_6 l kind x n h
  · exact does_7 l kind x n h
end Go.Proofs.Ytoomffplaopijaa
