/-
  The walks of Flush and Pop.
-/
import Derived.Test.YtoomffplaopijaaDrop12
namespace Go.Proofs.Ytoomffplaopijaa
open Go.RowKit

theorem toList_str (l : Bs) : (str l).toList = l := by first | exact str_toList l | simp [str]

theorem wrap64_small {M : Nat} (h : M ≤ 65536) : wrap64 (M : Int) = M := by unfold wrap64; omega

set_option maxHeartbeats 6400000 in
theorem flush_any {b : Nat} {fv : Value} {hf : Bool} {h : Shape} {s : Sk} {w : World} (i : StackIs w b fv hf h s) :
    Calls Try.prog 18 #[.pointer (some ⟨b, 0, none⟩)] w (GivePost w b fv hf h (flush hf s).2 (.int .i64 (flush hf s).1)) := by
  have c0 := cell_blk i.blk 0
  simp at c0
  by_cases h0 : s.bufs.length = 0
  · have e0 : s.bufs[s.bufs.length - 1]? = none := by rw [List.getElem?_eq_none]; omega
    have HE : Hid (flush hf s = (6, s)) := by show _ = _; unfold flush; rw [e0]
    have I := Lib.hid i
    have H0 := Lib.hid h0
    clear i e0 h0
    go_enter Try.func18, Try.ntmps18
    go_wp2_with (first | (go_at_call 28; refine (ok_any _ _ _ c0).mono ?_; rintro e w' ⟨rfl, rfl⟩) | (go_at_call 27; refine (top_none I.out H0.out).mono ?_; rintro e w' ⟨rfl, rfl⟩))
    go_ret
    exact ⟨by rw [HE.out]; rfl, by rw [HE.out]; exact Left.refl I.out⟩
  · obtain ⟨M, x, f, hM, hx, hfk, e0⟩ := i.topAt h0
    obtain ⟨hb1, hb2⟩ := i.each M x _ hx hfk
    obtain ⟨ao, cap, hv, -, -, -, -⟩ := hb2.any
    have p0 := cell_blk hb1 0
    have p1 := cell_blk hb1 1
    simp at p0 p1
    rw [hv] at p1
    have I := Lib.hid i
    have HM := Lib.hid hM
    have HX := Lib.hid hx
    by_cases ht : f.text = []
    · have HE : Hid (flush hf s = (0, s)) := by show _ = _; unfold flush; rw [e0]; show (if _ then _ else _) = _; rw [if_pos ht]
      have hz : ((f.text.length : Int) == 0) = true := by rw [ht]; rfl
      clear i e0 h0 hb1 hb2 hv hfk hx hM ht
      go_enter Try.func18, Try.ntmps18
      go_wp2_with (first | (go_at_call 28; refine (ok_any _ _ _ c0).mono ?_; rintro e w' ⟨rfl, rfl⟩) | (go_at_call 27; refine (top_some I.out HM.out HX.out).mono ?_; rintro e w' ⟨rfl, n, rfl⟩))
      go_ret
      exact ⟨by rw [HE.out]; rfl, by rw [HE.out]; exact ⟨h, I.out.drewN _, (Mod.refl _ w).drewN _, fun _ x => .inl x⟩⟩
    · have hz : ((f.text.length : Int) == 0) = false := by
        have : f.text.length ≠ 0 := fun e => ht (List.eq_nil_of_length_eq_zero e)
        simp; omega
      have o : OwnsB w 5 (.slice ao f.text.length cap) f.text := hv ▸ hb2
      have hconv : ∀ n, (convert 48 9 (.slice ao f.text.length cap)).run Try.prog (w.drewN n) = .ok (.string (str f.text)) (w.drewN n) := fun n => run_back (P := Try.prog) (src := 48) (dst := 9) (w := w.drewN n) (Owns.kept o fun _ _ => rfl) Try.underlying48 Try.underlying5 Try.underlying9
      have hct := clean_total hM hfk
      have htot := i.ok.total
      have hwr1 : IntKind.i64.wrap ((s.total : Int) - (f.text.length : Int)) = (s.total : Int) - (f.text.length : Int) := wrap_in (by omega) (by omega)
      have hwr2 : IntKind.i64.wrap (65536 - ((s.total : Int) - (f.text.length : Int))) = 65536 - ((s.total : Int) - (f.text.length : Int)) := wrap_in (by omega) (by omega)
      have htx : (str f.text).size ≤ 1099511627776 := by
        have := bytesOf_le hfk
        unfold Sk.total at htot
        rw [← size_toList, toList_str]; omega
      obtain ⟨y, hy⟩ : ∃ y, y = (mk hf f.name f.text).getD [] := ⟨_, rfl⟩
      have HTX := Lib.hid htx
      have HY : Hid ((mk hf (str f.name).toList (str f.text).toList).getD [] = y) := by show _ = _; rw [toList_str, toList_str]; exact hy.symm
      have HB1 := Lib.hid hb1
      have HV := Lib.hid hv
      by_cases hfull : 65536 < s.total - f.text.length + y.length
      · have HE : Hid (flush hf s = (8, s)) := by show _ = _; unfold flush; rw [e0]; show (if _ then _ else _) = _; rw [if_neg ht, ← hy, if_pos hfull]
        have hlt : 65536 - ((s.total : Int) - (f.text.length : Int)) < ((str y).size : Int) := by rw [← size_toList, toList_str]; omega
        clear i e0 h0 hb1 hb2 hv hfk hx hM ht o hy hfull hct htx
        go_enter Try.func18, Try.ntmps18
        go_wp2_with (first | (go_at_call 28; refine (ok_any _ _ _ c0).mono ?_; rintro e w' ⟨rfl, rfl⟩) | (go_at_call 27; refine (top_some I.out HM.out HX.out).mono ?_; rintro e w' ⟨rfl, n, rfl⟩))
        go_region_with (go_at_call 29; refine (make_any (I.out.drewN _) (str f.name) (str f.text) HTX.out).mono ?_; rintro e w1 ⟨rfl, hb⟩; rw [HY.out]; have HB := Lib.hid hb; have I1 := Lib.hid ((I.out.drewN _).stayB hb); have d6 := cell_blk I1.out.blk 6; have q1 := cell_blk ((Mod.of_below (F := fun _ => False) hb).blk HB1.out (fun x => x)) 1; simp at d6 q1; rw [HV.out] at q1; clear hb)
        all_goals go_wp2
        all_goals go_quiet (fail)
        all_goals go_wp2
        all_goals go_ret
        all_goals exact ⟨by rw [HE.out]; rfl, by rw [HE.out]; exact ⟨h, I1.out.drewN _, (((Mod.refl _ w).drewN _).trans' (Mod.of_below (F := fun _ => False) HB.out) (fun _ _ x => x.elim)).drewN _, fun _ x => .inl x⟩⟩
      · have HE : Hid (flush hf s = (0, come (clean s) M (str y).toList)) := by show _ = _; unfold flush; rw [e0]; show (if _ then _ else _) = _; rw [if_neg ht, ← hy, if_neg hfull, toList_str, hM]; rfl
        have hlt : ((str y).size : Int) ≤ 65536 - ((s.total : Int) - (f.text.length : Int)) := by rw [← size_toList, toList_str]; omega
        have hto : Hid ((clean s).total + (str y).size ≤ 65536) := by show _ ≤ _; omega
        have hk : Hid (M ≤ (clean s).bufs.length) := by show _ ≤ _; rw [clean_len]; omega
        have hwr4 : wrap64 (M : Int) = M := wrap64_small (by have := i.ok.deep; omega)
        clear i e0 h0 hb1 hb2 hv hfk hx hM ht o hy hfull hct htx
        go_enter Try.func18, Try.ntmps18
        go_wp2_with (first | (go_at_call 28; refine (ok_any _ _ _ c0).mono ?_; rintro e w' ⟨rfl, rfl⟩) | (go_at_call 27; refine (top_some I.out HM.out HX.out).mono ?_; rintro e w' ⟨rfl, n, rfl⟩))
        go_region_with (go_at_call 29; refine (make_any (I.out.drewN _) (str f.name) (str f.text) HTX.out).mono ?_; rintro e w1 ⟨rfl, hb⟩; rw [HY.out]; have HB := Lib.hid hb; have I1 := Lib.hid ((I.out.drewN _).stayB hb); have d6 := cell_blk I1.out.blk 6; have q1 := cell_blk ((Mod.of_below (F := fun _ => False) hb).blk HB1.out (fun x => x)) 1; simp at d6 q1; rw [HV.out] at q1; clear hb)
        all_goals go_wp2
        all_goals go_quiet (fail)
        all_goals clear c0 p0 p1 hconv
        all_goals go_wp2_with (first
          | (go_at_call 26; refine (clean_any (I1.out.drewN _)).mono ?_; rintro e w2 ⟨rfl, h2, i2, m2, f2⟩; obtain ⟨ao2, cap2, hv2⟩ := i2.rowForm; rw [clean_len, HM.out] at hv2; have c2 := cell_blk i2.blk 2; simp at c2; rw [hv2] at c2; have I2 := Lib.hid i2; have M2 := Lib.hid m2; have F2 := Lib.hid f2; clear i2 m2 f2 hv2)
          | (go_at_call 30; refine (come_any (k := M) I2.out hk.out (str y) hto.out).mono ?_; rintro e w3 ⟨rfl, hl⟩; have HL := Lib.hid hl; clear hl))
        all_goals go_ret
        all_goals refine ⟨by rw [HE.out]; rfl, ?_⟩
        all_goals rw [HE.out]
        all_goals refine Left.trans (h1 := h2) (((((Mod.refl _ w).drewN _).trans' (Mod.of_below (F := fun _ => False) HB.out) (fun _ _ x => x.elim)).drewN _).trans' M2.out (fun _ _ x => x)) (fun k x => (F2.out k x).imp (fun x => x) (fun x => Nat.le_trans HB.out.size x)) HL.out
end Go.Proofs.Ytoomffplaopijaa
