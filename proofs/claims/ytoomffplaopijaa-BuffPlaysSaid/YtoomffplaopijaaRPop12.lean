/-
  The walks of the document's Pop and End; and of the statements' 'top'.
-/
import Derived.Test.YtoomffplaopijaaRFlush12
namespace Go.Proofs.Ytoomffplaopijaa
open Go.RowKit

/-- A buffer less. -/
theorem RefIs.chop {w : World} {b : Nat} {v : Value} {s : Sk} (i : RefIs w b v s) {M g cap : Nat} (hv : v = .slice (some ⟨g, 0, none⟩) (M + 1) cap) (hM : s.bufs.length = M + 1) (hok : Ok true (popB s)) (n : Nat) :
    RLeft w b v (popB s) ((w.setCell ⟨b, 0, none⟩ (.slice (some ⟨g, 0, none⟩) M cap)).drewN n) := by
  subst hv
  have ht : rRows (popB s).bufs = (rRows s.bufs).take M := by
    unfold popB rRows
    show (s.bufs.take (s.bufs.length - 1)).map _ = _
    rw [hM, List.map_take]; rfl
  have ho := Owns.take i.rows M (by rw [rRows_len]; omega)
  have r : RefIs (w.setCell ⟨b, 0, none⟩ (.slice (some ⟨g, 0, none⟩) M cap)) b (.slice (some ⟨g, 0, none⟩) M cap) (popB s) :=
    RefIs.setField i.blk 0 _ (by rw [ht]; exact ho) i.ne hok rfl
  exact ⟨_, r.stay ((Mod.refl _ _).drewN n), .inl rfl, ((Mod.refl _ w).setCell _ _ (fun _ => .inl rfl)).drewN n⟩

set_option maxHeartbeats 1600000 in
theorem rpop_any {b : Nat} {v : Value} {s : Sk} {w : World} (i : RefIs w b v s) : Calls Try.prog 35 #[.pointer (some ⟨b, 0, none⟩)] w (RGive w b v (pop true s).2 (.int .i64 (pop true s).1)) := by
  obtain ⟨r, t, hr⟩ : ∃ r t, flush true s = (r, t) := ⟨_, _, rfl⟩
  have HR := Lib.hid hr
  have I := Lib.hid i
  by_cases h0 : r = 0
  · subst h0
    have HP : Hid (pop true s = (0, popB t)) := by show _ = _; unfold pop; rw [hr]; rfl
    obtain ⟨M, f, hM, hfk, ht⟩ := flush_zero (by rw [hr])
    rw [hr] at hM hfk
    have HM := Lib.hid hM
    have HF := Lib.hid hfk
    have HT := Lib.hid ht
    clear i hM hfk ht hr
    go_enter Try.func35, Try.ntmps35
    go_wp2_with fail
    refine (rflush_any I.out).mono ?_
    rintro e w2 ⟨rfl, hl⟩
    rw [HR.out]; rw [HR.out] at hl
    obtain ⟨v2, i2, x2, m2⟩ := hl
    obtain ⟨g, cap, hv, hcap, hcm, -, -, -, -⟩ := i2.at HF.out
    have hd := i2.ok.deep
    have hwr : wrap64 (M : Int) = M := wrap64_small (by have := i2.ok.deep; rw [HM.out] at this; omega)
    rw [HM.out] at hv hcap hd
    have c0 := cell_blk i2.blk 0
    have f0 := free_blk i2.blk 0
    simp at c0
    rw [hv] at c0
    have I2 := Lib.hid i2
    have X2 := Lib.hid x2
    have M2 := Lib.hid m2
    have HV := Lib.hid hv
    clear i2 x2 m2 hv
    go_wp2_with fail
    go_region
    go_wp2
    go_ret
    refine ⟨by rw [HP.out]; rfl, ?_⟩
    rw [HP.out]
    exact RLeft.trans X2.out M2.out (I2.out.chop HV.out HM.out (popB_ok I2.out.ok HM.out HF.out HT.out) 1)
  · have HP : Hid (pop true s = (r, t)) := by show _ = _; unfold pop; rw [hr]; exact if_neg h0
    have h0' : (r == 0) = false := by simpa using h0
    clear i hr
    go_enter Try.func35, Try.ntmps35
    go_wp2_with fail
    refine (rflush_any I.out).mono ?_
    rintro e w2 ⟨rfl, hl⟩
    rw [HR.out]; rw [HR.out] at hl
    have HL := Lib.hid hl
    clear hl
    go_wp2_with fail
    go_ret
    exact ⟨by rw [HP.out]; rfl, by rw [HP.out]; exact HL.out⟩

def REndRel (w : World) (b : Nat) (v : Value) (s : Sk) (w' : World) : Prop := ∃ s', RLeft w b v s' w' ∧ endS true s' = endS true s
def rlenAt (b : Nat) (w : World) : Nat := match w.cell? ⟨b, 0, none⟩ with | some (.slice _ n _) => n | _ => 0
theorem rlenAt_eq {w : World} {b : Nat} {v : Value} {s : Sk} (i : RefIs w b v s) : rlenAt b w = s.bufs.length := by
  obtain ⟨ao, cap, hv, -, -, -, -⟩ := i.form
  have c0 := cell_blk i.blk 0
  simp at c0
  unfold rlenAt
  rw [c0, hv]

set_option maxHeartbeats 1600000 in
theorem rend_any {b : Nat} {v : Value} {s : Sk} {w : World} (i : RefIs w b v s) : Calls Try.prog 36 #[.pointer (some ⟨b, 0, none⟩)] w (RGive w b v (endS true s).2 (.int .i64 (endS true s).1)) := by
  have I := Lib.hid i
  clear i
  go_enter Try.func36, Try.ntmps36
  go_wp2_with fail
  go_loopw [] (fun wr => REndRel w b v s wr) (fun wr => rlenAt b wr)
  case atStart => exact ⟨s, RLeft.refl I.out, rfl⟩
  case round =>
    obtain ⟨s1, ⟨v1, i1, x1, m1⟩, he⟩ := hrel
    obtain ⟨ao, cap, hv, -, -, -, -⟩ := i1.form
    have c0 := cell_blk i1.blk 0
    simp at c0
    rw [hv] at c0
    have I1 := Lib.hid i1
    have M1 := Lib.hid m1
    have X1 := Lib.hid x1
    have HE := Lib.hid he
    by_cases h0 : s1.bufs.length = 0
    · have H0 : Hid (endS true s = (0, s1)) := by show _ = _; rw [← he, endS_zero h0]
      rw [h0] at c0
      clear i1 m1 x1 he hv h0
      go_wp2
      go_ret
      exact ⟨by rw [H0.out]; rfl, by rw [H0.out]; exact ⟨v1, I1.out, X1.out, M1.out⟩⟩
    · have hpos : (0 : Int) < (s1.bufs.length : Int) := by omega
      obtain ⟨r, t, hr⟩ : ∃ r t, pop true s1 = (r, t) := ⟨_, _, rfl⟩
      have HR := Lib.hid hr
      by_cases hz : r = 0
      · subst hz
        have HS : Hid (endS true t = endS true s) := by
          show _ = _
          rw [← he, endS_go h0 (by rw [hr]), hr]
        have HL : Hid (t.bufs.length + 1 = s1.bufs.length) := by
          show _ = _
          have := pop_len (hf := true) (s := s1) (by rw [hr])
          rw [hr] at this; exact this
        have hln := rlenAt_eq i1
        clear i1 m1 x1 he hv h0 hr
        go_wp2_with (go_at_call 35; refine (rpop_any I1.out).mono ?_; rintro e w2 ⟨rfl, hl⟩; rw [HR.out]; rw [HR.out] at hl; have LL := Lib.hid hl; clear hl)
        go_roundw
        case rel => exact ⟨t, RLeft.trans X1.out M1.out LL.out, HS.out⟩
        case measure =>
          obtain ⟨v2, i2, -, -⟩ := LL.out
          rw [rlenAt_eq i2, hln, ← HL.out]
          omega
      · have HS : Hid (endS true s = (r, t)) := by
          show _ = _
          rw [← he, endS_stop h0 (by rw [hr]; exact hz), hr]
        have hz' : (r == 0) = false := by simpa using hz
        clear i1 m1 x1 he hv h0 hr
        go_wp2_with (go_at_call 35; refine (rpop_any I1.out).mono ?_; rintro e w2 ⟨rfl, hl⟩; rw [HR.out]; rw [HR.out] at hl; have LL := Lib.hid hl; clear hl)
        go_ret
        exact ⟨by rw [HS.out]; rfl, by rw [HS.out]; exact RLeft.trans X1.out M1.out LL.out⟩

/-- The statements' own 'top'. -/
theorem ltop_any {b : Nat} {v : Value} {s : Sk} {w : World} (i : RefIs w b v s) : Calls Try.prog 31 #[.pointer (some ⟨b, 0, none⟩)] w (GetPost w s) := by
  obtain ⟨ao, cap, hv, -, -, -, -⟩ := i.form
  have c0 := cell_blk i.blk 0
  simp at c0
  rw [hv] at c0
  by_cases h0 : s.bufs.length = 0
  · have HT := Lib.hid (topB_none h0).2
    rw [h0] at c0
    clear i hv h0
    go_enter Try.func31, Try.ntmps31
    go_wp2
    go_ret2
    exact ⟨by rw [HT.out]; rfl, 0, rfl⟩
  · obtain ⟨M, f, hM, hMk, -, he⟩ := topB_at h0
    obtain ⟨g, cap', hv', h1, h2, c2, c3, hg, -⟩ := i.at hMk
    rw [hv] at hv'
    cases hv'
    rw [hM] at c0
    have hd := i.ok.deep
    rw [hM] at hd
    have HE := Lib.hid he
    have hwr : IntKind.i64.wrap ((M : Int) + 1 - 1) = M := wrap_in' M (by omega)
    have hnz : (((M : Int) + 1) == 0) = false := by simp; omega
    clear i hv hM hMk h0 h1 h2 he
    go_enter Try.func31, Try.ntmps31
    go_wp2_with fail
    go_quiet (fail)
    go_wp2
    go_ret2
    exact ⟨by rw [HE.out]; rfl, _, rfl⟩
end Go.Proofs.Ytoomffplaopijaa
