/-
  The walks of Get, Clean, Drop, New.
-/
import Derived.Test.YtoomffplaopijaaPush12
namespace Go.Proofs.Ytoomffplaopijaa
open Go.RowKit

theorem StackIs.topAt {w : World} {b : Nat} {fv : Value} {hf : Bool} {h : Shape} {s : Sk} (i : StackIs w b fv hf h s) (h0 : s.bufs.length ≠ 0) :
    ∃ M x f, s.bufs.length = M + 1 ∧ h.xs[M]? = some x ∧ s.bufs[M]? = some f ∧ s.bufs[s.bufs.length - 1]? = some f := by
  obtain ⟨M, hM⟩ : ∃ M, s.bufs.length = M + 1 := ⟨s.bufs.length - 1, by omega⟩
  obtain ⟨x, hx⟩ := i.at (k := M) (by omega)
  obtain ⟨f, hf⟩ := i.pair hx
  exact ⟨M, x, f, hM, hx, hf, by rw [hM]; exact hf⟩

def GetPost (w : World) (s : Sk) (e : Ending) (w' : World) : Prop := e = .returned (.tuple #[.string (str ((s.bufs[s.bufs.length - 1]?.map Bf.text).getD [])), .bool (s.bufs[s.bufs.length - 1]?).isSome]) ∧ ∃ n, w' = w.drewN n

theorem get_any {b : Nat} {fv : Value} {hf : Bool} {h : Shape} {s : Sk} {w : World} (i : StackIs w b fv hf h s) :
    Calls Try.prog 12 #[.pointer (some ⟨b, 0, none⟩)] w (GetPost w s) := by
  by_cases h0 : s.bufs.length = 0
  · have e0 : s.bufs[s.bufs.length - 1]? = none := by rw [List.getElem?_eq_none]; omega
    have HE := Lib.hid e0
    have I := Lib.hid i
    have H0 := Lib.hid h0
    clear i e0 h0
    go_enter Try.func12, Try.ntmps12
    go_wp2_with (go_at_call 27; refine (top_none I.out H0.out).mono ?_; rintro e w' ⟨rfl, rfl⟩)
    go_ret2
    exact ⟨by rw [HE.out]; rfl, 0, rfl⟩
  · obtain ⟨M, x, f, hM, hx, hfk, e0⟩ := i.topAt h0
    obtain ⟨hb1, hb2⟩ := i.each M x _ hx hfk
    obtain ⟨ao, cap, hv, -, -, -, -⟩ := hb2.any
    have p1 := cell_blk hb1 1
    simp at p1
    rw [hv] at p1
    have o : OwnsB w 5 (.slice ao f.text.length cap) f.text := hv ▸ hb2
    have hconv : ∀ n, (convert 48 9 (.slice ao f.text.length cap)).run Try.prog (w.drewN n) = .ok (.string (str f.text)) (w.drewN n) := fun n => run_back (P := Try.prog) (src := 48) (dst := 9) (w := w.drewN n) (Owns.kept o fun _ _ => rfl) Try.underlying48 Try.underlying5 Try.underlying9
    have HE := Lib.hid e0
    have I := Lib.hid i
    have HM := Lib.hid hM
    have HX := Lib.hid hx
    clear i e0 h0 hb1 hb2 hv o hfk hx hM
    go_enter Try.func12, Try.ntmps12
    go_wp2_with (go_at_call 27; refine (top_some I.out HM.out HX.out).mono ?_; rintro e w' ⟨rfl, n, rfl⟩)
    go_ret2
    exact ⟨by rw [HE.out]; rfl, _, rfl⟩

def CleanPost (w : World) (b : Nat) (fv : Value) (hf : Bool) (h : Shape) (s : Sk) (e : Ending) (w' : World) : Prop := e = .returned (.bool (s.bufs[s.bufs.length - 1]?).isSome) ∧ Left w b fv hf h (clean s) w'

theorem clean_none {s : Sk} (h0 : s.bufs.length = 0) : clean s = s := by
  have : s.bufs = [] := List.eq_nil_of_length_eq_zero h0
  unfold clean
  rw [this]
  cases s; simp at this; subst this; rfl

set_option maxHeartbeats 800000 in
theorem clean_any {b : Nat} {fv : Value} {hf : Bool} {h : Shape} {s : Sk} {w : World} (i : StackIs w b fv hf h s) :
    Calls Try.prog 26 #[.pointer (some ⟨b, 0, none⟩)] w (CleanPost w b fv hf h s) := by
  by_cases h0 : s.bufs.length = 0
  · have e0 : s.bufs[s.bufs.length - 1]? = none := by rw [List.getElem?_eq_none]; omega
    have HE := Lib.hid e0
    have I := Lib.hid i
    have H0 := Lib.hid h0
    clear i e0 h0
    go_enter Try.func26, Try.ntmps26
    go_wp2_with (go_at_call 27; refine (top_none I.out H0.out).mono ?_; rintro e w' ⟨rfl, rfl⟩)
    go_ret
    exact ⟨by rw [HE.out]; rfl, by rw [clean_none H0.out]; exact Left.refl I.out⟩
  · obtain ⟨M, x, f, hM, hx, hfk, e0⟩ := i.topAt h0
    obtain ⟨hb1, hb2⟩ := i.each M x _ hx hfk
    obtain ⟨ao, cap, hv, -, -, -, -⟩ := hb2.any
    have p1 := cell_blk hb1 1
    have f1 := free_blk hb1 1
    have c6 := cell_blk i.blk 6
    have f6 := free_blk i.blk 6
    simp at p1 c6
    rw [hv] at p1
    have l3 : h.own b (3, M) = some x.p := by rw [own_3, hx]; rfl
    have hbp : b ≠ x.p := fun e => by have := i.sep _ _ _ (own_00 h b) (l3.trans (by rw [e])); simp at this
    have hct := clean_total hM hfk
    have htot := i.ok.total
    have hwr : IntKind.i64.wrap ((s.total : Int) - (f.text.length : Int)) = (s.total : Int) - (f.text.length : Int) := wrap_in (by omega) (by omega)
    have HL : ∀ n, Hid (Left w b fv hf h (clean s) (((w.drewN n).setCell ⟨b, 6, none⟩ (.int .i64 ((s.total : Int) - (f.text.length : Int)))).setCell ⟨x.p, 1, none⟩ (.slice none 0 0))) := by
      intro n
      refine i.setText hx hfk (.slice none 0 0) [] ?_ ?_ ?_ (Owns.empty _ _ _) (.inr (.inl rfl)) (clean_bufs hM hfk) rfl (clean_ok i.ok hM hfk)
      · exact (((Mod.refl _ w).drewN n).setCell _ _ (fun _ => .inl rfl)).setCell _ _ (fun _ => .inr (.inr rfl))
      · have t := set_blk (w := w.drewN n) i.blk 6 (.int .i64 ((s.total : Int) - (f.text.length : Int)))
        simp at t
        rw [set_other t hbp, show ((clean s).total : Int) = (s.total : Int) - (f.text.length : Int) by omega]
        rfl
      · have t := set_blk (set_other (v := .int .i64 ((s.total : Int) - (f.text.length : Int))) (p := ⟨b, 6, none⟩) (w := w.drewN n) hb1 hbp.symm) 1 (.slice none 0 0)
        simpa using t
    have HE := Lib.hid e0
    have I := Lib.hid i
    have HM := Lib.hid hM
    have HX := Lib.hid hx
    clear i e0 h0 hb1 hb2 hv hfk hx hM l3 hct
    go_enter Try.func26, Try.ntmps26
    go_wp2_with (go_at_call 27; refine (top_some I.out HM.out HX.out).mono ?_; rintro e w' ⟨rfl, n, rfl⟩)
    go_region
    go_wp2
    go_ret
    exact ⟨by rw [HE.out]; rfl, (HL _).out⟩
end Go.Proofs.Ytoomffplaopijaa
