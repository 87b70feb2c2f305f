/-
  The walk of Pop.
-/
import Derived.Test.YtoomffplaopijaaFlush12
namespace Go.Proofs.Ytoomffplaopijaa
open Go.RowKit

/-- Where Flush answers 0 the top buffer is there, and is empty. -/
theorem flush_zero {hf : Bool} {s : Sk} (h : (flush hf s).1 = 0) : ∃ M f, (flush hf s).2.bufs.length = M + 1 ∧ (flush hf s).2.bufs[M]? = some f ∧ f.text = [] := by
  unfold flush at h ⊢
  cases e0 : s.bufs[s.bufs.length - 1]? with
  | none => rw [e0] at h; simp at h
  | some f =>
    rw [e0] at h
    have hlt := (List.getElem?_eq_some_iff.1 e0).1
    obtain ⟨M, hM⟩ : ∃ M, s.bufs.length = M + 1 := ⟨s.bufs.length - 1, by omega⟩
    rw [hM] at e0
    have e1 : s.bufs[M]? = some f := e0
    by_cases ht : f.text = []
    · simp only [ht, if_pos]
      exact ⟨M, f, hM, e1, ht⟩
    · simp only [if_neg ht] at h ⊢
      split at h
      · simp at h
      · rename_i hn
        rw [if_neg hn]
        show ∃ M' f', (come (clean s) (s.bufs.length - 1) _).bufs.length = M' + 1 ∧ (come (clean s) (s.bufs.length - 1) _).bufs[M']? = some f' ∧ f'.text = []
        rw [hM]
        show ∃ M' f', (come (clean s) M _).bufs.length = M' + 1 ∧ (come (clean s) M _).bufs[M']? = some f' ∧ f'.text = []
        have hl : ∀ x, (come (clean s) M x).bufs.length = M + 1 := fun x => by
          cases M with
          | zero => exact (clean_len s).trans hM
          | succ k => show ((clean s).bufs.modify k _).length = _; rw [List.length_modify, clean_len, hM]
        refine ⟨M, ⟨f.name, []⟩, hl _, ?_, rfl⟩
        cases M with
        | zero => exact clean_top hM e1
        | succ k =>
          show ((clean s).bufs.modify k _)[k + 1]? = _
          rw [List.getElem?_modify, clean_top hM e1]
          simp

theorem pop_any {b : Nat} {fv : Value} {hf : Bool} {h : Shape} {s : Sk} {w : World} (i : StackIs w b fv hf h s) :
    Calls Try.prog 19 #[.pointer (some ⟨b, 0, none⟩)] w (GivePost w b fv hf h (pop hf s).2 (.int .i64 (pop hf s).1)) := by
  obtain ⟨r, t, hr⟩ : ∃ r t, flush hf s = (r, t) := ⟨_, _, rfl⟩
  have HR := Lib.hid hr
  have I := Lib.hid i
  by_cases h0 : r = 0
  · subst h0
    have HP : Hid (pop hf s = (0, popB t)) := by show _ = _; unfold pop; rw [hr]; rfl
    obtain ⟨M, f, hM, hfk, ht⟩ := flush_zero (by rw [hr])
    rw [hr] at hM hfk
    have HM := Lib.hid hM
    have HF := Lib.hid hfk
    have HT := Lib.hid ht
    clear i hM hfk ht hr
    go_enter Try.func19, Try.ntmps19
    go_wp2_with (go_at_call 18; refine (flush_any I.out).mono ?_; rintro e w2 ⟨rfl, hl⟩; rw [HR.out]; rw [HR.out] at hl; obtain ⟨h2, i2, m2, f2⟩ := hl; obtain ⟨t2, ht2⟩ := i2.at (k := M) (by rw [HM.out]; omega); obtain ⟨g, cap, hv, hcap, -, -, -⟩ := i2.rowCell ht2; have hwr : wrap64 (M : Int) = M := wrap64_small (by have := i2.ok.deep; rw [HM.out] at this; omega); have hdeep := i2.ok.deep; rw [HM.out] at hv hcap hdeep; have c2 := cell_blk i2.blk 2; have f2' := free_blk i2.blk 2; simp at c2; rw [hv] at c2; have I2 := Lib.hid i2; have M2 := Lib.hid m2; have F2 := Lib.hid f2; have HV := Lib.hid hv; clear i2 m2 f2 hv ht2)
    go_region
    go_wp2
    go_ret
    refine ⟨by rw [HP.out]; rfl, ?_⟩
    rw [HP.out]
    exact Left.trans (h1 := h2) M2.out F2.out (I2.out.chop HM.out HV.out HF.out HT.out 1)
  · have HP : Hid (pop hf s = (r, t)) := by show _ = _; unfold pop; rw [hr]; exact if_neg h0
    have h0' : (r == 0) = false := by simpa using h0
    clear i hr
    go_enter Try.func19, Try.ntmps19
    go_wp2_with (go_at_call 18; refine (flush_any I.out).mono ?_; rintro e w2 ⟨rfl, hl⟩; rw [HR.out]; rw [HR.out] at hl; have HL := Lib.hid hl; clear hl)
    go_ret
    exact ⟨by rw [HP.out]; rfl, by rw [HP.out]; exact HL.out⟩
end Go.Proofs.Ytoomffplaopijaa
