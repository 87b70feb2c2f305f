/-
  The walk of End.
-/
import Derived.Test.YtoomffplaopijaaPop12
namespace Go.Proofs.Ytoomffplaopijaa
open Go.RowKit

/-- End, said plainly. -/
def endS (hf : Bool) (s : Sk) : Int × Sk := endN hf s.bufs.length s

theorem pop_len {hf : Bool} {s : Sk} (h : (pop hf s).1 = 0) : (pop hf s).2.bufs.length + 1 = s.bufs.length := by
  unfold pop at h ⊢
  by_cases h0 : (flush hf s).1 = 0
  · rw [if_pos h0]
    obtain ⟨M, f, hM, hfk, ht⟩ := flush_zero h0
    have hl : (flush hf s).2.bufs.length = s.bufs.length := by
      unfold flush
      cases e0 : s.bufs[s.bufs.length - 1]? with
      | none => rfl
      | some f =>
        show (if f.text = [] then ((0 : Int), s) else if 65536 < s.total - f.text.length + ((mk hf f.name f.text).getD []).length then (8, s) else (0, come (clean s) (s.bufs.length - 1) ((mk hf f.name f.text).getD []))).2.bufs.length = _
        split
        · rfl
        · split
          · rfl
          · show (come (clean s) (s.bufs.length - 1) _).bufs.length = _
            cases s.bufs.length - 1 with
            | zero => exact clean_len s
            | succ k => show ((clean s).bufs.modify k _).length = _; rw [List.length_modify, clean_len]
    show (List.take _ _).length + 1 = _
    rw [List.length_take, hl]
    omega
  · rw [if_neg h0] at h; exact absurd h h0
theorem endS_zero {hf : Bool} {s : Sk} (h : s.bufs.length = 0) : endS hf s = (0, s) := by unfold endS; rw [h]; rfl
theorem endS_go {hf : Bool} {s : Sk} (h : s.bufs.length ≠ 0) (hp : (pop hf s).1 = 0) : endS hf s = endS hf (pop hf s).2 := by
  have := pop_len hp
  unfold endS
  rw [← this]
  show (if _ then _ else _) = _
  rw [if_neg h, if_pos hp]
theorem endS_stop {hf : Bool} {s : Sk} (h : s.bufs.length ≠ 0) (hp : (pop hf s).1 ≠ 0) : endS hf s = pop hf s := by
  unfold endS
  obtain ⟨M, hM⟩ : ∃ M, s.bufs.length = M + 1 := ⟨s.bufs.length - 1, by omega⟩
  rw [hM]
  show (if _ then _ else _) = _
  rw [if_neg h, if_neg hp]

def EndRel (w : World) (b : Nat) (fv : Value) (hf : Bool) (h : Shape) (s : Sk) (w' : World) : Prop := ∃ s', Left w b fv hf h s' w' ∧ endS hf s' = endS hf s
def lenAt (b : Nat) (w : World) : Nat := match w.cell? ⟨b, 2, none⟩ with | some (.slice _ n _) => n | _ => 0
theorem lenAt_eq {w : World} {b : Nat} {fv : Value} {hf : Bool} {h : Shape} {s : Sk} (i : StackIs w b fv hf h s) : lenAt b w = s.bufs.length := by
  obtain ⟨ao, cap, hv⟩ := i.rowForm
  have c2 := cell_blk i.blk 2
  simp at c2
  unfold lenAt
  rw [c2, hv]

set_option maxHeartbeats 1600000 in
theorem end_any {b : Nat} {fv : Value} {hf : Bool} {h : Shape} {s : Sk} {w : World} (i : StackIs w b fv hf h s) :
    Calls Try.prog 20 #[.pointer (some ⟨b, 0, none⟩)] w (GivePost w b fv hf h (endS hf s).2 (.int .i64 (endS hf s).1)) := by
  have c0 := cell_blk i.blk 0
  simp at c0
  have I := Lib.hid i
  clear i
  go_enter Try.func20, Try.ntmps20
  go_wp2_with (go_at_call 28; refine (ok_any _ _ _ c0).mono ?_; rintro e w' ⟨rfl, rfl⟩)
  go_loopw [] (fun wr => EndRel w b fv hf h s wr) (fun wr => lenAt b wr)
  case atStart => exact ⟨s, Left.refl I.out, rfl⟩
  case round =>
    obtain ⟨s1, ⟨h1, i1, m1, f1⟩, he⟩ := hrel
    obtain ⟨ao, cap, hv⟩ := i1.rowForm
    have c2 := cell_blk i1.blk 2
    simp at c2
    rw [hv] at c2
    have I1 := Lib.hid i1
    have M1 := Lib.hid m1
    have F1 := Lib.hid f1
    have HE := Lib.hid he
    by_cases h0 : s1.bufs.length = 0
    · have H0 : Hid (endS hf s = (0, s1)) := by show _ = _; rw [← he, endS_zero h0]
      rw [h0] at c2
      clear i1 m1 f1 he hv h0
      go_wp2
      go_ret
      exact ⟨by rw [H0.out]; rfl, by rw [H0.out]; exact ⟨h1, I1.out, M1.out, F1.out⟩⟩
    · have hpos : (0 : Int) < (s1.bufs.length : Int) := by omega
      obtain ⟨r, t, hr⟩ : ∃ r t, pop hf s1 = (r, t) := ⟨_, _, rfl⟩
      have HR := Lib.hid hr
      by_cases hz : r = 0
      · subst hz
        have HS : Hid (endS hf t = endS hf s) := by
          show _ = _
          rw [← he, endS_go h0 (by rw [hr]), hr]
        have HL : Hid (t.bufs.length + 1 = s1.bufs.length) := by
          show _ = _
          have := pop_len (hf := hf) (s := s1) (by rw [hr])
          rw [hr] at this; exact this
        have hln := lenAt_eq i1
        clear i1 m1 f1 he hv h0 hr
        go_wp2_with (go_at_call 19; refine (pop_any I1.out).mono ?_; rintro e w2 ⟨rfl, hl⟩; rw [HR.out]; rw [HR.out] at hl; have LL := Lib.hid hl; clear hl)
        go_roundw
        case rel => exact ⟨t, Left.trans M1.out F1.out LL.out, HS.out⟩
        case measure =>
          obtain ⟨h2, i2, -, -⟩ := LL.out
          rw [lenAt_eq i2, hln, ← HL.out]
          omega
      · have HS : Hid (endS hf s = (r, t)) := by
          show _ = _
          rw [← he, endS_stop h0 (by rw [hr]; exact hz), hr]
        have hz' : (r == 0) = false := by simpa using hz
        clear i1 m1 f1 he hv h0 hr
        go_wp2_with (go_at_call 19; refine (pop_any I1.out).mono ?_; rintro e w2 ⟨rfl, hl⟩; rw [HR.out]; rw [HR.out] at hl; have LL := Lib.hid hl; clear hl)
        go_ret
        exact ⟨by rw [HS.out]; rfl, by rw [HS.out]; exact Left.trans M1.out F1.out LL.out⟩
end Go.Proofs.Ytoomffplaopijaa
