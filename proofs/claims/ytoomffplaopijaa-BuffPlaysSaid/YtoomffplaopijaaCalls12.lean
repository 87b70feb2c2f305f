/-
  The walks of a stack's calls: Depth, Bottom, First, Mark, New, Write, Push.
-/
import Derived.Test.YtoomffplaopijaaComeB12
namespace Go.Proofs.Ytoomffplaopijaa
open Go.RowKit

/-- What a call answers, and how it leaves the stack. -/
def GivePost (w : World) (b : Nat) (fv : Value) (hf : Bool) (h : Shape) (s' : Sk) (v : Value) (e : Ending) (w' : World) : Prop := e = .returned v ∧ Left w b fv hf h s' w'

theorem come_any {b : Nat} {fv : Value} {hf : Bool} {h : Shape} {s : Sk} {w : World} (i : StackIs w b fv hf h s) {k : Nat} (hk : k ≤ s.bufs.length) (x : ByteArray) (ht : s.total + x.size ≤ 65536) :
    Calls Try.prog 30 #[.pointer (some ⟨b, 0, none⟩), .int .i64 (k : Int), .string x] w (ComePost w b fv hf h (come s k x.toList)) := by
  cases k with
  | zero => exact come_bottom i x ht
  | succ k => rw [Int.natCast_succ]; exact come_level i hk x ht

theorem depth_any {b : Nat} {fv : Value} {hf : Bool} {h : Shape} {s : Sk} {w : World} (i : StackIs w b fv hf h s) :
    Calls Try.prog 13 #[.pointer (some ⟨b, 0, none⟩)] w fun e w' => e = .returned (.int .i64 (s.bufs.length : Int)) ∧ w = w' := by
  obtain ⟨ao, cap, hv⟩ := i.rowForm
  have c0 := cell_blk i.blk 0
  have c2 := cell_blk i.blk 2
  simp at c0 c2
  rw [hv] at c2
  clear i hv
  go_enter Try.func13, Try.ntmps13
  go_wp2_with (go_at_call 28; refine (ok_any _ _ _ c0).mono ?_; rintro e w' ⟨rfl, rfl⟩)
  go_ret
  exact ⟨rfl, rfl⟩

theorem bottom_any {b : Nat} {fv : Value} {hf : Bool} {h : Shape} {s : Sk} {w : World} (i : StackIs w b fv hf h s) :
    Calls Try.prog 14 #[.pointer (some ⟨b, 0, none⟩)] w fun e w' => e = .returned (.string (str s.bottom)) ∧ w = w' := by
  obtain ⟨ao, cap, hv, -, -, -, -⟩ := i.bot.any
  have c0 := cell_blk i.blk 0
  have c3 := cell_blk i.blk 3
  simp at c0 c3
  rw [hv] at c3
  have o : OwnsB w 5 (.slice ao s.bottom.length cap) s.bottom := hv ▸ i.bot
  have hconv := run_back (P := Try.prog) (src := 48) (dst := 9) o Try.underlying48 Try.underlying5 Try.underlying9
  clear i hv o
  go_enter Try.func14, Try.ntmps14
  go_wp2_with (go_at_call 28; refine (ok_any _ _ _ c0).mono ?_; rintro e w' ⟨rfl, rfl⟩)
  go_ret
  exact ⟨rfl, rfl⟩

theorem first_any {b : Nat} {fv : Value} {hf : Bool} {h : Shape} {s : Sk} {w : World} (i : StackIs w b fv hf h s) :
    Calls Try.prog 15 #[.pointer (some ⟨b, 0, none⟩)] w fun e w' => e = .returned (.int .i64 s.first) ∧ w = w' := by
  have c0 := cell_blk i.blk 0
  have c5 := cell_blk i.blk 5
  simp at c0 c5
  clear i
  go_enter Try.func15, Try.ntmps15
  go_wp2_with (go_at_call 28; refine (ok_any _ _ _ c0).mono ?_; rintro e w' ⟨rfl, rfl⟩)
  go_ret
  exact ⟨rfl, rfl⟩

theorem mark_any {b : Nat} {fv : Value} {hf : Bool} {h : Shape} {s : Sk} {w : World} (i : StackIs w b fv hf h s) (n : Int) :
    Calls Try.prog 24 #[.pointer (some ⟨b, 0, none⟩), .int .i64 n] w (ComePost w b fv hf h { s with mark := n }) := by
  have c0 := cell_blk i.blk 0
  have c4 := cell_blk i.blk 4
  have f4 := free_blk i.blk 4
  simp at c0 c4
  have hbt : h.bv.ownBlock ≠ some b := fun e => by have := i.sep _ _ _ (own_00 h b) ((own_20 h b).trans e); simp at this
  have L : Hid (Left w b fv hf h { s with mark := n } (w.setCell ⟨b, 4, none⟩ (.int .i64 n))) := by
    refine i.setBottom h.bv ((Mod.refl _ w).setCell _ _ (fun _ => .inl rfl)) ?_ (Owns.kept i.bot fun q e => Below.heap_setCell _ _ _ _ ?_) (.inl rfl) rfl ⟨i.ok.total, i.ok.deep, i.ok.names⟩
    · have := set_blk i.blk 4 (.int .i64 n)
      simp at this
      exact this
    · intro e'; exact hbt (by rw [e]; exact congrArg some e')
  clear i
  go_enter Try.func24, Try.ntmps24
  go_wp2_with (go_at_call 28; refine (ok_any _ _ _ c0).mono ?_; rintro e w' ⟨rfl, rfl⟩)
  go_end0
  exact ⟨rfl, L.out⟩

theorem write_any {b : Nat} {fv : Value} {hf : Bool} {h : Shape} {s : Sk} {w : World} (i : StackIs w b fv hf h s) (x : ByteArray) :
    Calls Try.prog 17 #[.pointer (some ⟨b, 0, none⟩), .string x] w (GivePost w b fv hf h (write s x.toList).2 (.int .i64 (write s x.toList).1)) := by
  obtain ⟨ao, cap, hv⟩ := i.rowForm
  have c0 := cell_blk i.blk 0
  have c2 := cell_blk i.blk 2
  have c6 := cell_blk i.blk 6
  simp at c0 c2 c6
  rw [hv] at c2
  have htot := i.ok.total
  have hwr : IntKind.i64.wrap (65536 - (s.total : Int)) = 65536 - (s.total : Int) := wrap_in (by omega) (by omega)
  have I := Lib.hid i
  by_cases hlt : 65536 < s.total + x.size
  · have HW : Hid (write s x.toList = (8, s)) := by show _ = _; unfold write; rw [size_toList, if_pos hlt]
    have hlt' : 65536 - (s.total : Int) < (x.size : Int) := by omega
    clear i hv hlt
    go_enter Try.func17, Try.ntmps17
    go_wp2_with (go_at_call 28; refine (ok_any _ _ _ c0).mono ?_; rintro e w' ⟨rfl, rfl⟩)
    go_ret
    exact ⟨by rw [HW.out]; rfl, by rw [HW.out]; exact Left.refl I.out⟩
  · have HW : Hid (write s x.toList = (0, come s s.bufs.length x.toList)) := by show _ = _; unfold write; rw [size_toList, if_neg hlt]
    have hlt' : (x.size : Int) ≤ 65536 - (s.total : Int) := by omega
    have hle : Hid (s.total + x.size ≤ 65536) := by show _ ≤ _; omega
    clear i hv hlt
    go_enter Try.func17, Try.ntmps17
    go_wp2_with (first | (go_at_call 28; refine (ok_any _ _ _ c0).mono ?_; rintro e w' ⟨rfl, rfl⟩) | (go_at_call 30; refine (come_any I.out (Nat.le_refl _) x hle.out).mono ?_; rintro e w' ⟨rfl, hl⟩; have HL := Lib.hid hl; clear hl))
    go_ret
    exact ⟨by rw [HW.out]; rfl, by rw [HW.out]; exact HL.out⟩
end Go.Proofs.Ytoomffplaopijaa
