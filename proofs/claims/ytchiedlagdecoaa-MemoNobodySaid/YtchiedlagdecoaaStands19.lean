/-
  The walk of 'stands': two memos of the same units stand alike.
-/
import Derived.Test.YtchiedlagdecoaaAlive19
namespace Go.Proofs.Ytchiedlagdecoaa
open Go.RowKit

theorem ne_self (a : Int) : (a != a) = false := by simp

set_option maxHeartbeats 1600000 in
theorem stands_any (b rb : Nat) (v rv : Value) (most most' h m : Int) (us : List U) (w : World) (i : MemoIs w b v most us h m) (r : RefIs w rb rv most' us h m) :
    Calls Try.prog 10 #[.pointer (some ⟨b, 0, none⟩), .pointer (some ⟨rb, 0, none⟩)] w (AlivePost w) := by
  have I := Lib.hid i
  have R := Lib.hid r
  have hl := i.len
  clear i r
  go_enter Try.func10, Try.ntmps10
  go_wp2_with fail
  refine (paths_any _ _ _ _ _ _ _ I.out).mono ?_
  rintro e w1 ⟨lv, rfl, o1, f1, b1⟩
  have I1 := Lib.hid (I.out.mod (F := fun _ => False) (Mod.of_below b1) (fun x => x) (fun _ _ x => x))
  have R1 := Lib.hid (R.out.mod' (Mod.of_below b1))
  obtain ⟨lo, lcap, rfl, -, -, hll, -⟩ := o1.any
  have hpl : (pathRows us).length = us.length := by simp [pathRows]
  rw [hpl]
  have B1 := Lib.hid b1
  have HL := Lib.hid hll
  obtain ⟨ao, cap, rfl, -, -, hu, -, -⟩ := R1.out.reads
  have c1 := cell_blk R1.out.blk 1
  have c2 := cell_blk R1.out.blk 2
  have c3 := cell_blk R1.out.blk 3
  simp at c1 c2 c3
  have HU := Lib.hid hu
  have e1 := ne_self (us.length : Int)
  have e2 := ne_self h
  have e3 := ne_self m
  have I1' : ∀ n, Hid (MemoIs (w1.drewN n) b v most us h m) := fun n => I1.out.mod (F := fun _ => False) ((Mod.refl _ w1).drewN n) (fun x => x) (fun _ _ x => x)
  clear o1 f1 b1 hll hu hpl
  go_wp2_with fail
  go_quiet ((first
    | (go_at_call 15; exact Calls.quiet_of_same ((hits_any _ _ _ _ _ _ _ (I1' _).out).mono fun _ _ h => ⟨h.1, h.2.symm⟩))
    | (go_at_call 16; exact Calls.quiet_of_same ((misses_any _ _ _ _ _ _ _ (I1' _).out).mono fun _ _ h => ⟨h.1, h.2.symm⟩))))
  rename_i nq
  go_wp2_with fail
  go_loopw [6, 37] (fun _ i wr => ∃ k : Nat, ∃ n : Nat, k ≤ us.length ∧ i = .int .i64 k ∧ wr = w1.drewN n) (fun _ i _ => us.length - (intOf i).toNat)
  case atStart => exact ⟨0, nq, Nat.zero_le _, rfl, rfl⟩
  case round =>
    obtain ⟨k, n, hk, rfl, rfl⟩ := hrel
    by_cases hlt : k < us.length
    · obtain ⟨g, off, rfl, hg, -, hc⟩ := HU.out k us[k].cells (by simp [hlt])
      have d0 := hc 0 _ rfl
      obtain ⟨lg, lof, rfl, hlg, -, hlc⟩ := HL.out k [.string us[k].path] (by simp [pathRows, hlt])
      have l0 := hlc 0 _ rfl
      rw [Nat.add_zero] at d0 l0
      rw [Nat.mul_one] at l0
      have es : (us[k].path.toList != us[k].path.toList) = false := by simp
      have ki : (k : Int) < (us.length : Int) := by omega
      clear hc hlc
      go_wp2_with fail
      go_quiet (fail)
      go_wp2
      go_roundw
      case rel => exact ⟨k + 1, _, by omega, by go_num, rfl⟩
      case measure => simp [intOf]; omega
    · obtain rfl : k = us.length := by omega
      go_wp2
      go_ret
      exact ⟨rfl, ⟨B1.out.os, B1.out.tape, B1.out.output, B1.out.size, B1.out.block⟩⟩
end Go.Proofs.Ytchiedlagdecoaa
