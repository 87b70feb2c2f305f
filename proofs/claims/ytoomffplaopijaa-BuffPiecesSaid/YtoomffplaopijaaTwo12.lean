/-
  Two stacks side by side: neither has a block of the other's.
-/
import Derived.Test.YtoomffplaopijaaLive12
namespace Go.Proofs.Ytoomffplaopijaa
open Go.RowKit

def Two (B : Nat) (w : World) (a b : Nat) (fv : Value) (hf : Bool) (s t : Sk) : Prop :=
  B ≤ w.heap.size ∧ ∃ h g, StackIs w a fv hf h s ∧ StackIs w b fv hf g t ∧ (∀ k, (h.own a).fp k → B ≤ k) ∧ (∀ k, (g.own b).fp k → B ≤ k) ∧ ∀ k, (h.own a).fp k → ¬ (g.own b).fp k
theorem Two.symm {B : Nat} {w : World} {a b : Nat} {fv : Value} {hf : Bool} {s t : Sk} (l : Two B w a b fv hf s t) : Two B w b a fv hf t s := by
  obtain ⟨hB, h, g, i, j, p, q, d⟩ := l
  exact ⟨hB, g, h, j, i, q, p, fun k x y => d k y x⟩
theorem Two.stay {B : Nat} {w w' : World} {a b : Nat} {fv : Value} {hf : Bool} {s t : Sk} (l : Two B w a b fv hf s t) (m : Mod (fun _ => False) w w') : Two B w' a b fv hf s t := by
  obtain ⟨hB, h, g, i, j, p, q, d⟩ := l
  exact ⟨Nat.le_trans hB m.size, h, g, i.stay m, j.stay m, p, q, d⟩

def TwoPost (B : Nat) (w : World) (a b : Nat) (fv : Value) (hf : Bool) (s t : Sk) (v : Value) (e : Ending) (w' : World) : Prop := e = .returned v ∧ Two B w' a b fv hf s t ∧ Below B w w'

theorem two_step {B : Nat} {w : World} {a b : Nat} {fv : Value} {hf : Bool} {s t s' : Sk} {v : Value} {args : Array Value} {F : FuncId} (l : Two B w a b fv hf s t)
    (c : ∀ h, StackIs w a fv hf h s → Calls Try.prog F args w (GivePost w a fv hf h s' v)) : Calls Try.prog F args w (TwoPost B w a b fv hf s' t v) := by
  obtain ⟨hB, h, g, i, j, p, q, d⟩ := l
  refine (c h i).mono fun e w' ⟨he, h', i', m, f⟩ => ⟨he, ⟨Nat.le_trans hB m.size, h', g, i', j.mod m (fun l k e x => d k x ⟨l, e⟩), fun k x => ?_, q, fun k x y => ?_⟩, m.belowB (fun k hk x => by have := p k x; omega) hB⟩
  · rcases f k x with y | y
    · exact p k y
    · omega
  · rcases f k x with z | z
    · exact d k z y
    · obtain ⟨l, e⟩ := y
      have := j.lt l k e
      omega
section
variable {B a b : Nat} {fv : Value} {hf : Bool} {s t : Sk} {w : World} (l : Two B w a b fv hf s t)
include l
theorem two_push (x : ByteArray) : Calls Try.prog 16 #[.pointer (some ⟨a, 0, none⟩), .string x] w (TwoPost B w a b fv hf (push hf s x.toList).2 t (.int .i64 (push hf s x.toList).1)) := two_step l fun _ i => push_any i x
theorem two_write (x : ByteArray) : Calls Try.prog 17 #[.pointer (some ⟨a, 0, none⟩), .string x] w (TwoPost B w a b fv hf (write s x.toList).2 t (.int .i64 (write s x.toList).1)) := two_step l fun _ i => write_any i x
theorem two_flush : Calls Try.prog 18 #[.pointer (some ⟨a, 0, none⟩)] w (TwoPost B w a b fv hf (flush hf s).2 t (.int .i64 (flush hf s).1)) := two_step l fun _ i => flush_any i
theorem two_end : Calls Try.prog 20 #[.pointer (some ⟨a, 0, none⟩)] w (TwoPost B w a b fv hf (endS hf s).2 t (.int .i64 (endS hf s).1)) := two_step l fun _ i => end_any i
theorem two_bottom : Calls Try.prog 14 #[.pointer (some ⟨a, 0, none⟩)] w fun e w' => e = .returned (.string (str s.bottom)) ∧ w = w' := by
  obtain ⟨hB, h, g, i, j, p, q, d⟩ := l
  exact bottom_any i
end
/-- The second of two that have just been made. -/
theorem two_new {fv : Value} {hf : Bool} (hfn : FnIs fv hf) (w : World) (B a : Nat) (l : Live B w a fv hf sk0) : Calls Try.prog 9 #[fv] w (TwoPost B w a w.heap.size fv hf sk0 sk0 (.pointer (some ⟨w.heap.size, 0, none⟩))) := by
  obtain ⟨hB, h, i, p⟩ := l
  refine (new_any hfn w).mono fun e w' ⟨he, j, m, hlt⟩ => ⟨he, ⟨by omega, h, sh0, i.stayB m, j, p, fun k x => by rw [sh0_fp x]; exact hB, fun k x y => ?_⟩, ((Mod.of_below (F := fun _ => False) m).belowB (fun _ _ x => x) hB)⟩
  obtain ⟨l, e⟩ := x
  have := i.lt l k e
  rw [sh0_fp y] at this
  omega
end Go.Proofs.Ytoomffplaopijaa
