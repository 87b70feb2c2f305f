/-
  A stack that has nothing of the blocks of K: they stand, whatever is called.
-/
import Derived.Test.YtoomffplaopijaaLive12
namespace Go.Proofs.Ytoomffplaopijaa
open Go.RowKit

def LiveK (K : Nat → Prop) (w : World) (b : Nat) (fv : Value) (hf : Bool) (s : Sk) : Prop := (∀ k, K k → k < w.heap.size) ∧ ∃ h, StackIs w b fv hf h s ∧ ∀ k, (h.own b).fp k → ¬ K k
theorem LiveK.ok {K : Nat → Prop} {w : World} {b : Nat} {fv : Value} {hf : Bool} {s : Sk} (l : LiveK K w b fv hf s) : Ok hf s := by obtain ⟨_, h, i, _⟩ := l; exact i.ok
theorem LiveK.next {K : Nat → Prop} {w w' : World} {b : Nat} {fv : Value} {hf : Bool} {s' : Sk} {h : Shape} (hK : ∀ k, K k → k < w.heap.size) (hF : ∀ k, (h.own b).fp k → ¬ K k) (l : Left w b fv hf h s' w') : LiveK K w' b fv hf s' ∧ Mod (fun k => ¬ K k) w w' := by
  obtain ⟨h', i, m, f⟩ := l
  refine ⟨⟨fun k x => Nat.lt_of_lt_of_le (hK k x) m.size, h', i, fun k x y => ?_⟩, m.mono fun k _ x => hF k x⟩
  rcases f k x with h1 | h1
  · exact hF k h1 y
  · have := hK k y; omega
theorem LiveK.stay {K : Nat → Prop} {w w' : World} {b : Nat} {fv : Value} {hf : Bool} {s : Sk} (l : LiveK K w b fv hf s) (m : Mod (fun _ => False) w w') : LiveK K w' b fv hf s := by
  obtain ⟨hK, h, i, hF⟩ := l
  exact ⟨fun k x => Nat.lt_of_lt_of_le (hK k x) m.size, h, i.stay m, hF⟩
theorem LiveK.drewN {K : Nat → Prop} {w : World} {b : Nat} {fv : Value} {hf : Bool} {s : Sk} (l : LiveK K w b fv hf s) (n : Nat) : LiveK K (w.drewN n) b fv hf s := l.stay ((Mod.refl _ w).drewN n)

/-- What is kept while a box stands too: what is below the line, and the box. -/
def Kx (B x : Nat) (k : Nat) : Prop := k < B ∨ k = x
theorem Live.box {B : Nat} {w : World} {b : Nat} {fv : Value} {hf : Bool} {s : Sk} (l : Live B w b fv hf s) (o : Obj) : LiveK (Kx B w.heap.size) (w.alloc o) b fv hf s := by
  obtain ⟨hB, h, i, hF⟩ := l
  refine ⟨fun k x => ?_, h, i.stay ((Mod.refl _ w).alloc o), fun k x y => ?_⟩
  · simp; rcases x with x | x <;> omega
  · obtain ⟨q, e⟩ := x
    have h1 := i.lt q k e
    have h2 := hF k ⟨q, e⟩
    rcases y with y | y <;> omega
theorem LiveK.unbox {B x : Nat} {w : World} {b : Nat} {fv : Value} {hf : Bool} {s : Sk} (l : LiveK (Kx B x) w b fv hf s) (hB : B ≤ w.heap.size) : Live B w b fv hf s := by
  obtain ⟨hK, h, i, hF⟩ := l
  exact ⟨hB, h, i, fun k y => Nat.le_of_not_lt fun z => hF k y (.inl z)⟩
theorem Mod.unbox {B x : Nat} {w w' : World} (m : Mod (fun k => ¬ Kx B x k) w w') (hB : B ≤ w.heap.size) : Below B w w' := m.belowB (fun _ hk y => y (.inl hk)) hB
theorem Mod.box {B x : Nat} {w w' : World} {o : Obj} (m : Mod (fun k => ¬ Kx B x k) w w') (h : w.heap[x]? = some o) : w'.heap[x]? = some o := m.blk h (fun y => y (.inr rfl))

def KPost (K : Nat → Prop) (w : World) (b : Nat) (fv : Value) (hf : Bool) (s' : Sk) (v : Value) (e : Ending) (w' : World) : Prop := e = .returned v ∧ LiveK K w' b fv hf s' ∧ Mod (fun k => ¬ K k) w w'

section
variable {K : Nat → Prop} {b : Nat} {fv : Value} {hf : Bool} {s : Sk} {w : World} (l : LiveK K w b fv hf s)
include l
theorem k_push (x : ByteArray) : Calls Try.prog 16 #[.pointer (some ⟨b, 0, none⟩), .string x] w (KPost K w b fv hf (push hf s x.toList).2 (.int .i64 (push hf s x.toList).1)) := by
  obtain ⟨hB, h, i, hF⟩ := l
  exact (push_any i x).mono fun e w' ⟨he, hl⟩ => ⟨he, LiveK.next hB hF hl⟩
theorem k_write (x : ByteArray) : Calls Try.prog 17 #[.pointer (some ⟨b, 0, none⟩), .string x] w (KPost K w b fv hf (write s x.toList).2 (.int .i64 (write s x.toList).1)) := by
  obtain ⟨hB, h, i, hF⟩ := l
  exact (write_any i x).mono fun e w' ⟨he, hl⟩ => ⟨he, LiveK.next hB hF hl⟩
theorem k_flush : Calls Try.prog 18 #[.pointer (some ⟨b, 0, none⟩)] w (KPost K w b fv hf (flush hf s).2 (.int .i64 (flush hf s).1)) := by
  obtain ⟨hB, h, i, hF⟩ := l
  exact (flush_any i).mono fun e w' ⟨he, hl⟩ => ⟨he, LiveK.next hB hF hl⟩
theorem k_pop : Calls Try.prog 19 #[.pointer (some ⟨b, 0, none⟩)] w (KPost K w b fv hf (pop hf s).2 (.int .i64 (pop hf s).1)) := by
  obtain ⟨hB, h, i, hF⟩ := l
  exact (pop_any i).mono fun e w' ⟨he, hl⟩ => ⟨he, LiveK.next hB hF hl⟩
theorem k_end : Calls Try.prog 20 #[.pointer (some ⟨b, 0, none⟩)] w (KPost K w b fv hf (endS hf s).2 (.int .i64 (endS hf s).1)) := by
  obtain ⟨hB, h, i, hF⟩ := l
  exact (end_any i).mono fun e w' ⟨he, hl⟩ => ⟨he, LiveK.next hB hF hl⟩
theorem k_mark (n : Int) : Calls Try.prog 24 #[.pointer (some ⟨b, 0, none⟩), .int .i64 n] w (KPost K w b fv hf { s with mark := n } (.tuple #[])) := by
  obtain ⟨hB, h, i, hF⟩ := l
  exact (mark_any i n).mono fun e w' ⟨he, hl⟩ => ⟨he, LiveK.next hB hF hl⟩
theorem k_clean : Calls Try.prog 26 #[.pointer (some ⟨b, 0, none⟩)] w (KPost K w b fv hf (clean s) (.bool (s.bufs[s.bufs.length - 1]?).isSome)) := by
  obtain ⟨hB, h, i, hF⟩ := l
  exact (clean_any i).mono fun e w' ⟨he, hl⟩ => ⟨he, LiveK.next hB hF hl⟩
theorem k_drop : Calls Try.prog 25 #[.pointer (some ⟨b, 0, none⟩)] w (KPost K w b fv hf (dropS s) (.tuple #[.string (str ((s.bufs[s.bufs.length - 1]?.map Bf.text).getD [])), .bool (s.bufs[s.bufs.length - 1]?).isSome])) := by
  obtain ⟨hB, h, i, hF⟩ := l
  exact (drop_any i).mono fun e w' ⟨he, hl⟩ => ⟨he, LiveK.next hB hF hl⟩
theorem k_get : Calls Try.prog 12 #[.pointer (some ⟨b, 0, none⟩)] w (GetPost w s) := by
  obtain ⟨hB, h, i, hF⟩ := l
  exact get_any i
theorem k_depth : Calls Try.prog 13 #[.pointer (some ⟨b, 0, none⟩)] w fun e w' => e = .returned (.int .i64 (s.bufs.length : Int)) ∧ w = w' := by
  obtain ⟨hB, h, i, hF⟩ := l
  exact depth_any i
theorem k_bottom : Calls Try.prog 14 #[.pointer (some ⟨b, 0, none⟩)] w fun e w' => e = .returned (.string (str s.bottom)) ∧ w = w' := by
  obtain ⟨hB, h, i, hF⟩ := l
  exact bottom_any i
theorem k_first : Calls Try.prog 15 #[.pointer (some ⟨b, 0, none⟩)] w fun e w' => e = .returned (.int .i64 s.first) ∧ w = w' := by
  obtain ⟨hB, h, i, hF⟩ := l
  exact first_any i
end
end Go.Proofs.Ytoomffplaopijaa
