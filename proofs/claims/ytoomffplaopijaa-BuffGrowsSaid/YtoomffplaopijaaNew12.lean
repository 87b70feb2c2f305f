/-
  The walk of New; and alive.
-/
import Derived.Test.YtoomffplaopijaaEnd12
namespace Go.Proofs.Ytoomffplaopijaa
open Go.RowKit

def sk0 : Sk := ⟨[], [], 0, -1⟩
def sh0 : Shape := ⟨.slice none 0 0, .slice none 0 0, []⟩
theorem sk0_ok (hf : Bool) : Ok hf sk0 := ⟨by decide, by decide, fun b hb => by cases hb⟩
theorem stack_new {w : World} {b : Nat} {fv : Value} {hf : Bool} (hfn : FnIs fv hf) (hb : w.heap[b]? = some (.cells #[.bool true, fv, .slice none 0 0, .slice none 0 0, .int .i64 0, .int .i64 (-1), .int .i64 0] 50 (0, 0))) : StackIs w b fv hf sh0 sk0 := by
  refine ⟨hfn, hb, Owns.empty _ _ _, Owns.empty _ _ _, rfl, ?_, ?_, sk0_ok hf⟩
  · intro i x f hx; simp [sh0] at hx
  · have key : ∀ l k, sh0.own b l = some k → l = (0, 0) := by
      intro l k e
      unfold Shape.own at e
      split at e
      · split at e
        · rename_i h1 h2; cases l; simp at h1 h2; simp [h1, h2]
        · cases e
      · split at e
        · split at e
          · simp [sh0, Value.ownBlock] at e
          · cases e
        · split at e
          · split at e
            · simp [sh0, Value.ownBlock] at e
            · cases e
          · split at e
            · simp [sh0] at e
            · split at e
              · simp [sh0] at e
              · cases e
    intro l l' k e e'
    rw [key l k e, key l' k e']

def NewPost (w : World) (fv : Value) (hf : Bool) (e : Ending) (w' : World) : Prop :=
  e = .returned (.pointer (some ⟨w.heap.size, 0, none⟩)) ∧ StackIs w' w.heap.size fv hf sh0 sk0 ∧ Below w.heap.size w w' ∧ w.heap.size < w'.heap.size
theorem new_any {fv : Value} {hf : Bool} (hfn : FnIs fv hf) (w : World) : Calls Try.prog 9 #[fv] w (NewPost w fv hf) := by
  rcases hfn with ⟨rfl, rfl⟩ | ⟨rfl, rfl⟩
  · go_enter Try.func9, Try.ntmps9
    go_wp2
    go_ret
    exact ⟨rfl, stack_new (.inl ⟨rfl, rfl⟩) (heap_alloc_new _ _), (Below.refl _ _).alloc (Nat.le_refl _) _, by simp⟩
  · go_enter Try.func9, Try.ntmps9
    go_wp2
    go_ret
    exact ⟨rfl, stack_new (.inr ⟨rfl, rfl⟩) (heap_alloc_new _ _), (Below.refl _ _).alloc (Nat.le_refl _) _, by simp⟩

/-- A stack's state behind a call, where what was there before B stands. -/
theorem left_below {w w' : World} {B b : Nat} {fv : Value} {hf : Bool} {h : Shape} {s' : Sk} (l : Left w b fv hf h s' w') (hB : B ≤ w.heap.size) (hF : ∀ k, (h.own b).fp k → B ≤ k) : ∃ h', StackIs w' b fv hf h' s' ∧ Below B w w' ∧ ∀ k, (h'.own b).fp k → B ≤ k := by
  obtain ⟨h', i, m, f⟩ := l
  exact ⟨h', i, m.belowB (fun k hk x => by have := hF k x; omega) hB, fun k x => (f k x).elim (hF k) (fun y => Nat.le_trans hB y)⟩
theorem sh0_fp {b k : Nat} (x : (sh0.own b).fp k) : k = b := by
  obtain ⟨l, e⟩ := x
  unfold Shape.own at e
  split at e
  · split at e
    · cases e; rfl
    · cases e
  · split at e
    · split at e
      · simp [sh0, Value.ownBlock] at e
      · cases e
    · split at e
      · split at e
        · simp [sh0, Value.ownBlock] at e
        · cases e
      · split at e
        · simp [sh0] at e
        · split at e
          · simp [sh0] at e
          · cases e
end Go.Proofs.Ytoomffplaopijaa
