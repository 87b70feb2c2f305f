/-
  A range over a function of whose rounds none comes; All's iterator at a list that nobody made.
-/
import Derived.Test.YtgpdhmgbmhfooaaDoorFew07
import Derived.RangeFuncFrom
import Derived.RangeFuncLeaves
import Derived.OwnWalkIn
import Derived.LoopN
namespace Go.Proofs.YtgpdhmgbmhfooaaDoor
open Go.RowKit Go.Shelf

theorem rangeFunc_none {P : Program} {g : Operand} {ps : Array Tmp} {assign body : Code} {Q : Exit → Act → World → Prop} {a : Act} {w : World} {gf : Nat} {lb : Array Value}
    (hg : a.eval g = .func (.func gf) #[] lb) (eg : ∀ args w, (callFunc gf args).run P w = .ok (.enter gf args) w)
    (hc : ∀ l W, Below w.heap.size w W → Calls P gf (#[.func (.yield l) #[] #[]] ++ lb) W fun e W' => (∃ v, e = .returned v) ∧ W = W')
    (hdone : ∀ (D : Nat) (W : World), w.heap.size ≤ D → Below w.heap.size w W → W.heap[D]? = some (.deferred (some [])) → Q .normal { a with defers := { target := .collected D, args := #[] } :: a.defers } W) :
    (Code.rangeFunc g ps assign body).wp P Q a w := by
  refine (wpIn_wide (n := 5)).1 ?_
  refine wpIn_rangeFunc_ownF (F := Fence.wide) (n := 5) (α := Empty) (encs := fun x => x.elim) (Kp := fun _ _ => True) (S := fun _ => True) (Sp := fun _ => False) (N := 0) (w0 := w) rfl (by omega) hg trivial eg
    ?_ (fun _ _ => trivial) (fun _ _ _ _ _ _ _ _ => trivial) (Below.refl _ _) (fun x => x.elim) (fun _ W => Below w.heap.size w W) (fun _ _ _ => False) (ownFrom_below (Nat.le_refl _) (Nat.le_refl _)) (fun _ _ _ _ _ hs _ _ => hs) (Below.refl _ _)
    (fun x => x.elim) (fun _ x => x.elim) (fun _ _ x => x.elim) (fun D _ W hD _ hI hK => hdone D W hD hI hK) (fun _ _ _ _ _ h _ _ => h.elim)
  intro l J Jx W hW hJ hJx hY h0
  refine callsIn_wide.2 ((hc l W hW).mono ?_)
  rintro e W' ⟨hv, rfl⟩
  exact ⟨hv, .inl ⟨[], trivial, h0⟩⟩

set_option maxRecDepth 100000 in
theorem nob_iter {p : Option Addr} (l B : Nat) (w : World) (h : Nobody w p) (hB : w.cell? ⟨B, 0, none⟩ = some (.pointer p)) : Calls Tryd.prog 53 (#[.func (.yield l) #[] #[]] ++ #[.pointer (some ⟨B, 0, none⟩)]) w fun e w' => (∃ v, e = .returned v) ∧ w = w' := by
  have h1 := lok_nobody h
  clear h
  show Calls Tryd.prog 53 #[.func (.yield l) #[] #[], .pointer (some ⟨B, 0, none⟩)] w _
  go_enter Tryd.func53, Tryd.ntmps53
  go_wp2_with (go_at_call 51; refine h1.mono ?_; rintro e w' ⟨rfl, rfl⟩)
  exact bodyPost_ret (v := .tuple #[]) (by simp [results, Tryd.results53, go_sem]) rfl ⟨⟨_, rfl⟩, rfl⟩
end Go.Proofs.YtgpdhmgbmhfooaaDoor
