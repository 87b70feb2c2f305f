/-
  Many marks among the deferred calls: a range over a function within a plain loop. Of no program.
-/
import Derived.Test.YtgpdhmgbmhfooaaDoorAppIn
namespace Go.Proofs.YtgpdhmgbmhfooaaDoor
open Go.RowKit

abbrev mark1 (D : Nat) : Deferred := { target := .collected D, args := #[] }
/-- The marks lie, each open. -/
structure MarksAt (B : Nat) (Ds : List Nat) (W : World) : Prop where
  ne : Ds.Pairwise (· ≠ ·)
  lo : ∀ D ∈ Ds, B ≤ D
  at_ : ∀ D ∈ Ds, W.heap[D]? = some (.deferred (some []))
section
variable {P : Program} {F : Fence} {n : Nat} {B : Nat} {Ds : List Nat} {W W' : World}
theorem MarksAt.nil : MarksAt B [] W := ⟨.nil, fun _ h => (by cases h), fun _ h => (by cases h)⟩
theorem MarksAt.keep {C : Nat} (h : MarksAt B Ds W) (hC : C ≤ B) (k : KeepsR C W W') : MarksAt B Ds W' := ⟨h.ne, h.lo, fun D hD => k.same D _ (Nat.le_trans hC (h.lo D hD)) (h.at_ D hD) rfl⟩
theorem MarksAt.mod {Z : Nat → Prop} (h : MarksAt B Ds W) (m : Mod Z W W') (hz : ∀ D ∈ Ds, ¬ Z D) : MarksAt B Ds W' := ⟨h.ne, h.lo, fun D hD => m.blk (h.at_ D hD) (hz D hD)⟩
theorem MarksAt.below (h : MarksAt B Ds W) (m : Below W.heap.size W W') : MarksAt B Ds W' := ⟨h.ne, h.lo, fun D hD => (m.block _ (lt_of_block (h.at_ D hD))).trans (h.at_ D hD)⟩
theorem MarksAt.lt (h : MarksAt B Ds W) {D : Nat} (hD : D ∈ Ds) : D < W.heap.size := lt_of_block (h.at_ D hD)
theorem MarksAt.cons (h : MarksAt B Ds W) {D : Nat} (hn : D ∉ Ds) (hB : B ≤ D) (hD : W.heap[D]? = some (.deferred (some []))) : MarksAt B (D :: Ds) W :=
  ⟨List.pairwise_cons.2 ⟨fun x hx e => hn (e ▸ hx), h.ne⟩, fun x hx => by rcases List.mem_cons.1 hx with rfl | hx; exact hB; exact h.lo x hx, fun x hx => by rcases List.mem_cons.1 hx with rfl | hx; exact hD; exact h.at_ x hx⟩
theorem MarksAt.own {β : Type} (b0 : Nat) : OwnL (β := β) b0 (fun _ W => MarksAt B Ds W) := fun s W W' row h hg hr => ⟨h.ne, h.lo, fun D hD => ownL_block (β := β) b0 D _ (fun x e => by cases e) s W W' row (h.at_ D hD) hg hr⟩
/-- On the way out the marks are taken one by one. -/
theorem leaves_marks {fn : Func} {tmps : Array Value} {R : Ending → World → Prop} : ∀ (Ds : List Nat) (W : World), MarksAt B Ds W → (∀ W', Mod (fun k => k ∈ Ds) W W' → LeavesInM F n P fn tmps R [] .returning W') →
    LeavesInM F n P fn tmps R (Ds.map mark1) .returning W
  | [], W, _, hk => hk W (Mod.refl _ _)
  | D :: Ds, W, h, hk => by
    refine ⟨by simp, .inl ⟨D, _, rfl, run_takeDeferred (h.at_ D List.mem_cons_self), ?_⟩⟩
    have hm : Mod (fun k => k = D) W (W.putObj D (.deferred none)) := (Mod.refl _ W).grown (grownBy_putObj' _ D _) (fun k e _ => by cases e; rfl)
    have hp := List.pairwise_cons.1 h.ne
    have h' : MarksAt B Ds W := ⟨hp.2, fun x hx => h.lo x (List.mem_cons_of_mem _ hx), fun x hx => h.at_ x (List.mem_cons_of_mem _ hx)⟩
    refine leaves_marks Ds _ (h'.mod hm (fun x hx e => hp.1 x hx e.symm)) fun W' m' => hk W' ?_
    exact (hm.mono (fun k _ e => by rw [e]; exact List.mem_cons_self)).trans (m'.mono (fun k _ e => List.mem_cons_of_mem _ e))
end
end Go.Proofs.YtgpdhmgbmhfooaaDoor
