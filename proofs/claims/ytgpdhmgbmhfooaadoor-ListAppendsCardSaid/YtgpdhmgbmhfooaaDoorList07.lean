/-
  A list in memory; the walks of ok, New, Len, Next.
-/
import Derived.Test.YtgpdhmgbmhfooaaDoorNorm07
import Derived.StillTailTactics
namespace Go.Proofs.YtgpdhmgbmhfooaaDoor
open Go.RowKit

/-- The place of a key, as a number. -/
def placeF (xs : List It) (k : K) : Option Int := (findK k xs).map fun i => (i : Int)
/-- A list in memory: its struct in block b, its items behind v, its map in block mb. -/
structure ListIs (w : World) (b : Nat) (sh : Bool) (v : Value) (mb : Nat) (l : LS) : Prop where
  blk : w.heap[b]? = some (.cells #[.bool true, .bool sh, v, .map (some mb), .int .i64 l.nx] 61 (0, 0))
  own : Owns w 88 4 v (l.xs.map It.cells)
  map : MapIs w mb (placeF l.xs) l.xs.length
  ne1 : v.ownBlock ≠ some b
  ne2 : mb ≠ b
  ne3 : v.ownBlock ≠ some mb
  ok : l.Ok
/-- The blocks that calls on a list may turn. -/
def Foot (b : Nat) (sh : Bool) (v : Value) (mb : Nat) (k : Nat) : Prop := k = b ∨ (sh = false ∧ (v.ownBlock = some k ∨ k = mb))
/-- How a list's parts may go on. -/
def Goes (n : Nat) (sh : Bool) (v : Value) (mb : Nat) (sh' : Bool) (v' : Value) (mb' : Nat) : Prop :=
  (sh' = sh ∧ v' = v ∧ mb' = mb) ∨
  (sh' = false ∧ (∀ g, v'.ownBlock = some g → n ≤ g ∨ (sh = false ∧ v.ownBlock = some g)) ∧ (n ≤ mb' ∨ (sh = false ∧ mb' = mb)))
theorem Goes.refl (n : Nat) (sh : Bool) (v : Value) (mb : Nat) : Goes n sh v mb sh v mb := .inl ⟨rfl, rfl, rfl⟩

theorem ListIs.mod {Z : Nat → Prop} {w w' : World} {b : Nat} {sh : Bool} {v : Value} {mb : Nat} {l : LS} (i : ListIs w b sh v mb l) (hm : Mod Z w w') (h1 : ¬ Z b) (h2 : ¬ Z mb) (h3 : ∀ g, v.ownBlock = some g → ¬ Z g) : ListIs w' b sh v mb l :=
  ⟨hm.blk i.blk h1, i.own.mod hm h3, i.map.mod hm h2, i.ne1, i.ne2, i.ne3, i.ok⟩
theorem ListIs.below {w w' : World} {b : Nat} {sh : Bool} {v : Value} {mb : Nat} {l : LS} (i : ListIs w b sh v mb l) (hb : Below w.heap.size w w') : ListIs w' b sh v mb l :=
  i.mod (Mod.of_below (F := fun _ => False) hb) (fun x => x) (fun x => x) (fun _ _ x => x)
theorem ListIs.drewN {w : World} {b : Nat} {sh : Bool} {v : Value} {mb : Nat} {l : LS} (i : ListIs w b sh v mb l) (n : Nat) : ListIs (w.drewN n) b sh v mb l :=
  i.mod ((Mod.refl (fun _ => False) w).drewN n) (fun x => x) (fun x => x) (fun _ _ x => x)
theorem cells5 {w : World} {b : Nat} {sh : Bool} {v : Value} {mv nv : Value} (h : w.heap[b]? = some (.cells #[.bool true, .bool sh, v, mv, nv] 61 (0, 0))) :
    w.cell? ⟨b, 0, none⟩ = some (.bool true) ∧ w.cell? ⟨b, 1, none⟩ = some (.bool sh) ∧ w.cell? ⟨b, 2, none⟩ = some v ∧ w.cell? ⟨b, 3, none⟩ = some mv ∧ w.cell? ⟨b, 4, none⟩ = some nv :=
  ⟨cell_blk h 0, cell_blk h 1, cell_blk h 2, cell_blk h 3, cell_blk h 4⟩

/-- An item in memory. -/
theorem ListIs.item {w : World} {b : Nat} {sh : Bool} {v : Value} {mb : Nat} {l : LS} (i : ListIs w b sh v mb l) {j : Nat} (hj : j < l.xs.length) :
    ∃ g cap, v = .slice (some ⟨g, 0, none⟩) l.xs.length cap ∧ l.xs.length ≤ cap ∧ cap ≤ maxLen ∧ g < w.heap.size ∧
      w.cell? ⟨g, j * 4, none⟩ = some (.bool l.xs[j].1.b) ∧ w.cell? ⟨g, j * 4 + 1, none⟩ = some (.int .i64 l.xs[j].1.n) ∧ w.cell? ⟨g, j * 4 + 2, none⟩ = some (.string l.xs[j].1.t) ∧ w.cell? ⟨g, j * 4 + 3, none⟩ = some (.int .i64 l.xs[j].2) := by
  obtain ⟨ao, cap, hv, h1, h2, h3, _, h5⟩ := i.own.any
  rw [List.length_map] at hv h1
  obtain ⟨g, off, rfl, hg, _, hc⟩ := h3 j (It.cells l.xs[j]) (by simp [hj])
  obtain ⟨rfl, _⟩ := h5 g off rfl
  have d0 := hc 0 _ rfl
  have d1 := hc 1 _ rfl
  have d2 := hc 2 _ rfl
  have d3 := hc 3 _ rfl
  simp only [Nat.zero_add, Nat.add_zero] at d0 d1 d2 d3
  exact ⟨g, cap, hv, h1, h2, hg, d0, d1, d2, d3⟩
theorem lok_nil (w : World) : Calls Tryd.prog 51 #[.pointer none] w fun e w' => e = .returned (.bool false) ∧ w = w' := by
  go_enter Tryd.func51, Tryd.ntmps51
  go_wp2
  go_ret
  exact ⟨rfl, rfl⟩
theorem lok_any (b : Nat) (m : Bool) (w : World) (h : w.cell? ⟨b, 0, none⟩ = some (.bool m)) :
    Calls Tryd.prog 51 #[.pointer (some ⟨b, 0, none⟩)] w fun e w' => e = .returned (.bool m) ∧ w = w' := by
  go_enter Tryd.func51, Tryd.ntmps51
  go_wp2
  go_ret
  exact ⟨rfl, rfl⟩

/-- What New gives. -/
def NewPost (w : World) (e : Ending) (w' : World) : Prop := ∃ b mb, e = .returned (.pointer (some ⟨b, 0, none⟩)) ∧ ListIs w' b false (.slice none 0 0) mb LS.new ∧ w.heap.size ≤ b ∧ w.heap.size ≤ mb ∧ Below w.heap.size w w'
theorem lnew_any (w : World) : Calls Tryd.prog 16 #[] w (NewPost w) := by
  have hmm := @run_makeMap Tryd.prog
  go_enter Tryd.func16, Tryd.ntmps16
  go_wp2
  go_ret
  refine ⟨w.heap.size + 1, w.heap.size, rfl, ⟨?_, Owns.empty _ _ _, ?_, by simp [Value.ownBlock], by omega, by simp [Value.ownBlock], LS.new_ok⟩, by omega, by omega, ((Below.refl _ w).alloc (Nat.le_refl _) _).alloc (by simp) _⟩
  · have h := heap_alloc_new (w.alloc (.map #[] 0)) (.cells #[.bool true, .bool false, .slice none 0 0, .map (some w.heap.size), .int .i64 0] 61)
    simpa [LS.new] using h
  · have h := (mapIs_made w).kept (w' := (w.alloc (.map #[] 0)).alloc (.cells #[.bool true, .bool false, .slice none 0 0, .map (some w.heap.size), .int .i64 0] 61)) (Below.heap_alloc _ _ _ (by simp))
    exact h.congr fun k _ => rfl

theorem llen_any {b : Nat} {sh : Bool} {v : Value} {mb : Nat} {l : LS} (w : World) (i : ListIs w b sh v mb l) : Calls Tryd.prog 21 #[.pointer (some ⟨b, 0, none⟩)] w fun e w' => e = .returned (.int .i64 l.xs.length) ∧ w = w' := by
  obtain ⟨c0, c1, c2, c3, c4⟩ := cells5 i.blk
  obtain ⟨ao, cap, hv, _⟩ := i.own.any
  rw [List.length_map] at hv
  subst hv
  clear i
  go_enter Tryd.func21, Tryd.ntmps21
  go_wp2_with (go_at_call 51; refine (lok_any _ _ _ c0).mono ?_; rintro e w' ⟨rfl, rfl⟩)
  go_ret
  exact ⟨rfl, rfl⟩
theorem lnext_any {b : Nat} {sh : Bool} {v : Value} {mb : Nat} {l : LS} (w : World) (i : ListIs w b sh v mb l) : Calls Tryd.prog 23 #[.pointer (some ⟨b, 0, none⟩)] w fun e w' => e = .returned (.int .i64 l.nx) ∧ w = w' := by
  obtain ⟨c0, c1, c2, c3, c4⟩ := cells5 i.blk
  clear i
  go_enter Tryd.func23, Tryd.ntmps23
  go_wp2_with (go_at_call 51; refine (lok_any _ _ _ c0).mono ?_; rintro e w' ⟨rfl, rfl⟩)
  go_ret
  exact ⟨rfl, rfl⟩
end Go.Proofs.YtgpdhmgbmhfooaaDoor
