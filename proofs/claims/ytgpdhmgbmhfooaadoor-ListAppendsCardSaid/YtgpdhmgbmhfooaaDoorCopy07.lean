/-
  The walks of Copy, and of At within.
-/
import Derived.Test.YtgpdhmgbmhfooaaDoorFew07
namespace Go.Proofs.YtgpdhmgbmhfooaaDoor
open Go.RowKit

/-- What Copy leaves: the list and its copy share their parts. -/
def CopyPost (w : World) (b : Nat) (v : Value) (mb : Nat) (l : LS) (e : Ending) (w' : World) : Prop :=
  e = .returned (.pointer (some ⟨w.heap.size, 0, none⟩)) ∧ ListIs w' b true v mb l ∧ ListIs w' w.heap.size true v mb l ∧ Mod (fun k => k = b) w w' ∧ w.heap.size < w'.heap.size
theorem copy_done {b : Nat} {sh : Bool} {v : Value} {mb : Nat} {l : LS} (w : World) (i : ListIs w b sh v mb l) :
    CopyPost w b v mb l (.returned (.pointer (some ⟨w.heap.size, 0, none⟩))) ((w.setCell ⟨b, 1, none⟩ (.bool true)).alloc (.cells #[.bool true, .bool true, v, .map (some mb), .int .i64 l.nx] 61)) := by
  have hbl := lt_of_block i.blk
  have hml := i.map.lt
  have hm : Mod (fun k => k = b) w ((w.setCell ⟨b, 1, none⟩ (.bool true)).alloc (.cells #[.bool true, .bool true, v, .map (some mb), .int .i64 l.nx] 61)) :=
    ((Mod.refl (fun k => k = b) w).setCell _ _ (fun _ => rfl)).alloc _
  have hv : ∀ g, v.ownBlock = some g → g < w.heap.size := fun g e => i.own.lt e
  have o1 := i.own.mod hm (fun g e x => i.ne1 (by rw [e, x]))
  have m1 := i.map.mod hm i.ne2
  have h1 : (w.setCell ⟨b, 1, none⟩ (.bool true)).heap[b]? = some (.cells #[.bool true, .bool true, v, .map (some mb), .int .i64 l.nx] 61 (0, 0)) := by
    have := set_blk i.blk 1 (.bool true)
    simpa using this
  have h2 := heap_alloc_new (w.setCell ⟨b, 1, none⟩ (.bool true)) (.cells #[.bool true, .bool true, v, .map (some mb), .int .i64 l.nx] 61)
  rw [World.size_setCell] at h2
  refine ⟨rfl, ⟨alloc_blk h1 _, o1, m1, i.ne1, i.ne2, i.ne3, i.ok⟩, ⟨h2, o1, m1, fun e => by have := hv _ e; omega, by omega, i.ne3, i.ok⟩, hm, ?_⟩
  simp
set_option maxRecDepth 100000 in
theorem copy_any {b : Nat} {sh : Bool} {v : Value} {mb : Nat} {l : LS} (w : World) (i : ListIs w b sh v mb l) : Calls Tryd.prog 28 #[.pointer (some ⟨b, 0, none⟩)] w (CopyPost w b v mb l) := by
  obtain ⟨ao, cap, hv, -⟩ := i.own.any
  rw [List.length_map] at hv
  subst hv
  obtain ⟨c0, c1, c2, c3, c4⟩ := cells5 i.blk
  have f1 := free_blk i.blk 1
  have hb1 := set_blk i.blk 1 (.bool true)
  simp only [Array.setIfInBounds] at hb1
  have I := Lib.hid i
  have HB := Lib.hid hb1
  obtain ⟨e0, e1, e2, e3, e4⟩ := cells5 (b := b) (sh := true) (v := .slice ao l.xs.length cap) (mv := .map (some mb)) (nv := .int .i64 l.nx) (by simpa using hb1)
  clear i hb1
  go_enter Tryd.func28, Tryd.ntmps28
  go_wp2_with (go_at_call 51; refine (lok_any _ _ _ c0).mono ?_; rintro e w' ⟨rfl, rfl⟩)
  exact bodyPost_ret (v := .pointer (some ⟨w.heap.size, 0, none⟩)) (by simp [results, Tryd.results28, go_sem]) rfl (copy_done w I.out)

set_option maxRecDepth 100000 in
set_option maxHeartbeats 1600000 in
theorem at_in {b : Nat} {sh : Bool} {v : Value} {mb : Nat} {l : LS} (j : Nat) (hj : j < l.xs.length) (w : World) (i : ListIs w b sh v mb l) : Calls Tryd.prog 29 #[.pointer (some ⟨b, 0, none⟩), .int .i64 j] w (AtPost w l.xs[j].1 l.xs[j].2 true) := by
  have A0 := i.below (below_alloc1 w (KB false 0 ⟨#[]⟩))
  obtain ⟨gg, cap4, rfl, hlc, hcm, hgl, d0, d1, d2, d3⟩ := i.item hj
  obtain ⟨q, x, hq⟩ : ∃ q x, (q, x) = l.xs[j] := ⟨_, _, rfl⟩
  rw [← hq] at d0 d1 d2 d3 ⊢
  have hc : ∀ (o : Obj) (k : Nat) (u : Value), w.cell? ⟨gg, k, none⟩ = some u → (w.alloc o).cell? ⟨gg, k, none⟩ = some u := fun o k u h => ((below_alloc1 w o).cell (p := ⟨gg, k, none⟩) hgl).trans h
  have d0' := hc (KB false 0 ⟨#[]⟩) _ _ d0
  have d1' := hc (KB false 0 ⟨#[]⟩) _ _ d1
  have d2' := hc (KB false 0 ⟨#[]⟩) _ _ d2
  have d3' := hc (KB false 0 ⟨#[]⟩) _ _ d3
  have d3'' := hc (KB q.b q.n q.t) _ _ d3
  obtain ⟨c0, c1, c2, c3, c4⟩ := cells5 A0.blk
  have c2' := (cells5 (i.below (below_alloc1 w (KB q.b q.n q.t))).blk).2.2.1
  clear hc
  have HL := llen_any _ A0
  have h1 : (j : Int) < (l.xs.length : Int) := by omega
  have h2 : ¬ (j : Int) < 0 := by omega
  clear i A0 hq
  go_enter Tryd.func29, Tryd.ntmps29
  go_wp2_with (go_at_call 21; refine HL.mono ?_; rintro e w' ⟨rfl, rfl⟩)
  go_region
  go_wp2_with fail
  exact bodyPost_ret (v := .tuple #[.agg #[.bool q.b, .int .i64 q.n, .string q.t], .int .i64 x, .bool true]) (by simp [results, Tryd.results29, go_sem]) rfl ⟨rfl, (below_alloc1 _ _).drew⟩
end Go.Proofs.YtgpdhmgbmhfooaaDoor
