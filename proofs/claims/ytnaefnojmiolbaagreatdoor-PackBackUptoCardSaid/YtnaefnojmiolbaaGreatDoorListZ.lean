/-
  A list of values in memory; the walks of New, ok, Next, Get, own.
-/
import Derived.Test.YtnaefnojmiolbaaGreatDoorItemsZ
import Derived.StillTailTactics
namespace Go.Proofs.YtnaefnojmiolbaaGreatDoor
open Go.RowKit

/-- A block of items. -/
def B64 (w : World) (g : Nat) : Prop := ∃ cs fr, w.heap[g]? = some (.cells cs 64 fr)
/-- Items behind a slice value, in blocks of items. -/
abbrev VT64 (w : World) (c : Value) (xs : List It) : Prop := VAt (B64 w) w c xs
theorem VT64.mod {F : Nat → Prop} {w w' : World} {c : Value} {xs : List It} (h : VT64 w c xs) (m : Mod F w w') (hF : ∀ g, F g → ¬ B64 w g) : VT64 w' c xs :=
  VAt.kept h fun g ha hg => ⟨m.block g hg (fun x => hF g x ha), m.lt hg, by
    obtain ⟨cs, fr, hc⟩ := ha
    exact ⟨cs, fr, (m.block g hg (fun x => hF g x ⟨cs, fr, hc⟩)).trans hc⟩⟩
theorem VT64.under {w w' : World} {c : Value} {xs : List It} (h : VT64 w c xs) (hb : Below w.heap.size w w') : VT64 w' c xs :=
  VT64.mod h (Mod.of_below (F := fun _ => False) hb) (fun _ x => absurd x (fun y => y))
/-- Items, each with the slice value behind it. -/
abbrev It2 := It × Value
def rows2 (ys : List It2) : List (List Value) := ys.map fun y => itCells y.1 y.2
theorem rows2_len (ys : List It2) : (rows2 ys).length = ys.length := by simp [rows2]
/-- The place of a key, as a number. -/
def placeF (xs : List It) (k : K) : Option Int := (findK k xs).map fun i => (i : Int)
/-- A list of the call's own, that nobody shares: its struct in block b, its items behind v, its map in block mb. -/
structure LIs (w : World) (b : Nat) (v : Value) (mb : Nat) (l : LS) (ys : List It2) : Prop where
  blk : w.heap[b]? = some (.cells #[.bool true, .bool false, v, .map (some mb), .int .i64 l.nx] 161 (0, 0))
  own : Owns w 167 7 v (rows2 ys)
  map : mKI.Is w mb (placeF l.xs) l.xs.length
  ne1 : v.ownBlock ≠ some b
  ne2 : mb ≠ b
  ne3 : v.ownBlock ≠ some mb
  ok : l.Ok
  fst : ys.map (·.1) = l.xs
  val : ∀ y ∈ ys, VT64 w y.2 y.1.2.xs
theorem LIs.len {w : World} {b : Nat} {v : Value} {mb : Nat} {l : LS} {ys : List It2} (i : LIs w b v mb l ys) : ys.length = l.xs.length := by rw [← i.fst, List.length_map]
/-- The blocks of a list. -/
def LFoot (b : Nat) (v : Value) (mb : Nat) (k : Nat) : Prop := k = b ∨ v.ownBlock = some k ∨ k = mb
theorem owns_blk {w : World} {e : TypeId} {size : Nat} {v : Value} {rows : List (List Value)} (o : Owns w e size v rows) {g : Nat} (hg : v.ownBlock = some g) : ∃ cur, w.heap[g]? = some (.cells cur e (0, 0)) := by
  rcases o.row.2 with ⟨rfl, _⟩ | ⟨g', cap, cur, rfl, _, hgg, _⟩
  · simp [Value.ownBlock] at hg
  · simp [Value.ownBlock] at hg; subst hg; exact ⟨cur, hgg⟩
theorem map_blk {κ α : Type} {S : MSpec κ α} {w : World} {mb n : Nat} {F : κ → Option α} (h : S.Is w mb F n) : ∃ es c, w.heap[mb]? = some (.map es c) := by
  obtain ⟨D, ⟨es, clock, h1, _⟩, _⟩ := h
  exact ⟨es, clock, h1⟩
theorem LIs.no64 {w : World} {b : Nat} {v : Value} {mb : Nat} {l : LS} {ys : List It2} (i : LIs w b v mb l ys) {k : Nat} (hk : LFoot b v mb k) : ¬ B64 w k := by
  rintro ⟨cs, fr, h⟩
  rcases hk with rfl | hk | rfl
  · rw [i.blk] at h; cases h
  · obtain ⟨cur, hc⟩ := owns_blk i.own hk
    rw [hc] at h; cases h
  · obtain ⟨es, c, hc⟩ := map_blk i.map
    rw [hc] at h; cases h
theorem LIs.lt {w : World} {b : Nat} {v : Value} {mb : Nat} {l : LS} {ys : List It2} (i : LIs w b v mb l ys) {k : Nat} (hk : LFoot b v mb k) : k < w.heap.size := by
  rcases hk with rfl | hk | rfl
  · exact lt_of_block i.blk
  · exact i.own.lt hk
  · exact i.map.lt
/-- A list stands where none of its blocks, and no block of items, is turned. -/
theorem LIs.mod {Z : Nat → Prop} {w w' : World} {b : Nat} {v : Value} {mb : Nat} {l : LS} {ys : List It2} (i : LIs w b v mb l ys) (hm : Mod Z w w') (h : ∀ k, LFoot b v mb k → ¬ Z k) (h64 : ∀ k, Z k → ¬ B64 w k) : LIs w' b v mb l ys :=
  ⟨hm.blk i.blk (h b (.inl rfl)), i.own.mod hm (fun g e => h g (.inr (.inl e))), i.map.mod hm (h mb (.inr (.inr rfl))), i.ne1, i.ne2, i.ne3, i.ok, i.fst, fun y hy => VT64.mod (i.val y hy) hm h64⟩
theorem LIs.under {w w' : World} {b : Nat} {v : Value} {mb : Nat} {l : LS} {ys : List It2} (i : LIs w b v mb l ys) (hb : Below w.heap.size w w') : LIs w' b v mb l ys :=
  i.mod (Mod.of_below (F := fun _ => False) hb) (fun _ _ x => x) (fun _ x => absurd x (fun y => y))
theorem cells5 {w : World} {b : Nat} {m sh : Bool} {v : Value} {mv nv : Value} (h : w.heap[b]? = some (.cells #[.bool m, .bool sh, v, mv, nv] 161 (0, 0))) :
    w.cell? ⟨b, 0, none⟩ = some (.bool m) ∧ w.cell? ⟨b, 1, none⟩ = some (.bool sh) ∧ w.cell? ⟨b, 2, none⟩ = some v ∧ w.cell? ⟨b, 3, none⟩ = some mv ∧ w.cell? ⟨b, 4, none⟩ = some nv :=
  ⟨cell_blk h 0, cell_blk h 1, cell_blk h 2, cell_blk h 3, cell_blk h 4⟩
theorem lok_any (b : Nat) (m : Bool) (w : World) (h : w.cell? ⟨b, 0, none⟩ = some (.bool m)) :
    Calls Tryz.prog 128 #[.pointer (some ⟨b, 0, none⟩)] w fun e w' => e = .returned (.bool m) ∧ w = w' := by
  go_enter Tryz.func128, Tryz.ntmps128
  go_wp2
  go_ret
  exact ⟨rfl, rfl⟩
/-- What New gives. -/
def NewPost (w : World) (e : Ending) (w' : World) : Prop := ∃ b mb, e = .returned (.pointer (some ⟨b, 0, none⟩)) ∧ LIs w' b (.slice none 0 0) mb LS.new [] ∧ w.heap.size ≤ b ∧ w.heap.size ≤ mb ∧ Below w.heap.size w w'
theorem lnew_any (w : World) : Calls Tryz.prog 96 #[] w (NewPost w) := by
  have hmm := @run_makeMap Tryz.prog
  go_enter Tryz.func96, Tryz.ntmps96
  go_wp2
  go_ret
  refine ⟨w.heap.size + 1, w.heap.size, rfl, ⟨?_, Owns.empty _ _ _, ?_, by simp [Value.ownBlock], by omega, by simp [Value.ownBlock], LS.new_ok, rfl, fun y hy => by cases hy⟩, by omega, by omega, ((Below.refl _ w).alloc (Nat.le_refl _) _).alloc (by simp) _⟩
  · have h := heap_alloc_new (w.alloc (.map #[] 0)) (.cells #[.bool true, .bool false, .slice none 0 0, .map (some w.heap.size), .int .i64 0] 161)
    simpa [LS.new] using h
  · have h := (MSpec.made (S := mKI) w).kept (w' := (w.alloc (.map #[] 0)).alloc (.cells #[.bool true, .bool false, .slice none 0 0, .map (some w.heap.size), .int .i64 0] 161)) (Below.heap_alloc _ _ _ (by simp))
    exact h.congr fun k _ => rfl
theorem lnext_any {b : Nat} {v : Value} {mb : Nat} {l : LS} {ys : List It2} (w : World) (i : LIs w b v mb l ys) : Calls Tryz.prog 99 #[.pointer (some ⟨b, 0, none⟩)] w fun e w' => e = .returned (.int .i64 l.nx) ∧ w = w' := by
  obtain ⟨c0, c1, c2, c3, c4⟩ := cells5 i.blk
  clear i
  go_enter Tryz.func99, Tryz.ntmps99
  go_wp2_with (go_at_call 128; refine (lok_any _ _ _ c0).mono ?_; rintro e w' ⟨rfl, rfl⟩)
  go_ret
  exact ⟨rfl, rfl⟩
/-- own at a list that is its own. -/
theorem own_free {b : Nat} {v : Value} {mb : Nat} {l : LS} {ys : List It2} (w : World) (i : LIs w b v mb l ys) : Calls Tryz.prog 151 #[.pointer (some ⟨b, 0, none⟩)] w fun e w' => e = .returned (.tuple #[]) ∧ w = w' := by
  obtain ⟨c0, c1, c2, c3, c4⟩ := cells5 i.blk
  clear i
  go_enter Tryz.func151, Tryz.ntmps151
  go_wp2
  first | go_end0 | (refine bodyPost_ret (results_none rfl _ _ _) rfl ?_)
  exact ⟨rfl, rfl⟩
theorem look_none {w : World} {b : Nat} {v : Value} {mb : Nat} {l : LS} {ys : List It2} {k : K} (i : LIs w b v mb l ys) (hk : k.Good) (hf : findK k l.xs = none) :
    (Instr.lookup 158 (.map (some mb)) (.agg #[.bool k.b, .int .i64 k.n, .string k.t]) true).run Tryz.prog w = .ok (.tuple #[.int .i64 0, .bool false]) w := by
  have := i.map.look hk
  unfold placeF at this
  rw [hf] at this
  exact this
theorem look_some {w : World} {b : Nat} {v : Value} {mb : Nat} {l : LS} {ys : List It2} {k : K} (i : LIs w b v mb l ys) (hk : k.Good) {j : Nat} (hf : findK k l.xs = some j) :
    (Instr.lookup 158 (.map (some mb)) (.agg #[.bool k.b, .int .i64 k.n, .string k.t]) true).run Tryz.prog w = .ok (.tuple #[.int .i64 j, .bool true]) w := by
  have := i.map.look hk
  unfold placeF at this
  rw [hf] at this
  exact this
/-- An item in memory. -/
theorem LIs.item {w : World} {b : Nat} {v : Value} {mb : Nat} {l : LS} {ys : List It2} (i : LIs w b v mb l ys) {j : Nat} (hj : j < ys.length) :
    ∃ g cap, v = .slice (some ⟨g, 0, none⟩) ys.length cap ∧ ys.length ≤ cap ∧ cap ≤ maxLen ∧ g < w.heap.size ∧
      w.cell? ⟨g, j * 7, none⟩ = some (.bool ys[j].1.1.b) ∧ w.cell? ⟨g, j * 7 + 1, none⟩ = some (.int .i64 ys[j].1.1.n) ∧ w.cell? ⟨g, j * 7 + 2, none⟩ = some (.string ys[j].1.1.t) ∧ w.cell? ⟨g, j * 7 + 3, none⟩ = some (.int .i64 ys[j].1.2.k) ∧ w.cell? ⟨g, j * 7 + 4, none⟩ = some (.int .i64 ys[j].1.2.n) ∧ w.cell? ⟨g, j * 7 + 5, none⟩ = some (.string ys[j].1.2.t) ∧ w.cell? ⟨g, j * 7 + 6, none⟩ = some ys[j].2 := by
  obtain ⟨ao, cap, hv, h1, h2, h3, _, h5⟩ := i.own.any
  rw [rows2_len] at hv h1
  obtain ⟨g, off, rfl, hg, _, hc⟩ := h3 j (itCells ys[j].1 ys[j].2) (by simp [rows2, hj])
  obtain ⟨rfl, _⟩ := h5 g off rfl
  have d0 := hc 0 _ rfl
  have d1 := hc 1 _ rfl
  have d2 := hc 2 _ rfl
  have d3 := hc 3 _ rfl
  have d4 := hc 4 _ rfl
  have d5 := hc 5 _ rfl
  have d6 := hc 6 _ rfl
  simp only [Nat.zero_add, Nat.add_zero] at d0 d1 d2 d3 d4 d5 d6
  exact ⟨g, cap, hv, h1, h2, hg, d0, d1, d2, d3, d4, d5, d6⟩
end Go.Proofs.YtnaefnojmiolbaaGreatDoor
