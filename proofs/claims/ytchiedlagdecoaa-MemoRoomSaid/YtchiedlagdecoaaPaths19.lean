/-
  The walk of the memo's Paths.
-/
import Derived.Test.YtchiedlagdecoaaPut19
namespace Go.Proofs.Ytchiedlagdecoaa
open Go.RowKit

theorem info9 : (Try.prog.info? 9).map (fun i => (i.zero, i.size, i.bytes)) = some (some (.string .empty), 1, 16) := by kernel_rfl

def pathRows (us : List U) : List (List Value) := us.map fun x => [Value.string x.path]

/-- A slice value in memory that was not there before. -/
def Fresh (w : World) (v : Value) : Prop := ∀ k, v.ownBlock = some k → w.heap.size ≤ k

def PathsPost (w : World) (us : List U) (e : Ending) (w' : World) : Prop :=
  ∃ v', e = .returned v' ∧ Owns w' 9 1 v' (pathRows us) ∧ Fresh w v' ∧ Below w.heap.size w w'

/-- What holds at the head of a round. -/
structure PathsRel (w : World) (us : List U) (k : Nat) (v : Value) (wr : World) : Prop where
  own : Owns wr 9 1 v (pathRows (us.take k))
  fresh : Fresh w v
  below : Below w.heap.size w wr

set_option maxHeartbeats 1600000 in
theorem paths_any (b : Nat) (v : Value) (most h m : Int) (us : List U) (w : World) (i : MemoIs w b v most us h m) :
    Calls Try.prog 14 #[.pointer (some ⟨b, 0, none⟩)] w (PathsPost w us) := by
  have c0 := cell_blk i.blk 0
  have c2 := cell_blk i.blk 2
  simp at c0 c2
  obtain ⟨ao, cap, rfl, h1, h2, h3, -, -⟩ := i.own.any
  rw [List.length_map] at c2
  have HU := Lib.hid h3
  have hm := i.len
  clear i h1 h2 h3
  go_enter Try.func14, Try.ntmps14
  go_wp2_with (go_at_call 23; refine (ok_any _ _ _ c0).mono ?_; rintro e w' ⟨rfl, rfl⟩)
  clear c0 c2
  go_loopw [3, 14] (fun l i wr => ∃ k : Nat, k ≤ us.length ∧ i = .int .i64 k ∧ PathsRel w us k l wr) (fun _ i _ => us.length - (intOf i).toNat)
  case atStart => exact ⟨0, Nat.zero_le _, rfl, ⟨by simpa [pathRows] using Owns.empty w 9 1, fun k e => by simp [Value.ownBlock] at e, Below.refl _ _⟩⟩
  case round =>
    rename_i l _
    obtain ⟨k, hk, rfl, hrel⟩ := hrel
    obtain ⟨lo, lcap, hform, -⟩ := hrel.own.any
    subst hform
    by_cases hlt : k < us.length
    · obtain ⟨g, off, rfl, hg, -, hc⟩ := HU.out k us[k].cells (by simp [hlt])
      have d0 := hc 0 _ rfl
      have d1 := hc 1 _ rfl
      have d2 := hc 2 _ rfl
      rw [Nat.add_zero] at d0
      rw [← hrel.below.cell (p := ⟨g, _, none⟩) hg] at d0 d1 d2
      clear hc
      have R := Lib.hid hrel
      clear hrel
      have hO : ∀ (o o' : Obj), Hid (Owns ((wr.alloc o).alloc o') 9 1 (.slice lo (pathRows (us.take k)).length lcap) (pathRows (us.take k))) :=
        fun o o' => R.out.own.kept fun g e => by have := R.out.own.lt e; rw [Below.heap_alloc _ _ _ (by simp; omega), Below.heap_alloc _ _ _ this]
      have hL : ∀ (o : Obj), Hid (Lies ((wr.alloc o).alloc (.cells #[.string us[k].path] 9)) 1 (some ⟨wr.heap.size + 1, 0, none⟩) [[.string us[k].path]]) :=
        fun o => lies_new' (wr.alloc o) _ _ _ rfl (by simp)
      have hpl : (pathRows (us.take k)).length = k := by unfold pathRows; simp; omega
      have hR1 : Hid ((pathRows (us.take k)).length + [[Value.string us[k].path]].length ≤ maxLen) := by show _ ≤ _; unfold maxLen; simp; omega
      have hR2 : Hid (((pathRows (us.take k)).length + [[Value.string us[k].path]].length) * 16 ≤ 140737488355328) := by show _ ≤ _; simp; omega
      have hP : Hid (pathRows (us.take k) ++ [[Value.string us[k].path]] = pathRows (us.take (k + 1))) := by show _ = _; unfold pathRows; rw [List.take_succ_eq_append_getElem hlt]; simp only [List.map_append, List.map_cons, List.map_nil]
      clear hpl
      go_wp2_with (at_builtin; refine wpList_append_rows rfl (.tmp 18) (.tmp 21) 37 rfl 9 _ 1 16 Try.underlying37 info9 rfl (by decide) (.slice lo (pathRows (us.take k)).length lcap) (pathRows (us.take k)) rfl (hO _ _).out (some ⟨wr.heap.size + 1, 0, none⟩) 1 1 [[.string us[k].path]] rfl rfl (fun e => by cases e) (hL _).out (by simp; exact rfl) (by simp) hR1.out hR2.out ?_; intro v3 w3 o3 g3 b3; rw [hP.out] at o3; have O3 := Lib.hid o3; have G3 := Lib.hid g3; have B3 := Lib.hid b3; clear o3 g3 b3)
      have r := R.out
      have hm3 : Below w.heap.size w w3 := (((r.below.alloc r.below.size _).alloc (by have := r.below.size; simp; omega) _)).grown G3.out (by have := r.below.size; simp; omega) (fun j e => r.fresh j e)
      go_roundw
      case rel =>
        refine ⟨k + 1, by omega, by go_num, O3.out, ?_, hm3⟩
        intro j e
        rcases B3.out with e' | ⟨j', e', hj⟩
        · exact r.fresh j (e'.symm.trans e)
        · rw [e'] at e; cases e; have := r.below.size; simp at hj; omega
      case measure => simp [intOf]; omega
    · obtain rfl : k = us.length := by omega
      have R := Lib.hid hrel
      clear hrel
      go_wp2
      go_ret
      have r := R.out
      refine ⟨_, rfl, ?_, r.fresh, r.below⟩
      rw [show pathRows us = pathRows (us.take us.length) by rw [List.take_length]]
      exact r.own
end Go.Proofs.Ytchiedlagdecoaa
