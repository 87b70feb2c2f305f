/-
  The walk of slices.Clone at lines.
-/
import Derived.Test.YthnhpnmopjbaoaaDoorBase21
import Derived.Lib.LazyBuf
namespace Go.Proofs.YthnhpnmopjbaoaaDoor
open Go.RowKit

def sR (s : ByteArray) : List Value := [.string s]
theorem sR_one (ls : List ByteArray) : ∀ r ∈ ls.map sR, ∀ u ∈ r, u.oneCell' = true := by
  intro r hr u hu
  obtain ⟨x, _, rfl⟩ := List.mem_map.1 hr
  simp [sR] at hu
  subst hu; rfl
theorem sR_len (ls : List ByteArray) : ∀ r ∈ ls.map sR, r.length = 1 := by
  intro r hr
  obtain ⟨x, _, rfl⟩ := List.mem_map.1 hr
  rfl
theorem info9 : (Tryd.prog.info? 9).map (fun i => (i.zero, i.size, i.bytes)) = some (some (.string .empty), 1, 16) := by kernel_rfl
/-- What Clone gives. -/
def ClonePost (w : World) (rows : List (List Value)) (e : Ending) (w' : World) : Prop :=
  ∃ v', e = .returned v' ∧ Owns w' 9 1 v' rows ∧ Below w.heap.size w w' ∧ ∀ g, v'.ownBlock = some g → w.heap.size ≤ g
theorem owns_none (w : World) (t : TypeId) (size : Nat) : Owns (w.alloc (.cells #[] t)) t size (.slice (some ⟨w.heap.size, 0, none⟩) 0 0) [] :=
  ⟨⟨by simp, .inr ⟨w.heap.size, 0, #[], by simp, by omega, heap_alloc_new w _, by simp, by simp, by simp, by simp⟩⟩, by simp, by simp⟩
set_option maxRecDepth 100000 in
theorem clone_nil (w : World) : Calls Tryd.prog 47 #[.slice none 0 0] w fun e w' => e = .returned (.slice none 0 0) ∧ w = w' := by
  have e1 : (binOp .eql 50 (.slice none 0 0) (.slice none 0 0)).run Tryd.prog w = .ok (.bool true) w := run_eql_slice_nil w 50 9 none 0 0 Tryd.underlying50
  go_enter Tryd.func47, Tryd.ntmps47
  go_wp2
  go_ret
  exact ⟨rfl, rfl⟩
set_option maxRecDepth 100000 in
set_option maxHeartbeats 800000 in
theorem clone_any (g cap : Nat) (ls : List ByteArray) (w : World) (hown : Owns w 9 1 (.slice (some ⟨g, 0, none⟩) ls.length cap) (ls.map sR)) (hl : ls.length ≤ 2048) :
    Calls Tryd.prog 47 #[.slice (some ⟨g, 0, none⟩) ls.length cap] w (ClonePost w (ls.map sR)) := by
  have e1 : (binOp .eql 50 (.slice (some ⟨g, 0, none⟩) ls.length cap) (.slice none 0 0)).run Tryd.prog w = .ok (.bool false) w := run_eql_slice_nil w 50 9 _ _ _ Tryd.underlying50
  obtain ⟨ao, cap', hv, _, _, hlies, _, _⟩ := hown.any
  rw [List.length_map] at hv
  cases hv
  have hO := Lib.hid (owns_none w 9 1)
  have hL : Hid (Lies (w.alloc (.cells #[] 9)) 1 (some ⟨g, 0, none⟩) (ls.map sR)) := hlies.kept fun g' off e hg => ⟨Below.heap_alloc _ _ _ hg, by simp; omega⟩
  have hr1 : Hid (([] : List (List Value)).length + (ls.map sR).length ≤ maxLen) := by show _ ≤ _; unfold maxLen; simp; omega
  have hr2 : Hid ((([] : List (List Value)).length + (ls.map sR).length) * 16 ≤ 140737488355328) := by show _ ≤ _; simp; omega
  have hn : Hid (ls.length = (ls.map sR).length) := by show _ = _; simp
  clear hlies
  go_enter Tryd.func47, Tryd.ntmps47
  go_wp2_with (at_builtin; refine wpList_append_rows rfl (.tmp 5) (.tmp 6) 50 rfl 9 _ 1 16 Tryd.underlying50 info9 rfl (by decide) (.slice (some ⟨w.heap.size, 0, none⟩) 0 0) [] rfl hO.out (some ⟨g, 0, none⟩) ls.length cap (ls.map sR) rfl hn.out (fun e => by cases e) hL.out (sR_one _) (sR_len _) hr1.out (by have h := hr2.out; omega) ?_; intro v3 w3 o3 g3 b3; have O3 := Lib.hid o3; have G3 := Lib.hid g3; have B3 := Lib.hid b3; clear o3 g3 b3)
  have o3 := O3.out
  rw [List.nil_append] at o3
  go_ret
  refine ⟨v3, rfl, o3, ?_, fun k hk => ?_⟩
  · have hm : Mod (fun k => w.heap.size ≤ k) w w3 := ((Mod.refl _ w).alloc _).grown G3.out (fun k e hk => by simp [Value.ownBlock] at e; omega)
    exact ⟨hm.os, hm.tape, hm.output, hm.size, fun k hk => hm.block k hk (by omega)⟩
  · rcases B3.out with e | ⟨j, e, hj⟩
    · rw [e] at hk; simp [Value.ownBlock] at hk; omega
    · rw [e] at hk; cases hk; simp at hj; omega
theorem clone_list {w : World} {v : Value} {ls : List ByteArray} (hown : Owns w 9 1 v (ls.map sR)) (hl : ls.length ≤ 2048) : Calls Tryd.prog 47 #[v] w (ClonePost w (ls.map sR)) := by
  rcases hown.form with ⟨rfl, e⟩ | ⟨g, cap, e, _⟩
  · rw [e]
    refine (clone_nil w).mono ?_
    rintro e w' ⟨rfl, rfl⟩
    exact ⟨_, rfl, Owns.empty _ _ _, Below.refl _ _, by simp [Value.ownBlock]⟩
  · rw [List.length_map] at e
    subst e
    exact clone_any g cap ls w hown hl
end Go.Proofs.YthnhpnmopjbaoaaDoor
