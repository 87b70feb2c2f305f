/-
  The walks of slices.Delete and slices.Clone at a list's items.
-/
import Derived.Test.YtgpdhmgbmhfooaaDoorList07
import Derived.Lib.LazyBuf
namespace Go.Proofs.YtgpdhmgbmhfooaaDoor
open Go.RowKit

theorem info88 : (Tryd.prog.info? 88).map (fun i => (i.zero, i.size, i.bytes)) = some (some (.agg #[.bool false, .int .i64 0, .string .empty, .int .i64 0]), 4, 40) := by kernel_rfl
theorem zero88 (w : World) : (zeroValue 88).run Tryd.prog w = .ok (.agg #[.bool false, .int .i64 0, .string .empty, .int .i64 0]) w := by kernel_rfl
theorem It.rows_len (us : List It) : ∀ r ∈ us.map It.cells, r.length = 4 := by
  intro r hr
  obtain ⟨x, _, rfl⟩ := List.mem_map.1 hr
  rfl
theorem It.rows_one (us : List It) : ∀ r ∈ us.map It.cells, ∀ u ∈ r, u.oneCell' = true := by
  intro r hr u hu
  obtain ⟨x, _, rfl⟩ := List.mem_map.1 hr
  simp [It.cells] at hu
  rcases hu with rfl | rfl | rfl | rfl <;> rfl

set_option maxHeartbeats 800000 in
set_option maxRecDepth 100000 in
theorem ldelete_any (g cap i M : Nat) (us : List It) (w : World) (hown : Owns w 88 4 (.slice (some ⟨g, 0, none⟩) (M + 1) cap) (us.map It.cells)) (hM : us.length = M + 1) (hi : i ≤ M) (hlc : M + 1 ≤ cap) (hcm : cap ≤ maxLen) :
    Calls Tryd.prog 54 #[.slice (some ⟨g, 0, none⟩) (M + 1) cap, .int .i64 i, .int .i64 ((i : Int) + 1)] w fun e w' =>
      e = .returned (.slice (some ⟨g, 0, none⟩) M cap) ∧ Owns w' 88 4 (.slice (some ⟨g, 0, none⟩) M cap) ((us.take i ++ us.drop (i + 1)).map It.cells) ∧ w.grownBy w' (some g) := by
  unfold maxLen at hcm
  obtain ⟨A, hA, hlies⟩ : ∃ A : Addr, (if cap = i + 1 then some (⟨g, 0, none⟩ : Addr) else some ⟨g, (i + 1) * 4, none⟩) = some A ∧ Hid ((us.drop (i + 1)).map It.cells ≠ [] → Lies w.drew 4 (some A) ((us.drop (i + 1)).map It.cells)) := by
    by_cases h : cap = i + 1
    · refine ⟨⟨g, 0, none⟩, by simp [h], fun hne => ?_⟩
      exfalso; apply hne
      simp; omega
    · refine ⟨⟨g, (i + 1) * 4, none⟩, by simp [h], fun _ => ?_⟩
      have := hown.liesFrom (i + 1)
      rw [← List.map_drop] at this
      exact this
  have hpre : Hid (Owns w.drew 88 4 (.slice (some ⟨g, 0, none⟩) i cap) ((us.take i).map It.cells)) := by
    have := hown.take i (by simp; omega)
    rw [← List.map_take] at this
    exact ⟨this.row, this.len, this.one⟩
  have hn : Hid (M + 1 - (i + 1) = ((us.drop (i + 1)).map It.cells).length) := by show _ = _; simp [hM]
  have hroom : Hid (((us.take i).map It.cells).length + ((us.drop (i + 1)).map It.cells).length ≤ cap) := by show _ ≤ _; simp; omega
  have h1 : IntKind.i64.wrap ((i : Int) + 1) = (i : Int) + 1 := by rw [IntKind.wrap_i64]; omega
  have p0 : (0 : Int) ≤ (i : Int) + 1 := by omega
  have p1 : (i : Int) ≤ (M : Int) := by omega
  have p2 : ((i : Int) + 1).toNat = i + 1 := by omega
  have p3 : ((i : Int) == (i : Int) + 1) = false := by simp; omega
  have hlen1 : i + (M + 1 - (i + 1)) = M := by omega
  have hic : i ≤ cap := by omega
  have hjc : i + 1 ≤ cap := by omega
  have hMc : M ≤ cap := by omega
  have hMne : ¬ cap = M := by omega
  have HM := Lib.hid hM
  clear hown hM
  go_enter Tryd.func54, Tryd.ntmps54
  go_wp2_with fail
  go_region_law (refine step_append_rows_room rfl (.tmp 22) (.tmp 25) 58 rfl 88 _ 4 40 Tryd.underlying58 info88 (by decide) g i cap ((us.take i).map It.cells) (by simp [Act.eval, Act.put]) hpre.out A (M + 1 - (i + 1)) (cap - (i + 1)) ((us.drop (i + 1)).map It.cells) (by simp [Act.eval, Act.put]) hn.out hlies.out (It.rows_one _) (It.rows_len _) hroom.out ?_; rw [hlen1]; intro w1 hown1 hgrow1)
  rw [← List.map_append] at hown1
  have hl : ((us.take i ++ us.drop (i + 1)).map It.cells).length = M := by have := HM.out; simp; omega
  obtain ⟨w2, hcl, hown2, hgrow2⟩ := run_clear_rows (P := Tryd.prog) w1 58 0 88 _ 4 Tryd.underlying58 zero88 rfl (by decide) g M cap _ hown1 1 (cap - M) (by omega) (by omega)
  have H2 := Lib.hid hown2
  have G1 := Lib.hid hgrow1
  have G2 := Lib.hid hgrow2
  have HL := Lib.hid hl
  clear hown1 hown2 hgrow1 hgrow2 hA hl
  go_wp2
  go_ret
  refine ⟨rfl, H2.out, ?_⟩
  have a := G1.out
  have b := G2.out
  exact ⟨b.os.trans a.os, b.tape.trans a.tape, b.output.trans a.output, Nat.le_trans a.size b.size, fun k hk hne => (b.block k (Nat.lt_of_lt_of_le hk a.size) hne).trans (a.block k hk hne)⟩

/-- What Clone gives. -/
def ClonePost (w : World) (rows : List (List Value)) (e : Ending) (w' : World) : Prop :=
  ∃ v', e = .returned v' ∧ Owns w' 88 4 v' rows ∧ Below w.heap.size w w' ∧ ∀ g, v'.ownBlock = some g → w.heap.size ≤ g
theorem owns_none (w : World) (t : TypeId) (size : Nat) : Owns (w.alloc (.cells #[] t)) t size (.slice (some ⟨w.heap.size, 0, none⟩) 0 0) [] :=
  ⟨⟨by simp, .inr ⟨w.heap.size, 0, #[], by simp, by omega, heap_alloc_new w _, by simp, by simp, by simp, by simp⟩⟩, by simp, by simp⟩
set_option maxRecDepth 100000 in
theorem lclone_nil (w : World) : Calls Tryd.prog 75 #[.slice none 0 0] w (ClonePost w []) := by
  have e1 : (binOp .eql 58 (.slice none 0 0) (.slice none 0 0)).run Tryd.prog w = .ok (.bool true) w := run_eql_slice_nil w 58 88 none 0 0 Tryd.underlying58
  go_enter Tryd.func75, Tryd.ntmps75
  go_wp2
  go_ret
  exact ⟨_, rfl, Owns.empty _ _ _, Below.refl _ _, by simp [Value.ownBlock]⟩
set_option maxRecDepth 100000 in
set_option maxHeartbeats 800000 in
theorem lclone_any (g cap : Nat) (us : List It) (w : World) (hown : Owns w 88 4 (.slice (some ⟨g, 0, none⟩) us.length cap) (us.map It.cells)) (hl : us.length ≤ 2048) :
    Calls Tryd.prog 75 #[.slice (some ⟨g, 0, none⟩) us.length cap] w (ClonePost w (us.map It.cells)) := by
  have e1 : (binOp .eql 58 (.slice (some ⟨g, 0, none⟩) us.length cap) (.slice none 0 0)).run Tryd.prog w = .ok (.bool false) w := run_eql_slice_nil w 58 88 _ _ _ Tryd.underlying58
  obtain ⟨ao, cap', hv, _, _, hlies, _, _⟩ := hown.any
  rw [List.length_map] at hv
  cases hv
  have hO := Lib.hid (owns_none w 88 4)
  have hL : Hid (Lies (w.alloc (.cells #[] 88)) 4 (some ⟨g, 0, none⟩) (us.map It.cells)) := hlies.kept fun g' off e hg => ⟨Below.heap_alloc _ _ _ hg, by simp; omega⟩
  have hr1 : Hid (([] : List (List Value)).length + (us.map It.cells).length ≤ maxLen) := by show _ ≤ _; unfold maxLen; simp; omega
  have hr2 : Hid ((([] : List (List Value)).length + (us.map It.cells).length) * 40 ≤ 140737488355328) := by show _ ≤ _; simp; omega
  have hn : Hid (us.length = (us.map It.cells).length) := by show _ = _; simp
  clear hlies
  go_enter Tryd.func75, Tryd.ntmps75
  go_wp2_with (at_builtin; refine wpList_append_rows rfl (.tmp 5) (.tmp 6) 58 rfl 88 _ 4 40 Tryd.underlying58 info88 rfl (by decide) (.slice (some ⟨w.heap.size, 0, none⟩) 0 0) [] rfl hO.out (some ⟨g, 0, none⟩) us.length cap (us.map It.cells) rfl hn.out (fun e => by cases e) hL.out (It.rows_one _) (It.rows_len _) hr1.out hr2.out ?_; intro v3 w3 o3 g3 b3; have O3 := Lib.hid o3; have G3 := Lib.hid g3; have B3 := Lib.hid b3; clear o3 g3 b3)
  have o3 := O3.out
  rw [List.nil_append] at o3
  go_ret
  refine ⟨v3, rfl, o3, ?_, fun k hk => ?_⟩
  · have hm : Mod (fun k => w.heap.size ≤ k) w w3 := ((Mod.refl _ w).alloc _).grown G3.out (fun k e hk => by simp [Value.ownBlock] at e; omega)
    exact ⟨hm.os, hm.tape, hm.output, hm.size, fun k hk => hm.block k hk (by omega)⟩
  · rcases B3.out with e | ⟨j, e, hj⟩
    · rw [e] at hk; simp [Value.ownBlock] at hk; omega
    · rw [e] at hk; cases hk; simp at hj; omega
theorem lclone_list {w : World} {v : Value} {us : List It} (hown : Owns w 88 4 v (us.map It.cells)) (hl : us.length ≤ 2048) : Calls Tryd.prog 75 #[v] w (ClonePost w (us.map It.cells)) := by
  rcases hown.form with ⟨rfl, e⟩ | ⟨g, cap, e, _⟩
  · rw [e]; exact lclone_nil w
  · rw [List.length_map] at e
    subst e
    exact lclone_any g cap us w hown hl
end Go.Proofs.YtgpdhmgbmhfooaaDoor
