/-
  The walk of slices.Delete at the memo's units: the i-th unit goes.
-/
import Derived.Test.YtchiedlagdecoaaRows
import Derived.Test.YtchiedlagdecoaaBase
import Derived.Test.YtchiedlagdecoaaPlain19
namespace Go.Proofs.Ytchiedlagdecoaa
open Go.RowKit

theorem info52 : (Try.prog.info? 52).map (fun i => (i.zero, i.size, i.bytes)) = some (some (.agg #[.string .empty, .int .i64 0, .int .i64 0]), 3, 32) := by kernel_rfl
theorem zero52 (w : World) : (zeroValue 52).run Try.prog w = .ok (.agg #[.string .empty, .int .i64 0, .int .i64 0]) w := by kernel_rfl
theorem U.rows_len (us : List U) : ∀ r ∈ us.map U.cells, r.length = 3 := by
  intro r hr
  obtain ⟨x, _, rfl⟩ := List.mem_map.1 hr
  rfl
theorem U.rows_one (us : List U) : ∀ r ∈ us.map U.cells, ∀ u ∈ r, u.oneCell' = true := by
  intro r hr u hu
  obtain ⟨x, _, rfl⟩ := List.mem_map.1 hr
  simp [U.cells] at hu
  rcases hu with rfl | rfl | rfl <;> rfl

set_option maxHeartbeats 800000 in
set_option maxRecDepth 100000 in
theorem delete_any (g cap i M : Nat) (us : List U) (w : World) (hown : Owns w 52 3 (.slice (some ⟨g, 0, none⟩) (M + 1) cap) (us.map U.cells)) (hM : us.length = M + 1) (hi : i ≤ M) (hlc : M + 1 ≤ cap) (hcm : cap ≤ maxLen) :
    Calls Try.prog 25 #[.slice (some ⟨g, 0, none⟩) (M + 1) cap, .int .i64 i, .int .i64 ((i : Int) + 1)] w fun e w' =>
      e = .returned (.slice (some ⟨g, 0, none⟩) M cap) ∧ Owns w' 52 3 (.slice (some ⟨g, 0, none⟩) M cap) ((us.take i ++ us.drop (i + 1)).map U.cells) ∧ w.grownBy w' (some g) := by
  unfold maxLen at hcm
  obtain ⟨A, hA, hlies⟩ : ∃ A : Addr, (if cap = i + 1 then some (⟨g, 0, none⟩ : Addr) else some ⟨g, (i + 1) * 3, none⟩) = some A ∧ Hid ((us.drop (i + 1)).map U.cells ≠ [] → Lies w.drew 3 (some A) ((us.drop (i + 1)).map U.cells)) := by
    by_cases h : cap = i + 1
    · refine ⟨⟨g, 0, none⟩, by simp [h], fun hne => ?_⟩
      exfalso; apply hne
      simp; omega
    · refine ⟨⟨g, (i + 1) * 3, none⟩, by simp [h], fun _ => ?_⟩
      have := hown.liesFrom (i + 1)
      rw [← List.map_drop] at this
      exact this
  have hpre : Hid (Owns w.drew 52 3 (.slice (some ⟨g, 0, none⟩) i cap) ((us.take i).map U.cells)) := by
    have := hown.take i (by simp; omega)
    rw [← List.map_take] at this
    exact ⟨this.row, this.len, this.one⟩
  have hn : Hid (M + 1 - (i + 1) = ((us.drop (i + 1)).map U.cells).length) := by show _ = _; simp [hM]
  have hroom : Hid (((us.take i).map U.cells).length + ((us.drop (i + 1)).map U.cells).length ≤ cap) := by show _ ≤ _; simp; omega
  have h1 : IntKind.i64.wrap ((i : Int) + 1) = (i : Int) + 1 := by rw [IntKind.wrap_i64]; omega
  have p0 : (0 : Int) ≤ (i : Int) + 1 := by omega
  have p1 : (i : Int) ≤ (M : Int) := by omega
  have p2 : ((i : Int) + 1).toNat = i + 1 := by omega
  have p3 : ((i : Int) == (i : Int) + 1) = false := by simp; omega
  have hlen1 : i + (M + 1 - (i + 1)) = M := by omega
  have hic : i ≤ cap := by omega
  have hjc : i + 1 ≤ cap := by omega
  have hMc : M ≤ cap := by omega
  have hMne : ¬ cap = M := by omega
  have HM := Lib.hid hM
  clear hown hM
  go_enter Try.func25, Try.ntmps25
  go_wp2_with fail
  go_region_law (refine step_append_rows_room rfl (.tmp 22) (.tmp 25) 41 rfl 52 _ 3 32 Try.underlying41 info52 (by decide) g i cap ((us.take i).map U.cells) (by simp [Act.eval, Act.put]) hpre.out A (M + 1 - (i + 1)) (cap - (i + 1)) ((us.drop (i + 1)).map U.cells) (by simp [Act.eval, Act.put]) hn.out hlies.out (U.rows_one _) (U.rows_len _) hroom.out ?_; rw [hlen1]; intro w1 hown1 hgrow1)
  rw [← List.map_append] at hown1
  have hl : ((us.take i ++ us.drop (i + 1)).map U.cells).length = M := by have := HM.out; simp; omega
  obtain ⟨w2, hcl, hown2, hgrow2⟩ := run_clear_rows (P := Try.prog) w1 41 0 52 _ 3 Try.underlying41 zero52 rfl (by decide) g M cap _ hown1 1 (cap - M) (by omega) (by omega)
  have H2 := Lib.hid hown2
  have G1 := Lib.hid hgrow1
  have G2 := Lib.hid hgrow2
  have HL := Lib.hid hl
  clear hown1 hown2 hgrow1 hgrow2 hA hl
  go_wp2
  go_ret
  refine ⟨rfl, H2.out, ?_⟩
  have a := G1.out
  have b := G2.out
  exact ⟨b.os.trans a.os, b.tape.trans a.tape, b.output.trans a.output, Nat.le_trans a.size b.size, fun k hk hne => (b.block k (Nat.lt_of_lt_of_le hk a.size) hne).trans (a.block k hk hne)⟩
end Go.Proofs.Ytchiedlagdecoaa
