/-
  The walks of slices.Index, Contains, Clone (printed by genSeq17.py).
-/
import Derived.Test.YtobjmajkcfhpoaaDoorCells17
import Derived.Lib.LazyBuf
namespace Go.Proofs.YtobjmajkcfhpoaaDoor
open Go.RowKit

set_option maxHeartbeats 1600000 in
set_option maxRecDepth 100000 in
theorem index_any {A : Nat → Prop} {v : Value} {l : List ByteArray} {w : World} (s : ByteArray) (hv : RIn A w 1 v (l.map sR)) (hl : l.length ≤ 1073741824) :
    Calls Tryd.prog 54 #[v, .string s] w (fun e w' => e = .returned (.int .i64 (idxI (idxP (eqB s) l))) ∧ w' = w) := by
  obtain ⟨ao, cap, rfl, -, -⟩ := hv.form
  rw [List.length_map] at hv ⊢
  have HV := Lib.hid hv
  obtain ⟨r, hr⟩ : ∃ r, r = idxI (idxP (eqB s) l) := ⟨_, rfl⟩
  rw [← hr]
  have HR := Lib.hid hr
  clear hv hr
  go_enter Tryd.func54, Tryd.ntmps54
  go_wp2_with fail
  go_loopw [5, 8] (fun _ kv wr => ∃ k : Nat, k ≤ l.length ∧ kv = .int .i64 k ∧ wr = w ∧ Hid (∀ j (hj : j < l.length), j < k → eqB s l[j] = false)) (fun _ kv _ => l.length - (intOf kv).toNat)
  case atStart => exact ⟨0, Nat.zero_le _, rfl, rfl, Lib.hid (fun j _ h => absurd h (Nat.not_lt_zero j))⟩
  case round =>
    obtain ⟨k, hk, rfl, rfl, HA⟩ := hrel
    by_cases hlt : k < l.length
    · have hi : (k : Int) < (l.length : Int) := by omega
      obtain ⟨hw', hw⟩ := wr_sm (x := (k : Int) + 1) (by omega) (by omega)
      obtain ⟨x, g, off, cp, -, -, hx, e, hg, -, hc⟩ := s_cells HV.out hlt
      cases e
      have c0 := hc wr (Below.refl _ _)
      obtain ⟨q, hq⟩ : ∃ q, (s.toList == x.toList) = q := ⟨_, rfl⟩
      have HQ : Hid (eqB s l[k] = q) := Lib.hid (by rw [← hx]; exact hq)
      have HLT := Lib.hid hlt
      clear hc hx
      cases q with
      | true =>
        have hre : r = (k : Int) := by rw [HR.out, idxP_at HLT.out HQ.out HA.out]; rfl
        subst hre
        go_wp2_with fail
        go_ret
        exact ⟨rfl, rfl⟩
      | false =>
        have HA2 : Hid (∀ j (hj : j < l.length), j < k + 1 → eqB s l[j] = false) := Lib.hid (fun j hj h => by
          rcases Nat.lt_succ_iff_lt_or_eq.1 h with h' | rfl
          · exact HA.out j hj h'
          · exact HQ.out)
        go_wp2_with fail
        go_roundw
        case rel => exact ⟨k + 1, HLT.out, by go_num, by trivial, HA2⟩
        case measure => have := HLT.out; simp [intOf]; omega
    · obtain rfl : k = l.length := by omega
      have hre : r = -1 := by rw [HR.out, idxP_no (fun j hj => HA.out j hj hj)]; rfl
      subst hre
      go_wp2_with fail
      go_ret
      exact ⟨rfl, rfl⟩
set_option maxHeartbeats 1600000 in
set_option maxRecDepth 100000 in
theorem contains_any {A : Nat → Prop} {v : Value} {l : List ByteArray} {w : World} (s : ByteArray) (hv : RIn A w 1 v (l.map sR)) (hl : l.length ≤ 1073741824) :
    Calls Tryd.prog 22 #[v, .string s] w (fun e w' => e = .returned (.bool (hasB l s)) ∧ w' = w) := by
  obtain ⟨ao, cap, rfl, -, -⟩ := hv.form
  rw [List.length_map] at hv ⊢
  have HI := index_any s hv hl
  have hd := idxI_nonneg (idxP (eqB s) l)
  rw [idxP_isSome] at hd
  have hd : decide (0 ≤ idxI (idxP (eqB s) l)) = hasB l s := hd
  obtain ⟨r, hr⟩ : ∃ r, r = idxI (idxP (eqB s) l) := ⟨_, rfl⟩
  obtain ⟨b, hb⟩ : ∃ b, b = hasB l s := ⟨_, rfl⟩
  rw [← hr] at HI hd
  rw [← hb] at hd ⊢
  clear hr hb
  clear hv
  go_enter Tryd.func22, Tryd.ntmps22
  go_wp2_with fail
  refine HI.mono ?_
  rintro _ _ ⟨rfl, rfl⟩
  go_wp2_with fail
  go_ret
  exact ⟨rfl, rfl⟩
/-- What Clone gives. -/
def ClonePost (w : World) (e0 : TypeId) (size : Nat) (rows : List (List Value)) (e : Ending) (w' : World) : Prop :=
  ∃ v', e = .returned v' ∧ Owns w' e0 size v' rows ∧ Below w.heap.size w w' ∧ ∀ g, v'.ownBlock = some g → w.heap.size ≤ g
theorem owns_none (w : World) (t : TypeId) (size : Nat) : Owns (w.alloc (.cells #[] t)) t size (.slice (some ⟨w.heap.size, 0, none⟩) 0 0) [] :=
  ⟨⟨by simp, .inr ⟨w.heap.size, 0, #[], by simp, by omega, heap_alloc_new w _, by simp, by simp, by simp, by simp⟩⟩, by simp, by simp⟩
set_option maxRecDepth 100000 in
theorem clone_s_nil (w : World) : Calls Tryd.prog 15 #[.slice none 0 0] w fun e w' => e = .returned (.slice none 0 0) ∧ w = w' := by
  have e1 : (binOp .eql 23 (.slice none 0 0) (.slice none 0 0)).run Tryd.prog w = .ok (.bool true) w := run_eql_slice_nil w 23 9 none 0 0 Tryd.underlying23
  go_enter Tryd.func15, Tryd.ntmps15
  go_wp2
  go_ret
  exact ⟨rfl, rfl⟩
set_option maxRecDepth 100000 in
set_option maxHeartbeats 800000 in
theorem clone_s {A : Nat → Prop} {v : Value} {l : List ByteArray} {w : World} (hv : RIn A w 1 v (l.map sR)) (hl : l.length ≤ 1073741824) : Calls Tryd.prog 15 #[v] w (ClonePost w 9 1 (l.map sR)) := by
  obtain ⟨ao, cap, rfl, hn, hlies⟩ := hv.form
  cases ao with
  | none =>
    obtain ⟨h0, rfl⟩ := hn rfl
    rw [h0]
    refine (clone_s_nil w).mono ?_
    rintro e w' ⟨rfl, rfl⟩
    exact ⟨_, rfl, Owns.empty _ _ _, Below.refl _ _, by simp [Value.ownBlock]⟩
  | some ad =>
    have e1 : (binOp .eql 23 (.slice (some ad) l.length cap) (.slice none 0 0)).run Tryd.prog w = .ok (.bool false) w := run_eql_slice_nil w 23 9 _ _ _ Tryd.underlying23
    rw [List.length_map]
    have hn2 : Hid (l.length = (l.map sR).length) := Lib.hid (List.length_map _).symm
    have hO := Lib.hid (owns_none w 9 1)
    have hL : Hid (Lies (w.alloc (.cells #[] 9)) 1 (some ad) (l.map sR)) := hlies.kept fun g' off e hg => ⟨Below.heap_alloc _ _ _ hg, by simp; omega⟩
    have hr1 : Hid (([] : List (List Value)).length + (l.map sR).length ≤ maxLen) := by show _ ≤ _; unfold maxLen; simp; omega
    have hr2 : Hid ((([] : List (List Value)).length + (l.map sR).length) * 16 ≤ 140737488355328) := by show _ ≤ _; simp; omega
    clear hlies hv hn
    go_enter Tryd.func15, Tryd.ntmps15
    go_wp2_with (at_builtin; refine wpList_append_rows rfl (.tmp 5) (.tmp 6) 23 rfl 9 _ 1 16 Tryd.underlying23 info9 rfl (by decide) (.slice (some ⟨w.heap.size, 0, none⟩) 0 0) [] rfl hO.out (some ad) l.length cap (l.map sR) rfl hn2.out (fun e => by cases e) hL.out (sR_one _) (sR_len _) hr1.out (by have h := hr2.out; omega) ?_; intro v3 w3 o3 g3 b3; have O3 := Lib.hid o3; have G3 := Lib.hid g3; have B3 := Lib.hid b3; clear o3 g3 b3)
    have o3 := O3.out
    rw [List.nil_append] at o3
    go_ret
    refine ⟨v3, rfl, o3, ?_, fun k hk => ?_⟩
    · have hm : Mod (fun k => w.heap.size ≤ k) w w3 := ((Mod.refl _ w).alloc _).grown G3.out (fun k e hk => by simp [Value.ownBlock] at e; omega)
      exact ⟨hm.os, hm.tape, hm.output, hm.size, fun k hk => hm.block k hk (by omega)⟩
    · rcases B3.out with e | ⟨j, e, hj⟩
      · rw [e] at hk; simp [Value.ownBlock] at hk; omega
      · rw [e] at hk; cases hk; simp at hj; omega
set_option maxRecDepth 100000 in
theorem clone_co_nil (w : World) : Calls Tryd.prog 44 #[.slice none 0 0] w fun e w' => e = .returned (.slice none 0 0) ∧ w = w' := by
  have e1 : (binOp .eql 25 (.slice none 0 0) (.slice none 0 0)).run Tryd.prog w = .ok (.bool true) w := run_eql_slice_nil w 25 66 none 0 0 Tryd.underlying25
  go_enter Tryd.func44, Tryd.ntmps44
  go_wp2
  go_ret
  exact ⟨rfl, rfl⟩
set_option maxRecDepth 100000 in
set_option maxHeartbeats 800000 in
theorem clone_co {A : Nat → Prop} {v : Value} {l : List CoP} {w : World} (hv : RIn A w 3 v (l.map CoP.row)) (hl : l.length ≤ 1073741824) : Calls Tryd.prog 44 #[v] w (ClonePost w 66 3 (l.map CoP.row)) := by
  obtain ⟨ao, cap, rfl, hn, hlies⟩ := hv.form
  cases ao with
  | none =>
    obtain ⟨h0, rfl⟩ := hn rfl
    rw [h0]
    refine (clone_co_nil w).mono ?_
    rintro e w' ⟨rfl, rfl⟩
    exact ⟨_, rfl, Owns.empty _ _ _, Below.refl _ _, by simp [Value.ownBlock]⟩
  | some ad =>
    have e1 : (binOp .eql 25 (.slice (some ad) l.length cap) (.slice none 0 0)).run Tryd.prog w = .ok (.bool false) w := run_eql_slice_nil w 25 66 _ _ _ Tryd.underlying25
    rw [List.length_map]
    have hn2 : Hid (l.length = (l.map CoP.row).length) := Lib.hid (List.length_map _).symm
    have hO := Lib.hid (owns_none w 66 3)
    have hL : Hid (Lies (w.alloc (.cells #[] 66)) 3 (some ad) (l.map CoP.row)) := hlies.kept fun g' off e hg => ⟨Below.heap_alloc _ _ _ hg, by simp; omega⟩
    have hr1 : Hid (([] : List (List Value)).length + (l.map CoP.row).length ≤ maxLen) := by show _ ≤ _; unfold maxLen; simp; omega
    have hr2 : Hid ((([] : List (List Value)).length + (l.map CoP.row).length) * 40 ≤ 140737488355328) := by show _ ≤ _; simp; omega
    clear hlies hv hn
    go_enter Tryd.func44, Tryd.ntmps44
    go_wp2_with (at_builtin; refine wpList_append_rows rfl (.tmp 5) (.tmp 6) 25 rfl 66 _ 3 40 Tryd.underlying25 info66 rfl (by decide) (.slice (some ⟨w.heap.size, 0, none⟩) 0 0) [] rfl hO.out (some ad) l.length cap (l.map CoP.row) rfl hn2.out (fun e => by cases e) hL.out (co_one _) (co_len _) hr1.out (by have h := hr2.out; omega) ?_; intro v3 w3 o3 g3 b3; have O3 := Lib.hid o3; have G3 := Lib.hid g3; have B3 := Lib.hid b3; clear o3 g3 b3)
    have o3 := O3.out
    rw [List.nil_append] at o3
    go_ret
    refine ⟨v3, rfl, o3, ?_, fun k hk => ?_⟩
    · have hm : Mod (fun k => w.heap.size ≤ k) w w3 := ((Mod.refl _ w).alloc _).grown G3.out (fun k e hk => by simp [Value.ownBlock] at e; omega)
      exact ⟨hm.os, hm.tape, hm.output, hm.size, fun k hk => hm.block k hk (by omega)⟩
    · rcases B3.out with e | ⟨j, e, hj⟩
      · rw [e] at hk; simp [Value.ownBlock] at hk; omega
      · rw [e] at hk; cases hk; simp at hj; omega
set_option maxRecDepth 100000 in
theorem clone_pr_nil (w : World) : Calls Tryd.prog 46 #[.slice none 0 0] w fun e w' => e = .returned (.slice none 0 0) ∧ w = w' := by
  have e1 : (binOp .eql 26 (.slice none 0 0) (.slice none 0 0)).run Tryd.prog w = .ok (.bool true) w := run_eql_slice_nil w 26 45 none 0 0 Tryd.underlying26
  go_enter Tryd.func46, Tryd.ntmps46
  go_wp2
  go_ret
  exact ⟨rfl, rfl⟩
set_option maxRecDepth 100000 in
set_option maxHeartbeats 800000 in
theorem clone_pr {A : Nat → Prop} {v : Value} {l : List PrP} {w : World} (hv : RIn A w 4 v (l.map PrP.row)) (hl : l.length ≤ 1073741824) : Calls Tryd.prog 46 #[v] w (ClonePost w 45 4 (l.map PrP.row)) := by
  obtain ⟨ao, cap, rfl, hn, hlies⟩ := hv.form
  cases ao with
  | none =>
    obtain ⟨h0, rfl⟩ := hn rfl
    rw [h0]
    refine (clone_pr_nil w).mono ?_
    rintro e w' ⟨rfl, rfl⟩
    exact ⟨_, rfl, Owns.empty _ _ _, Below.refl _ _, by simp [Value.ownBlock]⟩
  | some ad =>
    have e1 : (binOp .eql 26 (.slice (some ad) l.length cap) (.slice none 0 0)).run Tryd.prog w = .ok (.bool false) w := run_eql_slice_nil w 26 45 _ _ _ Tryd.underlying26
    rw [List.length_map]
    have hn2 : Hid (l.length = (l.map PrP.row).length) := Lib.hid (List.length_map _).symm
    have hO := Lib.hid (owns_none w 45 4)
    have hL : Hid (Lies (w.alloc (.cells #[] 45)) 4 (some ad) (l.map PrP.row)) := hlies.kept fun g' off e hg => ⟨Below.heap_alloc _ _ _ hg, by simp; omega⟩
    have hr1 : Hid (([] : List (List Value)).length + (l.map PrP.row).length ≤ maxLen) := by show _ ≤ _; unfold maxLen; simp; omega
    have hr2 : Hid ((([] : List (List Value)).length + (l.map PrP.row).length) * 48 ≤ 140737488355328) := by show _ ≤ _; simp; omega
    clear hlies hv hn
    go_enter Tryd.func46, Tryd.ntmps46
    go_wp2_with (at_builtin; refine wpList_append_rows rfl (.tmp 5) (.tmp 6) 26 rfl 45 _ 4 48 Tryd.underlying26 info45 rfl (by decide) (.slice (some ⟨w.heap.size, 0, none⟩) 0 0) [] rfl hO.out (some ad) l.length cap (l.map PrP.row) rfl hn2.out (fun e => by cases e) hL.out (pr_one _) (pr_len _) hr1.out (by have h := hr2.out; omega) ?_; intro v3 w3 o3 g3 b3; have O3 := Lib.hid o3; have G3 := Lib.hid g3; have B3 := Lib.hid b3; clear o3 g3 b3)
    have o3 := O3.out
    rw [List.nil_append] at o3
    go_ret
    refine ⟨v3, rfl, o3, ?_, fun k hk => ?_⟩
    · have hm : Mod (fun k => w.heap.size ≤ k) w w3 := ((Mod.refl _ w).alloc _).grown G3.out (fun k e hk => by simp [Value.ownBlock] at e; omega)
      exact ⟨hm.os, hm.tape, hm.output, hm.size, fun k hk => hm.block k hk (by omega)⟩
    · rcases B3.out with e | ⟨j, e, hj⟩
      · rw [e] at hk; simp [Value.ownBlock] at hk; omega
      · rw [e] at hk; cases hk; simp at hj; omega
set_option maxRecDepth 100000 in
theorem clone_mt_nil (w : World) : Calls Tryd.prog 48 #[.slice none 0 0] w fun e w' => e = .returned (.slice none 0 0) ∧ w = w' := by
  have e1 : (binOp .eql 27 (.slice none 0 0) (.slice none 0 0)).run Tryd.prog w = .ok (.bool true) w := run_eql_slice_nil w 27 34 none 0 0 Tryd.underlying27
  go_enter Tryd.func48, Tryd.ntmps48
  go_wp2
  go_ret
  exact ⟨rfl, rfl⟩
set_option maxRecDepth 100000 in
set_option maxHeartbeats 800000 in
theorem clone_mt {A : Nat → Prop} {v : Value} {l : List MtP} {w : World} (hv : RIn A w 6 v (l.map MtP.row)) (hl : l.length ≤ 1073741824) : Calls Tryd.prog 48 #[v] w (ClonePost w 34 6 (l.map MtP.row)) := by
  obtain ⟨ao, cap, rfl, hn, hlies⟩ := hv.form
  cases ao with
  | none =>
    obtain ⟨h0, rfl⟩ := hn rfl
    rw [h0]
    refine (clone_mt_nil w).mono ?_
    rintro e w' ⟨rfl, rfl⟩
    exact ⟨_, rfl, Owns.empty _ _ _, Below.refl _ _, by simp [Value.ownBlock]⟩
  | some ad =>
    have e1 : (binOp .eql 27 (.slice (some ad) l.length cap) (.slice none 0 0)).run Tryd.prog w = .ok (.bool false) w := run_eql_slice_nil w 27 34 _ _ _ Tryd.underlying27
    rw [List.length_map]
    have hn2 : Hid (l.length = (l.map MtP.row).length) := Lib.hid (List.length_map _).symm
    have hO := Lib.hid (owns_none w 34 6)
    have hL : Hid (Lies (w.alloc (.cells #[] 34)) 6 (some ad) (l.map MtP.row)) := hlies.kept fun g' off e hg => ⟨Below.heap_alloc _ _ _ hg, by simp; omega⟩
    have hr1 : Hid (([] : List (List Value)).length + (l.map MtP.row).length ≤ maxLen) := by show _ ≤ _; unfold maxLen; simp; omega
    have hr2 : Hid ((([] : List (List Value)).length + (l.map MtP.row).length) * 48 ≤ 140737488355328) := by show _ ≤ _; simp; omega
    clear hlies hv hn
    go_enter Tryd.func48, Tryd.ntmps48
    go_wp2_with (at_builtin; refine wpList_append_rows rfl (.tmp 5) (.tmp 6) 27 rfl 34 _ 6 48 Tryd.underlying27 info34 rfl (by decide) (.slice (some ⟨w.heap.size, 0, none⟩) 0 0) [] rfl hO.out (some ad) l.length cap (l.map MtP.row) rfl hn2.out (fun e => by cases e) hL.out (mt_one _) (mt_len _) hr1.out (by have h := hr2.out; omega) ?_; intro v3 w3 o3 g3 b3; have O3 := Lib.hid o3; have G3 := Lib.hid g3; have B3 := Lib.hid b3; clear o3 g3 b3)
    have o3 := O3.out
    rw [List.nil_append] at o3
    go_ret
    refine ⟨v3, rfl, o3, ?_, fun k hk => ?_⟩
    · have hm : Mod (fun k => w.heap.size ≤ k) w w3 := ((Mod.refl _ w).alloc _).grown G3.out (fun k e hk => by simp [Value.ownBlock] at e; omega)
      exact ⟨hm.os, hm.tape, hm.output, hm.size, fun k hk => hm.block k hk (by omega)⟩
    · rcases B3.out with e | ⟨j, e, hj⟩
      · rw [e] at hk; simp [Value.ownBlock] at hk; omega
      · rw [e] at hk; cases hk; simp at hj; omega
end Go.Proofs.YtobjmajkcfhpoaaDoor
