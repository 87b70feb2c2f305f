/-
  Rows of a call's own; the walk of named (printed by genNamed17.py).
-/
import Derived.Test.YtobjmajkcfhpoaaDoorOnce17
import Derived.Test.YtobjmajkcfhpoaaDoorFun17
namespace Go.Proofs.YtobjmajkcfhpoaaDoor
open Go.RowKit

/-- Rows of a call's own, nothing else turned. -/
structure OR (w W : World) (e : TypeId) (size : Nat) (v : Value) (rows : List (List Value)) : Prop where
  own : Owns W e size v rows
  below : Below w.heap.size w W
  fresh : ∀ g, v.ownBlock = some g → w.heap.size ≤ g
section
variable {w wr w1 w3 : World} {e : TypeId} {size : Nat} {v v3 : Value} {rows rows' : List (List Value)}
theorem OR.same (i : OR w wr e size v rows) (m1 : Below wr.heap.size wr w1) : OR w w1 e size v rows := ⟨Owns.mod i.own (Mod.of_below (F := fun _ => False) m1) (fun _ _ x => x), i.below.trans (m1.mono i.below.size), i.fresh⟩
theorem OR.next (i : OR w wr e size v rows) (o3 : Owns w3 e size v3 rows') (g3 : wr.grownBy w3 v.ownBlock) (n3 : v3.ownBlock = v.ownBlock ∨ ∃ g, v3.ownBlock = some g ∧ wr.heap.size ≤ g) : OR w w3 e size v3 rows' := by
  have hb1 := i.below
  refine ⟨o3, hb1.trans ?_, fun g e => ?_⟩
  · exact ⟨g3.os, g3.tape, g3.output, g3.size, fun k hk => g3.block k (Nat.lt_of_lt_of_le hk hb1.size) (fun e => by have := i.fresh k e.symm; omega)⟩
  · rcases n3 with h | ⟨g', h, hg⟩
    · exact i.fresh g (h ▸ e)
    · rw [h] at e; cases e
      have := hb1.size
      omega
theorem OR.nil : OR w w e size (.slice none 0 0) [] := ⟨Owns.empty _ _ _, Below.refl _ _, fun g e => by cases e⟩
theorem owns_slice (h : Owns w e size v rows) : ∃ a L c, v = .slice a L c ∧ L = rows.length := by
  obtain ⟨a, c, hv, -⟩ := h.any
  exact ⟨a, _, c, hv, rfl⟩
theorem OR.slice (h : OR w wr e size v rows) : ∃ a L c, v = .slice a L c ∧ L = rows.length := owns_slice h.own
end
/-- What a call that gathers texts answers. -/
def NamesPost (w : World) (l : List ByteArray) (e : Ending) (w' : World) : Prop := ∃ a L c, e = .returned (.slice a L c) ∧ OR w w' 9 1 (.slice a L c) (l.map sR)
theorem sR_snoc (l : List ByteArray) (s : ByteArray) : (l ++ [s]).map sR = l.map sR ++ [[.string s]] := by rw [List.map_append]; rfl
theorem take_map_snoc {α : Type} {l : List α} {k : Nat} {x : α} (h : l[k]? = some x) (f : α → ByteArray) : (l.take (k + 1)).map f = (l.take k).map f ++ [f x] := by
  rw [List.take_add_one, h, List.map_append]
  rfl
attribute [local go_sem] yld_undef
set_option maxHeartbeats 3200000 in
set_option maxRecDepth 100000 in
theorem named_co {A : Nat → Prop} {v : Value} {l : List CoP} {w : World} (hv : RIn A w 3 v (l.map CoP.row)) (hl : l.length ≤ 1073741824) :
    Calls Tryd.prog 26 #[v, .func (.func 27) #[] #[]] w (NamesPost w (l.map CoP.nm)) := by
  obtain ⟨ao, cap, rfl, -, -⟩ := hv.form
  rw [List.length_map] at hv ⊢
  have HV := Lib.hid hv
  have HN := Lib.hid (fun x W => name_co x W)
  have O0 : Hid (OR w w 9 1 (.slice none 0 0) (((l.take 0).map CoP.nm).map sR)) := Lib.hid OR.nil
  clear hv
  go_enter Tryd.func26, Tryd.ntmps26
  go_wp2_with fail
  go_loopw [5, 7, 10] (fun ov _ kv wr => ∃ (k : Nat) (uo : Option Addr) (L uc : Nat), k ≤ l.length ∧ kv = .int .i64 k ∧ ov = .slice uo L uc ∧ Hid (L = k) ∧ Hid (OR w wr 9 1 (.slice uo L uc) (((l.take k).map CoP.nm).map sR))) (fun _ _ kv _ => l.length - (intOf kv).toNat)
  case atStart => exact ⟨0, none, 0, 0, Nat.zero_le _, rfl, rfl, Lib.hid rfl, O0⟩
  case round =>
    clear O0
    obtain ⟨k, uo, L, uc, hk, rfl, rfl, HLL, HO⟩ := hrel
    by_cases hlt : k < l.length
    · have hi : (k : Int) < (l.length : Int) := by omega
      obtain ⟨hw', hw⟩ := wr_sm (x := (k : Int) + 1) (by omega) (by omega)
      obtain ⟨x, g, off, cp, hx, -, -, e, hg, -, hc⟩ := co_cells HV.out hlt
      cases e
      obtain ⟨c0, c1, c2⟩ := hc wr HO.out.below
      have HRW : Hid (((l.take (k + 1)).map CoP.nm).map sR = ((l.take k).map CoP.nm).map sR ++ [[.string x.nm]]) := Lib.hid (by rw [take_map_snoc hx, sR_snoc])
      have HRL : Hid ((((l.take k).map CoP.nm).map sR).length = k) := Lib.hid (by simp; omega)
      have HB1 := Lib.hid (below_alloc1 wr (.cells #[.string x.nm, .string x.fr, .int .i64 x.cd] 66))
      have HLT := Lib.hid hlt
      have HLB := Lib.hid hl
      clear hc hx hlt
      go_wp2_with fail
      refine (HN.out x _).mono ?_
      rintro _ w2 ⟨rfl, hb2⟩
      have O2 := Lib.hid ((HO.out.same HB1.out).same hb2)
      have B3 := Lib.hid (below_alloc1 w2 (.cells #[.string x.nm] 9))
      have O3 := Lib.hid (O2.out.same B3.out)
      have hL := Lib.hid (lies_new w2 [.string x.nm] 9 (size := 1) rfl)
      have hr1 : Hid ((((l.take k).map CoP.nm).map sR).length + ([[.string x.nm]] : List (List Value)).length ≤ maxLen) := Lib.hid (by rw [HRL.out]; have := HLT.out; have := HLB.out; unfold maxLen; simp; omega)
      have hr2 : Hid (((((l.take k).map CoP.nm).map sR).length + ([[.string x.nm]] : List (List Value)).length) * 16 ≤ 140737488355328) := Lib.hid (by rw [HRL.out]; have := HLT.out; have := HLB.out; simp; omega)
      clear hb2
      go_wp2_with (at_builtin; refine wpList_append_rows rfl (.tmp 14) (.tmp 18) 23 rfl 9 _ 1 16 Tryd.underlying23 info9 rfl (by decide) (.slice uo L uc) (((l.take k).map CoP.nm).map sR) (by rfl) O3.out.own (some ⟨w2.heap.size, 0, none⟩) 1 1 ([[.string x.nm]] : List (List Value)) (by rfl) rfl (fun e => by cases e) hL.out (by simp [Value.oneCell']) (by simp) hr1.out (by have h := hr2.out; omega) ?_; intro v3 w3 o3 g3 n3; have R7 := O3.out.next o3 g3 n3; rw [← HRW.out] at R7; obtain ⟨a8, L8, c8, hv8, hl8⟩ := R7.slice; subst hv8; have R8 := Lib.hid R7; have HL8 := Lib.hid hl8; clear o3 g3 n3 R7 hl8)
      go_roundw
      case rel => exact ⟨k + 1, _, _, _, HLT.out, by go_num, rfl, Lib.hid (by rw [HL8.out]; have := HLT.out; simp; omega), R8⟩
      case measure => have := HLT.out; simp [intOf]; omega
    · obtain rfl : k = l.length := by omega
      have HO2 : Hid (OR w wr 9 1 (.slice uo L uc) ((l.map CoP.nm).map sR)) := Lib.hid (by have := HO.out; rw [List.take_length] at this; exact this)
      go_wp2_with fail
      go_ret
      exact ⟨_, _, _, rfl, HO2.out⟩
set_option maxHeartbeats 3200000 in
set_option maxRecDepth 100000 in
theorem named_pr {A : Nat → Prop} {v : Value} {l : List PrP} {w : World} (hv : RIn A w 4 v (l.map PrP.row)) (hl : l.length ≤ 1073741824) :
    Calls Tryd.prog 29 #[v, .func (.func 30) #[] #[]] w (NamesPost w (l.map PrP.nm)) := by
  obtain ⟨ao, cap, rfl, -, -⟩ := hv.form
  rw [List.length_map] at hv ⊢
  have HV := Lib.hid hv
  have HN := Lib.hid (fun x W => name_pr x W)
  have O0 : Hid (OR w w 9 1 (.slice none 0 0) (((l.take 0).map PrP.nm).map sR)) := Lib.hid OR.nil
  clear hv
  go_enter Tryd.func29, Tryd.ntmps29
  go_wp2_with fail
  go_loopw [5, 7, 10] (fun ov _ kv wr => ∃ (k : Nat) (uo : Option Addr) (L uc : Nat), k ≤ l.length ∧ kv = .int .i64 k ∧ ov = .slice uo L uc ∧ Hid (L = k) ∧ Hid (OR w wr 9 1 (.slice uo L uc) (((l.take k).map PrP.nm).map sR))) (fun _ _ kv _ => l.length - (intOf kv).toNat)
  case atStart => exact ⟨0, none, 0, 0, Nat.zero_le _, rfl, rfl, Lib.hid rfl, O0⟩
  case round =>
    clear O0
    obtain ⟨k, uo, L, uc, hk, rfl, rfl, HLL, HO⟩ := hrel
    by_cases hlt : k < l.length
    · have hi : (k : Int) < (l.length : Int) := by omega
      obtain ⟨hw', hw⟩ := wr_sm (x := (k : Int) + 1) (by omega) (by omega)
      obtain ⟨x, g, off, cp, hx, -, -, e, hg, -, hc⟩ := pr_cells HV.out hlt
      cases e
      obtain ⟨c0, c1, c2, c3⟩ := hc wr HO.out.below
      have HRW : Hid (((l.take (k + 1)).map PrP.nm).map sR = ((l.take k).map PrP.nm).map sR ++ [[.string x.nm]]) := Lib.hid (by rw [take_map_snoc hx, sR_snoc])
      have HRL : Hid ((((l.take k).map PrP.nm).map sR).length = k) := Lib.hid (by simp; omega)
      have HB1 := Lib.hid (below_alloc1 wr (.cells #[.string x.nm, .bool x.st, .string x.fr, .int .i64 x.cd] 45))
      have HLT := Lib.hid hlt
      have HLB := Lib.hid hl
      clear hc hx hlt
      go_wp2_with fail
      refine (HN.out x _).mono ?_
      rintro _ w2 ⟨rfl, hb2⟩
      have O2 := Lib.hid ((HO.out.same HB1.out).same hb2)
      have B3 := Lib.hid (below_alloc1 w2 (.cells #[.string x.nm] 9))
      have O3 := Lib.hid (O2.out.same B3.out)
      have hL := Lib.hid (lies_new w2 [.string x.nm] 9 (size := 1) rfl)
      have hr1 : Hid ((((l.take k).map PrP.nm).map sR).length + ([[.string x.nm]] : List (List Value)).length ≤ maxLen) := Lib.hid (by rw [HRL.out]; have := HLT.out; have := HLB.out; unfold maxLen; simp; omega)
      have hr2 : Hid (((((l.take k).map PrP.nm).map sR).length + ([[.string x.nm]] : List (List Value)).length) * 16 ≤ 140737488355328) := Lib.hid (by rw [HRL.out]; have := HLT.out; have := HLB.out; simp; omega)
      clear hb2
      go_wp2_with (at_builtin; refine wpList_append_rows rfl (.tmp 14) (.tmp 18) 23 rfl 9 _ 1 16 Tryd.underlying23 info9 rfl (by decide) (.slice uo L uc) (((l.take k).map PrP.nm).map sR) (by rfl) O3.out.own (some ⟨w2.heap.size, 0, none⟩) 1 1 ([[.string x.nm]] : List (List Value)) (by rfl) rfl (fun e => by cases e) hL.out (by simp [Value.oneCell']) (by simp) hr1.out (by have h := hr2.out; omega) ?_; intro v3 w3 o3 g3 n3; have R7 := O3.out.next o3 g3 n3; rw [← HRW.out] at R7; obtain ⟨a8, L8, c8, hv8, hl8⟩ := R7.slice; subst hv8; have R8 := Lib.hid R7; have HL8 := Lib.hid hl8; clear o3 g3 n3 R7 hl8)
      go_roundw
      case rel => exact ⟨k + 1, _, _, _, HLT.out, by go_num, rfl, Lib.hid (by rw [HL8.out]; have := HLT.out; simp; omega), R8⟩
      case measure => have := HLT.out; simp [intOf]; omega
    · obtain rfl : k = l.length := by omega
      have HO2 : Hid (OR w wr 9 1 (.slice uo L uc) ((l.map PrP.nm).map sR)) := Lib.hid (by have := HO.out; rw [List.take_length] at this; exact this)
      go_wp2_with fail
      go_ret
      exact ⟨_, _, _, rfl, HO2.out⟩
set_option maxHeartbeats 3200000 in
set_option maxRecDepth 100000 in
theorem named_mt {A : Nat → Prop} {v : Value} {l : List MtP} {w : World} (hv : RIn A w 6 v (l.map MtP.row)) (hl : l.length ≤ 1073741824) :
    Calls Tryd.prog 31 #[v, .func (.func 21) #[] #[]] w (NamesPost w (l.map MtP.nm)) := by
  obtain ⟨ao, cap, rfl, -, -⟩ := hv.form
  rw [List.length_map] at hv ⊢
  have HV := Lib.hid hv
  have HN := Lib.hid (fun x W => name_mt x W)
  have O0 : Hid (OR w w 9 1 (.slice none 0 0) (((l.take 0).map MtP.nm).map sR)) := Lib.hid OR.nil
  clear hv
  go_enter Tryd.func31, Tryd.ntmps31
  go_wp2_with fail
  go_loopw [5, 7, 10] (fun ov _ kv wr => ∃ (k : Nat) (uo : Option Addr) (L uc : Nat), k ≤ l.length ∧ kv = .int .i64 k ∧ ov = .slice uo L uc ∧ Hid (L = k) ∧ Hid (OR w wr 9 1 (.slice uo L uc) (((l.take k).map MtP.nm).map sR))) (fun _ _ kv _ => l.length - (intOf kv).toNat)
  case atStart => exact ⟨0, none, 0, 0, Nat.zero_le _, rfl, rfl, Lib.hid rfl, O0⟩
  case round =>
    clear O0
    obtain ⟨k, uo, L, uc, hk, rfl, rfl, HLL, HO⟩ := hrel
    by_cases hlt : k < l.length
    · have hi : (k : Int) < (l.length : Int) := by omega
      obtain ⟨hw', hw⟩ := wr_sm (x := (k : Int) + 1) (by omega) (by omega)
      obtain ⟨x, g, off, cp, hx, -, -, e, hg, -, hc⟩ := mt_cells HV.out hlt
      cases e
      obtain ⟨c0, c1, c2, c3, c4, c5⟩ := hc wr HO.out.below
      have HRW : Hid (((l.take (k + 1)).map MtP.nm).map sR = ((l.take k).map MtP.nm).map sR ++ [[.string x.nm]]) := Lib.hid (by rw [take_map_snoc hx, sR_snoc])
      have HRL : Hid ((((l.take k).map MtP.nm).map sR).length = k) := Lib.hid (by simp; omega)
      have HB1 := Lib.hid (below_alloc1 wr (.cells #[.string x.nm, .bool x.st, .bool x.ab, .bool x.fi, .string x.fr, .int .i64 x.cd] 34))
      have HLT := Lib.hid hlt
      have HLB := Lib.hid hl
      clear hc hx hlt
      go_wp2_with fail
      refine (HN.out x _).mono ?_
      rintro _ w2 ⟨rfl, hb2⟩
      have O2 := Lib.hid ((HO.out.same HB1.out).same hb2)
      have B3 := Lib.hid (below_alloc1 w2 (.cells #[.string x.nm] 9))
      have O3 := Lib.hid (O2.out.same B3.out)
      have hL := Lib.hid (lies_new w2 [.string x.nm] 9 (size := 1) rfl)
      have hr1 : Hid ((((l.take k).map MtP.nm).map sR).length + ([[.string x.nm]] : List (List Value)).length ≤ maxLen) := Lib.hid (by rw [HRL.out]; have := HLT.out; have := HLB.out; unfold maxLen; simp; omega)
      have hr2 : Hid (((((l.take k).map MtP.nm).map sR).length + ([[.string x.nm]] : List (List Value)).length) * 16 ≤ 140737488355328) := Lib.hid (by rw [HRL.out]; have := HLT.out; have := HLB.out; simp; omega)
      clear hb2
      go_wp2_with (at_builtin; refine wpList_append_rows rfl (.tmp 14) (.tmp 18) 23 rfl 9 _ 1 16 Tryd.underlying23 info9 rfl (by decide) (.slice uo L uc) (((l.take k).map MtP.nm).map sR) (by rfl) O3.out.own (some ⟨w2.heap.size, 0, none⟩) 1 1 ([[.string x.nm]] : List (List Value)) (by rfl) rfl (fun e => by cases e) hL.out (by simp [Value.oneCell']) (by simp) hr1.out (by have h := hr2.out; omega) ?_; intro v3 w3 o3 g3 n3; have R7 := O3.out.next o3 g3 n3; rw [← HRW.out] at R7; obtain ⟨a8, L8, c8, hv8, hl8⟩ := R7.slice; subst hv8; have R8 := Lib.hid R7; have HL8 := Lib.hid hl8; clear o3 g3 n3 R7 hl8)
      go_roundw
      case rel => exact ⟨k + 1, _, _, _, HLT.out, by go_num, rfl, Lib.hid (by rw [HL8.out]; have := HLT.out; simp; omega), R8⟩
      case measure => have := HLT.out; simp [intOf]; omega
    · obtain rfl : k = l.length := by omega
      have HO2 : Hid (OR w wr 9 1 (.slice uo L uc) ((l.map MtP.nm).map sR)) := Lib.hid (by have := HO.out; rw [List.take_length] at this; exact this)
      go_wp2_with fail
      go_ret
      exact ⟨_, _, _, rfl, HO2.out⟩
end Go.Proofs.YtobjmajkcfhpoaaDoor
