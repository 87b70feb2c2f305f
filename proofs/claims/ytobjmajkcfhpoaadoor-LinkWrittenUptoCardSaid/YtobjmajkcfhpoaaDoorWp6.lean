/-
  Rows of a call's own; the walk of named (printed by genNamed17.py).
  The walk of adapt, and of ContainsFunc over rules (printed by genAdapt17.py).
-/
import Derived.Test.YtobjmajkcfhpoaaDoorWp4
import Derived.Test.YtobjmajkcfhpoaaDoorWp5
namespace Go.Proofs.YtobjmajkcfhpoaaDoor
open Go.RowKit
structure OR (w W : World) (e : TypeId) (size : Nat) (v : Value) (rows : List (List Value)) : Prop where
 own : Owns W e size v rows
 below : Below w.heap.size w W
 fresh : ∀ g, v.ownBlock = some g → w.heap.size ≤ g
section
variable {w wr w1 w3 : World} {e : TypeId} {size : Nat} {v v3 : Value} {rows rows' : List (List Value)}
theorem OR.same (i : OR w wr e size v rows) (m1 : Below wr.heap.size wr w1) : OR w w1 e size v rows := ⟨Owns.mod i.own (Mod.of_below (F := fun _ => False) m1) (fun _ _ x => x), i.below.trans (m1.mono i.below.size), i.fresh⟩
theorem OR.next (i : OR w wr e size v rows) (o3 : Owns w3 e size v3 rows') (g3 : wr.grownBy w3 v.ownBlock) (n3 : v3.ownBlock = v.ownBlock ∨ ∃ g, v3.ownBlock = some g ∧ wr.heap.size ≤ g) : OR w w3 e size v3 rows' := by
 have hb1 := i.below; refine ⟨o3, hb1.trans ?_, fun g e => ?_⟩
 ·exact ⟨g3.os, g3.tape, g3.output, g3.size, fun k hk => g3.block k (Nat.lt_of_lt_of_le hk hb1.size) (fun e => by have := i.fresh k e.symm; omega)⟩
 ·rcases n3 with h | ⟨g', h, hg⟩
  ·exact i.fresh g (h ▸ e)
  ·rw [h] at e; cases e; have := hb1.size; omega
theorem OR.nil : OR w w e size (.slice none 0 0) [] := ⟨Owns.empty _ _ _, Below.refl _ _, fun g e => by cases e⟩
theorem owns_slice (h : Owns w e size v rows) : ∃ a L c, v = .slice a L c ∧ L = rows.length := by
 obtain ⟨a, c, hv, -⟩ := h.any; exact ⟨a, _, c, hv, rfl⟩
theorem OR.slice (h : OR w wr e size v rows) : ∃ a L c, v = .slice a L c ∧ L = rows.length := owns_slice h.own
end
def NamesPost (w : World) (l : List ByteArray) (e : Ending) (w' : World) : Prop := ∃ a L c, e = .returned (.slice a L c) ∧ OR w w' 9 1 (.slice a L c) (l.map sR)
theorem sR_snoc (l : List ByteArray) (s : ByteArray) : (l ++ [s]).map sR = l.map sR ++ [[.string s]] := by rw [List.map_append]; rfl
theorem take_map_snoc {α : Type} {l : List α} {k : Nat} {x : α} (h : l[k]? = some x) (f : α → ByteArray) : (l.take (k + 1)).map f = (l.take k).map f ++ [f x] := by
 rw [List.take_add_one, h, List.map_append]; rfl
attribute [local go_sem] yld_undef
set_option maxHeartbeats 3200000 in
set_option maxRecDepth 100000 in
theorem named_co {A : Nat → Prop} {v : Value} {l : List CoP} {w : World} (hv : RIn A w 3 v (l.map CoP.row)) (hl : l.length ≤ 1073741824) :
  Calls Tryd.prog 26 #[v, .func (.func 27) #[] #[]] w (NamesPost w (l.map CoP.nm)) := by
 obtain ⟨ao, cap, rfl, -, -⟩ := hv.form; rw [List.length_map] at hv ⊢; have HV := Hd hv; have HN := Hd (fun x W => name_co x W); have O0 : Hid (OR w w 9 1 (.slice none 0 0) (((l.take 0).map CoP.nm).map sR)) := Hd OR.nil; clear hv; go_enter Tryd.func26, Tryd.ntmps26; go_wp2_with fail; go_loopw [5, 7, 10] (fun ov _ kv wr => ∃ (k : Nat) (uo : Option Addr) (L uc : Nat), k ≤ l.length ∧ kv = .int .i64 k ∧ ov = .slice uo L uc ∧ Hid (L = k) ∧ Hid (OR w wr 9 1 (.slice uo L uc) (((l.take k).map CoP.nm).map sR))) (fun _ _ kv _ => l.length - (intOf kv).toNat)
 case atStart => exact ⟨0, none, 0, 0, Nat.zero_le _, rfl, rfl, Hd rfl, O0⟩
 case round =>
  clear O0; obtain ⟨k, uo, L, uc, hk, rfl, rfl, HLL, HO⟩ := hrel; by_cases hlt : k < l.length
  ·have hi : (k : Int) < (l.length : Int) := by omega
   obtain ⟨hw', hw⟩ := wr_sm (x := (k : Int) + 1) (by omega) (by omega); obtain ⟨x, g, off, cp, hx, -, -, e, hg, -, hc⟩ := co_cells HV.out hlt; cases e; obtain ⟨c0, c1, c2⟩ := hc wr HO.out.below; have HRW : Hid (((l.take (k + 1)).map CoP.nm).map sR = ((l.take k).map CoP.nm).map sR ++ [[.string x.nm]]) := Hd (by rw [take_map_snoc hx, sR_snoc]); have HRL : Hid ((((l.take k).map CoP.nm).map sR).length = k) := Hd (by simp; omega); have HB1 := Hd (below_alloc1 wr (.cells #[.string x.nm, .string x.fr, .int .i64 x.cd] 66)); have HLT := Hd hlt; have HLB := Hd hl; clear hc hx hlt; go_wp2_with fail; refine (HN.out x _).mono ?_; rintro _ w2 ⟨rfl, hb2⟩; have O2 := Hd ((HO.out.same HB1.out).same hb2); have B3 := Hd (below_alloc1 w2 (.cells #[.string x.nm] 9)); have O3 := Hd (O2.out.same B3.out); have hL := Hd (lies_new w2 [.string x.nm] 9 (size := 1) rfl); have hr1 : Hid ((((l.take k).map CoP.nm).map sR).length + ([[.string x.nm]] : List (List Value)).length ≤ maxLen) := Hd (by rw [HRL.out]; have := HLT.out; have := HLB.out; unfold maxLen; simp; omega); have hr2 : Hid (((((l.take k).map CoP.nm).map sR).length + ([[.string x.nm]] : List (List Value)).length) * 16 ≤ 140737488355328) := Hd (by rw [HRL.out]; have := HLT.out; have := HLB.out; simp; omega); clear hb2; go_wp2_with (at_builtin; refine wpList_append_rows rfl (.tmp 14) (.tmp 18) 23 rfl 9 _ 1 16 Tryd.underlying23 info9 rfl (by decide) (.slice uo L uc) (((l.take k).map CoP.nm).map sR) (by rfl) O3.out.own (some ⟨w2.heap.size, 0, none⟩) 1 1 ([[.string x.nm]] : List (List Value)) (by rfl) rfl (fun e => by cases e) hL.out (by simp [Value.oneCell']) (by simp) hr1.out (by have h := hr2.out; omega) ?_; intro v3 w3 o3 g3 n3; have R7 := O3.out.next o3 g3 n3; rw [← HRW.out] at R7; obtain ⟨a8, L8, c8, hv8, hl8⟩ := R7.slice; subst hv8; have R8 := Hd R7; have HL8 := Hd hl8; clear o3 g3 n3 R7 hl8)
   go_roundw
   case rel => exact ⟨k + 1, _, _, _, HLT.out, by go_num, rfl, Hd (by rw [HL8.out]; have := HLT.out; simp; omega), R8⟩
   case measure => have := HLT.out; simp [intOf]; omega
  ·obtain rfl : k = l.length := by omega
   have HO2 : Hid (OR w wr 9 1 (.slice uo L uc) ((l.map CoP.nm).map sR)) := Hd (by have := HO.out; rw [List.take_length] at this; exact this); go_wp2_with fail; go_ret; exact ⟨_, _, _, rfl, HO2.out⟩
set_option maxHeartbeats 3200000 in
set_option maxRecDepth 100000 in
theorem named_pr {A : Nat → Prop} {v : Value} {l : List PrP} {w : World} (hv : RIn A w 4 v (l.map PrP.row)) (hl : l.length ≤ 1073741824) :
  Calls Tryd.prog 29 #[v, .func (.func 30) #[] #[]] w (NamesPost w (l.map PrP.nm)) := by
 obtain ⟨ao, cap, rfl, -, -⟩ := hv.form; rw [List.length_map] at hv ⊢; have HV := Hd hv; have HN := Hd (fun x W => name_pr x W); have O0 : Hid (OR w w 9 1 (.slice none 0 0) (((l.take 0).map PrP.nm).map sR)) := Hd OR.nil; clear hv; go_enter Tryd.func29, Tryd.ntmps29; go_wp2_with fail; go_loopw [5, 7, 10] (fun ov _ kv wr => ∃ (k : Nat) (uo : Option Addr) (L uc : Nat), k ≤ l.length ∧ kv = .int .i64 k ∧ ov = .slice uo L uc ∧ Hid (L = k) ∧ Hid (OR w wr 9 1 (.slice uo L uc) (((l.take k).map PrP.nm).map sR))) (fun _ _ kv _ => l.length - (intOf kv).toNat)
 case atStart => exact ⟨0, none, 0, 0, Nat.zero_le _, rfl, rfl, Hd rfl, O0⟩
 case round =>
  clear O0; obtain ⟨k, uo, L, uc, hk, rfl, rfl, HLL, HO⟩ := hrel; by_cases hlt : k < l.length
  ·have hi : (k : Int) < (l.length : Int) := by omega
   obtain ⟨hw', hw⟩ := wr_sm (x := (k : Int) + 1) (by omega) (by omega); obtain ⟨x, g, off, cp, hx, -, -, e, hg, -, hc⟩ := pr_cells HV.out hlt; cases e; obtain ⟨c0, c1, c2, c3⟩ := hc wr HO.out.below; have HRW : Hid (((l.take (k + 1)).map PrP.nm).map sR = ((l.take k).map PrP.nm).map sR ++ [[.string x.nm]]) := Hd (by rw [take_map_snoc hx, sR_snoc]); have HRL : Hid ((((l.take k).map PrP.nm).map sR).length = k) := Hd (by simp; omega); have HB1 := Hd (below_alloc1 wr (.cells #[.string x.nm, .bool x.st, .string x.fr, .int .i64 x.cd] 45)); have HLT := Hd hlt; have HLB := Hd hl; clear hc hx hlt; go_wp2_with fail; refine (HN.out x _).mono ?_; rintro _ w2 ⟨rfl, hb2⟩; have O2 := Hd ((HO.out.same HB1.out).same hb2); have B3 := Hd (below_alloc1 w2 (.cells #[.string x.nm] 9)); have O3 := Hd (O2.out.same B3.out); have hL := Hd (lies_new w2 [.string x.nm] 9 (size := 1) rfl); have hr1 : Hid ((((l.take k).map PrP.nm).map sR).length + ([[.string x.nm]] : List (List Value)).length ≤ maxLen) := Hd (by rw [HRL.out]; have := HLT.out; have := HLB.out; unfold maxLen; simp; omega); have hr2 : Hid (((((l.take k).map PrP.nm).map sR).length + ([[.string x.nm]] : List (List Value)).length) * 16 ≤ 140737488355328) := Hd (by rw [HRL.out]; have := HLT.out; have := HLB.out; simp; omega); clear hb2; go_wp2_with (at_builtin; refine wpList_append_rows rfl (.tmp 14) (.tmp 18) 23 rfl 9 _ 1 16 Tryd.underlying23 info9 rfl (by decide) (.slice uo L uc) (((l.take k).map PrP.nm).map sR) (by rfl) O3.out.own (some ⟨w2.heap.size, 0, none⟩) 1 1 ([[.string x.nm]] : List (List Value)) (by rfl) rfl (fun e => by cases e) hL.out (by simp [Value.oneCell']) (by simp) hr1.out (by have h := hr2.out; omega) ?_; intro v3 w3 o3 g3 n3; have R7 := O3.out.next o3 g3 n3; rw [← HRW.out] at R7; obtain ⟨a8, L8, c8, hv8, hl8⟩ := R7.slice; subst hv8; have R8 := Hd R7; have HL8 := Hd hl8; clear o3 g3 n3 R7 hl8)
   go_roundw
   case rel => exact ⟨k + 1, _, _, _, HLT.out, by go_num, rfl, Hd (by rw [HL8.out]; have := HLT.out; simp; omega), R8⟩
   case measure => have := HLT.out; simp [intOf]; omega
  ·obtain rfl : k = l.length := by omega
   have HO2 : Hid (OR w wr 9 1 (.slice uo L uc) ((l.map PrP.nm).map sR)) := Hd (by have := HO.out; rw [List.take_length] at this; exact this); go_wp2_with fail; go_ret; exact ⟨_, _, _, rfl, HO2.out⟩
set_option maxHeartbeats 3200000 in
set_option maxRecDepth 100000 in
theorem named_mt {A : Nat → Prop} {v : Value} {l : List MtP} {w : World} (hv : RIn A w 6 v (l.map MtP.row)) (hl : l.length ≤ 1073741824) :
  Calls Tryd.prog 31 #[v, .func (.func 21) #[] #[]] w (NamesPost w (l.map MtP.nm)) := by
 obtain ⟨ao, cap, rfl, -, -⟩ := hv.form; rw [List.length_map] at hv ⊢; have HV := Hd hv; have HN := Hd (fun x W => name_mt x W); have O0 : Hid (OR w w 9 1 (.slice none 0 0) (((l.take 0).map MtP.nm).map sR)) := Hd OR.nil; clear hv; go_enter Tryd.func31, Tryd.ntmps31; go_wp2_with fail; go_loopw [5, 7, 10] (fun ov _ kv wr => ∃ (k : Nat) (uo : Option Addr) (L uc : Nat), k ≤ l.length ∧ kv = .int .i64 k ∧ ov = .slice uo L uc ∧ Hid (L = k) ∧ Hid (OR w wr 9 1 (.slice uo L uc) (((l.take k).map MtP.nm).map sR))) (fun _ _ kv _ => l.length - (intOf kv).toNat)
 case atStart => exact ⟨0, none, 0, 0, Nat.zero_le _, rfl, rfl, Hd rfl, O0⟩
 case round =>
  clear O0; obtain ⟨k, uo, L, uc, hk, rfl, rfl, HLL, HO⟩ := hrel; by_cases hlt : k < l.length
  ·have hi : (k : Int) < (l.length : Int) := by omega
   obtain ⟨hw', hw⟩ := wr_sm (x := (k : Int) + 1) (by omega) (by omega); obtain ⟨x, g, off, cp, hx, -, -, e, hg, -, hc⟩ := mt_cells HV.out hlt; cases e; obtain ⟨c0, c1, c2, c3, c4, c5⟩ := hc wr HO.out.below; have HRW : Hid (((l.take (k + 1)).map MtP.nm).map sR = ((l.take k).map MtP.nm).map sR ++ [[.string x.nm]]) := Hd (by rw [take_map_snoc hx, sR_snoc]); have HRL : Hid ((((l.take k).map MtP.nm).map sR).length = k) := Hd (by simp; omega); have HB1 := Hd (below_alloc1 wr (.cells #[.string x.nm, .bool x.st, .bool x.ab, .bool x.fi, .string x.fr, .int .i64 x.cd] 34)); have HLT := Hd hlt; have HLB := Hd hl; clear hc hx hlt; go_wp2_with fail; refine (HN.out x _).mono ?_; rintro _ w2 ⟨rfl, hb2⟩; have O2 := Hd ((HO.out.same HB1.out).same hb2); have B3 := Hd (below_alloc1 w2 (.cells #[.string x.nm] 9)); have O3 := Hd (O2.out.same B3.out); have hL := Hd (lies_new w2 [.string x.nm] 9 (size := 1) rfl); have hr1 : Hid ((((l.take k).map MtP.nm).map sR).length + ([[.string x.nm]] : List (List Value)).length ≤ maxLen) := Hd (by rw [HRL.out]; have := HLT.out; have := HLB.out; unfold maxLen; simp; omega); have hr2 : Hid (((((l.take k).map MtP.nm).map sR).length + ([[.string x.nm]] : List (List Value)).length) * 16 ≤ 140737488355328) := Hd (by rw [HRL.out]; have := HLT.out; have := HLB.out; simp; omega); clear hb2; go_wp2_with (at_builtin; refine wpList_append_rows rfl (.tmp 14) (.tmp 18) 23 rfl 9 _ 1 16 Tryd.underlying23 info9 rfl (by decide) (.slice uo L uc) (((l.take k).map MtP.nm).map sR) (by rfl) O3.out.own (some ⟨w2.heap.size, 0, none⟩) 1 1 ([[.string x.nm]] : List (List Value)) (by rfl) rfl (fun e => by cases e) hL.out (by simp [Value.oneCell']) (by simp) hr1.out (by have h := hr2.out; omega) ?_; intro v3 w3 o3 g3 n3; have R7 := O3.out.next o3 g3 n3; rw [← HRW.out] at R7; obtain ⟨a8, L8, c8, hv8, hl8⟩ := R7.slice; subst hv8; have R8 := Hd R7; have HL8 := Hd hl8; clear o3 g3 n3 R7 hl8)
   go_roundw
   case rel => exact ⟨k + 1, _, _, _, HLT.out, by go_num, rfl, Hd (by rw [HL8.out]; have := HLT.out; simp; omega), R8⟩
   case measure => have := HLT.out; simp [intOf]; omega
  ·obtain rfl : k = l.length := by omega
   have HO2 : Hid (OR w wr 9 1 (.slice uo L uc) ((l.map MtP.nm).map sR)) := Hd (by have := HO.out; rw [List.take_length] at this; exact this); go_wp2_with fail; go_ret; exact ⟨_, _, _, rfl, HO2.out⟩
end Go.Proofs.YtobjmajkcfhpoaaDoor

namespace Go.Proofs.YtobjmajkcfhpoaaDoor
open Go.RowKit
attribute [local go_sem] yld_undef
def adT (a : AdP) (l : List ByteArray) : Bool := if (l.all nmP) = false then false else if 0 < a.ot.length then emT a.sa && !emT a.tr else wordP a.sa
theorem adT_cons (a : AdP) (s : ByteArray) (l : List ByteArray) : adT a (s :: l) = if nmP s = true then adT a l else false := by
 unfold adT; rw [List.all_cons]; cases nmP s <;> simp
set_option maxHeartbeats 6400000 in
set_option maxRecDepth 100000 in
theorem adapt_any {A : Nat → Prop} (a : AdP) (so : Option Addr) (sc : Nat) (w : World) (hv : RIn A w 1 (.slice so a.ot.length sc) (a.ot.map sR)) (hl : a.ot.length ≤ 1073741824) (ht : Tabs w) :
  Calls Tryd.prog 34 #[.agg #[.string a.tr, .string a.nm, .slice so a.ot.length sc, .string a.sa]] w (BoolPost w (adaptP a)) := by
 have A0 := Hd (at1_start w (.cells #[.string a.tr, .string a.nm, .slice so a.ot.length sc, .string a.sa] 54)); have HV := Hd hv; have HT := Hd ht; obtain ⟨r, hr⟩ : ∃ r, r = adaptP a := ⟨_, rfl⟩; rw [← hr]; obtain ⟨q1, hq1⟩ : ∃ q, q = wordP a.nm := ⟨_, rfl⟩; obtain ⟨q2, hq2⟩ : ∃ q, q = nmP a.tr := ⟨_, rfl⟩; obtain ⟨e1, he1⟩ : ∃ e, a.tr.toList.isEmpty = e := ⟨_, rfl⟩; have HET : Hid (emT a.tr = e1) := Hd he1; have HR : Hid (r = if (!q1 || (!e1 && !q2)) = true then false else adT a a.ot) := Hd (by rw [hr, hq1, hq2, ← he1]; rfl); have HW1 := word_any a.nm _ (ht.mono A0.out.below); rw [← hq1] at HW1; have HN2 : Hid (∀ W, Tabs W → Calls Tryd.prog 24 #[.string a.tr] W (BoolPost W q2)) := Hd (fun W h => by rw [hq2]; exact name_any a.tr W h); have b0 := cB A0.out.a 0; have b1 := cB A0.out.a 1; clear hv ht hr hq1 hq2; go_enter Tryd.func34, Tryd.ntmps34; go_wp2_with fail; refine HW1.mono ?_; rintro _ w1 ⟨rfl, hb1⟩; have A1 := Hd (A0.out.mono hb1); clear hb1 HW1 b0 b1; have b0 := cB A1.out.a 0; have b1 := cB A1.out.a 1; have b2 := cB A1.out.a 2; have b3 := cB A1.out.a 3; cases q1 with
 | false =>
  have hrf : r = false := HR.out; subst hrf; go_wp2_with fail; go_ret; exact ⟨rfl, A1.out.below⟩
 | true =>
  cases e1 with
  | true =>
   have HT0 : Hid (r = adT a (a.ot.drop 0)) := Hd HR.out; go_wp2_with fail; go_loopw [4, 23] (fun _ kv wr => ∃ k : Nat, k ≤ a.ot.length ∧ kv = .int .i64 k ∧ Hid (r = adT a (a.ot.drop k)) ∧ Hid (At1 w wr w.heap.size (.cells #[.string a.tr, .string a.nm, .slice so a.ot.length sc, .string a.sa] 54 (0, 0)))) (fun _ kv _ => a.ot.length - (intOf kv).toNat)
   case atStart => exact ⟨0, Nat.zero_le _, rfl, HT0, A1⟩
   case round =>
    clear HT0 b0 b1 b2 b3; obtain ⟨k, hk, rfl, HX, HA⟩ := hrel; by_cases hlt : k < a.ot.length
    ·have hi : (k : Int) < (a.ot.length : Int) := by omega
     obtain ⟨hw', hw⟩ := wr_sm (x := (k : Int) + 1) (by omega) (by omega); obtain ⟨x, g, off, cp, hx, -, -, e, hg, -, hc⟩ := s_cells HV.out hlt; cases e; have c0 := hc wr HA.out.below; have HN := name_any x wr (HT.out.mono HA.out.below); obtain ⟨q, hq⟩ : ∃ q, q = nmP x := ⟨_, rfl⟩; have HN : Calls Tryd.prog 24 #[.string x] wr (BoolPost wr q) := by rw [hq]; exact HN
     have HXN : Hid (r = if q = true then adT a (a.ot.drop (k + 1)) else false) := Hd (by
      obtain ⟨h1, h2⟩ := List.getElem?_eq_some_iff.1 hx; rw [HX.out, List.drop_eq_getElem_cons h1, h2, adT_cons, hq])
     have HLT := Hd hlt; clear hc hx hq HX hlt; go_wp2_with fail; refine HN.mono ?_; rintro _ w5 ⟨rfl, hb5⟩; have A5 := Hd (HA.out.mono hb5); clear hb5 HN; cases q with
     | false =>
      have hrf : r = false := HXN.out; subst hrf; go_wp2_with fail; go_ret; exact ⟨rfl, A5.out.below⟩
     | true =>
      have HX2 : Hid (r = adT a (a.ot.drop (k + 1))) := Hd HXN.out; go_wp2_with fail; go_roundw
      case rel => exact ⟨k + 1, HLT.out, by go_num, HX2, A5⟩
      case measure => have := HLT.out; simp [intOf]; omega
    ·obtain rfl : k = a.ot.length := by omega
     have b0 := cB HA.out.a 0; have b2 := cB HA.out.a 2; have b3 := cB HA.out.a 3; have HRT : Hid (r = if 0 < a.ot.length then emT a.sa && !emT a.tr else wordP a.sa) := Hd (by rw [HX.out, List.drop_length]; rfl); clear HX; by_cases h0 : 0 < a.ot.length
     ·have hi0 : decide ((0 : Int) < (a.ot.length : Int)) = true := decide_eq_true (by omega); have hi1 : (0 : Int) < (a.ot.length : Int) := by omega
      obtain ⟨e3, h3⟩ : ∃ e, a.sa.toList.isEmpty = e := ⟨_, rfl⟩; have HR3 : Hid (r = (e3 && !true)) := Hd (by rw [HRT.out, if_pos h0, ← h3, ← HET.out]; rfl); cases e3
      ·have hr3 : r = false := HR3.out; subst hr3; go_wp2_with fail; go_ret; exact ⟨rfl, HA.out.below⟩
      ·have hr3 : r = !true := HR3.out; subst hr3; go_wp2_with fail; go_ret; exact ⟨rfl, HA.out.below⟩
     ·have hi0 : decide ((0 : Int) < (a.ot.length : Int)) = false := decide_eq_false (by omega); have hi1 : ¬ (0 : Int) < (a.ot.length : Int) := by omega
      have hrw : r = wordP a.sa := by rw [HRT.out, if_neg h0]
      subst hrw; have HWD := Hd (word_any a.sa wr (HT.out.mono HA.out.below)); clear h0; go_wp2_with fail; refine HWD.out.mono ?_; rintro _ w5 ⟨rfl, hb5⟩; have A5 := Hd (HA.out.mono hb5); clear hb5; go_wp2_with fail; go_ret; exact ⟨rfl, A5.out.below⟩
  | false =>
   go_wp2_with fail; refine (HN2.out _ (HT.out.mono A1.out.below)).mono ?_; rintro _ w2 ⟨rfl, hb2⟩; have A2 := Hd (A1.out.mono hb2); clear hb2 b0 b1 b2 b3; have b0 := cB A2.out.a 0; have b1 := cB A2.out.a 1; have b2 := cB A2.out.a 2; have b3 := cB A2.out.a 3; cases q2 with
   | false =>
    have hrf : r = false := HR.out; subst hrf; go_wp2_with fail; go_ret; exact ⟨rfl, A2.out.below⟩
   | true =>
    have HT0 : Hid (r = adT a (a.ot.drop 0)) := Hd HR.out; go_wp2_with fail; go_loopw [4, 23] (fun _ kv wr => ∃ k : Nat, k ≤ a.ot.length ∧ kv = .int .i64 k ∧ Hid (r = adT a (a.ot.drop k)) ∧ Hid (At1 w wr w.heap.size (.cells #[.string a.tr, .string a.nm, .slice so a.ot.length sc, .string a.sa] 54 (0, 0)))) (fun _ kv _ => a.ot.length - (intOf kv).toNat)
    case atStart => exact ⟨0, Nat.zero_le _, rfl, HT0, A2⟩
    case round =>
     clear HT0 b0 b1 b2 b3; obtain ⟨k, hk, rfl, HX, HA⟩ := hrel; by_cases hlt : k < a.ot.length
     ·have hi : (k : Int) < (a.ot.length : Int) := by omega
      obtain ⟨hw', hw⟩ := wr_sm (x := (k : Int) + 1) (by omega) (by omega); obtain ⟨x, g, off, cp, hx, -, -, e, hg, -, hc⟩ := s_cells HV.out hlt; cases e; have c0 := hc wr HA.out.below; have HN := name_any x wr (HT.out.mono HA.out.below); obtain ⟨q, hq⟩ : ∃ q, q = nmP x := ⟨_, rfl⟩; have HN : Calls Tryd.prog 24 #[.string x] wr (BoolPost wr q) := by rw [hq]; exact HN
      have HXN : Hid (r = if q = true then adT a (a.ot.drop (k + 1)) else false) := Hd (by
       obtain ⟨h1, h2⟩ := List.getElem?_eq_some_iff.1 hx; rw [HX.out, List.drop_eq_getElem_cons h1, h2, adT_cons, hq])
      have HLT := Hd hlt; clear hc hx hq HX hlt; go_wp2_with fail; refine HN.mono ?_; rintro _ w5 ⟨rfl, hb5⟩; have A5 := Hd (HA.out.mono hb5); clear hb5 HN; cases q with
      | false =>
       have hrf : r = false := HXN.out; subst hrf; go_wp2_with fail; go_ret; exact ⟨rfl, A5.out.below⟩
      | true =>
       have HX2 : Hid (r = adT a (a.ot.drop (k + 1))) := Hd HXN.out; go_wp2_with fail; go_roundw
       case rel => exact ⟨k + 1, HLT.out, by go_num, HX2, A5⟩
       case measure => have := HLT.out; simp [intOf]; omega
     ·obtain rfl : k = a.ot.length := by omega
      have b0 := cB HA.out.a 0; have b2 := cB HA.out.a 2; have b3 := cB HA.out.a 3; have HRT : Hid (r = if 0 < a.ot.length then emT a.sa && !emT a.tr else wordP a.sa) := Hd (by rw [HX.out, List.drop_length]; rfl); clear HX; by_cases h0 : 0 < a.ot.length
      ·have hi0 : decide ((0 : Int) < (a.ot.length : Int)) = true := decide_eq_true (by omega); have hi1 : (0 : Int) < (a.ot.length : Int) := by omega
       obtain ⟨e3, h3⟩ : ∃ e, a.sa.toList.isEmpty = e := ⟨_, rfl⟩; have HR3 : Hid (r = (e3 && !false)) := Hd (by rw [HRT.out, if_pos h0, ← h3, ← HET.out]; rfl); cases e3
       ·have hr3 : r = false := HR3.out; subst hr3; go_wp2_with fail; go_ret; exact ⟨rfl, HA.out.below⟩
       ·have hr3 : r = !false := HR3.out; subst hr3; go_wp2_with fail; go_ret; exact ⟨rfl, HA.out.below⟩
      ·have hi0 : decide ((0 : Int) < (a.ot.length : Int)) = false := decide_eq_false (by omega); have hi1 : ¬ (0 : Int) < (a.ot.length : Int) := by omega
       have hrw : r = wordP a.sa := by rw [HRT.out, if_neg h0]
       subst hrw; have HWD := Hd (word_any a.sa wr (HT.out.mono HA.out.below)); clear h0; go_wp2_with fail; refine HWD.out.mono ?_; rintro _ w5 ⟨rfl, hb5⟩; have A5 := Hd (HA.out.mono hb5); clear hb5; go_wp2_with fail; go_ret; exact ⟨rfl, A5.out.below⟩
set_option maxRecDepth 100000 in
theorem right1_any {A : Nat → Prop} (a : AdP) (so : Option Addr) (sc : Nat) (w : World) (hv : RIn A w 1 (.slice so a.ot.length sc) (a.ot.map sR)) (hl : a.ot.length ≤ 1073741824) (ht : Tabs w) :
  Calls Tryd.prog 33 #[.agg #[.string a.tr, .string a.nm, .slice so a.ot.length sc, .string a.sa]] w (BoolPost w (!adaptP a)) := by
 have A0 := Hd (at1_start w (.cells #[.string a.tr, .string a.nm, .slice so a.ot.length sc, .string a.sa] 54)); have HA := Hd (adapt_any a so sc _ (hv.under A0.out.below) hl (ht.mono A0.out.below)); obtain ⟨r, hr⟩ : ∃ r, r = adaptP a := ⟨_, rfl⟩; rw [← hr] at HA ⊢; have b0 := cB A0.out.a 0; have b1 := cB A0.out.a 1; have b2 := cB A0.out.a 2; have b3 := cB A0.out.a 3; clear hr hv ht; go_enter Tryd.func33, Tryd.ntmps33; go_wp2_with fail; refine HA.out.mono ?_; rintro _ w1 ⟨rfl, hb1⟩; have A1 := Hd (A0.out.mono hb1); clear hb1; go_wp2_with fail; go_ret; exact ⟨rfl, A1.out.below⟩
theorem rin_len {A : Nat → Prop} {w : World} {size n c : Nat} {o : Option Addr} {rows : List (List Value)} (h : RIn A w size (.slice o n c) rows) : n = rows.length := by
 obtain ⟨ao, cap, e, -, -⟩ := h.form; cases e; rfl
set_option maxRecDepth 100000 in
theorem gcl_any {A : Nat → Prop} (x : AdP × SV) (mn tn : ByteArray) (w : World) (c1 c2 : Nat) (hv : RIn A w 1 (.slice x.2.o x.2.n x.2.c) (x.1.ot.map sR)) (hl : x.1.ot.length ≤ 1073741824) (h1 : w.cell? ⟨c1, 0, none⟩ = some (.string mn)) (h2 : w.cell? ⟨c2, 0, none⟩ = some (.string tn)) :
  Calls Tryd.prog 70 #[.agg #[.string x.1.tr, .string x.1.nm, .slice x.2.o x.2.n x.2.c, .string x.1.sa], .pointer (some ⟨c1, 0, none⟩), .pointer (some ⟨c2, 0, none⟩)] w (BoolPost w (eqB x.1.nm mn && hasB x.1.ot tn)) := by
 have A0 := Hd (at1_start w (.cells #[.string x.1.tr, .string x.1.nm, .slice x.2.o x.2.n x.2.c, .string x.1.sa] 54)); have HC := Hd (contains_any tn (hv.under A0.out.below) hl); obtain ⟨q, hq⟩ : ∃ q, q = hasB x.1.ot tn := ⟨_, rfl⟩; obtain ⟨e, he⟩ : ∃ e, (x.1.nm.toList == mn.toList) = e := ⟨_, rfl⟩; have hee : eqB x.1.nm mn = e := he; rw [← hq] at HC ⊢; rw [hee]; have d1 := (A0.out.below.cell (p := ⟨c1, 0, none⟩) (cell_lt h1)).trans h1; have d2 := (A0.out.below.cell (p := ⟨c2, 0, none⟩) (cell_lt h2)).trans h2; have b1 := cB A0.out.a 1; have b2 := cB A0.out.a 2; clear hq hee hv h1 h2; cases e with
 | false =>
  go_enter Tryd.func70, Tryd.ntmps70; go_wp2_with fail; go_ret; exact ⟨rfl, A0.out.below⟩
 | true =>
  go_enter Tryd.func70, Tryd.ntmps70; go_wp2_with fail; refine HC.out.mono ?_; rintro _ _ ⟨rfl, rfl⟩; go_wp2_with fail; go_ret; exact ⟨rfl, A0.out.below⟩
set_option maxHeartbeats 1600000 in
set_option maxRecDepth 100000 in
theorem idx_ad33 {A : Nat → Prop} {v : Value} {l : List (AdP × SV)} {w : World} (ht : Tabs w) (hv : RIn A w 4 v (l.map AdP.row)) (hx : ∀ x ∈ l, RIn A w 1 (.slice x.2.o x.2.n x.2.c) (x.1.ot.map sR)) (hz0 : ∀ x ∈ l, x.1.ot.length ≤ 1073741824) (hl : l.length ≤ 1073741824) :
  Calls Tryd.prog 65 #[v, .func (.func 33) #[] #[]] w (IntPost w (idxI (idxP (fun x => !adaptP x.1) l))) := by
 obtain ⟨ao, cap, rfl, -, -⟩ := hv.form; rw [List.length_map] at hv ⊢; have HV := Hd hv; have HCL0 : ∀ (x : AdP × SV), x ∈ l → ∀ W, Below w.heap.size w W → Calls Tryd.prog 33 #[.agg #[.string x.1.tr, .string x.1.nm, .slice x.2.o x.2.n x.2.c, .string x.1.sa]] W (BoolPost W (!adaptP x.1)) := fun x hxm W hb => by
  have hx2 := hx x hxm; have hz := hz0 x hxm; clear hx hz0 hv; exact (by
  obtain ⟨a, so, sn, sc⟩ := x; obtain rfl : sn = a.ot.length := by have := rin_len hx2; simpa using this
  exact right1_any a so sc W (hx2.under hb) hz (ht.mono hb))
 obtain ⟨p, hp⟩ : ∃ p : AdP × SV → Bool, p = fun x => !adaptP x.1 := ⟨_, rfl⟩
 rw [← hp]; have HCL : Hid (∀ (x : AdP × SV), x ∈ l → ∀ W, Below w.heap.size w W → Calls Tryd.prog 33 #[.agg #[.string x.1.tr, .string x.1.nm, .slice x.2.o x.2.n x.2.c, .string x.1.sa]] W (BoolPost W (p x))) := Hd (fun x hx W hb => by rw [hp]; exact HCL0 x hx W hb); obtain ⟨r, hr⟩ : ∃ r, r = idxI (idxP p l) := ⟨_, rfl⟩; rw [← hr]; have HR := Hd hr; clear hv hr hp HCL0 hx hz0 ht; go_enter Tryd.func65, Tryd.ntmps65; go_wp2_with fail; go_loopw [5, 8] (fun _ kv wr => ∃ k : Nat, k ≤ l.length ∧ kv = .int .i64 k ∧ Hid (Below w.heap.size w wr) ∧ Hid (∀ j (hj : j < l.length), j < k → p l[j] = false)) (fun _ kv _ => l.length - (intOf kv).toNat)
 case atStart => exact ⟨0, Nat.zero_le _, rfl, Hd (Below.refl _ _), Hd (fun j _ h => absurd h (Nat.not_lt_zero j))⟩
 case round =>
  obtain ⟨k, hk, rfl, HB, HA⟩ := hrel; by_cases hlt : k < l.length
  ·have hi : (k : Int) < (l.length : Int) := by omega
   obtain ⟨hw', hw⟩ := wr_sm (x := (k : Int) + 1) (by omega) (by omega); obtain ⟨x, g, off, cp, -, hxm, hx, e, hg, -, hc⟩ := ad_cells HV.out hlt; cases e; obtain ⟨c0, c1, c2, c3⟩ := hc wr HB.out; obtain ⟨q, hq⟩ : ∃ q, p x = q := ⟨_, rfl⟩; have HQ : Hid (p l[k] = q) := Hd (by rw [← hx]; exact hq); have HP := HCL.out x hxm wr HB.out; rw [hq] at HP; have HLT := Hd hlt; clear hc hx hq hxm; cases q with
   | true =>
    have hre : r = (k : Int) := by rw [HR.out, idxP_at HLT.out HQ.out HA.out]; rfl
    subst hre; go_wp2_with fail; refine HP.mono ?_; rintro _ w1 ⟨rfl, hb⟩; have B1 := Hd (HB.out.trans (hb.mono HB.out.size)); clear hb HP; go_wp2_with fail; go_ret; exact ⟨rfl, B1.out⟩
   | false =>
    have HA2 : Hid (∀ j (hj : j < l.length), j < k + 1 → p l[j] = false) := Hd (fun j hj h => by
     rcases Nat.lt_succ_iff_lt_or_eq.1 h with h' | rfl
     ·exact HA.out j hj h'
     ·exact HQ.out)
    go_wp2_with fail; refine HP.mono ?_; rintro _ w1 ⟨rfl, hb⟩; have B1 := Hd (HB.out.trans (hb.mono HB.out.size)); clear hb HP; go_wp2_with fail; go_roundw
    case rel => exact ⟨k + 1, HLT.out, by go_num, B1, HA2⟩
    case measure => have := HLT.out; simp [intOf]; omega
  ·obtain rfl : k = l.length := by omega
   have hre : r = -1 := by rw [HR.out, idxP_no (fun j hj => HA.out j hj hj)]; rfl
   subst hre; go_wp2_with fail; go_ret; exact ⟨rfl, HB.out⟩
set_option maxHeartbeats 800000 in
set_option maxRecDepth 100000 in
theorem any_ad33 {A : Nat → Prop} {v : Value} {l : List AdP} {w : World} (ht : Tabs w) (hv : AdIn A w v l) (hz0 : ∀ x ∈ l, x.ot.length ≤ 1073741824) (hl : l.length ≤ 1073741824) :
  Calls Tryd.prog 32 #[v, .func (.func 33) #[] #[]] w (BoolPost w (l.any fun x => !adaptP x)) := by
 obtain ⟨xs, rfl, hr, hx⟩ := hv; have hz1 : ∀ x ∈ xs, x.1.ot.length ≤ 1073741824 := fun x hx => hz0 _ (List.mem_map.2 ⟨x, hx, rfl⟩)
 rw [List.length_map] at hl; rw [List.any_map]; obtain ⟨ao, cap, rfl, -, -⟩ := hr.form; rw [List.length_map] at hr ⊢; have HI := idx_ad33 ht hr hx hz1 hl; have hd := idxI_nonneg (idxP (fun x : AdP × SV => !adaptP x.1) xs); rw [idxP_isSome] at hd; obtain ⟨r, hr2⟩ : ∃ r, r = idxI (idxP (fun x : AdP × SV => !adaptP x.1) xs) := ⟨_, rfl⟩; obtain ⟨b, hb⟩ : ∃ b, b = (xs.any fun x => !adaptP x.1) := ⟨_, rfl⟩; rw [← hr2] at HI hd; rw [← hb] at hd; show Calls Tryd.prog 32 _ w (BoolPost w (xs.any fun x => !adaptP x.1))
 rw [← hb]; clear hr2 hb hr hx hz1 hz0 ht; go_enter Tryd.func32, Tryd.ntmps32; go_wp2_with fail; refine HI.mono ?_; rintro _ w1 ⟨rfl, hb1⟩; have B1 := Hd hb1; clear hb1 HI; go_wp2_with fail; go_ret; exact ⟨rfl, B1.out⟩
set_option maxHeartbeats 1600000 in
set_option maxRecDepth 100000 in
theorem idx_ad70 {A : Nat → Prop} {v : Value} {l : List (AdP × SV)} {w : World} (mn tn : ByteArray) (c1 c2 : Nat) (h1 : w.cell? ⟨c1, 0, none⟩ = some (.string mn)) (h2 : w.cell? ⟨c2, 0, none⟩ = some (.string tn)) (hv : RIn A w 4 v (l.map AdP.row)) (hx : ∀ x ∈ l, RIn A w 1 (.slice x.2.o x.2.n x.2.c) (x.1.ot.map sR)) (hz0 : ∀ x ∈ l, x.1.ot.length ≤ 1073741824) (hl : l.length ≤ 1073741824) :
  Calls Tryd.prog 65 #[v, .func (.func 70) #[] #[.pointer (some ⟨c1, 0, none⟩), .pointer (some ⟨c2, 0, none⟩)]] w (IntPost w (idxI (idxP (fun x => eqB x.1.nm mn && hasB x.1.ot tn) l))) := by
 obtain ⟨ao, cap, rfl, -, -⟩ := hv.form; rw [List.length_map] at hv ⊢; have HV := Hd hv; have HCL0 : ∀ (x : AdP × SV), x ∈ l → ∀ W, Below w.heap.size w W → Calls Tryd.prog 70 #[.agg #[.string x.1.tr, .string x.1.nm, .slice x.2.o x.2.n x.2.c, .string x.1.sa], .pointer (some ⟨c1, 0, none⟩), .pointer (some ⟨c2, 0, none⟩)] W (BoolPost W (eqB x.1.nm mn && hasB x.1.ot tn)) := fun x hxm W hb => by
  have hx2 := hx x hxm; have hz := hz0 x hxm; clear hx hz0 hv; exact (gcl_any x mn tn W c1 c2 (hx2.under hb) hz ((hb.cell (p := ⟨c1, 0, none⟩) (cell_lt h1)).trans h1) ((hb.cell (p := ⟨c2, 0, none⟩) (cell_lt h2)).trans h2))
 obtain ⟨p, hp⟩ : ∃ p : AdP × SV → Bool, p = fun x => eqB x.1.nm mn && hasB x.1.ot tn := ⟨_, rfl⟩
 rw [← hp]; have HCL : Hid (∀ (x : AdP × SV), x ∈ l → ∀ W, Below w.heap.size w W → Calls Tryd.prog 70 #[.agg #[.string x.1.tr, .string x.1.nm, .slice x.2.o x.2.n x.2.c, .string x.1.sa], .pointer (some ⟨c1, 0, none⟩), .pointer (some ⟨c2, 0, none⟩)] W (BoolPost W (p x))) := Hd (fun x hx W hb => by rw [hp]; exact HCL0 x hx W hb); obtain ⟨r, hr⟩ : ∃ r, r = idxI (idxP p l) := ⟨_, rfl⟩; rw [← hr]; have HR := Hd hr; clear hv hr hp HCL0 hx hz0 h1 h2; go_enter Tryd.func65, Tryd.ntmps65; go_wp2_with fail; go_loopw [5, 8] (fun _ kv wr => ∃ k : Nat, k ≤ l.length ∧ kv = .int .i64 k ∧ Hid (Below w.heap.size w wr) ∧ Hid (∀ j (hj : j < l.length), j < k → p l[j] = false)) (fun _ kv _ => l.length - (intOf kv).toNat)
 case atStart => exact ⟨0, Nat.zero_le _, rfl, Hd (Below.refl _ _), Hd (fun j _ h => absurd h (Nat.not_lt_zero j))⟩
 case round =>
  obtain ⟨k, hk, rfl, HB, HA⟩ := hrel; by_cases hlt : k < l.length
  ·have hi : (k : Int) < (l.length : Int) := by omega
   obtain ⟨hw', hw⟩ := wr_sm (x := (k : Int) + 1) (by omega) (by omega); obtain ⟨x, g, off, cp, -, hxm, hx, e, hg, -, hc⟩ := ad_cells HV.out hlt; cases e; obtain ⟨c0, c1, c2, c3⟩ := hc wr HB.out; obtain ⟨q, hq⟩ : ∃ q, p x = q := ⟨_, rfl⟩; have HQ : Hid (p l[k] = q) := Hd (by rw [← hx]; exact hq); have HP := HCL.out x hxm wr HB.out; rw [hq] at HP; have HLT := Hd hlt; clear hc hx hq hxm; cases q with
   | true =>
    have hre : r = (k : Int) := by rw [HR.out, idxP_at HLT.out HQ.out HA.out]; rfl
    subst hre; go_wp2_with fail; refine HP.mono ?_; rintro _ w1 ⟨rfl, hb⟩; have B1 := Hd (HB.out.trans (hb.mono HB.out.size)); clear hb HP; go_wp2_with fail; go_ret; exact ⟨rfl, B1.out⟩
   | false =>
    have HA2 : Hid (∀ j (hj : j < l.length), j < k + 1 → p l[j] = false) := Hd (fun j hj h => by
     rcases Nat.lt_succ_iff_lt_or_eq.1 h with h' | rfl
     ·exact HA.out j hj h'
     ·exact HQ.out)
    go_wp2_with fail; refine HP.mono ?_; rintro _ w1 ⟨rfl, hb⟩; have B1 := Hd (HB.out.trans (hb.mono HB.out.size)); clear hb HP; go_wp2_with fail; go_roundw
    case rel => exact ⟨k + 1, HLT.out, by go_num, B1, HA2⟩
    case measure => have := HLT.out; simp [intOf]; omega
  ·obtain rfl : k = l.length := by omega
   have hre : r = -1 := by rw [HR.out, idxP_no (fun j hj => HA.out j hj hj)]; rfl
   subst hre; go_wp2_with fail; go_ret; exact ⟨rfl, HB.out⟩
set_option maxHeartbeats 800000 in
set_option maxRecDepth 100000 in
theorem any_ad70 {A : Nat → Prop} {v : Value} {l : List AdP} {w : World} (mn tn : ByteArray) (c1 c2 : Nat) (h1 : w.cell? ⟨c1, 0, none⟩ = some (.string mn)) (h2 : w.cell? ⟨c2, 0, none⟩ = some (.string tn)) (hv : AdIn A w v l) (hz0 : ∀ x ∈ l, x.ot.length ≤ 1073741824) (hl : l.length ≤ 1073741824) :
  Calls Tryd.prog 32 #[v, .func (.func 70) #[] #[.pointer (some ⟨c1, 0, none⟩), .pointer (some ⟨c2, 0, none⟩)]] w (BoolPost w (l.any fun x => eqB x.nm mn && hasB x.ot tn)) := by
 obtain ⟨xs, rfl, hr, hx⟩ := hv; have hz1 : ∀ x ∈ xs, x.1.ot.length ≤ 1073741824 := fun x hx => hz0 _ (List.mem_map.2 ⟨x, hx, rfl⟩)
 rw [List.length_map] at hl; rw [List.any_map]; obtain ⟨ao, cap, rfl, -, -⟩ := hr.form; rw [List.length_map] at hr ⊢; have HI := idx_ad70 mn tn c1 c2 h1 h2 hr hx hz1 hl; have hd := idxI_nonneg (idxP (fun x : AdP × SV => eqB x.1.nm mn && hasB x.1.ot tn) xs); rw [idxP_isSome] at hd; obtain ⟨r, hr2⟩ : ∃ r, r = idxI (idxP (fun x : AdP × SV => eqB x.1.nm mn && hasB x.1.ot tn) xs) := ⟨_, rfl⟩; obtain ⟨b, hb⟩ : ∃ b, b = (xs.any fun x => eqB x.1.nm mn && hasB x.1.ot tn) := ⟨_, rfl⟩; rw [← hr2] at HI hd; rw [← hb] at hd; show Calls Tryd.prog 32 _ w (BoolPost w (xs.any fun x => eqB x.1.nm mn && hasB x.1.ot tn))
 rw [← hb]; clear hr2 hb hr hx hz1 hz0 h1 h2; go_enter Tryd.func32, Tryd.ntmps32; go_wp2_with fail; refine HI.mono ?_; rintro _ w1 ⟨rfl, hb1⟩; have B1 := Hd hb1; clear hb1 HI; go_wp2_with fail; go_ret; exact ⟨rfl, B1.out⟩
end Go.Proofs.YtobjmajkcfhpoaaDoor
