/-
  The walk of Line (printed by genLineA11.py).
-/
import Derived.Test.YthnhpnmopjbaoaaDoorWithout11
import Derived.Test.YthnhpnmopjbaoaaDoorStatus11
namespace Go.Proofs.YthnhpnmopjbaoaaDoor
open Go.RowKit

abbrev locB : Bs := [108, 111, 99, 97, 116, 105, 111, 110]
def httpP (s : ByteArray) : Bool := Lib.hasPrefix s.data.toList [72, 84, 84, 80, 47]
/-- What a line makes of the status. -/
def lineCode (code : Int) (s : ByteArray) (n : Int) : Int :=
  if n ≠ 0 then n else if nameV s = locB ∧ code ≠ 201 ∧ ¬ (300 ≤ code ∧ code ≤ 399) then 302 else code
/-- What Line answers, the status and the lines behind it. -/
def lineP (code : Int) (ls : List ByteArray) (s : ByteArray) (rep : Bool) (n : Int) : Int × Int × List ByteArray :=
  if n ≠ 0 ∧ ¬ (100 ≤ n ∧ n ≤ 599) then (1, code, ls)
  else if httpP s = true then (if statusP s = 0 then (7, code, ls) else (0, if n ≠ 0 then n else statusP s, ls))
  else if nameP s = none ∨ valuedP s = false then (7, code, ls)
  else if 64 ≤ (if rep = true then dropP (str (nameV s)) ls else ls).length then (8, code, ls)
  else (0, lineCode code s n, (if rep = true then dropP (str (nameV s)) ls else ls) ++ [s])
theorem statusP_range {s : ByteArray} (h : statusP s ≠ 0) : 100 ≤ statusP s ∧ statusP s ≤ 599 := by
  unfold statusP at h ⊢
  split
  · rename_i hc
    rw [if_pos hc] at h
    generalize (cutP (cutP (s.extract 5 s.size) 32).2.1 32).1 = d at h ⊢
    cases hok : okV d.toList with
    | none => rw [codeP_none hok] at h; exact absurd rfl h
    | some v =>
      rw [codeP_some hok] at h ⊢
      split
      · rename_i hv; exact hv.2.2
      · rename_i hv; rw [if_neg hv] at h; exact absurd rfl h
  · rename_i hc
    rw [if_neg hc] at h
    exact absurd rfl h
theorem begins_size {s : ByteArray} (h : httpP s = true) : 5 ≤ s.size := by
  unfold httpP Lib.hasPrefix at h
  rw [show s.size = s.data.toList.length from (Array.length_toList).symm]
  revert h
  generalize s.data.toList = l
  intro h
  simp at h
  exact h.length_le
theorem code_cases {code : Int} (nv : Bs) (hlo : 100 ≤ code) (hhi : code ≤ 599) {res : Int} (hres : res = if nv = locB ∧ code ≠ 201 ∧ ¬ (300 ≤ code ∧ code ≤ 399) then 302 else code) :
    (((str nv).toList == [108, 111, 99, 97, 116, 105, 111, 110]) = false ∧ res = code) ∨
    (((str nv).toList == [108, 111, 99, 97, 116, 105, 111, 110]) = true ∧ (code != 201) = false ∧ res = code) ∨
    (((str nv).toList == [108, 111, 99, 97, 116, 105, 111, 110]) = true ∧ (code != 201) = true ∧ (wrap64 (code.tdiv 100) != 3) = false ∧ res = code) ∨
    (((str nv).toList == [108, 111, 99, 97, 116, 105, 111, 110]) = true ∧ (code != 201) = true ∧ (wrap64 (code.tdiv 100) != 3) = true ∧ res = 302) := by
  have hy : code.tdiv 100 = code / 100 := Int.tdiv_eq_ediv_of_nonneg (by omega)
  have hwy : wrap64 (code.tdiv 100) = code / 100 := by rw [hy]; exact wr64 (by omega) (by omega)
  rw [hwy, str_toList]
  by_cases h1 : nv = locB
  · have e1 : (nv == [108, 111, 99, 97, 116, 105, 111, 110]) = true := by rw [h1]; rfl
    by_cases h2 : code = 201
    · exact .inr (.inl ⟨e1, by simp [h2], by rw [hres]; exact if_neg (fun e => e.2.1 h2)⟩)
    · by_cases h3 : 300 ≤ code ∧ code ≤ 399
      · exact .inr (.inr (.inl ⟨e1, by simp [h2], by simp; omega, by rw [hres]; exact if_neg (fun e => e.2.2 h3)⟩))
      · exact .inr (.inr (.inr ⟨e1, by simp [h2], by simp; omega, by rw [hres]; exact if_pos ⟨h1, h2, h3⟩⟩))
  · exact .inl ⟨by simpa using h1, by rw [hres]; exact if_neg (fun e => h1 e.1)⟩
section
variable {w : World} {h : Nat} {code : Int} {v : Value} {ls : List ByteArray}
theorem line_sent (i : HeadsIs w h true code v ls) (s : ByteArray) (rep : Bool) (n : Int) : Calls Tryd.prog 30 #[.pointer (some ⟨h, 0, none⟩), .string s, .bool rep, .int .i64 n] w (HPost w h true v 17 code ls) := by
  have HC := closed_any i
  have I := Lib.hid i
  unfold closedP at HC
  clear i
  go_enter Tryd.func30, Tryd.ntmps30
  go_wp2_with fail
  refine HC.mono ?_
  rintro e w1 ⟨rfl, rfl⟩
  clear HC
  go_wp2_with fail
  go_ret
  exact ⟨rfl, v, I.out, Mod.refl _ _, .inl rfl⟩
theorem line_arg (i : HeadsIs w h false code v ls) (s : ByteArray) (rep : Bool) (n : Int) (hn : n ≠ 0) (hr : ¬ (100 ≤ n ∧ n ≤ 599)) : Calls Tryd.prog 30 #[.pointer (some ⟨h, 0, none⟩), .string s, .bool rep, .int .i64 n] w (HPost w h false v 1 code ls) := by
  have HC := closed_any i
  have HD := code_any n w
  have d : (decide (100 ≤ n) && decide (n ≤ 599)) = false := by
    rw [Bool.eq_false_iff]; simp only [ne_eq, Bool.and_eq_true, decide_eq_true_eq]; exact hr
  rw [d] at HD
  have d0 : (n != 0) = true := by simp [hn]
  have I := Lib.hid i
  unfold closedP at HC
  clear i d hn hr
  go_enter Tryd.func30, Tryd.ntmps30
  go_wp2_with fail
  refine HC.mono ?_
  rintro e w1 ⟨rfl, rfl⟩
  clear HC
  go_wp2_with fail
  refine HD.mono ?_
  rintro e w1 ⟨rfl, rfl⟩
  clear HD
  go_wp2_with fail
  go_ret
  exact ⟨rfl, v, I.out, Mod.refl _ _, .inl rfl⟩
theorem prefix_http (s : ByteArray) (w : World) : Calls Tryd.prog 49 #[.string s, .string ⟨#[72, 84, 84, 80, 47]⟩] w fun e w' => e = .returned (.bool (httpP s)) ∧ w = w' := by
  refine (Tryd.strings_HasPrefix s ⟨#[72, 84, 84, 80, 47]⟩ w).mono ?_
  rintro e w' ⟨rfl, rfl⟩
  exact ⟨rfl, rfl⟩
set_option maxHeartbeats 3200000 in
set_option maxRecDepth 100000 in
theorem line_http0 (i : HeadsIs w h false code v ls) (ht : TabsR w) (s : ByteArray) (hs : s.size ≤ 140737488351232) (rep : Bool) (hb : httpP s = true) :
    Calls Tryd.prog 30 #[.pointer (some ⟨h, 0, none⟩), .string s, .bool rep, .int .i64 0] w (HPost w h false v (if statusP s = 0 then 7 else 0) (if statusP s = 0 then code else statusP s) ls) := by
  have HC := closed_any i
  have HP := fun w => prefix_http s w
  rw [hb] at HP
  have d0 : ((0 : Int) != 0) = false := rfl
  have I := Lib.hid i
  have HS := Lib.hid hs
  have f2 := free_blk i.blk 2
  have x2 := i.cells.2.2.1
  unfold closedP at HC
  have HT := status_line (begins_size hb) hs w ht
  have HM := Lib.hid (statusP_range (s := s))
  generalize statusP s = m at HT HM ⊢
  clear i hs hb ht
  by_cases hm : m = 0
  · rw [if_pos hm, if_pos hm]
    subst hm
    go_enter Tryd.func30, Tryd.ntmps30
    go_wp2_with fail
    refine HC.mono ?_
    rintro e w1 ⟨rfl, rfl⟩
    clear HC
    go_wp2_with fail
    refine (HP _).mono ?_
    rintro e w1 ⟨rfl, rfl⟩
    clear HP
    go_wp2_with fail
    refine HT.mono ?_
    rintro e w2 ⟨rfl, hb⟩
    have I2 := Lib.hid (I.out.below hb)
    have B2 := Lib.hid hb
    clear HT hb
    go_wp2_with fail
    go_ret
    exact ⟨rfl, v, I2.out, Mod.of_below B2.out, .inl rfl⟩
  · rw [if_neg hm, if_neg hm]
    have dm : (m == 0) = false := by simp [hm]
    have HMR := Lib.hid (HM.out hm)
    clear hm HM
    go_enter Tryd.func30, Tryd.ntmps30
    go_wp2_with fail
    refine HC.mono ?_
    rintro e w1 ⟨rfl, rfl⟩
    clear HC
    go_wp2_with fail
    refine (HP _).mono ?_
    rintro e w1 ⟨rfl, rfl⟩
    clear HP
    go_wp2_with fail
    refine HT.mono ?_
    rintro e w2 ⟨rfl, hb⟩
    have I2 := Lib.hid (I.out.below hb)
    have B2 := Lib.hid hb
    have q2 := free_blk I2.out.blk 2
    have y2 := I2.out.cells.2.2.1
    clear HT hb
    go_wp2_with fail
    go_ret
    have J := I2.out.setCode HMR.out.1 HMR.out.2
    exact ⟨rfl, v, J, (Mod.of_below B2.out).setCell _ _ (fun _ => rfl), .inl rfl⟩
set_option maxHeartbeats 3200000 in
set_option maxRecDepth 100000 in
theorem line_form0 (i : HeadsIs w h false code v ls) (s : ByteArray) (hs : s.size ≤ 140737488351232) (rep : Bool) (hb : httpP s = false) (hf : nameP s = none ∨ valuedP s = false) :
    Calls Tryd.prog 30 #[.pointer (some ⟨h, 0, none⟩), .string s, .bool rep, .int .i64 0] w (HPost w h false v 7 code ls) := by
  have HC := closed_any i
  have HP := fun w => prefix_http s w
  rw [hb] at HP
  have d0 : ((0 : Int) != 0) = false := rfl
  have I := Lib.hid i
  have HS := Lib.hid hs
  have f2 := free_blk i.blk 2
  have x2 := i.cells.2.2.1
  unfold closedP at HC
  have HN := name_any hs w
  have HV := fun w => valued_any s hs w
  generalize nameV s = nv at HN
  have hfb : (nameP s).isSome = false ∨ ((nameP s).isSome = true ∧ valuedP s = false) := by
    cases hx : nameP s with
    | none => exact .inl rfl
    | some a => rw [hx] at hf; exact .inr ⟨rfl, hf.resolve_left (by simp)⟩
  generalize (nameP s).isSome = some' at HN hfb
  generalize valuedP s = val at HV hfb
  clear i hs hb hf
  rcases hfb with rfl | ⟨rfl, rfl⟩
  · go_enter Tryd.func30, Tryd.ntmps30
    go_wp2_with fail
    refine HC.mono ?_
    rintro e w1 ⟨rfl, rfl⟩
    clear HC
    go_wp2_with fail
    refine (HP _).mono ?_
    rintro e w1 ⟨rfl, rfl⟩
    clear HP
    go_wp2_with fail
    refine HN.mono ?_
    rintro e w2 ⟨rfl, hb⟩
    have I2 := Lib.hid (I.out.below hb)
    have B2 := Lib.hid hb
    clear HN hb HV
    go_wp2_with fail
    go_ret
    exact ⟨rfl, v, I2.out, Mod.of_below B2.out, .inl rfl⟩
  · go_enter Tryd.func30, Tryd.ntmps30
    go_wp2_with fail
    refine HC.mono ?_
    rintro e w1 ⟨rfl, rfl⟩
    clear HC
    go_wp2_with fail
    refine (HP _).mono ?_
    rintro e w1 ⟨rfl, rfl⟩
    clear HP
    go_wp2_with fail
    refine HN.mono ?_
    rintro e w2 ⟨rfl, hb⟩
    have I2 := Lib.hid (I.out.below hb)
    have B2 := Lib.hid hb
    clear HN hb
    go_wp2_with fail
    refine (HV _).mono ?_
    rintro e w3 ⟨rfl, rfl⟩
    clear HV
    go_wp2_with fail
    go_ret
    exact ⟨rfl, v, I2.out, Mod.of_below B2.out, .inl rfl⟩
set_option maxHeartbeats 3200000 in
set_option maxRecDepth 100000 in
theorem line_put0f_full (i : HeadsIs w h false code v ls) (s : ByteArray) (hs : s.size ≤ 140737488351232) (hb : httpP s = false) (hne : nameP s ≠ none) (hv : valuedP s = true) (hl : 64 ≤ ls.length) :
    Calls Tryd.prog 30 #[.pointer (some ⟨h, 0, none⟩), .string s, .bool false, .int .i64 0] w (HPost w h false v 8 code ls) := by
  have HC := closed_any i
  have HP := fun w => prefix_http s w
  rw [hb] at HP
  have d0 : ((0 : Int) != 0) = false := rfl
  have I := Lib.hid i
  have HS := Lib.hid hs
  have f2 := free_blk i.blk 2
  have x2 := i.cells.2.2.1
  unfold closedP at HC
  have HN := name_any hs w
  have HV := fun w => valued_any s hs w
  rw [hv] at HV
  have hsm : (nameP s).isSome = true := by cases hx : nameP s with | none => exact absurd hx hne | some a => rfl
  rw [hsm] at HN
  generalize nameV s = nv at HN
  obtain ⟨a0, c0, hv0, -⟩ := i.own.any
  rw [List.length_map] at hv0
  have dl : decide (64 ≤ (ls.length : Int)) = true := by simp; omega
  subst hv0
  clear i hs hb hne hv hsm hl
  go_enter Tryd.func30, Tryd.ntmps30
  go_wp2_with fail
  refine HC.mono ?_
  rintro e w1 ⟨rfl, rfl⟩
  clear HC
  go_wp2_with fail
  refine (HP _).mono ?_
  rintro e w1 ⟨rfl, rfl⟩
  clear HP
  go_wp2_with fail
  refine HN.mono ?_
  rintro e w2 ⟨rfl, hb⟩
  have I2 := Lib.hid (I.out.below hb)
  have B2 := Lib.hid hb
  clear HN hb
  go_wp2_with fail
  refine (HV _).mono ?_
  rintro e w3 ⟨rfl, rfl⟩
  clear HV
  have y3 := I2.out.cells.2.2.2
  have z3 := free_blk I2.out.blk 3
  go_wp2_with fail
  go_ret
  exact ⟨rfl, _, I2.out, Mod.of_below B2.out, .inl rfl⟩
set_option maxHeartbeats 3200000 in
set_option maxRecDepth 100000 in
theorem line_put0f (i : HeadsIs w h false code v ls) (s : ByteArray) (hs : s.size ≤ 140737488351232) (hb : httpP s = false) (hne : nameP s ≠ none) (hv : valuedP s = true) (hl : ¬ 64 ≤ ls.length) :
    Calls Tryd.prog 30 #[.pointer (some ⟨h, 0, none⟩), .string s, .bool false, .int .i64 0] w (HPost w h false v 0 (lineCode code s 0) (ls ++ [s])) := by
  obtain ⟨res, hres⟩ : ∃ res, res = lineCode code s 0 := ⟨_, rfl⟩
  rw [← hres]
  unfold lineCode at hres
  rw [if_neg (by simp)] at hres
  have HC := closed_any i
  have HP := fun w => prefix_http s w
  rw [hb] at HP
  have d0 : ((0 : Int) != 0) = false := rfl
  have I := Lib.hid i
  have HS := Lib.hid hs
  have f2 := free_blk i.blk 2
  have x2 := i.cells.2.2.1
  unfold closedP at HC
  have HN := name_any hs w
  have HV := fun w => valued_any s hs w
  rw [hv] at HV
  have hsm : (nameP s).isSome = true := by cases hx : nameP s with | none => exact absurd hx hne | some a => rfl
  rw [hsm] at HN
  generalize nameV s = nv at HN hres
  obtain ⟨a0, c0, hv0, -⟩ := i.own.any
  rw [List.length_map] at hv0
  have dl : decide (64 ≤ (ls.length : Int)) = false := by simp; omega
  subst hv0
  have HLE := Lib.hid (show ls.length ≤ 63 by omega)
  have HLT := Lib.hid (lt_of_block i.blk)
  have HRES := Lib.hid hres
  have HCR := Lib.hid (⟨i.lo, i.hi⟩ : _ ∧ _)
  clear hres
  clear i hs hb hne hv hsm hl
  go_enter Tryd.func30, Tryd.ntmps30
  go_wp2_with fail
  refine HC.mono ?_
  rintro e w1 ⟨rfl, rfl⟩
  clear HC
  go_wp2_with fail
  refine (HP _).mono ?_
  rintro e w1 ⟨rfl, rfl⟩
  clear HP
  go_wp2_with fail
  refine HN.mono ?_
  rintro e w2 ⟨rfl, hb⟩
  have I2 := Lib.hid (I.out.below hb)
  have B2 := Lib.hid hb
  clear HN hb
  go_wp2_with fail
  refine (HV _).mono ?_
  rintro e w3 ⟨rfl, rfl⟩
  clear HV
  have y3 := I2.out.cells.2.2.2
  have z3 := free_blk I2.out.blk 3
  go_wp2_with fail
  have HCl := clone_list I2.out.own (by have := HLE.out; omega)
  refine HCl.mono ?_
  rintro e w5 ⟨v5, rfl, o5, hb, n5⟩
  have I5 := Lib.hid (I2.out.below hb)
  have B5 := Lib.hid (B2.out.trans (hb.mono B2.out.size))
  have N5 := Lib.hid (⟨n5, B2.out.size⟩ : _ ∧ _)
  have I6 := Lib.hid (I5.out.below (below_alloc1 w5 (.cells #[.string s] 9)))
  have hO : Hid (Owns (w5.alloc (.cells #[.string s] 9)) 9 1 v5 (ls.map sR)) := Lib.hid (Owns.mod o5 (Mod.of_below (F := fun _ => False) (below_alloc1 w5 (.cells #[.string s] 9))) (fun _ _ x => x))
  have hL := Lib.hid (lies_new w5 [.string s] 9 rfl)
  have hr1 : Hid ((ls.map sR).length + ([[Value.string s]] : List (List Value)).length ≤ maxLen) := by show _ ≤ _; have := HLE.out; unfold maxLen; simp; omega
  have hr2 : Hid (((ls.map sR).length + ([[Value.string s]] : List (List Value)).length) * 16 ≤ 140737488355328) := by show _ ≤ _; have := HLE.out; simp; omega
  obtain ⟨a8, c8, hv8, -⟩ := o5.any
  rw [List.length_map] at hv8
  subst hv8
  clear HCl o5 hb n5
  rcases code_cases nv HCR.out.1 HCR.out.2 HRES.out with ⟨d1, he⟩ | ⟨d1, d2, he⟩ | ⟨d1, d2, d3, he⟩ | ⟨d1, d2, d3, he⟩
  · have HE := Lib.hid he
    clear he
    go_wp2_with (at_builtin; refine wpList_append_rows rfl (.tmp 69) (.tmp 71) 50 rfl 9 _ 1 16 Tryd.underlying50 info9 rfl (by decide) (.slice a8 ls.length c8) (ls.map sR) (by rfl) hO.out (some ⟨w5.heap.size, 0, none⟩) 1 1 [[.string s]] (by rfl) rfl (fun e => by cases e) hL.out (by simp [Value.oneCell']) (by simp) hr1.out (by have h := hr2.out; omega) ?_; intro v7 w7 o7 g7 n7; obtain ⟨a7, c7, hv7, -⟩ := o7.any; generalize (List.length _) = L7 at hv7; subst hv7; have O7 := Lib.hid o7; have G7 := Lib.hid (⟨g7, n7⟩ : _ ∧ _); have I7 := Lib.hid (I6.out.mod ((Mod.refl (fun k => (Value.slice a8 ls.length c8).ownBlock = some k) _).grown g7 (fun k e _ => e)) (fun e => by have h1 := N5.out.1 _ e; have h2 := N5.out.2; have h3 := HLT.out; have h4 := B2.out.size; omega) (fun g e e' => by have h1 := N5.out.1 _ e'; have h2 := I2.out.own.lt e; omega)); obtain ⟨-, -, p2, p3⟩ := I7.out.cells; have f2' := free_blk I7.out.blk 2; have f3' := free_blk I7.out.blk 3; clear o7 g7 n7)
    go_ret
    have hs5 := B5.out.size
    have hlt := HLT.out
    have hn5 := N5.out
    have hfr : ∀ g, (Value.slice a7 L7 c7).ownBlock = some g → w.heap.size ≤ g := fun g e => by
      rcases G7.out.2 with h' | ⟨g', h', hg⟩
      · rw [h'] at e; have := hn5.1 g e; have := hn5.2; omega
      · rw [h'] at e; cases e; simp at hg; omega
    have mA : Mod (fun k => k = h) w (w5.alloc (.cells #[.string s] 9)) := (Mod.of_below B5.out).alloc _
    have mB := mA.grown G7.out.1 (fun k e hk => by have := hn5.1 k e; have := hn5.2; omega)
    have o7 : Owns w7 9 1 (.slice a7 L7 c7) ((ls ++ [s]).map sR) := by rw [List.map_append]; exact O7.out
    have J1 := I7.out.setLines (v' := .slice a7 L7 c7) (ls' := ls ++ [s]) o7 (fun e => by have := hfr _ e; omega) (by have := HLE.out; simp; omega)
    have m1 := mB.setCell ⟨h, 3, none⟩ (.slice a7 L7 c7) (fun _ => rfl)
    rw [HE.out]
    exact ⟨rfl, _, J1, m1, .inr hfr⟩
  · have HE := Lib.hid he
    clear he
    go_wp2_with (at_builtin; refine wpList_append_rows rfl (.tmp 69) (.tmp 71) 50 rfl 9 _ 1 16 Tryd.underlying50 info9 rfl (by decide) (.slice a8 ls.length c8) (ls.map sR) (by rfl) hO.out (some ⟨w5.heap.size, 0, none⟩) 1 1 [[.string s]] (by rfl) rfl (fun e => by cases e) hL.out (by simp [Value.oneCell']) (by simp) hr1.out (by have h := hr2.out; omega) ?_; intro v7 w7 o7 g7 n7; obtain ⟨a7, c7, hv7, -⟩ := o7.any; generalize (List.length _) = L7 at hv7; subst hv7; have O7 := Lib.hid o7; have G7 := Lib.hid (⟨g7, n7⟩ : _ ∧ _); have I7 := Lib.hid (I6.out.mod ((Mod.refl (fun k => (Value.slice a8 ls.length c8).ownBlock = some k) _).grown g7 (fun k e _ => e)) (fun e => by have h1 := N5.out.1 _ e; have h2 := N5.out.2; have h3 := HLT.out; have h4 := B2.out.size; omega) (fun g e e' => by have h1 := N5.out.1 _ e'; have h2 := I2.out.own.lt e; omega)); obtain ⟨-, -, p2, p3⟩ := I7.out.cells; have f2' := free_blk I7.out.blk 2; have f3' := free_blk I7.out.blk 3; clear o7 g7 n7)
    go_ret
    have hs5 := B5.out.size
    have hlt := HLT.out
    have hn5 := N5.out
    have hfr : ∀ g, (Value.slice a7 L7 c7).ownBlock = some g → w.heap.size ≤ g := fun g e => by
      rcases G7.out.2 with h' | ⟨g', h', hg⟩
      · rw [h'] at e; have := hn5.1 g e; have := hn5.2; omega
      · rw [h'] at e; cases e; simp at hg; omega
    have mA : Mod (fun k => k = h) w (w5.alloc (.cells #[.string s] 9)) := (Mod.of_below B5.out).alloc _
    have mB := mA.grown G7.out.1 (fun k e hk => by have := hn5.1 k e; have := hn5.2; omega)
    have o7 : Owns w7 9 1 (.slice a7 L7 c7) ((ls ++ [s]).map sR) := by rw [List.map_append]; exact O7.out
    have J1 := I7.out.setLines (v' := .slice a7 L7 c7) (ls' := ls ++ [s]) o7 (fun e => by have := hfr _ e; omega) (by have := HLE.out; simp; omega)
    have m1 := mB.setCell ⟨h, 3, none⟩ (.slice a7 L7 c7) (fun _ => rfl)
    rw [HE.out]
    exact ⟨rfl, _, J1, m1, .inr hfr⟩
  · have HE := Lib.hid he
    clear he
    go_wp2_with (at_builtin; refine wpList_append_rows rfl (.tmp 69) (.tmp 71) 50 rfl 9 _ 1 16 Tryd.underlying50 info9 rfl (by decide) (.slice a8 ls.length c8) (ls.map sR) (by rfl) hO.out (some ⟨w5.heap.size, 0, none⟩) 1 1 [[.string s]] (by rfl) rfl (fun e => by cases e) hL.out (by simp [Value.oneCell']) (by simp) hr1.out (by have h := hr2.out; omega) ?_; intro v7 w7 o7 g7 n7; obtain ⟨a7, c7, hv7, -⟩ := o7.any; generalize (List.length _) = L7 at hv7; subst hv7; have O7 := Lib.hid o7; have G7 := Lib.hid (⟨g7, n7⟩ : _ ∧ _); have I7 := Lib.hid (I6.out.mod ((Mod.refl (fun k => (Value.slice a8 ls.length c8).ownBlock = some k) _).grown g7 (fun k e _ => e)) (fun e => by have h1 := N5.out.1 _ e; have h2 := N5.out.2; have h3 := HLT.out; have h4 := B2.out.size; omega) (fun g e e' => by have h1 := N5.out.1 _ e'; have h2 := I2.out.own.lt e; omega)); obtain ⟨-, -, p2, p3⟩ := I7.out.cells; have f2' := free_blk I7.out.blk 2; have f3' := free_blk I7.out.blk 3; clear o7 g7 n7)
    go_ret
    have hs5 := B5.out.size
    have hlt := HLT.out
    have hn5 := N5.out
    have hfr : ∀ g, (Value.slice a7 L7 c7).ownBlock = some g → w.heap.size ≤ g := fun g e => by
      rcases G7.out.2 with h' | ⟨g', h', hg⟩
      · rw [h'] at e; have := hn5.1 g e; have := hn5.2; omega
      · rw [h'] at e; cases e; simp at hg; omega
    have mA : Mod (fun k => k = h) w (w5.alloc (.cells #[.string s] 9)) := (Mod.of_below B5.out).alloc _
    have mB := mA.grown G7.out.1 (fun k e hk => by have := hn5.1 k e; have := hn5.2; omega)
    have o7 : Owns w7 9 1 (.slice a7 L7 c7) ((ls ++ [s]).map sR) := by rw [List.map_append]; exact O7.out
    have J1 := I7.out.setLines (v' := .slice a7 L7 c7) (ls' := ls ++ [s]) o7 (fun e => by have := hfr _ e; omega) (by have := HLE.out; simp; omega)
    have m1 := mB.setCell ⟨h, 3, none⟩ (.slice a7 L7 c7) (fun _ => rfl)
    rw [HE.out]
    exact ⟨rfl, _, J1, m1, .inr hfr⟩
  · have HE := Lib.hid he
    clear he
    go_wp2_with (at_builtin; refine wpList_append_rows rfl (.tmp 69) (.tmp 71) 50 rfl 9 _ 1 16 Tryd.underlying50 info9 rfl (by decide) (.slice a8 ls.length c8) (ls.map sR) (by rfl) hO.out (some ⟨w5.heap.size, 0, none⟩) 1 1 [[.string s]] (by rfl) rfl (fun e => by cases e) hL.out (by simp [Value.oneCell']) (by simp) hr1.out (by have h := hr2.out; omega) ?_; intro v7 w7 o7 g7 n7; obtain ⟨a7, c7, hv7, -⟩ := o7.any; generalize (List.length _) = L7 at hv7; subst hv7; have O7 := Lib.hid o7; have G7 := Lib.hid (⟨g7, n7⟩ : _ ∧ _); have I7 := Lib.hid (I6.out.mod ((Mod.refl (fun k => (Value.slice a8 ls.length c8).ownBlock = some k) _).grown g7 (fun k e _ => e)) (fun e => by have h1 := N5.out.1 _ e; have h2 := N5.out.2; have h3 := HLT.out; have h4 := B2.out.size; omega) (fun g e e' => by have h1 := N5.out.1 _ e'; have h2 := I2.out.own.lt e; omega)); obtain ⟨-, -, p2, p3⟩ := I7.out.cells; have f2' := free_blk I7.out.blk 2; have f3' := free_blk I7.out.blk 3; clear o7 g7 n7)
    go_ret
    have hs5 := B5.out.size
    have hlt := HLT.out
    have hn5 := N5.out
    have hfr : ∀ g, (Value.slice a7 L7 c7).ownBlock = some g → w.heap.size ≤ g := fun g e => by
      rcases G7.out.2 with h' | ⟨g', h', hg⟩
      · rw [h'] at e; have := hn5.1 g e; have := hn5.2; omega
      · rw [h'] at e; cases e; simp at hg; omega
    have mA : Mod (fun k => k = h) w (w5.alloc (.cells #[.string s] 9)) := (Mod.of_below B5.out).alloc _
    have mB := mA.grown G7.out.1 (fun k e hk => by have := hn5.1 k e; have := hn5.2; omega)
    have o7 : Owns w7 9 1 (.slice a7 L7 c7) ((ls ++ [s]).map sR) := by rw [List.map_append]; exact O7.out
    have J1 := I7.out.setLines (v' := .slice a7 L7 c7) (ls' := ls ++ [s]) o7 (fun e => by have := hfr _ e; omega) (by have := HLE.out; simp; omega)
    have m1 := mB.setCell ⟨h, 3, none⟩ (.slice a7 L7 c7) (fun _ => rfl)
    rw [HE.out]
    exact ⟨rfl, _, J1.setCode (by decide) (by decide), m1.setCell _ _ (fun _ => rfl), .inr hfr⟩
set_option maxHeartbeats 3200000 in
set_option maxRecDepth 100000 in
theorem line_put0t_full (i : HeadsIs w h false code v ls) (hsz : Small ls) (s : ByteArray) (hs : s.size ≤ 140737488351232) (hb : httpP s = false) (hne : nameP s ≠ none) (hv : valuedP s = true) (hl : 64 ≤ (dropP (str (nameV s)) ls).length) :
    Calls Tryd.prog 30 #[.pointer (some ⟨h, 0, none⟩), .string s, .bool true, .int .i64 0] w (HPost w h false v 8 code ls) := by
  have HC := closed_any i
  have HP := fun w => prefix_http s w
  rw [hb] at HP
  have d0 : ((0 : Int) != 0) = false := rfl
  have I := Lib.hid i
  have HS := Lib.hid hs
  have f2 := free_blk i.blk 2
  have x2 := i.cells.2.2.1
  unfold closedP at HC
  have HN := name_any hs w
  have HV := fun w => valued_any s hs w
  rw [hv] at HV
  have hsm : (nameP s).isSome = true := by cases hx : nameP s with | none => exact absurd hx hne | some a => rfl
  rw [hsm] at HN
  generalize nameV s = nv at HN hl ⊢
  have HW : ∀ W, Below w.heap.size w W → Calls Tryd.prog 53 #[v, .string (str nv)] W (WithoutPost W (str nv) ls) := fun W hb => without_any ((i.below hb).own) (by have := i.len; omega) hsz
  have dl : decide (64 ≤ ((dropP (str nv) ls).length : Int)) = true := by simp; omega
  clear i hs hb hne hv hsm hl hsz
  go_enter Tryd.func30, Tryd.ntmps30
  go_wp2_with fail
  refine HC.mono ?_
  rintro e w1 ⟨rfl, rfl⟩
  clear HC
  go_wp2_with fail
  refine (HP _).mono ?_
  rintro e w1 ⟨rfl, rfl⟩
  clear HP
  go_wp2_with fail
  refine HN.mono ?_
  rintro e w2 ⟨rfl, hb⟩
  have I2 := Lib.hid (I.out.below hb)
  have B2 := Lib.hid hb
  clear HN hb
  go_wp2_with fail
  refine (HV _).mono ?_
  rintro e w3 ⟨rfl, rfl⟩
  clear HV
  have y3 := I2.out.cells.2.2.2
  have z3 := free_blk I2.out.blk 3
  go_wp2_with fail
  refine (HW _ B2.out).mono ?_
  rintro e w4 ⟨v4, rfl, o4, hb, n4⟩
  have I4 := Lib.hid (I2.out.below hb)
  have B4 := Lib.hid (B2.out.trans (hb.mono B2.out.size))
  have O4 := Lib.hid o4
  clear HW hb y3 z3
  obtain ⟨a4, c4, hv4, -⟩ := o4.any
  rw [List.length_map] at hv4
  subst hv4
  clear o4 n4
  go_wp2_with fail
  go_ret
  exact ⟨rfl, _, I4.out, Mod.of_below B4.out, .inl rfl⟩
set_option maxHeartbeats 3200000 in
set_option maxRecDepth 100000 in
theorem line_put0t (i : HeadsIs w h false code v ls) (hsz : Small ls) (s : ByteArray) (hs : s.size ≤ 140737488351232) (hb : httpP s = false) (hne : nameP s ≠ none) (hv : valuedP s = true) (hl : ¬ 64 ≤ (dropP (str (nameV s)) ls).length) :
    Calls Tryd.prog 30 #[.pointer (some ⟨h, 0, none⟩), .string s, .bool true, .int .i64 0] w (HPost w h false v 0 (lineCode code s 0) ((dropP (str (nameV s)) ls) ++ [s])) := by
  obtain ⟨res, hres⟩ : ∃ res, res = lineCode code s 0 := ⟨_, rfl⟩
  rw [← hres]
  unfold lineCode at hres
  rw [if_neg (by simp)] at hres
  have HC := closed_any i
  have HP := fun w => prefix_http s w
  rw [hb] at HP
  have d0 : ((0 : Int) != 0) = false := rfl
  have I := Lib.hid i
  have HS := Lib.hid hs
  have f2 := free_blk i.blk 2
  have x2 := i.cells.2.2.1
  unfold closedP at HC
  have HN := name_any hs w
  have HV := fun w => valued_any s hs w
  rw [hv] at HV
  have hsm : (nameP s).isSome = true := by cases hx : nameP s with | none => exact absurd hx hne | some a => rfl
  rw [hsm] at HN
  generalize nameV s = nv at HN hl hres ⊢
  have HW : ∀ W, Below w.heap.size w W → Calls Tryd.prog 53 #[v, .string (str nv)] W (WithoutPost W (str nv) ls) := fun W hb => without_any ((i.below hb).own) (by have := i.len; omega) hsz
  have dl : decide (64 ≤ ((dropP (str nv) ls).length : Int)) = false := by simp; omega
  have HLE := Lib.hid (show (dropP (str nv) ls).length ≤ 63 by omega)
  have HLT := Lib.hid (lt_of_block i.blk)
  have HRES := Lib.hid hres
  have HCR := Lib.hid (⟨i.lo, i.hi⟩ : _ ∧ _)
  clear hres
  clear i hs hb hne hv hsm hl hsz
  go_enter Tryd.func30, Tryd.ntmps30
  go_wp2_with fail
  refine HC.mono ?_
  rintro e w1 ⟨rfl, rfl⟩
  clear HC
  go_wp2_with fail
  refine (HP _).mono ?_
  rintro e w1 ⟨rfl, rfl⟩
  clear HP
  go_wp2_with fail
  refine HN.mono ?_
  rintro e w2 ⟨rfl, hb⟩
  have I2 := Lib.hid (I.out.below hb)
  have B2 := Lib.hid hb
  clear HN hb
  go_wp2_with fail
  refine (HV _).mono ?_
  rintro e w3 ⟨rfl, rfl⟩
  clear HV
  have y3 := I2.out.cells.2.2.2
  have z3 := free_blk I2.out.blk 3
  go_wp2_with fail
  refine (HW _ B2.out).mono ?_
  rintro e w4 ⟨v4, rfl, o4, hb, n4⟩
  have I4 := Lib.hid (I2.out.below hb)
  have B4 := Lib.hid (B2.out.trans (hb.mono B2.out.size))
  have O4 := Lib.hid o4
  clear HW hb y3 z3
  obtain ⟨a4, c4, hv4, -⟩ := o4.any
  rw [List.length_map] at hv4
  subst hv4
  clear o4 n4
  go_wp2_with fail
  have HCl := clone_list O4.out (by have := HLE.out; omega)
  refine HCl.mono ?_
  rintro e w5 ⟨v5, rfl, o5, hb, n5⟩
  have I5 := Lib.hid (I4.out.below hb)
  have B5 := Lib.hid (B4.out.trans (hb.mono B4.out.size))
  have N5 := Lib.hid (⟨n5, B4.out.size⟩ : _ ∧ _)
  have I6 := Lib.hid (I5.out.below (below_alloc1 w5 (.cells #[.string s] 9)))
  have hO : Hid (Owns (w5.alloc (.cells #[.string s] 9)) 9 1 v5 ((dropP (str nv) ls).map sR)) := Lib.hid (Owns.mod o5 (Mod.of_below (F := fun _ => False) (below_alloc1 w5 (.cells #[.string s] 9))) (fun _ _ x => x))
  have hL := Lib.hid (lies_new w5 [.string s] 9 rfl)
  have hr1 : Hid (((dropP (str nv) ls).map sR).length + ([[Value.string s]] : List (List Value)).length ≤ maxLen) := by show _ ≤ _; have := HLE.out; unfold maxLen; simp; omega
  have hr2 : Hid ((((dropP (str nv) ls).map sR).length + ([[Value.string s]] : List (List Value)).length) * 16 ≤ 140737488355328) := by show _ ≤ _; have := HLE.out; simp; omega
  obtain ⟨a8, c8, hv8, -⟩ := o5.any
  rw [List.length_map] at hv8
  subst hv8
  clear HCl o5 hb n5
  rcases code_cases nv HCR.out.1 HCR.out.2 HRES.out with ⟨d1, he⟩ | ⟨d1, d2, he⟩ | ⟨d1, d2, d3, he⟩ | ⟨d1, d2, d3, he⟩
  · have HE := Lib.hid he
    clear he
    go_wp2_with (at_builtin; refine wpList_append_rows rfl (.tmp 69) (.tmp 71) 50 rfl 9 _ 1 16 Tryd.underlying50 info9 rfl (by decide) (.slice a8 (dropP (str nv) ls).length c8) ((dropP (str nv) ls).map sR) (by rfl) hO.out (some ⟨w5.heap.size, 0, none⟩) 1 1 [[.string s]] (by rfl) rfl (fun e => by cases e) hL.out (by simp [Value.oneCell']) (by simp) hr1.out (by have h := hr2.out; omega) ?_; intro v7 w7 o7 g7 n7; obtain ⟨a7, c7, hv7, -⟩ := o7.any; generalize (List.length _) = L7 at hv7; subst hv7; have O7 := Lib.hid o7; have G7 := Lib.hid (⟨g7, n7⟩ : _ ∧ _); have I7 := Lib.hid (I6.out.mod ((Mod.refl (fun k => (Value.slice a8 (dropP (str nv) ls).length c8).ownBlock = some k) _).grown g7 (fun k e _ => e)) (fun e => by have h1 := N5.out.1 _ e; have h2 := N5.out.2; have h3 := HLT.out; have h4 := B4.out.size; omega) (fun g e e' => by have h1 := N5.out.1 _ e'; have h2 := I4.out.own.lt e; omega)); obtain ⟨-, -, p2, p3⟩ := I7.out.cells; have f2' := free_blk I7.out.blk 2; have f3' := free_blk I7.out.blk 3; clear o7 g7 n7)
    go_ret
    have hs5 := B5.out.size
    have hlt := HLT.out
    have hn5 := N5.out
    have hfr : ∀ g, (Value.slice a7 L7 c7).ownBlock = some g → w.heap.size ≤ g := fun g e => by
      rcases G7.out.2 with h' | ⟨g', h', hg⟩
      · rw [h'] at e; have := hn5.1 g e; have := hn5.2; omega
      · rw [h'] at e; cases e; simp at hg; omega
    have mA : Mod (fun k => k = h) w (w5.alloc (.cells #[.string s] 9)) := (Mod.of_below B5.out).alloc _
    have mB := mA.grown G7.out.1 (fun k e hk => by have := hn5.1 k e; have := hn5.2; omega)
    have o7 : Owns w7 9 1 (.slice a7 L7 c7) (((dropP (str nv) ls) ++ [s]).map sR) := by rw [List.map_append]; exact O7.out
    have J1 := I7.out.setLines (v' := .slice a7 L7 c7) (ls' := (dropP (str nv) ls) ++ [s]) o7 (fun e => by have := hfr _ e; omega) (by have := HLE.out; simp; omega)
    have m1 := mB.setCell ⟨h, 3, none⟩ (.slice a7 L7 c7) (fun _ => rfl)
    rw [HE.out]
    exact ⟨rfl, _, J1, m1, .inr hfr⟩
  · have HE := Lib.hid he
    clear he
    go_wp2_with (at_builtin; refine wpList_append_rows rfl (.tmp 69) (.tmp 71) 50 rfl 9 _ 1 16 Tryd.underlying50 info9 rfl (by decide) (.slice a8 (dropP (str nv) ls).length c8) ((dropP (str nv) ls).map sR) (by rfl) hO.out (some ⟨w5.heap.size, 0, none⟩) 1 1 [[.string s]] (by rfl) rfl (fun e => by cases e) hL.out (by simp [Value.oneCell']) (by simp) hr1.out (by have h := hr2.out; omega) ?_; intro v7 w7 o7 g7 n7; obtain ⟨a7, c7, hv7, -⟩ := o7.any; generalize (List.length _) = L7 at hv7; subst hv7; have O7 := Lib.hid o7; have G7 := Lib.hid (⟨g7, n7⟩ : _ ∧ _); have I7 := Lib.hid (I6.out.mod ((Mod.refl (fun k => (Value.slice a8 (dropP (str nv) ls).length c8).ownBlock = some k) _).grown g7 (fun k e _ => e)) (fun e => by have h1 := N5.out.1 _ e; have h2 := N5.out.2; have h3 := HLT.out; have h4 := B4.out.size; omega) (fun g e e' => by have h1 := N5.out.1 _ e'; have h2 := I4.out.own.lt e; omega)); obtain ⟨-, -, p2, p3⟩ := I7.out.cells; have f2' := free_blk I7.out.blk 2; have f3' := free_blk I7.out.blk 3; clear o7 g7 n7)
    go_ret
    have hs5 := B5.out.size
    have hlt := HLT.out
    have hn5 := N5.out
    have hfr : ∀ g, (Value.slice a7 L7 c7).ownBlock = some g → w.heap.size ≤ g := fun g e => by
      rcases G7.out.2 with h' | ⟨g', h', hg⟩
      · rw [h'] at e; have := hn5.1 g e; have := hn5.2; omega
      · rw [h'] at e; cases e; simp at hg; omega
    have mA : Mod (fun k => k = h) w (w5.alloc (.cells #[.string s] 9)) := (Mod.of_below B5.out).alloc _
    have mB := mA.grown G7.out.1 (fun k e hk => by have := hn5.1 k e; have := hn5.2; omega)
    have o7 : Owns w7 9 1 (.slice a7 L7 c7) (((dropP (str nv) ls) ++ [s]).map sR) := by rw [List.map_append]; exact O7.out
    have J1 := I7.out.setLines (v' := .slice a7 L7 c7) (ls' := (dropP (str nv) ls) ++ [s]) o7 (fun e => by have := hfr _ e; omega) (by have := HLE.out; simp; omega)
    have m1 := mB.setCell ⟨h, 3, none⟩ (.slice a7 L7 c7) (fun _ => rfl)
    rw [HE.out]
    exact ⟨rfl, _, J1, m1, .inr hfr⟩
  · have HE := Lib.hid he
    clear he
    go_wp2_with (at_builtin; refine wpList_append_rows rfl (.tmp 69) (.tmp 71) 50 rfl 9 _ 1 16 Tryd.underlying50 info9 rfl (by decide) (.slice a8 (dropP (str nv) ls).length c8) ((dropP (str nv) ls).map sR) (by rfl) hO.out (some ⟨w5.heap.size, 0, none⟩) 1 1 [[.string s]] (by rfl) rfl (fun e => by cases e) hL.out (by simp [Value.oneCell']) (by simp) hr1.out (by have h := hr2.out; omega) ?_; intro v7 w7 o7 g7 n7; obtain ⟨a7, c7, hv7, -⟩ := o7.any; generalize (List.length _) = L7 at hv7; subst hv7; have O7 := Lib.hid o7; have G7 := Lib.hid (⟨g7, n7⟩ : _ ∧ _); have I7 := Lib.hid (I6.out.mod ((Mod.refl (fun k => (Value.slice a8 (dropP (str nv) ls).length c8).ownBlock = some k) _).grown g7 (fun k e _ => e)) (fun e => by have h1 := N5.out.1 _ e; have h2 := N5.out.2; have h3 := HLT.out; have h4 := B4.out.size; omega) (fun g e e' => by have h1 := N5.out.1 _ e'; have h2 := I4.out.own.lt e; omega)); obtain ⟨-, -, p2, p3⟩ := I7.out.cells; have f2' := free_blk I7.out.blk 2; have f3' := free_blk I7.out.blk 3; clear o7 g7 n7)
    go_ret
    have hs5 := B5.out.size
    have hlt := HLT.out
    have hn5 := N5.out
    have hfr : ∀ g, (Value.slice a7 L7 c7).ownBlock = some g → w.heap.size ≤ g := fun g e => by
      rcases G7.out.2 with h' | ⟨g', h', hg⟩
      · rw [h'] at e; have := hn5.1 g e; have := hn5.2; omega
      · rw [h'] at e; cases e; simp at hg; omega
    have mA : Mod (fun k => k = h) w (w5.alloc (.cells #[.string s] 9)) := (Mod.of_below B5.out).alloc _
    have mB := mA.grown G7.out.1 (fun k e hk => by have := hn5.1 k e; have := hn5.2; omega)
    have o7 : Owns w7 9 1 (.slice a7 L7 c7) (((dropP (str nv) ls) ++ [s]).map sR) := by rw [List.map_append]; exact O7.out
    have J1 := I7.out.setLines (v' := .slice a7 L7 c7) (ls' := (dropP (str nv) ls) ++ [s]) o7 (fun e => by have := hfr _ e; omega) (by have := HLE.out; simp; omega)
    have m1 := mB.setCell ⟨h, 3, none⟩ (.slice a7 L7 c7) (fun _ => rfl)
    rw [HE.out]
    exact ⟨rfl, _, J1, m1, .inr hfr⟩
  · have HE := Lib.hid he
    clear he
    go_wp2_with (at_builtin; refine wpList_append_rows rfl (.tmp 69) (.tmp 71) 50 rfl 9 _ 1 16 Tryd.underlying50 info9 rfl (by decide) (.slice a8 (dropP (str nv) ls).length c8) ((dropP (str nv) ls).map sR) (by rfl) hO.out (some ⟨w5.heap.size, 0, none⟩) 1 1 [[.string s]] (by rfl) rfl (fun e => by cases e) hL.out (by simp [Value.oneCell']) (by simp) hr1.out (by have h := hr2.out; omega) ?_; intro v7 w7 o7 g7 n7; obtain ⟨a7, c7, hv7, -⟩ := o7.any; generalize (List.length _) = L7 at hv7; subst hv7; have O7 := Lib.hid o7; have G7 := Lib.hid (⟨g7, n7⟩ : _ ∧ _); have I7 := Lib.hid (I6.out.mod ((Mod.refl (fun k => (Value.slice a8 (dropP (str nv) ls).length c8).ownBlock = some k) _).grown g7 (fun k e _ => e)) (fun e => by have h1 := N5.out.1 _ e; have h2 := N5.out.2; have h3 := HLT.out; have h4 := B4.out.size; omega) (fun g e e' => by have h1 := N5.out.1 _ e'; have h2 := I4.out.own.lt e; omega)); obtain ⟨-, -, p2, p3⟩ := I7.out.cells; have f2' := free_blk I7.out.blk 2; have f3' := free_blk I7.out.blk 3; clear o7 g7 n7)
    go_ret
    have hs5 := B5.out.size
    have hlt := HLT.out
    have hn5 := N5.out
    have hfr : ∀ g, (Value.slice a7 L7 c7).ownBlock = some g → w.heap.size ≤ g := fun g e => by
      rcases G7.out.2 with h' | ⟨g', h', hg⟩
      · rw [h'] at e; have := hn5.1 g e; have := hn5.2; omega
      · rw [h'] at e; cases e; simp at hg; omega
    have mA : Mod (fun k => k = h) w (w5.alloc (.cells #[.string s] 9)) := (Mod.of_below B5.out).alloc _
    have mB := mA.grown G7.out.1 (fun k e hk => by have := hn5.1 k e; have := hn5.2; omega)
    have o7 : Owns w7 9 1 (.slice a7 L7 c7) (((dropP (str nv) ls) ++ [s]).map sR) := by rw [List.map_append]; exact O7.out
    have J1 := I7.out.setLines (v' := .slice a7 L7 c7) (ls' := (dropP (str nv) ls) ++ [s]) o7 (fun e => by have := hfr _ e; omega) (by have := HLE.out; simp; omega)
    have m1 := mB.setCell ⟨h, 3, none⟩ (.slice a7 L7 c7) (fun _ => rfl)
    rw [HE.out]
    exact ⟨rfl, _, J1.setCode (by decide) (by decide), m1.setCell _ _ (fun _ => rfl), .inr hfr⟩
set_option maxHeartbeats 3200000 in
set_option maxRecDepth 100000 in
theorem line_httpn (i : HeadsIs w h false code v ls) (ht : TabsR w) (s : ByteArray) (hs : s.size ≤ 140737488351232) (rep : Bool) (n : Int) (hn : n ≠ 0) (hr : 100 ≤ n ∧ n ≤ 599) (hb : httpP s = true) :
    Calls Tryd.prog 30 #[.pointer (some ⟨h, 0, none⟩), .string s, .bool rep, .int .i64 n] w (HPost w h false v (if statusP s = 0 then 7 else 0) (if statusP s = 0 then code else n) ls) := by
  have HC := closed_any i
  have HP := fun w => prefix_http s w
  rw [hb] at HP
  have HD := code_any n w
  have d : (decide (100 ≤ n) && decide (n ≤ 599)) = true := by simp [hr]
  rw [d] at HD
  have HNR := Lib.hid hr
  have d0 : (n != 0) = true := by simp [hn]
  have I := Lib.hid i
  have HS := Lib.hid hs
  have f2 := free_blk i.blk 2
  have x2 := i.cells.2.2.1
  unfold closedP at HC
  have HT := status_line (begins_size hb) hs w ht
  have HM := Lib.hid (statusP_range (s := s))
  generalize statusP s = m at HT HM ⊢
  clear i hs hb ht d hn hr
  by_cases hm : m = 0
  · rw [if_pos hm, if_pos hm]
    subst hm
    go_enter Tryd.func30, Tryd.ntmps30
    go_wp2_with fail
    refine HC.mono ?_
    rintro e w1 ⟨rfl, rfl⟩
    clear HC
    go_wp2_with fail
    refine HD.mono ?_
    rintro e w1 ⟨rfl, rfl⟩
    clear HD
    go_wp2_with fail
    refine (HP _).mono ?_
    rintro e w1 ⟨rfl, rfl⟩
    clear HP
    go_wp2_with fail
    refine HT.mono ?_
    rintro e w2 ⟨rfl, hb⟩
    have I2 := Lib.hid (I.out.below hb)
    have B2 := Lib.hid hb
    clear HT hb
    go_wp2_with fail
    go_ret
    exact ⟨rfl, v, I2.out, Mod.of_below B2.out, .inl rfl⟩
  · rw [if_neg hm, if_neg hm]
    have dm : (m == 0) = false := by simp [hm]
    have HMR := Lib.hid (HM.out hm)
    clear hm HM
    go_enter Tryd.func30, Tryd.ntmps30
    go_wp2_with fail
    refine HC.mono ?_
    rintro e w1 ⟨rfl, rfl⟩
    clear HC
    go_wp2_with fail
    refine HD.mono ?_
    rintro e w1 ⟨rfl, rfl⟩
    clear HD
    go_wp2_with fail
    refine (HP _).mono ?_
    rintro e w1 ⟨rfl, rfl⟩
    clear HP
    go_wp2_with fail
    refine HT.mono ?_
    rintro e w2 ⟨rfl, hb⟩
    have I2 := Lib.hid (I.out.below hb)
    have B2 := Lib.hid hb
    have q2 := free_blk I2.out.blk 2
    have y2 := I2.out.cells.2.2.1
    clear HT hb
    go_wp2_with fail
    go_ret
    have J := (I2.out.setCode HMR.out.1 HMR.out.2).setCode HNR.out.1 HNR.out.2
    have m1 : Mod (fun k => k = h) w (w2.setCell ⟨h, 2, none⟩ (.int .i64 m)) := (Mod.of_below B2.out).setCell _ _ (fun _ => rfl)
    exact ⟨rfl, v, J, m1.setCell _ _ (fun _ => rfl), .inl rfl⟩
set_option maxHeartbeats 3200000 in
set_option maxRecDepth 100000 in
theorem line_formn (i : HeadsIs w h false code v ls) (s : ByteArray) (hs : s.size ≤ 140737488351232) (rep : Bool) (n : Int) (hn : n ≠ 0) (hr : 100 ≤ n ∧ n ≤ 599) (hb : httpP s = false) (hf : nameP s = none ∨ valuedP s = false) :
    Calls Tryd.prog 30 #[.pointer (some ⟨h, 0, none⟩), .string s, .bool rep, .int .i64 n] w (HPost w h false v 7 code ls) := by
  have HC := closed_any i
  have HP := fun w => prefix_http s w
  rw [hb] at HP
  have HD := code_any n w
  have d : (decide (100 ≤ n) && decide (n ≤ 599)) = true := by simp [hr]
  rw [d] at HD
  have HNR := Lib.hid hr
  have d0 : (n != 0) = true := by simp [hn]
  have I := Lib.hid i
  have HS := Lib.hid hs
  have f2 := free_blk i.blk 2
  have x2 := i.cells.2.2.1
  unfold closedP at HC
  have HN := name_any hs w
  have HV := fun w => valued_any s hs w
  generalize nameV s = nv at HN
  have hfb : (nameP s).isSome = false ∨ ((nameP s).isSome = true ∧ valuedP s = false) := by
    cases hx : nameP s with
    | none => exact .inl rfl
    | some a => rw [hx] at hf; exact .inr ⟨rfl, hf.resolve_left (by simp)⟩
  generalize (nameP s).isSome = some' at HN hfb
  generalize valuedP s = val at HV hfb
  clear i hs hb hf d hn hr
  rcases hfb with rfl | ⟨rfl, rfl⟩
  · go_enter Tryd.func30, Tryd.ntmps30
    go_wp2_with fail
    refine HC.mono ?_
    rintro e w1 ⟨rfl, rfl⟩
    clear HC
    go_wp2_with fail
    refine HD.mono ?_
    rintro e w1 ⟨rfl, rfl⟩
    clear HD
    go_wp2_with fail
    refine (HP _).mono ?_
    rintro e w1 ⟨rfl, rfl⟩
    clear HP
    go_wp2_with fail
    refine HN.mono ?_
    rintro e w2 ⟨rfl, hb⟩
    have I2 := Lib.hid (I.out.below hb)
    have B2 := Lib.hid hb
    clear HN hb HV
    go_wp2_with fail
    go_ret
    exact ⟨rfl, v, I2.out, Mod.of_below B2.out, .inl rfl⟩
  · go_enter Tryd.func30, Tryd.ntmps30
    go_wp2_with fail
    refine HC.mono ?_
    rintro e w1 ⟨rfl, rfl⟩
    clear HC
    go_wp2_with fail
    refine HD.mono ?_
    rintro e w1 ⟨rfl, rfl⟩
    clear HD
    go_wp2_with fail
    refine (HP _).mono ?_
    rintro e w1 ⟨rfl, rfl⟩
    clear HP
    go_wp2_with fail
    refine HN.mono ?_
    rintro e w2 ⟨rfl, hb⟩
    have I2 := Lib.hid (I.out.below hb)
    have B2 := Lib.hid hb
    clear HN hb
    go_wp2_with fail
    refine (HV _).mono ?_
    rintro e w3 ⟨rfl, rfl⟩
    clear HV
    go_wp2_with fail
    go_ret
    exact ⟨rfl, v, I2.out, Mod.of_below B2.out, .inl rfl⟩
set_option maxHeartbeats 3200000 in
set_option maxRecDepth 100000 in
theorem line_putnf_full (i : HeadsIs w h false code v ls) (s : ByteArray) (hs : s.size ≤ 140737488351232) (n : Int) (hn : n ≠ 0) (hr : 100 ≤ n ∧ n ≤ 599) (hb : httpP s = false) (hne : nameP s ≠ none) (hv : valuedP s = true) (hl : 64 ≤ ls.length) :
    Calls Tryd.prog 30 #[.pointer (some ⟨h, 0, none⟩), .string s, .bool false, .int .i64 n] w (HPost w h false v 8 code ls) := by
  have HC := closed_any i
  have HP := fun w => prefix_http s w
  rw [hb] at HP
  have HD := code_any n w
  have d : (decide (100 ≤ n) && decide (n ≤ 599)) = true := by simp [hr]
  rw [d] at HD
  have HNR := Lib.hid hr
  have d0 : (n != 0) = true := by simp [hn]
  have I := Lib.hid i
  have HS := Lib.hid hs
  have f2 := free_blk i.blk 2
  have x2 := i.cells.2.2.1
  unfold closedP at HC
  have HN := name_any hs w
  have HV := fun w => valued_any s hs w
  rw [hv] at HV
  have hsm : (nameP s).isSome = true := by cases hx : nameP s with | none => exact absurd hx hne | some a => rfl
  rw [hsm] at HN
  generalize nameV s = nv at HN
  obtain ⟨a0, c0, hv0, -⟩ := i.own.any
  rw [List.length_map] at hv0
  have dl : decide (64 ≤ (ls.length : Int)) = true := by simp; omega
  subst hv0
  clear i hs hb hne hv hsm hl d hn hr
  go_enter Tryd.func30, Tryd.ntmps30
  go_wp2_with fail
  refine HC.mono ?_
  rintro e w1 ⟨rfl, rfl⟩
  clear HC
  go_wp2_with fail
  refine HD.mono ?_
  rintro e w1 ⟨rfl, rfl⟩
  clear HD
  go_wp2_with fail
  refine (HP _).mono ?_
  rintro e w1 ⟨rfl, rfl⟩
  clear HP
  go_wp2_with fail
  refine HN.mono ?_
  rintro e w2 ⟨rfl, hb⟩
  have I2 := Lib.hid (I.out.below hb)
  have B2 := Lib.hid hb
  clear HN hb
  go_wp2_with fail
  refine (HV _).mono ?_
  rintro e w3 ⟨rfl, rfl⟩
  clear HV
  have y3 := I2.out.cells.2.2.2
  have z3 := free_blk I2.out.blk 3
  go_wp2_with fail
  go_ret
  exact ⟨rfl, _, I2.out, Mod.of_below B2.out, .inl rfl⟩
set_option maxHeartbeats 3200000 in
set_option maxRecDepth 100000 in
theorem line_putnf (i : HeadsIs w h false code v ls) (s : ByteArray) (hs : s.size ≤ 140737488351232) (n : Int) (hn : n ≠ 0) (hr : 100 ≤ n ∧ n ≤ 599) (hb : httpP s = false) (hne : nameP s ≠ none) (hv : valuedP s = true) (hl : ¬ 64 ≤ ls.length) :
    Calls Tryd.prog 30 #[.pointer (some ⟨h, 0, none⟩), .string s, .bool false, .int .i64 n] w (HPost w h false v 0 (n) (ls ++ [s])) := by
  have HC := closed_any i
  have HP := fun w => prefix_http s w
  rw [hb] at HP
  have HD := code_any n w
  have d : (decide (100 ≤ n) && decide (n ≤ 599)) = true := by simp [hr]
  rw [d] at HD
  have HNR := Lib.hid hr
  have d0 : (n != 0) = true := by simp [hn]
  have I := Lib.hid i
  have HS := Lib.hid hs
  have f2 := free_blk i.blk 2
  have x2 := i.cells.2.2.1
  unfold closedP at HC
  have HN := name_any hs w
  have HV := fun w => valued_any s hs w
  rw [hv] at HV
  have hsm : (nameP s).isSome = true := by cases hx : nameP s with | none => exact absurd hx hne | some a => rfl
  rw [hsm] at HN
  generalize nameV s = nv at HN
  obtain ⟨a0, c0, hv0, -⟩ := i.own.any
  rw [List.length_map] at hv0
  have dl : decide (64 ≤ (ls.length : Int)) = false := by simp; omega
  subst hv0
  have HLE := Lib.hid (show ls.length ≤ 63 by omega)
  have HLT := Lib.hid (lt_of_block i.blk)
  clear i hs hb hne hv hsm hl d hn hr
  go_enter Tryd.func30, Tryd.ntmps30
  go_wp2_with fail
  refine HC.mono ?_
  rintro e w1 ⟨rfl, rfl⟩
  clear HC
  go_wp2_with fail
  refine HD.mono ?_
  rintro e w1 ⟨rfl, rfl⟩
  clear HD
  go_wp2_with fail
  refine (HP _).mono ?_
  rintro e w1 ⟨rfl, rfl⟩
  clear HP
  go_wp2_with fail
  refine HN.mono ?_
  rintro e w2 ⟨rfl, hb⟩
  have I2 := Lib.hid (I.out.below hb)
  have B2 := Lib.hid hb
  clear HN hb
  go_wp2_with fail
  refine (HV _).mono ?_
  rintro e w3 ⟨rfl, rfl⟩
  clear HV
  have y3 := I2.out.cells.2.2.2
  have z3 := free_blk I2.out.blk 3
  go_wp2_with fail
  have HCl := clone_list I2.out.own (by have := HLE.out; omega)
  refine HCl.mono ?_
  rintro e w5 ⟨v5, rfl, o5, hb, n5⟩
  have I5 := Lib.hid (I2.out.below hb)
  have B5 := Lib.hid (B2.out.trans (hb.mono B2.out.size))
  have N5 := Lib.hid (⟨n5, B2.out.size⟩ : _ ∧ _)
  have I6 := Lib.hid (I5.out.below (below_alloc1 w5 (.cells #[.string s] 9)))
  have hO : Hid (Owns (w5.alloc (.cells #[.string s] 9)) 9 1 v5 (ls.map sR)) := Lib.hid (Owns.mod o5 (Mod.of_below (F := fun _ => False) (below_alloc1 w5 (.cells #[.string s] 9))) (fun _ _ x => x))
  have hL := Lib.hid (lies_new w5 [.string s] 9 rfl)
  have hr1 : Hid ((ls.map sR).length + ([[Value.string s]] : List (List Value)).length ≤ maxLen) := by show _ ≤ _; have := HLE.out; unfold maxLen; simp; omega
  have hr2 : Hid (((ls.map sR).length + ([[Value.string s]] : List (List Value)).length) * 16 ≤ 140737488355328) := by show _ ≤ _; have := HLE.out; simp; omega
  obtain ⟨a8, c8, hv8, -⟩ := o5.any
  rw [List.length_map] at hv8
  subst hv8
  clear HCl o5 hb n5
  go_wp2_with (at_builtin; refine wpList_append_rows rfl (.tmp 69) (.tmp 71) 50 rfl 9 _ 1 16 Tryd.underlying50 info9 rfl (by decide) (.slice a8 ls.length c8) (ls.map sR) (by rfl) hO.out (some ⟨w5.heap.size, 0, none⟩) 1 1 [[.string s]] (by rfl) rfl (fun e => by cases e) hL.out (by simp [Value.oneCell']) (by simp) hr1.out (by have h := hr2.out; omega) ?_; intro v7 w7 o7 g7 n7; obtain ⟨a7, c7, hv7, -⟩ := o7.any; generalize (List.length _) = L7 at hv7; subst hv7; have O7 := Lib.hid o7; have G7 := Lib.hid (⟨g7, n7⟩ : _ ∧ _); have I7 := Lib.hid (I6.out.mod ((Mod.refl (fun k => (Value.slice a8 ls.length c8).ownBlock = some k) _).grown g7 (fun k e _ => e)) (fun e => by have h1 := N5.out.1 _ e; have h2 := N5.out.2; have h3 := HLT.out; have h4 := B2.out.size; omega) (fun g e e' => by have h1 := N5.out.1 _ e'; have h2 := I2.out.own.lt e; omega)); obtain ⟨-, -, p2, p3⟩ := I7.out.cells; have f2' := free_blk I7.out.blk 2; have f3' := free_blk I7.out.blk 3; clear o7 g7 n7)
  go_ret
  have hs5 := B5.out.size
  have hlt := HLT.out
  have hn5 := N5.out
  have hfr : ∀ g, (Value.slice a7 L7 c7).ownBlock = some g → w.heap.size ≤ g := fun g e => by
    rcases G7.out.2 with h' | ⟨g', h', hg⟩
    · rw [h'] at e; have := hn5.1 g e; have := hn5.2; omega
    · rw [h'] at e; cases e; simp at hg; omega
  have mA : Mod (fun k => k = h) w (w5.alloc (.cells #[.string s] 9)) := (Mod.of_below B5.out).alloc _
  have mB := mA.grown G7.out.1 (fun k e hk => by have := hn5.1 k e; have := hn5.2; omega)
  have o7 : Owns w7 9 1 (.slice a7 L7 c7) ((ls ++ [s]).map sR) := by rw [List.map_append]; exact O7.out
  have J1 := I7.out.setLines (v' := .slice a7 L7 c7) (ls' := ls ++ [s]) o7 (fun e => by have := hfr _ e; omega) (by have := HLE.out; simp; omega)
  have m1 := mB.setCell ⟨h, 3, none⟩ (.slice a7 L7 c7) (fun _ => rfl)
  exact ⟨rfl, _, J1.setCode HNR.out.1 HNR.out.2, m1.setCell _ _ (fun _ => rfl), .inr hfr⟩
set_option maxHeartbeats 3200000 in
set_option maxRecDepth 100000 in
theorem line_putnt_full (i : HeadsIs w h false code v ls) (hsz : Small ls) (s : ByteArray) (hs : s.size ≤ 140737488351232) (n : Int) (hn : n ≠ 0) (hr : 100 ≤ n ∧ n ≤ 599) (hb : httpP s = false) (hne : nameP s ≠ none) (hv : valuedP s = true) (hl : 64 ≤ (dropP (str (nameV s)) ls).length) :
    Calls Tryd.prog 30 #[.pointer (some ⟨h, 0, none⟩), .string s, .bool true, .int .i64 n] w (HPost w h false v 8 code ls) := by
  have HC := closed_any i
  have HP := fun w => prefix_http s w
  rw [hb] at HP
  have HD := code_any n w
  have d : (decide (100 ≤ n) && decide (n ≤ 599)) = true := by simp [hr]
  rw [d] at HD
  have HNR := Lib.hid hr
  have d0 : (n != 0) = true := by simp [hn]
  have I := Lib.hid i
  have HS := Lib.hid hs
  have f2 := free_blk i.blk 2
  have x2 := i.cells.2.2.1
  unfold closedP at HC
  have HN := name_any hs w
  have HV := fun w => valued_any s hs w
  rw [hv] at HV
  have hsm : (nameP s).isSome = true := by cases hx : nameP s with | none => exact absurd hx hne | some a => rfl
  rw [hsm] at HN
  generalize nameV s = nv at HN hl ⊢
  have HW : ∀ W, Below w.heap.size w W → Calls Tryd.prog 53 #[v, .string (str nv)] W (WithoutPost W (str nv) ls) := fun W hb => without_any ((i.below hb).own) (by have := i.len; omega) hsz
  have dl : decide (64 ≤ ((dropP (str nv) ls).length : Int)) = true := by simp; omega
  clear i hs hb hne hv hsm hl hsz d hn hr
  go_enter Tryd.func30, Tryd.ntmps30
  go_wp2_with fail
  refine HC.mono ?_
  rintro e w1 ⟨rfl, rfl⟩
  clear HC
  go_wp2_with fail
  refine HD.mono ?_
  rintro e w1 ⟨rfl, rfl⟩
  clear HD
  go_wp2_with fail
  refine (HP _).mono ?_
  rintro e w1 ⟨rfl, rfl⟩
  clear HP
  go_wp2_with fail
  refine HN.mono ?_
  rintro e w2 ⟨rfl, hb⟩
  have I2 := Lib.hid (I.out.below hb)
  have B2 := Lib.hid hb
  clear HN hb
  go_wp2_with fail
  refine (HV _).mono ?_
  rintro e w3 ⟨rfl, rfl⟩
  clear HV
  have y3 := I2.out.cells.2.2.2
  have z3 := free_blk I2.out.blk 3
  go_wp2_with fail
  refine (HW _ B2.out).mono ?_
  rintro e w4 ⟨v4, rfl, o4, hb, n4⟩
  have I4 := Lib.hid (I2.out.below hb)
  have B4 := Lib.hid (B2.out.trans (hb.mono B2.out.size))
  have O4 := Lib.hid o4
  clear HW hb y3 z3
  obtain ⟨a4, c4, hv4, -⟩ := o4.any
  rw [List.length_map] at hv4
  subst hv4
  clear o4 n4
  go_wp2_with fail
  go_ret
  exact ⟨rfl, _, I4.out, Mod.of_below B4.out, .inl rfl⟩
set_option maxHeartbeats 3200000 in
set_option maxRecDepth 100000 in
theorem line_putnt (i : HeadsIs w h false code v ls) (hsz : Small ls) (s : ByteArray) (hs : s.size ≤ 140737488351232) (n : Int) (hn : n ≠ 0) (hr : 100 ≤ n ∧ n ≤ 599) (hb : httpP s = false) (hne : nameP s ≠ none) (hv : valuedP s = true) (hl : ¬ 64 ≤ (dropP (str (nameV s)) ls).length) :
    Calls Tryd.prog 30 #[.pointer (some ⟨h, 0, none⟩), .string s, .bool true, .int .i64 n] w (HPost w h false v 0 (n) ((dropP (str (nameV s)) ls) ++ [s])) := by
  have HC := closed_any i
  have HP := fun w => prefix_http s w
  rw [hb] at HP
  have HD := code_any n w
  have d : (decide (100 ≤ n) && decide (n ≤ 599)) = true := by simp [hr]
  rw [d] at HD
  have HNR := Lib.hid hr
  have d0 : (n != 0) = true := by simp [hn]
  have I := Lib.hid i
  have HS := Lib.hid hs
  have f2 := free_blk i.blk 2
  have x2 := i.cells.2.2.1
  unfold closedP at HC
  have HN := name_any hs w
  have HV := fun w => valued_any s hs w
  rw [hv] at HV
  have hsm : (nameP s).isSome = true := by cases hx : nameP s with | none => exact absurd hx hne | some a => rfl
  rw [hsm] at HN
  generalize nameV s = nv at HN hl ⊢
  have HW : ∀ W, Below w.heap.size w W → Calls Tryd.prog 53 #[v, .string (str nv)] W (WithoutPost W (str nv) ls) := fun W hb => without_any ((i.below hb).own) (by have := i.len; omega) hsz
  have dl : decide (64 ≤ ((dropP (str nv) ls).length : Int)) = false := by simp; omega
  have HLE := Lib.hid (show (dropP (str nv) ls).length ≤ 63 by omega)
  have HLT := Lib.hid (lt_of_block i.blk)
  clear i hs hb hne hv hsm hl hsz d hn hr
  go_enter Tryd.func30, Tryd.ntmps30
  go_wp2_with fail
  refine HC.mono ?_
  rintro e w1 ⟨rfl, rfl⟩
  clear HC
  go_wp2_with fail
  refine HD.mono ?_
  rintro e w1 ⟨rfl, rfl⟩
  clear HD
  go_wp2_with fail
  refine (HP _).mono ?_
  rintro e w1 ⟨rfl, rfl⟩
  clear HP
  go_wp2_with fail
  refine HN.mono ?_
  rintro e w2 ⟨rfl, hb⟩
  have I2 := Lib.hid (I.out.below hb)
  have B2 := Lib.hid hb
  clear HN hb
  go_wp2_with fail
  refine (HV _).mono ?_
  rintro e w3 ⟨rfl, rfl⟩
  clear HV
  have y3 := I2.out.cells.2.2.2
  have z3 := free_blk I2.out.blk 3
  go_wp2_with fail
  refine (HW _ B2.out).mono ?_
  rintro e w4 ⟨v4, rfl, o4, hb, n4⟩
  have I4 := Lib.hid (I2.out.below hb)
  have B4 := Lib.hid (B2.out.trans (hb.mono B2.out.size))
  have O4 := Lib.hid o4
  clear HW hb y3 z3
  obtain ⟨a4, c4, hv4, -⟩ := o4.any
  rw [List.length_map] at hv4
  subst hv4
  clear o4 n4
  go_wp2_with fail
  have HCl := clone_list O4.out (by have := HLE.out; omega)
  refine HCl.mono ?_
  rintro e w5 ⟨v5, rfl, o5, hb, n5⟩
  have I5 := Lib.hid (I4.out.below hb)
  have B5 := Lib.hid (B4.out.trans (hb.mono B4.out.size))
  have N5 := Lib.hid (⟨n5, B4.out.size⟩ : _ ∧ _)
  have I6 := Lib.hid (I5.out.below (below_alloc1 w5 (.cells #[.string s] 9)))
  have hO : Hid (Owns (w5.alloc (.cells #[.string s] 9)) 9 1 v5 ((dropP (str nv) ls).map sR)) := Lib.hid (Owns.mod o5 (Mod.of_below (F := fun _ => False) (below_alloc1 w5 (.cells #[.string s] 9))) (fun _ _ x => x))
  have hL := Lib.hid (lies_new w5 [.string s] 9 rfl)
  have hr1 : Hid (((dropP (str nv) ls).map sR).length + ([[Value.string s]] : List (List Value)).length ≤ maxLen) := by show _ ≤ _; have := HLE.out; unfold maxLen; simp; omega
  have hr2 : Hid ((((dropP (str nv) ls).map sR).length + ([[Value.string s]] : List (List Value)).length) * 16 ≤ 140737488355328) := by show _ ≤ _; have := HLE.out; simp; omega
  obtain ⟨a8, c8, hv8, -⟩ := o5.any
  rw [List.length_map] at hv8
  subst hv8
  clear HCl o5 hb n5
  go_wp2_with (at_builtin; refine wpList_append_rows rfl (.tmp 69) (.tmp 71) 50 rfl 9 _ 1 16 Tryd.underlying50 info9 rfl (by decide) (.slice a8 (dropP (str nv) ls).length c8) ((dropP (str nv) ls).map sR) (by rfl) hO.out (some ⟨w5.heap.size, 0, none⟩) 1 1 [[.string s]] (by rfl) rfl (fun e => by cases e) hL.out (by simp [Value.oneCell']) (by simp) hr1.out (by have h := hr2.out; omega) ?_; intro v7 w7 o7 g7 n7; obtain ⟨a7, c7, hv7, -⟩ := o7.any; generalize (List.length _) = L7 at hv7; subst hv7; have O7 := Lib.hid o7; have G7 := Lib.hid (⟨g7, n7⟩ : _ ∧ _); have I7 := Lib.hid (I6.out.mod ((Mod.refl (fun k => (Value.slice a8 (dropP (str nv) ls).length c8).ownBlock = some k) _).grown g7 (fun k e _ => e)) (fun e => by have h1 := N5.out.1 _ e; have h2 := N5.out.2; have h3 := HLT.out; have h4 := B4.out.size; omega) (fun g e e' => by have h1 := N5.out.1 _ e'; have h2 := I4.out.own.lt e; omega)); obtain ⟨-, -, p2, p3⟩ := I7.out.cells; have f2' := free_blk I7.out.blk 2; have f3' := free_blk I7.out.blk 3; clear o7 g7 n7)
  go_ret
  have hs5 := B5.out.size
  have hlt := HLT.out
  have hn5 := N5.out
  have hfr : ∀ g, (Value.slice a7 L7 c7).ownBlock = some g → w.heap.size ≤ g := fun g e => by
    rcases G7.out.2 with h' | ⟨g', h', hg⟩
    · rw [h'] at e; have := hn5.1 g e; have := hn5.2; omega
    · rw [h'] at e; cases e; simp at hg; omega
  have mA : Mod (fun k => k = h) w (w5.alloc (.cells #[.string s] 9)) := (Mod.of_below B5.out).alloc _
  have mB := mA.grown G7.out.1 (fun k e hk => by have := hn5.1 k e; have := hn5.2; omega)
  have o7 : Owns w7 9 1 (.slice a7 L7 c7) (((dropP (str nv) ls) ++ [s]).map sR) := by rw [List.map_append]; exact O7.out
  have J1 := I7.out.setLines (v' := .slice a7 L7 c7) (ls' := (dropP (str nv) ls) ++ [s]) o7 (fun e => by have := hfr _ e; omega) (by have := HLE.out; simp; omega)
  have m1 := mB.setCell ⟨h, 3, none⟩ (.slice a7 L7 c7) (fun _ => rfl)
  exact ⟨rfl, _, J1.setCode HNR.out.1 HNR.out.2, m1.setCell _ _ (fun _ => rfl), .inr hfr⟩
/-- Line at heads that somebody made. -/
theorem line_any {sent : Bool} (i : HeadsIs w h sent code v ls) (ht : TabsR w) (hsz : Small ls) (s : ByteArray) (hs : s.size ≤ 140737488351232) (rep : Bool) (n : Int) :
    Calls Tryd.prog 30 #[.pointer (some ⟨h, 0, none⟩), .string s, .bool rep, .int .i64 n] w (HPost w h sent v (if sent then 17 else (lineP code ls s rep n).1) (if sent then code else (lineP code ls s rep n).2.1) (if sent then ls else (lineP code ls s rep n).2.2)) := by
  cases sent with
  | true => exact line_sent i s rep n
  | false =>
    simp only [Bool.false_eq_true, if_false]
    unfold lineP
    by_cases hn : n = 0
    · subst hn
      simp only [ne_eq, not_true_eq_false, false_and, if_false]
      cases hb : httpP s with
      | true =>
        simp only [if_true]
        have := line_http0 i ht s hs rep hb
        by_cases hm : statusP s = 0
        · simp only [hm, if_true] at this ⊢; exact this
        · simp only [hm, if_false] at this ⊢; exact this
      | false =>
        simp only [Bool.false_eq_true, if_false]
        by_cases hf : nameP s = none ∨ valuedP s = false
        · simp only [hf, if_true]; exact line_form0 i s hs rep hb hf
        · simp only [hf, if_false]
          have hne : nameP s ≠ none := fun e => hf (.inl e)
          have hv : valuedP s = true := by cases e : valuedP s with | true => rfl | false => exact absurd (.inr e) hf
          cases rep with
          | true =>
            simp only [if_true]
            by_cases hl : 64 ≤ (dropP (str (nameV s)) ls).length
            · simp only [hl, if_true]; exact line_put0t_full i hsz s hs hb hne hv hl
            · simp only [hl, if_false]; exact line_put0t i hsz s hs hb hne hv hl
          | false =>
            simp only [Bool.false_eq_true, if_false]
            by_cases hl : 64 ≤ ls.length
            · simp only [hl, if_true]; exact line_put0f_full i s hs hb hne hv hl
            · simp only [hl, if_false]; exact line_put0f i s hs hb hne hv hl
    · by_cases hr : 100 ≤ n ∧ n ≤ 599
      · simp only [ne_eq, hn, not_false_eq_true, hr, and_self, not_true_eq_false, and_false, if_false, if_true]
        cases hb : httpP s with
        | true =>
          simp only [if_true]
          have := line_httpn i ht s hs rep n hn hr hb
          by_cases hm : statusP s = 0
          · simp only [hm, if_true] at this ⊢; exact this
          · simp only [hm, if_false] at this ⊢; exact this
        | false =>
          simp only [Bool.false_eq_true, if_false]
          by_cases hf : nameP s = none ∨ valuedP s = false
          · simp only [hf, if_true]; exact line_formn i s hs rep n hn hr hb hf
          · simp only [hf, if_false]
            have hne : nameP s ≠ none := fun e => hf (.inl e)
            have hv : valuedP s = true := by cases e : valuedP s with | true => rfl | false => exact absurd (.inr e) hf
            have hc : lineCode code s n = n := if_pos hn
            rw [hc]
            cases rep with
            | true =>
              simp only [if_true]
              by_cases hl : 64 ≤ (dropP (str (nameV s)) ls).length
              · simp only [hl, if_true]; exact line_putnt_full i hsz s hs n hn hr hb hne hv hl
              · simp only [hl, if_false]; exact line_putnt i hsz s hs n hn hr hb hne hv hl
            | false =>
              simp only [Bool.false_eq_true, if_false]
              by_cases hl : 64 ≤ ls.length
              · simp only [hl, if_true]; exact line_putnf_full i s hs n hn hr hb hne hv hl
              · simp only [hl, if_false]; exact line_putnf i s hs n hn hr hb hne hv hl
      · simp only [ne_eq, hn, not_false_eq_true, hr, and_self, if_true]
        exact line_arg i s rep n hn hr
end
end Go.Proofs.YthnhpnmopjbaoaaDoor
