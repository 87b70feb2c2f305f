/-
  The walk of Cookie (printed by genCookieA11.py).
-/
import Derived.Test.YthnhpnmopjbaoaaDoorWithout11
import Derived.Test.YthnhpnmopjbaoaaDoorEncA11
namespace Go.Proofs.YthnhpnmopjbaoaaDoor
open Go.RowKit

abbrev ckA : ByteArray := ⟨#[83, 101, 116, 45, 67, 111, 111, 107, 105, 101, 58, 32]⟩
abbrev ckM : ByteArray := ⟨#[59, 32, 77, 97, 120, 45, 65, 103, 101, 61]⟩
abbrev ckP : ByteArray := ⟨#[59, 32, 80, 97, 116, 104, 61]⟩
abbrev ckB : ByteArray := ⟨#[61, 44, 59, 32]⟩
/-- May a cookie have this name and this path? -/
def cookP (name path : ByteArray) : Bool := !name.toList.isEmpty && !hasP name ckB && !hasP path ⟨#[59]⟩
/-- A cookie's line. -/
def cookieT (name value path : ByteArray) (age : Int) : ByteArray :=
  if path.toList.isEmpty = true then (if age = 0 then ckA ++ name ++ ⟨#[61]⟩ ++ str (encP value.toList) else ckA ++ name ++ ⟨#[61]⟩ ++ str (encP value.toList) ++ (ckM ++ str (Lib.itoa age)))
  else (if age = 0 then ckA ++ name ++ ⟨#[61]⟩ ++ str (encP value.toList) else ckA ++ name ++ ⟨#[61]⟩ ++ str (encP value.toList) ++ (ckM ++ str (Lib.itoa age))) ++ (ckP ++ path)
section
variable {w : World} {h : Nat} {code : Int} {v : Value} {ls : List ByteArray}
theorem cookie_sent (i : HeadsIs w h true code v ls) (name value path : ByteArray) (age : Int) : Calls Tryd.prog 34 #[.pointer (some ⟨h, 0, none⟩), .string name, .string value, .string path, .int .i64 age] w (HPost w h true v 17 code ls) := by
  have HC := closed_any i
  have I := Lib.hid i
  unfold closedP at HC
  clear i
  go_enter Tryd.func34, Tryd.ntmps34
  go_wp2_with fail
  refine HC.mono ?_
  rintro e w1 ⟨rfl, rfl⟩
  clear HC
  go_wp2_with fail
  go_ret
  exact ⟨rfl, v, I.out, Mod.refl _ _, .inl rfl⟩
set_option maxHeartbeats 1600000 in
set_option maxRecDepth 100000 in
theorem cookie_arg (i : HeadsIs w h false code v ls) (name value path : ByteArray) (age : Int) (hn : name.size ≤ 140737488351232) (hp : path.size ≤ 140737488351232) (hc : cookP name path = false) :
    Calls Tryd.prog 34 #[.pointer (some ⟨h, 0, none⟩), .string name, .string value, .string path, .int .i64 age] w (HPost w h false v 1 code ls) := by
  have HC := closed_any i
  have HA := fun w => has_any name ckB hn w
  have HB := fun w => has_any path ⟨#[59]⟩ hp w
  have I := Lib.hid i
  unfold closedP at HC
  unfold cookP at hc
  generalize hasP name ckB = a at HA hc
  generalize hasP path ⟨#[59]⟩ = b at HB hc
  clear i
  cases he : name.toList.isEmpty with
  | true =>
    clear hc
    go_enter Tryd.func34, Tryd.ntmps34
    go_wp2_with fail
    refine HC.mono ?_
    rintro e w1 ⟨rfl, rfl⟩
    clear HC
    go_wp2_with fail
    go_ret
    exact ⟨rfl, v, I.out, Mod.refl _ _, .inl rfl⟩
  | false =>
    cases a with
    | true =>
      clear hc
      go_enter Tryd.func34, Tryd.ntmps34
      go_wp2_with fail
      refine HC.mono ?_
      rintro e w1 ⟨rfl, rfl⟩
      clear HC
      go_wp2_with fail
      refine (HA _).mono ?_
      rintro e w1 ⟨rfl, rfl⟩
      go_wp2_with fail
      go_ret
      exact ⟨rfl, v, I.out, Mod.refl _ _, .inl rfl⟩
    | false =>
      cases b with
      | false => rw [he] at hc; cases hc
      | true =>
        clear hc
        go_enter Tryd.func34, Tryd.ntmps34
        go_wp2_with fail
        refine HC.mono ?_
        rintro e w1 ⟨rfl, rfl⟩
        clear HC
        go_wp2_with fail
        refine (HA _).mono ?_
        rintro e w1 ⟨rfl, rfl⟩
        go_wp2_with fail
        refine (HB _).mono ?_
        rintro e w1 ⟨rfl, rfl⟩
        go_wp2_with fail
        go_ret
        exact ⟨rfl, v, I.out, Mod.refl _ _, .inl rfl⟩
theorem cookP_parts {name path : ByteArray} (h : cookP name path = true) : name.toList.isEmpty = false ∧ hasP name ckB = false ∧ hasP path ⟨#[59]⟩ = false := by
  unfold cookP at h
  simpa [Bool.and_eq_true, and_assoc] using h
set_option maxHeartbeats 1600000 in
set_option maxRecDepth 100000 in
theorem cookie_full (i : HeadsIs w h false code v ls) (name value path : ByteArray) (age : Int) (hn : name.size ≤ 140737488351232) (hp : path.size ≤ 140737488351232) (hc : cookP name path = true) (hl : 64 ≤ ls.length) :
    Calls Tryd.prog 34 #[.pointer (some ⟨h, 0, none⟩), .string name, .string value, .string path, .int .i64 age] w (HPost w h false v 8 code ls) := by
  have HC := closed_any i
  have HA := fun w => has_any name ckB hn w
  have HB := fun w => has_any path ⟨#[59]⟩ hp w
  obtain ⟨he, ha, hb⟩ := cookP_parts hc
  simp only [ha] at HA
  simp only [hb] at HB
  have I := Lib.hid i
  have x3 := i.cells.2.2.2
  obtain ⟨a0, c0, hv0, -⟩ := i.own.any
  rw [List.length_map] at hv0
  have dl : decide (64 ≤ (ls.length : Int)) = true := by simp; omega
  unfold closedP at HC
  subst hv0
  clear i hc hl ha hb
  go_enter Tryd.func34, Tryd.ntmps34
  go_wp2_with fail
  refine HC.mono ?_
  rintro e w1 ⟨rfl, rfl⟩
  clear HC
  go_wp2_with fail
  refine (HA _).mono ?_
  rintro e w1 ⟨rfl, rfl⟩
  go_wp2_with fail
  refine (HB _).mono ?_
  rintro e w1 ⟨rfl, rfl⟩
  go_wp2_with fail
  go_ret
  exact ⟨rfl, _, I.out, Mod.refl _ _, .inl rfl⟩
set_option maxHeartbeats 3200000 in
set_option maxRecDepth 100000 in
theorem cookie_put00 (i : HeadsIs w h false code v ls) (ht : Tabs w) (name value path : ByteArray) (hn : name.size ≤ 2199023255552) (hval : value.size ≤ 2199023255552) (hp : path.size ≤ 2199023255552) (hc : cookP name path = true) (hpe : path.toList.isEmpty = true) (hl : ¬ 64 ≤ ls.length) :
    Calls Tryd.prog 34 #[.pointer (some ⟨h, 0, none⟩), .string name, .string value, .string path, .int .i64 0] w (HPost w h false v 0 code (ls ++ [cookieT name value path 0])) := by
  have HC := closed_any i
  have HA := fun w => has_any name ckB (by omega) w
  have HB := fun w => has_any path ⟨#[59]⟩ (by omega) w
  obtain ⟨he, ha, hb⟩ := cookP_parts hc
  simp only [ha] at HA
  simp only [hb] at HB
  have HE := enc_any value (by omega) w
  obtain ⟨E, hE⟩ : ∃ E, E = str (encP value.toList) := ⟨_, rfl⟩
  have sE : E.size ≤ 6597069766656 := by
    have := encP_len value.toList
    rw [hE, str_size]
    rw [size_toList] at this
    omega
  rw [← hE] at HE
  obtain ⟨res, hres⟩ : ∃ res, res = cookieT name value path 0 := ⟨_, rfl⟩
  rw [← hres]
  unfold cookieT at hres
  rw [hpe, ← hE] at hres
  rw [if_pos rfl] at hres
  rw [if_pos rfl] at hres
  obtain ⟨N1, hN1⟩ : ∃ N, ckA ++ name = N := ⟨_, rfl⟩
  have sN1 : N1.size ≤ 2199023255600 := by rw [← hN1, ByteArray.size_append]; show 12 + _ ≤ _; omega
  obtain ⟨N2, hN2⟩ : ∃ N, N1 ++ (⟨#[61]⟩ : ByteArray) = N := ⟨_, rfl⟩
  have sN2 : N2.size ≤ 2199023255700 := by rw [← hN2, ByteArray.size_append]; show _ + 1 ≤ _; omega
  obtain ⟨S1, hS1⟩ : ∃ S, N2 ++ E = S := ⟨_, rfl⟩
  have sS1 : S1.size ≤ 8796093022500 := by rw [← hS1, ByteArray.size_append]; omega
  rw [hN1, hN2, hS1] at hres
  subst hres
  have HTS := Lib.hid ht
  have I := Lib.hid i
  have x3 := i.cells.2.2.2
  obtain ⟨a0, c0, hv0, -⟩ := i.own.any
  rw [List.length_map] at hv0
  have dl : decide (64 ≤ (ls.length : Int)) = false := by simp; omega
  have HLE := Lib.hid (show ls.length ≤ 63 by omega)
  have HLT := Lib.hid (lt_of_block i.blk)
  unfold closedP at HC
  subst hv0
  clear i hc hl ha hb ht hE
  go_enter Tryd.func34, Tryd.ntmps34
  go_wp2_with fail
  refine HC.mono ?_
  rintro e w1 ⟨rfl, rfl⟩
  clear HC
  go_wp2_with fail
  refine (HA _).mono ?_
  rintro e w1 ⟨rfl, rfl⟩
  go_wp2_with fail
  refine (HB _).mono ?_
  rintro e w1 ⟨rfl, rfl⟩
  clear HA HB
  go_wp2_with fail
  refine HE.mono ?_
  rintro e w2 ⟨rfl, hb⟩
  have I2 := Lib.hid (I.out.below hb)
  have B2 := Lib.hid hb
  have y3 := I2.out.cells.2.2.2
  clear hb HE
  go_wp2_with fail
  have HCl := clone_list I2.out.own (by have := HLE.out; omega)
  refine HCl.mono ?_
  rintro e w5 ⟨v5, rfl, o5, hb, n5⟩
  have I5 := Lib.hid (I2.out.below hb)
  have B5 := Lib.hid (B2.out.trans (hb.mono B2.out.size))
  have N5 := Lib.hid (⟨n5, B2.out.size⟩ : _ ∧ _)
  have I6 := Lib.hid (I5.out.below (below_alloc1 w5 (.cells #[.string res] 9)))
  have hO : Hid (Owns (w5.alloc (.cells #[.string res] 9)) 9 1 v5 (ls.map sR)) := Lib.hid (Owns.mod o5 (Mod.of_below (F := fun _ => False) (below_alloc1 w5 (.cells #[.string res] 9))) (fun _ _ x => x))
  have hL := Lib.hid (lies_new w5 [.string res] 9 rfl)
  have hr1 : Hid ((ls.map sR).length + ([[Value.string res]] : List (List Value)).length ≤ maxLen) := by show _ ≤ _; have := HLE.out; unfold maxLen; simp; omega
  have hr2 : Hid (((ls.map sR).length + ([[Value.string res]] : List (List Value)).length) * 16 ≤ 140737488355328) := by show _ ≤ _; have := HLE.out; simp; omega
  obtain ⟨a8, c8, hv8, -⟩ := o5.any
  rw [List.length_map] at hv8
  subst hv8
  clear HCl o5 hb n5
  go_wp2_with (at_builtin; refine wpList_append_rows rfl (.tmp 61) (.tmp 63) 50 rfl 9 _ 1 16 Tryd.underlying50 info9 rfl (by decide) (.slice a8 ls.length c8) (ls.map sR) (by rfl) hO.out (some ⟨w5.heap.size, 0, none⟩) 1 1 [[.string res]] (by rfl) rfl (fun e => by cases e) hL.out (by simp [Value.oneCell']) (by simp) hr1.out (by have h := hr2.out; omega) ?_; intro v7 w7 o7 g7 n7; obtain ⟨a7, c7, hv7, -⟩ := o7.any; generalize (List.length _) = L7 at hv7; subst hv7; have O7 := Lib.hid o7; have G7 := Lib.hid (⟨g7, n7⟩ : _ ∧ _); have I7 := Lib.hid (I6.out.mod ((Mod.refl (fun k => (Value.slice a8 ls.length c8).ownBlock = some k) _).grown g7 (fun k e _ => e)) (fun e => by have h1 := N5.out.1 _ e; have h2 := N5.out.2; have h3 := HLT.out; have h4 := B2.out.size; omega) (fun g e e' => by have h1 := N5.out.1 _ e'; have h2 := I2.out.own.lt e; omega)); obtain ⟨-, -, p2, p3⟩ := I7.out.cells; have f2' := free_blk I7.out.blk 2; have f3' := free_blk I7.out.blk 3; clear o7 g7 n7)
  go_ret
  have hs5 := B5.out.size
  have hlt := HLT.out
  have hn5 := N5.out
  have hfr : ∀ g, (Value.slice a7 L7 c7).ownBlock = some g → w.heap.size ≤ g := fun g e => by
    rcases G7.out.2 with h' | ⟨g', h', hg⟩
    · rw [h'] at e; have := hn5.1 g e; have := hn5.2; omega
    · rw [h'] at e; cases e; simp at hg; omega
  have mA : Mod (fun k => k = h) w (w5.alloc (.cells #[.string res] 9)) := (Mod.of_below B5.out).alloc _
  have mB := mA.grown G7.out.1 (fun k e hk => by have := hn5.1 k e; have := hn5.2; omega)
  have o7 : Owns w7 9 1 (.slice a7 L7 c7) ((ls ++ [res]).map sR) := by rw [List.map_append]; exact O7.out
  have J1 := I7.out.setLines (v' := .slice a7 L7 c7) (ls' := ls ++ [res]) o7 (fun e => by have := hfr _ e; omega) (by have := HLE.out; simp; omega)
  have m1 := mB.setCell ⟨h, 3, none⟩ (.slice a7 L7 c7) (fun _ => rfl)
  exact ⟨rfl, _, J1, m1, .inr hfr⟩
set_option maxHeartbeats 3200000 in
set_option maxRecDepth 100000 in
theorem cookie_put01 (i : HeadsIs w h false code v ls) (ht : Tabs w) (name value path : ByteArray) (hn : name.size ≤ 2199023255552) (hval : value.size ≤ 2199023255552) (hp : path.size ≤ 2199023255552) (hc : cookP name path = true) (hpe : path.toList.isEmpty = false) (hl : ¬ 64 ≤ ls.length) :
    Calls Tryd.prog 34 #[.pointer (some ⟨h, 0, none⟩), .string name, .string value, .string path, .int .i64 0] w (HPost w h false v 0 code (ls ++ [cookieT name value path 0])) := by
  have HC := closed_any i
  have HA := fun w => has_any name ckB (by omega) w
  have HB := fun w => has_any path ⟨#[59]⟩ (by omega) w
  obtain ⟨he, ha, hb⟩ := cookP_parts hc
  simp only [ha] at HA
  simp only [hb] at HB
  have HE := enc_any value (by omega) w
  obtain ⟨E, hE⟩ : ∃ E, E = str (encP value.toList) := ⟨_, rfl⟩
  have sE : E.size ≤ 6597069766656 := by
    have := encP_len value.toList
    rw [hE, str_size]
    rw [size_toList] at this
    omega
  rw [← hE] at HE
  obtain ⟨res, hres⟩ : ∃ res, res = cookieT name value path 0 := ⟨_, rfl⟩
  rw [← hres]
  unfold cookieT at hres
  rw [hpe, ← hE] at hres
  rw [if_neg (by simp)] at hres
  rw [if_pos rfl] at hres
  obtain ⟨N1, hN1⟩ : ∃ N, ckA ++ name = N := ⟨_, rfl⟩
  have sN1 : N1.size ≤ 2199023255600 := by rw [← hN1, ByteArray.size_append]; show 12 + _ ≤ _; omega
  obtain ⟨N2, hN2⟩ : ∃ N, N1 ++ (⟨#[61]⟩ : ByteArray) = N := ⟨_, rfl⟩
  have sN2 : N2.size ≤ 2199023255700 := by rw [← hN2, ByteArray.size_append]; show _ + 1 ≤ _; omega
  obtain ⟨S1, hS1⟩ : ∃ S, N2 ++ E = S := ⟨_, rfl⟩
  have sS1 : S1.size ≤ 8796093022500 := by rw [← hS1, ByteArray.size_append]; omega
  rw [hN1, hN2, hS1] at hres
  obtain ⟨P1, hP1⟩ : ∃ P, ckP ++ path = P := ⟨_, rfl⟩
  have sP1 : P1.size ≤ 2199023255600 := by rw [← hP1, ByteArray.size_append]; show 7 + _ ≤ _; omega
  obtain ⟨S3, hS3⟩ : ∃ S, S1 ++ P1 = S := ⟨_, rfl⟩
  have sS3 : S3.size ≤ 10995116280000 := by rw [← hS3, ByteArray.size_append]; omega
  rw [hP1, hS3] at hres
  subst hres
  have HTS := Lib.hid ht
  have I := Lib.hid i
  have x3 := i.cells.2.2.2
  obtain ⟨a0, c0, hv0, -⟩ := i.own.any
  rw [List.length_map] at hv0
  have dl : decide (64 ≤ (ls.length : Int)) = false := by simp; omega
  have HLE := Lib.hid (show ls.length ≤ 63 by omega)
  have HLT := Lib.hid (lt_of_block i.blk)
  unfold closedP at HC
  subst hv0
  clear i hc hl ha hb ht hE
  go_enter Tryd.func34, Tryd.ntmps34
  go_wp2_with fail
  refine HC.mono ?_
  rintro e w1 ⟨rfl, rfl⟩
  clear HC
  go_wp2_with fail
  refine (HA _).mono ?_
  rintro e w1 ⟨rfl, rfl⟩
  go_wp2_with fail
  refine (HB _).mono ?_
  rintro e w1 ⟨rfl, rfl⟩
  clear HA HB
  go_wp2_with fail
  refine HE.mono ?_
  rintro e w2 ⟨rfl, hb⟩
  have I2 := Lib.hid (I.out.below hb)
  have B2 := Lib.hid hb
  have y3 := I2.out.cells.2.2.2
  clear hb HE
  go_wp2_with fail
  have HCl := clone_list I2.out.own (by have := HLE.out; omega)
  refine HCl.mono ?_
  rintro e w5 ⟨v5, rfl, o5, hb, n5⟩
  have I5 := Lib.hid (I2.out.below hb)
  have B5 := Lib.hid (B2.out.trans (hb.mono B2.out.size))
  have N5 := Lib.hid (⟨n5, B2.out.size⟩ : _ ∧ _)
  have I6 := Lib.hid (I5.out.below (below_alloc1 w5 (.cells #[.string res] 9)))
  have hO : Hid (Owns (w5.alloc (.cells #[.string res] 9)) 9 1 v5 (ls.map sR)) := Lib.hid (Owns.mod o5 (Mod.of_below (F := fun _ => False) (below_alloc1 w5 (.cells #[.string res] 9))) (fun _ _ x => x))
  have hL := Lib.hid (lies_new w5 [.string res] 9 rfl)
  have hr1 : Hid ((ls.map sR).length + ([[Value.string res]] : List (List Value)).length ≤ maxLen) := by show _ ≤ _; have := HLE.out; unfold maxLen; simp; omega
  have hr2 : Hid (((ls.map sR).length + ([[Value.string res]] : List (List Value)).length) * 16 ≤ 140737488355328) := by show _ ≤ _; have := HLE.out; simp; omega
  obtain ⟨a8, c8, hv8, -⟩ := o5.any
  rw [List.length_map] at hv8
  subst hv8
  clear HCl o5 hb n5
  go_wp2_with (at_builtin; refine wpList_append_rows rfl (.tmp 61) (.tmp 63) 50 rfl 9 _ 1 16 Tryd.underlying50 info9 rfl (by decide) (.slice a8 ls.length c8) (ls.map sR) (by rfl) hO.out (some ⟨w5.heap.size, 0, none⟩) 1 1 [[.string res]] (by rfl) rfl (fun e => by cases e) hL.out (by simp [Value.oneCell']) (by simp) hr1.out (by have h := hr2.out; omega) ?_; intro v7 w7 o7 g7 n7; obtain ⟨a7, c7, hv7, -⟩ := o7.any; generalize (List.length _) = L7 at hv7; subst hv7; have O7 := Lib.hid o7; have G7 := Lib.hid (⟨g7, n7⟩ : _ ∧ _); have I7 := Lib.hid (I6.out.mod ((Mod.refl (fun k => (Value.slice a8 ls.length c8).ownBlock = some k) _).grown g7 (fun k e _ => e)) (fun e => by have h1 := N5.out.1 _ e; have h2 := N5.out.2; have h3 := HLT.out; have h4 := B2.out.size; omega) (fun g e e' => by have h1 := N5.out.1 _ e'; have h2 := I2.out.own.lt e; omega)); obtain ⟨-, -, p2, p3⟩ := I7.out.cells; have f2' := free_blk I7.out.blk 2; have f3' := free_blk I7.out.blk 3; clear o7 g7 n7)
  go_ret
  have hs5 := B5.out.size
  have hlt := HLT.out
  have hn5 := N5.out
  have hfr : ∀ g, (Value.slice a7 L7 c7).ownBlock = some g → w.heap.size ≤ g := fun g e => by
    rcases G7.out.2 with h' | ⟨g', h', hg⟩
    · rw [h'] at e; have := hn5.1 g e; have := hn5.2; omega
    · rw [h'] at e; cases e; simp at hg; omega
  have mA : Mod (fun k => k = h) w (w5.alloc (.cells #[.string res] 9)) := (Mod.of_below B5.out).alloc _
  have mB := mA.grown G7.out.1 (fun k e hk => by have := hn5.1 k e; have := hn5.2; omega)
  have o7 : Owns w7 9 1 (.slice a7 L7 c7) ((ls ++ [res]).map sR) := by rw [List.map_append]; exact O7.out
  have J1 := I7.out.setLines (v' := .slice a7 L7 c7) (ls' := ls ++ [res]) o7 (fun e => by have := hfr _ e; omega) (by have := HLE.out; simp; omega)
  have m1 := mB.setCell ⟨h, 3, none⟩ (.slice a7 L7 c7) (fun _ => rfl)
  exact ⟨rfl, _, J1, m1, .inr hfr⟩
set_option maxHeartbeats 3200000 in
set_option maxRecDepth 100000 in
theorem cookie_put10 (i : HeadsIs w h false code v ls) (ht : Tabs w) (name value path : ByteArray) (age : Int) (hage : age ≠ 0) (hg0 : -9223372036854775808 ≤ age) (hg1 : age ≤ 9223372036854775807) (hn : name.size ≤ 2199023255552) (hval : value.size ≤ 2199023255552) (hp : path.size ≤ 2199023255552) (hc : cookP name path = true) (hpe : path.toList.isEmpty = true) (hl : ¬ 64 ≤ ls.length) :
    Calls Tryd.prog 34 #[.pointer (some ⟨h, 0, none⟩), .string name, .string value, .string path, .int .i64 age] w (HPost w h false v 0 code (ls ++ [cookieT name value path age])) := by
  have HC := closed_any i
  have HA := fun w => has_any name ckB (by omega) w
  have HB := fun w => has_any path ⟨#[59]⟩ (by omega) w
  obtain ⟨he, ha, hb⟩ := cookP_parts hc
  simp only [ha] at HA
  simp only [hb] at HB
  have HE := enc_any value (by omega) w
  obtain ⟨E, hE⟩ : ∃ E, E = str (encP value.toList) := ⟨_, rfl⟩
  have sE : E.size ≤ 6597069766656 := by
    have := encP_len value.toList
    rw [hE, str_size]
    rw [size_toList] at this
    omega
  rw [← hE] at HE
  have HI : ∀ W, Tabs W → Calls Tryd.prog 36 #[.int .i64 age] W (TextPost W (Lib.itoa age)) := fun W hW => itoa_any age hg0 hg1 W hW
  unfold TextPost at HI
  obtain ⟨Q, hQ⟩ : ∃ Q, Q = str (Lib.itoa age) := ⟨_, rfl⟩
  have sQ : Q.size ≤ 21 := by rw [hQ]; exact itoa_short hg0 hg1
  rw [← hQ] at HI
  have d0 : (age != 0) = true := by simp [hage]
  obtain ⟨res, hres⟩ : ∃ res, res = cookieT name value path age := ⟨_, rfl⟩
  rw [← hres]
  unfold cookieT at hres
  rw [hpe, ← hE, ← hQ] at hres
  rw [if_pos rfl] at hres
  rw [if_neg hage] at hres
  obtain ⟨N1, hN1⟩ : ∃ N, ckA ++ name = N := ⟨_, rfl⟩
  have sN1 : N1.size ≤ 2199023255600 := by rw [← hN1, ByteArray.size_append]; show 12 + _ ≤ _; omega
  obtain ⟨N2, hN2⟩ : ∃ N, N1 ++ (⟨#[61]⟩ : ByteArray) = N := ⟨_, rfl⟩
  have sN2 : N2.size ≤ 2199023255700 := by rw [← hN2, ByteArray.size_append]; show _ + 1 ≤ _; omega
  obtain ⟨S1, hS1⟩ : ∃ S, N2 ++ E = S := ⟨_, rfl⟩
  have sS1 : S1.size ≤ 8796093022500 := by rw [← hS1, ByteArray.size_append]; omega
  rw [hN1, hN2, hS1] at hres
  obtain ⟨M1, hM1⟩ : ∃ M, ckM ++ Q = M := ⟨_, rfl⟩
  have sM1 : M1.size ≤ 40 := by rw [← hM1, ByteArray.size_append]; show 10 + _ ≤ _; omega
  obtain ⟨S2, hS2⟩ : ∃ S, S1 ++ M1 = S := ⟨_, rfl⟩
  have sS2 : S2.size ≤ 8796093022600 := by rw [← hS2, ByteArray.size_append]; omega
  rw [hM1, hS2] at hres
  subst hres
  have HTS := Lib.hid ht
  have I := Lib.hid i
  have x3 := i.cells.2.2.2
  obtain ⟨a0, c0, hv0, -⟩ := i.own.any
  rw [List.length_map] at hv0
  have dl : decide (64 ≤ (ls.length : Int)) = false := by simp; omega
  have HLE := Lib.hid (show ls.length ≤ 63 by omega)
  have HLT := Lib.hid (lt_of_block i.blk)
  unfold closedP at HC
  subst hv0
  clear i hc hl ha hb ht hE hQ hage hg0 hg1
  go_enter Tryd.func34, Tryd.ntmps34
  go_wp2_with fail
  refine HC.mono ?_
  rintro e w1 ⟨rfl, rfl⟩
  clear HC
  go_wp2_with fail
  refine (HA _).mono ?_
  rintro e w1 ⟨rfl, rfl⟩
  go_wp2_with fail
  refine (HB _).mono ?_
  rintro e w1 ⟨rfl, rfl⟩
  clear HA HB
  go_wp2_with fail
  refine HE.mono ?_
  rintro e w2 ⟨rfl, hb⟩
  have I2 := Lib.hid (I.out.below hb)
  have B2 := Lib.hid hb
  have y3 := I2.out.cells.2.2.2
  clear hb HE
  go_wp2_with fail
  refine (HI _ (HTS.out.mono B2.out)).mono ?_
  rintro e w3 ⟨rfl, hb⟩
  have I3 := Lib.hid (I2.out.below hb)
  have B3 := Lib.hid (B2.out.trans (hb.mono B2.out.size))
  have z3 := I3.out.cells.2.2.2
  clear hb HI y3
  go_wp2_with fail
  have HCl := clone_list I3.out.own (by have := HLE.out; omega)
  refine HCl.mono ?_
  rintro e w5 ⟨v5, rfl, o5, hb, n5⟩
  have I5 := Lib.hid (I3.out.below hb)
  have B5 := Lib.hid (B3.out.trans (hb.mono B3.out.size))
  have N5 := Lib.hid (⟨n5, B3.out.size⟩ : _ ∧ _)
  have I6 := Lib.hid (I5.out.below (below_alloc1 w5 (.cells #[.string res] 9)))
  have hO : Hid (Owns (w5.alloc (.cells #[.string res] 9)) 9 1 v5 (ls.map sR)) := Lib.hid (Owns.mod o5 (Mod.of_below (F := fun _ => False) (below_alloc1 w5 (.cells #[.string res] 9))) (fun _ _ x => x))
  have hL := Lib.hid (lies_new w5 [.string res] 9 rfl)
  have hr1 : Hid ((ls.map sR).length + ([[Value.string res]] : List (List Value)).length ≤ maxLen) := by show _ ≤ _; have := HLE.out; unfold maxLen; simp; omega
  have hr2 : Hid (((ls.map sR).length + ([[Value.string res]] : List (List Value)).length) * 16 ≤ 140737488355328) := by show _ ≤ _; have := HLE.out; simp; omega
  obtain ⟨a8, c8, hv8, -⟩ := o5.any
  rw [List.length_map] at hv8
  subst hv8
  clear HCl o5 hb n5
  go_wp2_with (at_builtin; refine wpList_append_rows rfl (.tmp 61) (.tmp 63) 50 rfl 9 _ 1 16 Tryd.underlying50 info9 rfl (by decide) (.slice a8 ls.length c8) (ls.map sR) (by rfl) hO.out (some ⟨w5.heap.size, 0, none⟩) 1 1 [[.string res]] (by rfl) rfl (fun e => by cases e) hL.out (by simp [Value.oneCell']) (by simp) hr1.out (by have h := hr2.out; omega) ?_; intro v7 w7 o7 g7 n7; obtain ⟨a7, c7, hv7, -⟩ := o7.any; generalize (List.length _) = L7 at hv7; subst hv7; have O7 := Lib.hid o7; have G7 := Lib.hid (⟨g7, n7⟩ : _ ∧ _); have I7 := Lib.hid (I6.out.mod ((Mod.refl (fun k => (Value.slice a8 ls.length c8).ownBlock = some k) _).grown g7 (fun k e _ => e)) (fun e => by have h1 := N5.out.1 _ e; have h2 := N5.out.2; have h3 := HLT.out; have h4 := B3.out.size; omega) (fun g e e' => by have h1 := N5.out.1 _ e'; have h2 := I3.out.own.lt e; omega)); obtain ⟨-, -, p2, p3⟩ := I7.out.cells; have f2' := free_blk I7.out.blk 2; have f3' := free_blk I7.out.blk 3; clear o7 g7 n7)
  go_ret
  have hs5 := B5.out.size
  have hlt := HLT.out
  have hn5 := N5.out
  have hfr : ∀ g, (Value.slice a7 L7 c7).ownBlock = some g → w.heap.size ≤ g := fun g e => by
    rcases G7.out.2 with h' | ⟨g', h', hg⟩
    · rw [h'] at e; have := hn5.1 g e; have := hn5.2; omega
    · rw [h'] at e; cases e; simp at hg; omega
  have mA : Mod (fun k => k = h) w (w5.alloc (.cells #[.string res] 9)) := (Mod.of_below B5.out).alloc _
  have mB := mA.grown G7.out.1 (fun k e hk => by have := hn5.1 k e; have := hn5.2; omega)
  have o7 : Owns w7 9 1 (.slice a7 L7 c7) ((ls ++ [res]).map sR) := by rw [List.map_append]; exact O7.out
  have J1 := I7.out.setLines (v' := .slice a7 L7 c7) (ls' := ls ++ [res]) o7 (fun e => by have := hfr _ e; omega) (by have := HLE.out; simp; omega)
  have m1 := mB.setCell ⟨h, 3, none⟩ (.slice a7 L7 c7) (fun _ => rfl)
  exact ⟨rfl, _, J1, m1, .inr hfr⟩
set_option maxHeartbeats 3200000 in
set_option maxRecDepth 100000 in
theorem cookie_put11 (i : HeadsIs w h false code v ls) (ht : Tabs w) (name value path : ByteArray) (age : Int) (hage : age ≠ 0) (hg0 : -9223372036854775808 ≤ age) (hg1 : age ≤ 9223372036854775807) (hn : name.size ≤ 2199023255552) (hval : value.size ≤ 2199023255552) (hp : path.size ≤ 2199023255552) (hc : cookP name path = true) (hpe : path.toList.isEmpty = false) (hl : ¬ 64 ≤ ls.length) :
    Calls Tryd.prog 34 #[.pointer (some ⟨h, 0, none⟩), .string name, .string value, .string path, .int .i64 age] w (HPost w h false v 0 code (ls ++ [cookieT name value path age])) := by
  have HC := closed_any i
  have HA := fun w => has_any name ckB (by omega) w
  have HB := fun w => has_any path ⟨#[59]⟩ (by omega) w
  obtain ⟨he, ha, hb⟩ := cookP_parts hc
  simp only [ha] at HA
  simp only [hb] at HB
  have HE := enc_any value (by omega) w
  obtain ⟨E, hE⟩ : ∃ E, E = str (encP value.toList) := ⟨_, rfl⟩
  have sE : E.size ≤ 6597069766656 := by
    have := encP_len value.toList
    rw [hE, str_size]
    rw [size_toList] at this
    omega
  rw [← hE] at HE
  have HI : ∀ W, Tabs W → Calls Tryd.prog 36 #[.int .i64 age] W (TextPost W (Lib.itoa age)) := fun W hW => itoa_any age hg0 hg1 W hW
  unfold TextPost at HI
  obtain ⟨Q, hQ⟩ : ∃ Q, Q = str (Lib.itoa age) := ⟨_, rfl⟩
  have sQ : Q.size ≤ 21 := by rw [hQ]; exact itoa_short hg0 hg1
  rw [← hQ] at HI
  have d0 : (age != 0) = true := by simp [hage]
  obtain ⟨res, hres⟩ : ∃ res, res = cookieT name value path age := ⟨_, rfl⟩
  rw [← hres]
  unfold cookieT at hres
  rw [hpe, ← hE, ← hQ] at hres
  rw [if_neg (by simp)] at hres
  rw [if_neg hage] at hres
  obtain ⟨N1, hN1⟩ : ∃ N, ckA ++ name = N := ⟨_, rfl⟩
  have sN1 : N1.size ≤ 2199023255600 := by rw [← hN1, ByteArray.size_append]; show 12 + _ ≤ _; omega
  obtain ⟨N2, hN2⟩ : ∃ N, N1 ++ (⟨#[61]⟩ : ByteArray) = N := ⟨_, rfl⟩
  have sN2 : N2.size ≤ 2199023255700 := by rw [← hN2, ByteArray.size_append]; show _ + 1 ≤ _; omega
  obtain ⟨S1, hS1⟩ : ∃ S, N2 ++ E = S := ⟨_, rfl⟩
  have sS1 : S1.size ≤ 8796093022500 := by rw [← hS1, ByteArray.size_append]; omega
  rw [hN1, hN2, hS1] at hres
  obtain ⟨M1, hM1⟩ : ∃ M, ckM ++ Q = M := ⟨_, rfl⟩
  have sM1 : M1.size ≤ 40 := by rw [← hM1, ByteArray.size_append]; show 10 + _ ≤ _; omega
  obtain ⟨S2, hS2⟩ : ∃ S, S1 ++ M1 = S := ⟨_, rfl⟩
  have sS2 : S2.size ≤ 8796093022600 := by rw [← hS2, ByteArray.size_append]; omega
  rw [hM1, hS2] at hres
  obtain ⟨P1, hP1⟩ : ∃ P, ckP ++ path = P := ⟨_, rfl⟩
  have sP1 : P1.size ≤ 2199023255600 := by rw [← hP1, ByteArray.size_append]; show 7 + _ ≤ _; omega
  obtain ⟨S3, hS3⟩ : ∃ S, S2 ++ P1 = S := ⟨_, rfl⟩
  have sS3 : S3.size ≤ 10995116280000 := by rw [← hS3, ByteArray.size_append]; omega
  rw [hP1, hS3] at hres
  subst hres
  have HTS := Lib.hid ht
  have I := Lib.hid i
  have x3 := i.cells.2.2.2
  obtain ⟨a0, c0, hv0, -⟩ := i.own.any
  rw [List.length_map] at hv0
  have dl : decide (64 ≤ (ls.length : Int)) = false := by simp; omega
  have HLE := Lib.hid (show ls.length ≤ 63 by omega)
  have HLT := Lib.hid (lt_of_block i.blk)
  unfold closedP at HC
  subst hv0
  clear i hc hl ha hb ht hE hQ hage hg0 hg1
  go_enter Tryd.func34, Tryd.ntmps34
  go_wp2_with fail
  refine HC.mono ?_
  rintro e w1 ⟨rfl, rfl⟩
  clear HC
  go_wp2_with fail
  refine (HA _).mono ?_
  rintro e w1 ⟨rfl, rfl⟩
  go_wp2_with fail
  refine (HB _).mono ?_
  rintro e w1 ⟨rfl, rfl⟩
  clear HA HB
  go_wp2_with fail
  refine HE.mono ?_
  rintro e w2 ⟨rfl, hb⟩
  have I2 := Lib.hid (I.out.below hb)
  have B2 := Lib.hid hb
  have y3 := I2.out.cells.2.2.2
  clear hb HE
  go_wp2_with fail
  refine (HI _ (HTS.out.mono B2.out)).mono ?_
  rintro e w3 ⟨rfl, hb⟩
  have I3 := Lib.hid (I2.out.below hb)
  have B3 := Lib.hid (B2.out.trans (hb.mono B2.out.size))
  have z3 := I3.out.cells.2.2.2
  clear hb HI y3
  go_wp2_with fail
  have HCl := clone_list I3.out.own (by have := HLE.out; omega)
  refine HCl.mono ?_
  rintro e w5 ⟨v5, rfl, o5, hb, n5⟩
  have I5 := Lib.hid (I3.out.below hb)
  have B5 := Lib.hid (B3.out.trans (hb.mono B3.out.size))
  have N5 := Lib.hid (⟨n5, B3.out.size⟩ : _ ∧ _)
  have I6 := Lib.hid (I5.out.below (below_alloc1 w5 (.cells #[.string res] 9)))
  have hO : Hid (Owns (w5.alloc (.cells #[.string res] 9)) 9 1 v5 (ls.map sR)) := Lib.hid (Owns.mod o5 (Mod.of_below (F := fun _ => False) (below_alloc1 w5 (.cells #[.string res] 9))) (fun _ _ x => x))
  have hL := Lib.hid (lies_new w5 [.string res] 9 rfl)
  have hr1 : Hid ((ls.map sR).length + ([[Value.string res]] : List (List Value)).length ≤ maxLen) := by show _ ≤ _; have := HLE.out; unfold maxLen; simp; omega
  have hr2 : Hid (((ls.map sR).length + ([[Value.string res]] : List (List Value)).length) * 16 ≤ 140737488355328) := by show _ ≤ _; have := HLE.out; simp; omega
  obtain ⟨a8, c8, hv8, -⟩ := o5.any
  rw [List.length_map] at hv8
  subst hv8
  clear HCl o5 hb n5
  go_wp2_with (at_builtin; refine wpList_append_rows rfl (.tmp 61) (.tmp 63) 50 rfl 9 _ 1 16 Tryd.underlying50 info9 rfl (by decide) (.slice a8 ls.length c8) (ls.map sR) (by rfl) hO.out (some ⟨w5.heap.size, 0, none⟩) 1 1 [[.string res]] (by rfl) rfl (fun e => by cases e) hL.out (by simp [Value.oneCell']) (by simp) hr1.out (by have h := hr2.out; omega) ?_; intro v7 w7 o7 g7 n7; obtain ⟨a7, c7, hv7, -⟩ := o7.any; generalize (List.length _) = L7 at hv7; subst hv7; have O7 := Lib.hid o7; have G7 := Lib.hid (⟨g7, n7⟩ : _ ∧ _); have I7 := Lib.hid (I6.out.mod ((Mod.refl (fun k => (Value.slice a8 ls.length c8).ownBlock = some k) _).grown g7 (fun k e _ => e)) (fun e => by have h1 := N5.out.1 _ e; have h2 := N5.out.2; have h3 := HLT.out; have h4 := B3.out.size; omega) (fun g e e' => by have h1 := N5.out.1 _ e'; have h2 := I3.out.own.lt e; omega)); obtain ⟨-, -, p2, p3⟩ := I7.out.cells; have f2' := free_blk I7.out.blk 2; have f3' := free_blk I7.out.blk 3; clear o7 g7 n7)
  go_ret
  have hs5 := B5.out.size
  have hlt := HLT.out
  have hn5 := N5.out
  have hfr : ∀ g, (Value.slice a7 L7 c7).ownBlock = some g → w.heap.size ≤ g := fun g e => by
    rcases G7.out.2 with h' | ⟨g', h', hg⟩
    · rw [h'] at e; have := hn5.1 g e; have := hn5.2; omega
    · rw [h'] at e; cases e; simp at hg; omega
  have mA : Mod (fun k => k = h) w (w5.alloc (.cells #[.string res] 9)) := (Mod.of_below B5.out).alloc _
  have mB := mA.grown G7.out.1 (fun k e hk => by have := hn5.1 k e; have := hn5.2; omega)
  have o7 : Owns w7 9 1 (.slice a7 L7 c7) ((ls ++ [res]).map sR) := by rw [List.map_append]; exact O7.out
  have J1 := I7.out.setLines (v' := .slice a7 L7 c7) (ls' := ls ++ [res]) o7 (fun e => by have := hfr _ e; omega) (by have := HLE.out; simp; omega)
  have m1 := mB.setCell ⟨h, 3, none⟩ (.slice a7 L7 c7) (fun _ => rfl)
  exact ⟨rfl, _, J1, m1, .inr hfr⟩
/-- What Cookie answers, and the lines behind it. -/
def cookieP (ls : List ByteArray) (name value path : ByteArray) (age : Int) : Int × List ByteArray :=
  if cookP name path = false then (1, ls) else if 64 ≤ ls.length then (8, ls) else (0, ls ++ [cookieT name value path age])
theorem cookie_any {sent : Bool} (i : HeadsIs w h sent code v ls) (ht : Tabs w) (name value path : ByteArray) (age : Int) (hg0 : -9223372036854775808 ≤ age) (hg1 : age ≤ 9223372036854775807) (hn : name.size ≤ 2199023255552) (hval : value.size ≤ 2199023255552) (hp : path.size ≤ 2199023255552) :
    Calls Tryd.prog 34 #[.pointer (some ⟨h, 0, none⟩), .string name, .string value, .string path, .int .i64 age] w (HPost w h sent v (if sent then 17 else (cookieP ls name value path age).1) code (if sent then ls else (cookieP ls name value path age).2)) := by
  cases sent with
  | true => exact cookie_sent i name value path age
  | false =>
    simp only [Bool.false_eq_true, if_false]
    unfold cookieP
    cases hc : cookP name path with
    | false => simp only [if_true]; exact cookie_arg i name value path age (by omega) (by omega) hc
    | true =>
      simp only [Bool.true_eq_false, if_false]
      by_cases hl : 64 ≤ ls.length
      · simp only [hl, if_true]; exact cookie_full i name value path age (by omega) (by omega) hc hl
      · simp only [hl, if_false]
        by_cases ha : age = 0
        · subst ha
          cases hpe : path.toList.isEmpty with
          | true => exact cookie_put00 i ht name value path hn hval hp hc hpe hl
          | false => exact cookie_put01 i ht name value path hn hval hp hc hpe hl
        · cases hpe : path.toList.isEmpty with
          | true => exact cookie_put10 i ht name value path age ha hg0 hg1 hn hval hp hc hpe hl
          | false => exact cookie_put11 i ht name value path age ha hg0 hg1 hn hval hp hc hpe hl
end
end Go.Proofs.YthnhpnmopjbaoaaDoor
