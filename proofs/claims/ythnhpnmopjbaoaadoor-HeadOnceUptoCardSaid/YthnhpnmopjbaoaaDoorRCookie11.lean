/-
  The walk of the document's Cookie (printed by genRCookie11.py).
-/
import Derived.Test.YthnhpnmopjbaoaaDoorRLine11
namespace Go.Proofs.YthnhpnmopjbaoaaDoor
open Go.RowKit

section
variable {w : World} {r : Nat} {code : Int} {v : Value} {ls : List ByteArray}
theorem rline_any {sent : Bool} (i : RIs w r sent code v ls) (hsz : Small ls) (s : ByteArray) (hs : s.size ≤ 140737488351232) (rep : Bool) (n : Int) :
    Calls Tryd.prog 42 #[.pointer (some ⟨r, 0, none⟩), .string s, .bool rep, .int .i64 n] w (RPost w r sent v (if sent then 17 else (lineP code ls s rep n).1) (if sent then code else (lineP code ls s rep n).2.1) (if sent then ls else (lineP code ls s rep n).2.2)) := by
  cases sent with
  | true => exact rline_sent i s rep n
  | false =>
    simp only [Bool.false_eq_true, if_false]
    unfold lineP
    by_cases hn : n = 0
    · subst hn
      simp only [ne_eq, not_true_eq_false, false_and, if_false]
      cases hb : httpP s with
      | true =>
        simp only [if_true]
        have := rline_http0 i s hs rep hb
        by_cases hm : statusP s = 0
        · simp only [hm, if_true] at this ⊢; exact this
        · simp only [hm, if_false] at this ⊢; exact this
      | false =>
        simp only [Bool.false_eq_true, if_false]
        by_cases hf : nameP s = none ∨ valuedP s = false
        · simp only [hf, if_true]; exact rline_form0 i s hs rep hb hf
        · simp only [hf, if_false]
          have hne : nameP s ≠ none := fun e => hf (.inl e)
          have hv : valuedP s = true := by cases e : valuedP s with | true => rfl | false => exact absurd (.inr e) hf
          cases rep with
          | true =>
            simp only [if_true]
            rw [← rdrop_line s ls]
            by_cases hl : 64 ≤ (rdropP (str (rnameP s)) ls).length
            · simp only [hl, if_true]; exact rline_put0t_full i hsz s hs hb hne hv hl
            · simp only [hl, if_false]; exact rline_put0t i hsz s hs hb hne hv hl
          | false =>
            simp only [Bool.false_eq_true, if_false]
            by_cases hl : 64 ≤ ls.length
            · simp only [hl, if_true]; exact rline_put0f_full i s hs hb hne hv hl
            · simp only [hl, if_false]; exact rline_put0f i s hs hb hne hv hl
    · by_cases hr : 100 ≤ n ∧ n ≤ 599
      · simp only [ne_eq, hn, not_false_eq_true, hr, and_self, not_true_eq_false, and_false, if_false, if_true]
        cases hb : httpP s with
        | true =>
          simp only [if_true]
          have := rline_httpn i s hs rep n hn hr hb
          by_cases hm : statusP s = 0
          · simp only [hm, if_true] at this ⊢; exact this
          · simp only [hm, if_false] at this ⊢; exact this
        | false =>
          simp only [Bool.false_eq_true, if_false]
          by_cases hf : nameP s = none ∨ valuedP s = false
          · simp only [hf, if_true]; exact rline_formn i s hs rep n hn hr hb hf
          · simp only [hf, if_false]
            have hne : nameP s ≠ none := fun e => hf (.inl e)
            have hv : valuedP s = true := by cases e : valuedP s with | true => rfl | false => exact absurd (.inr e) hf
            have hc : lineCode code s n = n := if_pos hn
            rw [hc]
            cases rep with
            | true =>
              simp only [if_true]
              rw [← rdrop_line s ls]
              by_cases hl : 64 ≤ (rdropP (str (rnameP s)) ls).length
              · simp only [hl, if_true]; exact rline_putnt_full i hsz s hs n hn hr hb hne hv hl
              · simp only [hl, if_false]; exact rline_putnt i hsz s hs n hn hr hb hne hv hl
            | false =>
              simp only [Bool.false_eq_true, if_false]
              by_cases hl : 64 ≤ ls.length
              · simp only [hl, if_true]; exact rline_putnf_full i s hs n hn hr hb hne hv hl
              · simp only [hl, if_false]; exact rline_putnf i s hs n hn hr hb hne hv hl
      · simp only [ne_eq, hn, not_false_eq_true, hr, and_self, if_true]
        exact rline_arg i s rep n hn hr
theorem rcookie_sent (i : RIs w r true code v ls) (name value path : ByteArray) (age : Int) : Calls Tryd.prog 44 #[.pointer (some ⟨r, 0, none⟩), .string name, .string value, .string path, .int .i64 age] w (RPost w r true v 17 code ls) := by
  have I := Lib.hid i
  obtain ⟨-, -, x2⟩ := i.cells
  clear i
  go_enter Tryd.func44, Tryd.ntmps44
  go_wp2_with fail
  go_ret
  exact ⟨rfl, v, I.out, Mod.refl _ _, .inl rfl⟩
theorem rcookie_arg (i : RIs w r false code v ls) (name value path : ByteArray) (age : Int) (hn : name.size ≤ 140737488351232) (hp : path.size ≤ 140737488351232) (hc : cookP name path = false) :
    Calls Tryd.prog 44 #[.pointer (some ⟨r, 0, none⟩), .string name, .string value, .string path, .int .i64 age] w (RPost w r false v 1 code ls) := by
  have HA := rcooked_any name path hn hp w
  rw [hc] at HA
  have I := Lib.hid i
  obtain ⟨-, -, x2⟩ := i.cells
  clear i hc
  go_enter Tryd.func44, Tryd.ntmps44
  go_wp2_with fail
  refine HA.mono ?_
  rintro e w1 ⟨rfl, rfl⟩
  go_wp2_with fail
  go_ret
  exact ⟨rfl, v, I.out, Mod.refl _ _, .inl rfl⟩
theorem rcookie_full (i : RIs w r false code v ls) (name value path : ByteArray) (age : Int) (hn : name.size ≤ 140737488351232) (hp : path.size ≤ 140737488351232) (hc : cookP name path = true) (hl : 64 ≤ ls.length) :
    Calls Tryd.prog 44 #[.pointer (some ⟨r, 0, none⟩), .string name, .string value, .string path, .int .i64 age] w (RPost w r false v 8 code ls) := by
  have HA := rcooked_any name path hn hp w
  rw [hc] at HA
  have I := Lib.hid i
  obtain ⟨-, x1, x2⟩ := i.cells
  obtain ⟨a0, c0, hv0, -⟩ := i.own.any
  rw [List.length_map] at hv0
  have dl : decide (64 ≤ (ls.length : Int)) = true := by simp; omega
  subst hv0
  clear i hc hl
  go_enter Tryd.func44, Tryd.ntmps44
  go_wp2_with fail
  refine HA.mono ?_
  rintro e w1 ⟨rfl, rfl⟩
  go_wp2_with fail
  go_ret
  exact ⟨rfl, _, I.out, Mod.refl _ _, .inl rfl⟩
set_option maxHeartbeats 3200000 in
set_option maxRecDepth 100000 in
theorem rcookie_put00 (i : RIs w r false code v ls) (name value path : ByteArray) (hn : name.size ≤ 2199023255552) (hval : value.size ≤ 2199023255552) (hp : path.size ≤ 2199023255552) (hc : cookP name path = true) (hpe : path.toList.isEmpty = true) (hl : ¬ 64 ≤ ls.length) :
    Calls Tryd.prog 44 #[.pointer (some ⟨r, 0, none⟩), .string name, .string value, .string path, .int .i64 0] w (RPost w r false v 0 code (ls ++ [cookieT name value path 0])) := by
  have HA := rcooked_any name path (by omega) (by omega) w
  rw [hc] at HA
  have HE := renc_any value (by omega) w
  obtain ⟨E, hE⟩ : ∃ E, E = str (encP value.toList) := ⟨_, rfl⟩
  have sE : E.size ≤ 6597069766656 := by
    have := encP_len value.toList
    rw [hE, str_size]
    rw [size_toList] at this
    omega
  rw [← hE] at HE
  obtain ⟨res, hres⟩ : ∃ res, res = cookieT name value path 0 := ⟨_, rfl⟩
  rw [← hres]
  unfold cookieT at hres
  rw [hpe, ← hE] at hres
  rw [if_pos rfl] at hres
  rw [if_pos rfl] at hres
  obtain ⟨N1, hN1⟩ : ∃ N, ckA ++ name = N := ⟨_, rfl⟩
  have sN1 : N1.size ≤ 2199023255600 := by rw [← hN1, ByteArray.size_append]; show 12 + _ ≤ _; omega
  obtain ⟨N2, hN2⟩ : ∃ N, N1 ++ (⟨#[61]⟩ : ByteArray) = N := ⟨_, rfl⟩
  have sN2 : N2.size ≤ 2199023255700 := by rw [← hN2, ByteArray.size_append]; show _ + 1 ≤ _; omega
  obtain ⟨S1, hS1⟩ : ∃ S, N2 ++ E = S := ⟨_, rfl⟩
  have sS1 : S1.size ≤ 8796093022500 := by rw [← hS1, ByteArray.size_append]; omega
  rw [hN1, hN2, hS1] at hres
  subst hres
  have I := Lib.hid i
  obtain ⟨x0, x1, x2⟩ := i.cells
  obtain ⟨a0, c0, hv0, -, -, hl0, hn0, -⟩ := i.own.any
  rw [List.length_map] at hv0
  subst hv0
  have HN0 := Lib.hid hn0
  have HR1 : Hid ((([] : List (List Value)).length + (ls.map sR).length ≤ maxLen) ∧ (([] : List (List Value)).length + (ls.map sR).length) * 16 ≤ 140737488355328) := Lib.hid (by rw [List.length_map]; unfold maxLen; have := i.len; simp; omega)
  have HNL : Hid (ls.length = (ls.map sR).length) := Lib.hid (by simp)
  have HL63 := Lib.hid (show ls.length ≤ 63 by omega)
  have HLT := Lib.hid (lt_of_block i.blk)
  have HV0 : Hid (∀ g, (Value.slice a0 ls.length c0).ownBlock = some g → g < w.heap.size) := Lib.hid (fun g e => i.own.lt e)
  have dl : decide (64 ≤ (ls.length : Int)) = false := by simp; omega
  clear i hc hl hl0 hn0 hE
  go_enter Tryd.func44, Tryd.ntmps44
  go_wp2_with fail
  refine HA.mono ?_
  rintro e w1 ⟨rfl, rfl⟩
  clear HA
  go_wp2_with fail
  refine HE.mono ?_
  rintro e w2 ⟨rfl, hb⟩
  have I2 := Lib.hid (I.out.below hb)
  have B2 := Lib.hid hb
  have y1 := I2.out.cells.2.1
  clear hb HE
  have HL0 : Hid (Lies w2 1 a0 (ls.map sR)) := Lib.hid (by
    obtain ⟨a', c', hv', -, -, hl', -, -⟩ := I2.out.own.any
    rw [List.length_map] at hv'
    cases hv'
    exact hl')
  have HO0 : Hid (Owns w2 9 1 (.slice none 0 0) []) := Lib.hid (Owns.empty _ _ _)
  go_wp2_with (first
    | (at_builtin; refine wpList_append_rows rfl (.const (.slice none 0 0)) (.tmp 52) 50 rfl 9 _ 1 16 Tryd.underlying50 info9 rfl (by decide) (.slice none 0 0) [] (by rfl) HO0.out a0 ls.length c0 (ls.map sR) (by rfl) HNL.out HN0.out HL0.out (sR_one _) (sR_len _) HR1.out.1 HR1.out.2 ?_; intro v4 w4 o4 g4 n4; rw [List.nil_append] at o4; obtain ⟨a4, c4, hv4, -⟩ := o4.any; rw [List.length_map] at hv4; subst hv4; have O4 := Lib.hid o4; have HB4' : Hid (Below w2.heap.size w2 w4) := Lib.hid ⟨g4.os, g4.tape, g4.output, g4.size, fun k hk => g4.block k hk (by simp [Value.ownBlock])⟩; have HB4 := Lib.hid (B2.out.trans (HB4'.out.mono B2.out.size)); have I4 := Lib.hid (I2.out.below HB4'.out); have N4 : Hid (∀ g, (Value.slice a4 ls.length c4).ownBlock = some g → w.heap.size ≤ g) := Lib.hid (fun g e => by have hsb := B2.out.size; rcases n4 with h | ⟨k, h, hk⟩ <;> rw [h] at e <;> first | (simp [Value.ownBlock] at e; done) | (cases e; omega)); have HDV : Hid (∀ g, (Value.slice a0 ls.length c0).ownBlock = some g → (Value.slice a4 ls.length c4).ownBlock ≠ some g) := Lib.hid (fun g e e' => by have h1 := HV0.out g e; have h2 := N4.out g e'; omega); clear o4 g4 n4)
    | (at_builtin; refine wpList_append_rows rfl (.tmp 53) (.tmp 55) 50 rfl 9 _ 1 16 Tryd.underlying50 info9 rfl (by decide) (.slice a4 ls.length c4) (ls.map sR) (by rfl) (Owns.mod O4.out (Mod.of_below (F := fun _ => False) (below_alloc1 w4 (.cells #[.string res] 9))) (fun _ _ x => x)) (some ⟨w4.heap.size, 0, none⟩) 1 1 [[.string res]] (by rfl) rfl (fun e => by cases e) (lies_new w4 [.string res] 9 rfl) (by simp [Value.oneCell']) (by simp) (len_one HL63.out).1 (len_one HL63.out).2 ?_; intro v7 w7 o7 g7 n7; obtain ⟨R7, a7, L7, c7, hv7⟩ := rput I4.out HB4.out N4.out HLT.out HL63.out o7 g7 n7 HDV.out; subst hv7; have HR7 := Lib.hid R7; obtain ⟨p0, p1, p2⟩ := R7.1.cells; have q0 := free_blk R7.1.blk 0; have q1 := free_blk R7.1.blk 1; clear o7 g7 n7 R7))
  go_ret
  have m1 : Mod (fun k => k = r) w (w7.setCell ⟨r, 1, none⟩ (.slice a7 L7 c7)) := HR7.out.2.1.setCell _ _ (fun _ => rfl)
  have J1 := HR7.out.1.setLines (ls' := ls ++ [res]) HR7.out.2.2.1 (fun e => by have := HR7.out.2.2.2 r e; have := HLT.out; omega) (by have := HL63.out; simp; omega)
  exact ⟨rfl, _, J1, m1, .inr HR7.out.2.2.2⟩
set_option maxHeartbeats 3200000 in
set_option maxRecDepth 100000 in
theorem rcookie_put01 (i : RIs w r false code v ls) (name value path : ByteArray) (hn : name.size ≤ 2199023255552) (hval : value.size ≤ 2199023255552) (hp : path.size ≤ 2199023255552) (hc : cookP name path = true) (hpe : path.toList.isEmpty = false) (hl : ¬ 64 ≤ ls.length) :
    Calls Tryd.prog 44 #[.pointer (some ⟨r, 0, none⟩), .string name, .string value, .string path, .int .i64 0] w (RPost w r false v 0 code (ls ++ [cookieT name value path 0])) := by
  have HA := rcooked_any name path (by omega) (by omega) w
  rw [hc] at HA
  have HE := renc_any value (by omega) w
  obtain ⟨E, hE⟩ : ∃ E, E = str (encP value.toList) := ⟨_, rfl⟩
  have sE : E.size ≤ 6597069766656 := by
    have := encP_len value.toList
    rw [hE, str_size]
    rw [size_toList] at this
    omega
  rw [← hE] at HE
  obtain ⟨res, hres⟩ : ∃ res, res = cookieT name value path 0 := ⟨_, rfl⟩
  rw [← hres]
  unfold cookieT at hres
  rw [hpe, ← hE] at hres
  rw [if_neg (by simp)] at hres
  rw [if_pos rfl] at hres
  obtain ⟨N1, hN1⟩ : ∃ N, ckA ++ name = N := ⟨_, rfl⟩
  have sN1 : N1.size ≤ 2199023255600 := by rw [← hN1, ByteArray.size_append]; show 12 + _ ≤ _; omega
  obtain ⟨N2, hN2⟩ : ∃ N, N1 ++ (⟨#[61]⟩ : ByteArray) = N := ⟨_, rfl⟩
  have sN2 : N2.size ≤ 2199023255700 := by rw [← hN2, ByteArray.size_append]; show _ + 1 ≤ _; omega
  obtain ⟨S1, hS1⟩ : ∃ S, N2 ++ E = S := ⟨_, rfl⟩
  have sS1 : S1.size ≤ 8796093022500 := by rw [← hS1, ByteArray.size_append]; omega
  rw [hN1, hN2, hS1] at hres
  obtain ⟨P1, hP1⟩ : ∃ P, ckP ++ path = P := ⟨_, rfl⟩
  have sP1 : P1.size ≤ 2199023255600 := by rw [← hP1, ByteArray.size_append]; show 7 + _ ≤ _; omega
  obtain ⟨S3, hS3⟩ : ∃ S, S1 ++ P1 = S := ⟨_, rfl⟩
  have sS3 : S3.size ≤ 10995116280000 := by rw [← hS3, ByteArray.size_append]; omega
  rw [hP1, hS3] at hres
  subst hres
  have I := Lib.hid i
  obtain ⟨x0, x1, x2⟩ := i.cells
  obtain ⟨a0, c0, hv0, -, -, hl0, hn0, -⟩ := i.own.any
  rw [List.length_map] at hv0
  subst hv0
  have HN0 := Lib.hid hn0
  have HR1 : Hid ((([] : List (List Value)).length + (ls.map sR).length ≤ maxLen) ∧ (([] : List (List Value)).length + (ls.map sR).length) * 16 ≤ 140737488355328) := Lib.hid (by rw [List.length_map]; unfold maxLen; have := i.len; simp; omega)
  have HNL : Hid (ls.length = (ls.map sR).length) := Lib.hid (by simp)
  have HL63 := Lib.hid (show ls.length ≤ 63 by omega)
  have HLT := Lib.hid (lt_of_block i.blk)
  have HV0 : Hid (∀ g, (Value.slice a0 ls.length c0).ownBlock = some g → g < w.heap.size) := Lib.hid (fun g e => i.own.lt e)
  have dl : decide (64 ≤ (ls.length : Int)) = false := by simp; omega
  clear i hc hl hl0 hn0 hE
  go_enter Tryd.func44, Tryd.ntmps44
  go_wp2_with fail
  refine HA.mono ?_
  rintro e w1 ⟨rfl, rfl⟩
  clear HA
  go_wp2_with fail
  refine HE.mono ?_
  rintro e w2 ⟨rfl, hb⟩
  have I2 := Lib.hid (I.out.below hb)
  have B2 := Lib.hid hb
  have y1 := I2.out.cells.2.1
  clear hb HE
  have HL0 : Hid (Lies w2 1 a0 (ls.map sR)) := Lib.hid (by
    obtain ⟨a', c', hv', -, -, hl', -, -⟩ := I2.out.own.any
    rw [List.length_map] at hv'
    cases hv'
    exact hl')
  have HO0 : Hid (Owns w2 9 1 (.slice none 0 0) []) := Lib.hid (Owns.empty _ _ _)
  go_wp2_with (first
    | (at_builtin; refine wpList_append_rows rfl (.const (.slice none 0 0)) (.tmp 52) 50 rfl 9 _ 1 16 Tryd.underlying50 info9 rfl (by decide) (.slice none 0 0) [] (by rfl) HO0.out a0 ls.length c0 (ls.map sR) (by rfl) HNL.out HN0.out HL0.out (sR_one _) (sR_len _) HR1.out.1 HR1.out.2 ?_; intro v4 w4 o4 g4 n4; rw [List.nil_append] at o4; obtain ⟨a4, c4, hv4, -⟩ := o4.any; rw [List.length_map] at hv4; subst hv4; have O4 := Lib.hid o4; have HB4' : Hid (Below w2.heap.size w2 w4) := Lib.hid ⟨g4.os, g4.tape, g4.output, g4.size, fun k hk => g4.block k hk (by simp [Value.ownBlock])⟩; have HB4 := Lib.hid (B2.out.trans (HB4'.out.mono B2.out.size)); have I4 := Lib.hid (I2.out.below HB4'.out); have N4 : Hid (∀ g, (Value.slice a4 ls.length c4).ownBlock = some g → w.heap.size ≤ g) := Lib.hid (fun g e => by have hsb := B2.out.size; rcases n4 with h | ⟨k, h, hk⟩ <;> rw [h] at e <;> first | (simp [Value.ownBlock] at e; done) | (cases e; omega)); have HDV : Hid (∀ g, (Value.slice a0 ls.length c0).ownBlock = some g → (Value.slice a4 ls.length c4).ownBlock ≠ some g) := Lib.hid (fun g e e' => by have h1 := HV0.out g e; have h2 := N4.out g e'; omega); clear o4 g4 n4)
    | (at_builtin; refine wpList_append_rows rfl (.tmp 53) (.tmp 55) 50 rfl 9 _ 1 16 Tryd.underlying50 info9 rfl (by decide) (.slice a4 ls.length c4) (ls.map sR) (by rfl) (Owns.mod O4.out (Mod.of_below (F := fun _ => False) (below_alloc1 w4 (.cells #[.string res] 9))) (fun _ _ x => x)) (some ⟨w4.heap.size, 0, none⟩) 1 1 [[.string res]] (by rfl) rfl (fun e => by cases e) (lies_new w4 [.string res] 9 rfl) (by simp [Value.oneCell']) (by simp) (len_one HL63.out).1 (len_one HL63.out).2 ?_; intro v7 w7 o7 g7 n7; obtain ⟨R7, a7, L7, c7, hv7⟩ := rput I4.out HB4.out N4.out HLT.out HL63.out o7 g7 n7 HDV.out; subst hv7; have HR7 := Lib.hid R7; obtain ⟨p0, p1, p2⟩ := R7.1.cells; have q0 := free_blk R7.1.blk 0; have q1 := free_blk R7.1.blk 1; clear o7 g7 n7 R7))
  go_ret
  have m1 : Mod (fun k => k = r) w (w7.setCell ⟨r, 1, none⟩ (.slice a7 L7 c7)) := HR7.out.2.1.setCell _ _ (fun _ => rfl)
  have J1 := HR7.out.1.setLines (ls' := ls ++ [res]) HR7.out.2.2.1 (fun e => by have := HR7.out.2.2.2 r e; have := HLT.out; omega) (by have := HL63.out; simp; omega)
  exact ⟨rfl, _, J1, m1, .inr HR7.out.2.2.2⟩
set_option maxHeartbeats 3200000 in
set_option maxRecDepth 100000 in
theorem rcookie_put10 (i : RIs w r false code v ls) (name value path : ByteArray) (age : Int) (hage : age ≠ 0) (hg0 : -9223372036854775808 ≤ age) (hg1 : age ≤ 9223372036854775807) (hn : name.size ≤ 2199023255552) (hval : value.size ≤ 2199023255552) (hp : path.size ≤ 2199023255552) (hc : cookP name path = true) (hpe : path.toList.isEmpty = true) (hl : ¬ 64 ≤ ls.length) :
    Calls Tryd.prog 44 #[.pointer (some ⟨r, 0, none⟩), .string name, .string value, .string path, .int .i64 age] w (RPost w r false v 0 code (ls ++ [cookieT name value path age])) := by
  have HA := rcooked_any name path (by omega) (by omega) w
  rw [hc] at HA
  have HE := renc_any value (by omega) w
  obtain ⟨E, hE⟩ : ∃ E, E = str (encP value.toList) := ⟨_, rfl⟩
  have sE : E.size ≤ 6597069766656 := by
    have := encP_len value.toList
    rw [hE, str_size]
    rw [size_toList] at this
    omega
  rw [← hE] at HE
  have HI : ∀ W, Calls Tryd.prog 37 #[.int .i64 age] W (TextPost W (Lib.itoa age)) := fun W => rdigits_any age hg0 hg1 W
  unfold TextPost at HI
  obtain ⟨Q, hQ⟩ : ∃ Q, Q = str (Lib.itoa age) := ⟨_, rfl⟩
  have sQ : Q.size ≤ 21 := by rw [hQ]; exact itoa_short hg0 hg1
  rw [← hQ] at HI
  have d0 : (age != 0) = true := by simp [hage]
  obtain ⟨res, hres⟩ : ∃ res, res = cookieT name value path age := ⟨_, rfl⟩
  rw [← hres]
  unfold cookieT at hres
  rw [hpe, ← hE, ← hQ] at hres
  rw [if_pos rfl] at hres
  rw [if_neg hage] at hres
  obtain ⟨N1, hN1⟩ : ∃ N, ckA ++ name = N := ⟨_, rfl⟩
  have sN1 : N1.size ≤ 2199023255600 := by rw [← hN1, ByteArray.size_append]; show 12 + _ ≤ _; omega
  obtain ⟨N2, hN2⟩ : ∃ N, N1 ++ (⟨#[61]⟩ : ByteArray) = N := ⟨_, rfl⟩
  have sN2 : N2.size ≤ 2199023255700 := by rw [← hN2, ByteArray.size_append]; show _ + 1 ≤ _; omega
  obtain ⟨S1, hS1⟩ : ∃ S, N2 ++ E = S := ⟨_, rfl⟩
  have sS1 : S1.size ≤ 8796093022500 := by rw [← hS1, ByteArray.size_append]; omega
  rw [hN1, hN2, hS1] at hres
  obtain ⟨M1, hM1⟩ : ∃ M, ckM ++ Q = M := ⟨_, rfl⟩
  have sM1 : M1.size ≤ 40 := by rw [← hM1, ByteArray.size_append]; show 10 + _ ≤ _; omega
  obtain ⟨S2, hS2⟩ : ∃ S, S1 ++ M1 = S := ⟨_, rfl⟩
  have sS2 : S2.size ≤ 8796093022600 := by rw [← hS2, ByteArray.size_append]; omega
  rw [hM1, hS2] at hres
  subst hres
  have I := Lib.hid i
  obtain ⟨x0, x1, x2⟩ := i.cells
  obtain ⟨a0, c0, hv0, -, -, hl0, hn0, -⟩ := i.own.any
  rw [List.length_map] at hv0
  subst hv0
  have HN0 := Lib.hid hn0
  have HR1 : Hid ((([] : List (List Value)).length + (ls.map sR).length ≤ maxLen) ∧ (([] : List (List Value)).length + (ls.map sR).length) * 16 ≤ 140737488355328) := Lib.hid (by rw [List.length_map]; unfold maxLen; have := i.len; simp; omega)
  have HNL : Hid (ls.length = (ls.map sR).length) := Lib.hid (by simp)
  have HL63 := Lib.hid (show ls.length ≤ 63 by omega)
  have HLT := Lib.hid (lt_of_block i.blk)
  have HV0 : Hid (∀ g, (Value.slice a0 ls.length c0).ownBlock = some g → g < w.heap.size) := Lib.hid (fun g e => i.own.lt e)
  have dl : decide (64 ≤ (ls.length : Int)) = false := by simp; omega
  clear i hc hl hl0 hn0 hE hQ hage hg0 hg1
  go_enter Tryd.func44, Tryd.ntmps44
  go_wp2_with fail
  refine HA.mono ?_
  rintro e w1 ⟨rfl, rfl⟩
  clear HA
  go_wp2_with fail
  refine HE.mono ?_
  rintro e w2 ⟨rfl, hb⟩
  have I2 := Lib.hid (I.out.below hb)
  have B2 := Lib.hid hb
  have y1 := I2.out.cells.2.1
  clear hb HE
  go_wp2_with fail
  refine (HI _).mono ?_
  rintro e w3 ⟨rfl, hb⟩
  have I3 := Lib.hid (I2.out.below hb)
  have B3 := Lib.hid (B2.out.trans (hb.mono B2.out.size))
  have z1 := I3.out.cells.2.1
  clear hb HI y1
  have HL0 : Hid (Lies w3 1 a0 (ls.map sR)) := Lib.hid (by
    obtain ⟨a', c', hv', -, -, hl', -, -⟩ := I3.out.own.any
    rw [List.length_map] at hv'
    cases hv'
    exact hl')
  have HO0 : Hid (Owns w3 9 1 (.slice none 0 0) []) := Lib.hid (Owns.empty _ _ _)
  go_wp2_with (first
    | (at_builtin; refine wpList_append_rows rfl (.const (.slice none 0 0)) (.tmp 52) 50 rfl 9 _ 1 16 Tryd.underlying50 info9 rfl (by decide) (.slice none 0 0) [] (by rfl) HO0.out a0 ls.length c0 (ls.map sR) (by rfl) HNL.out HN0.out HL0.out (sR_one _) (sR_len _) HR1.out.1 HR1.out.2 ?_; intro v4 w4 o4 g4 n4; rw [List.nil_append] at o4; obtain ⟨a4, c4, hv4, -⟩ := o4.any; rw [List.length_map] at hv4; subst hv4; have O4 := Lib.hid o4; have HB4' : Hid (Below w3.heap.size w3 w4) := Lib.hid ⟨g4.os, g4.tape, g4.output, g4.size, fun k hk => g4.block k hk (by simp [Value.ownBlock])⟩; have HB4 := Lib.hid (B3.out.trans (HB4'.out.mono B3.out.size)); have I4 := Lib.hid (I3.out.below HB4'.out); have N4 : Hid (∀ g, (Value.slice a4 ls.length c4).ownBlock = some g → w.heap.size ≤ g) := Lib.hid (fun g e => by have hsb := B3.out.size; rcases n4 with h | ⟨k, h, hk⟩ <;> rw [h] at e <;> first | (simp [Value.ownBlock] at e; done) | (cases e; omega)); have HDV : Hid (∀ g, (Value.slice a0 ls.length c0).ownBlock = some g → (Value.slice a4 ls.length c4).ownBlock ≠ some g) := Lib.hid (fun g e e' => by have h1 := HV0.out g e; have h2 := N4.out g e'; omega); clear o4 g4 n4)
    | (at_builtin; refine wpList_append_rows rfl (.tmp 53) (.tmp 55) 50 rfl 9 _ 1 16 Tryd.underlying50 info9 rfl (by decide) (.slice a4 ls.length c4) (ls.map sR) (by rfl) (Owns.mod O4.out (Mod.of_below (F := fun _ => False) (below_alloc1 w4 (.cells #[.string res] 9))) (fun _ _ x => x)) (some ⟨w4.heap.size, 0, none⟩) 1 1 [[.string res]] (by rfl) rfl (fun e => by cases e) (lies_new w4 [.string res] 9 rfl) (by simp [Value.oneCell']) (by simp) (len_one HL63.out).1 (len_one HL63.out).2 ?_; intro v7 w7 o7 g7 n7; obtain ⟨R7, a7, L7, c7, hv7⟩ := rput I4.out HB4.out N4.out HLT.out HL63.out o7 g7 n7 HDV.out; subst hv7; have HR7 := Lib.hid R7; obtain ⟨p0, p1, p2⟩ := R7.1.cells; have q0 := free_blk R7.1.blk 0; have q1 := free_blk R7.1.blk 1; clear o7 g7 n7 R7))
  go_ret
  have m1 : Mod (fun k => k = r) w (w7.setCell ⟨r, 1, none⟩ (.slice a7 L7 c7)) := HR7.out.2.1.setCell _ _ (fun _ => rfl)
  have J1 := HR7.out.1.setLines (ls' := ls ++ [res]) HR7.out.2.2.1 (fun e => by have := HR7.out.2.2.2 r e; have := HLT.out; omega) (by have := HL63.out; simp; omega)
  exact ⟨rfl, _, J1, m1, .inr HR7.out.2.2.2⟩
set_option maxHeartbeats 3200000 in
set_option maxRecDepth 100000 in
theorem rcookie_put11 (i : RIs w r false code v ls) (name value path : ByteArray) (age : Int) (hage : age ≠ 0) (hg0 : -9223372036854775808 ≤ age) (hg1 : age ≤ 9223372036854775807) (hn : name.size ≤ 2199023255552) (hval : value.size ≤ 2199023255552) (hp : path.size ≤ 2199023255552) (hc : cookP name path = true) (hpe : path.toList.isEmpty = false) (hl : ¬ 64 ≤ ls.length) :
    Calls Tryd.prog 44 #[.pointer (some ⟨r, 0, none⟩), .string name, .string value, .string path, .int .i64 age] w (RPost w r false v 0 code (ls ++ [cookieT name value path age])) := by
  have HA := rcooked_any name path (by omega) (by omega) w
  rw [hc] at HA
  have HE := renc_any value (by omega) w
  obtain ⟨E, hE⟩ : ∃ E, E = str (encP value.toList) := ⟨_, rfl⟩
  have sE : E.size ≤ 6597069766656 := by
    have := encP_len value.toList
    rw [hE, str_size]
    rw [size_toList] at this
    omega
  rw [← hE] at HE
  have HI : ∀ W, Calls Tryd.prog 37 #[.int .i64 age] W (TextPost W (Lib.itoa age)) := fun W => rdigits_any age hg0 hg1 W
  unfold TextPost at HI
  obtain ⟨Q, hQ⟩ : ∃ Q, Q = str (Lib.itoa age) := ⟨_, rfl⟩
  have sQ : Q.size ≤ 21 := by rw [hQ]; exact itoa_short hg0 hg1
  rw [← hQ] at HI
  have d0 : (age != 0) = true := by simp [hage]
  obtain ⟨res, hres⟩ : ∃ res, res = cookieT name value path age := ⟨_, rfl⟩
  rw [← hres]
  unfold cookieT at hres
  rw [hpe, ← hE, ← hQ] at hres
  rw [if_neg (by simp)] at hres
  rw [if_neg hage] at hres
  obtain ⟨N1, hN1⟩ : ∃ N, ckA ++ name = N := ⟨_, rfl⟩
  have sN1 : N1.size ≤ 2199023255600 := by rw [← hN1, ByteArray.size_append]; show 12 + _ ≤ _; omega
  obtain ⟨N2, hN2⟩ : ∃ N, N1 ++ (⟨#[61]⟩ : ByteArray) = N := ⟨_, rfl⟩
  have sN2 : N2.size ≤ 2199023255700 := by rw [← hN2, ByteArray.size_append]; show _ + 1 ≤ _; omega
  obtain ⟨S1, hS1⟩ : ∃ S, N2 ++ E = S := ⟨_, rfl⟩
  have sS1 : S1.size ≤ 8796093022500 := by rw [← hS1, ByteArray.size_append]; omega
  rw [hN1, hN2, hS1] at hres
  obtain ⟨M1, hM1⟩ : ∃ M, ckM ++ Q = M := ⟨_, rfl⟩
  have sM1 : M1.size ≤ 40 := by rw [← hM1, ByteArray.size_append]; show 10 + _ ≤ _; omega
  obtain ⟨S2, hS2⟩ : ∃ S, S1 ++ M1 = S := ⟨_, rfl⟩
  have sS2 : S2.size ≤ 8796093022600 := by rw [← hS2, ByteArray.size_append]; omega
  rw [hM1, hS2] at hres
  obtain ⟨P1, hP1⟩ : ∃ P, ckP ++ path = P := ⟨_, rfl⟩
  have sP1 : P1.size ≤ 2199023255600 := by rw [← hP1, ByteArray.size_append]; show 7 + _ ≤ _; omega
  obtain ⟨S3, hS3⟩ : ∃ S, S2 ++ P1 = S := ⟨_, rfl⟩
  have sS3 : S3.size ≤ 10995116280000 := by rw [← hS3, ByteArray.size_append]; omega
  rw [hP1, hS3] at hres
  subst hres
  have I := Lib.hid i
  obtain ⟨x0, x1, x2⟩ := i.cells
  obtain ⟨a0, c0, hv0, -, -, hl0, hn0, -⟩ := i.own.any
  rw [List.length_map] at hv0
  subst hv0
  have HN0 := Lib.hid hn0
  have HR1 : Hid ((([] : List (List Value)).length + (ls.map sR).length ≤ maxLen) ∧ (([] : List (List Value)).length + (ls.map sR).length) * 16 ≤ 140737488355328) := Lib.hid (by rw [List.length_map]; unfold maxLen; have := i.len; simp; omega)
  have HNL : Hid (ls.length = (ls.map sR).length) := Lib.hid (by simp)
  have HL63 := Lib.hid (show ls.length ≤ 63 by omega)
  have HLT := Lib.hid (lt_of_block i.blk)
  have HV0 : Hid (∀ g, (Value.slice a0 ls.length c0).ownBlock = some g → g < w.heap.size) := Lib.hid (fun g e => i.own.lt e)
  have dl : decide (64 ≤ (ls.length : Int)) = false := by simp; omega
  clear i hc hl hl0 hn0 hE hQ hage hg0 hg1
  go_enter Tryd.func44, Tryd.ntmps44
  go_wp2_with fail
  refine HA.mono ?_
  rintro e w1 ⟨rfl, rfl⟩
  clear HA
  go_wp2_with fail
  refine HE.mono ?_
  rintro e w2 ⟨rfl, hb⟩
  have I2 := Lib.hid (I.out.below hb)
  have B2 := Lib.hid hb
  have y1 := I2.out.cells.2.1
  clear hb HE
  go_wp2_with fail
  refine (HI _).mono ?_
  rintro e w3 ⟨rfl, hb⟩
  have I3 := Lib.hid (I2.out.below hb)
  have B3 := Lib.hid (B2.out.trans (hb.mono B2.out.size))
  have z1 := I3.out.cells.2.1
  clear hb HI y1
  have HL0 : Hid (Lies w3 1 a0 (ls.map sR)) := Lib.hid (by
    obtain ⟨a', c', hv', -, -, hl', -, -⟩ := I3.out.own.any
    rw [List.length_map] at hv'
    cases hv'
    exact hl')
  have HO0 : Hid (Owns w3 9 1 (.slice none 0 0) []) := Lib.hid (Owns.empty _ _ _)
  go_wp2_with (first
    | (at_builtin; refine wpList_append_rows rfl (.const (.slice none 0 0)) (.tmp 52) 50 rfl 9 _ 1 16 Tryd.underlying50 info9 rfl (by decide) (.slice none 0 0) [] (by rfl) HO0.out a0 ls.length c0 (ls.map sR) (by rfl) HNL.out HN0.out HL0.out (sR_one _) (sR_len _) HR1.out.1 HR1.out.2 ?_; intro v4 w4 o4 g4 n4; rw [List.nil_append] at o4; obtain ⟨a4, c4, hv4, -⟩ := o4.any; rw [List.length_map] at hv4; subst hv4; have O4 := Lib.hid o4; have HB4' : Hid (Below w3.heap.size w3 w4) := Lib.hid ⟨g4.os, g4.tape, g4.output, g4.size, fun k hk => g4.block k hk (by simp [Value.ownBlock])⟩; have HB4 := Lib.hid (B3.out.trans (HB4'.out.mono B3.out.size)); have I4 := Lib.hid (I3.out.below HB4'.out); have N4 : Hid (∀ g, (Value.slice a4 ls.length c4).ownBlock = some g → w.heap.size ≤ g) := Lib.hid (fun g e => by have hsb := B3.out.size; rcases n4 with h | ⟨k, h, hk⟩ <;> rw [h] at e <;> first | (simp [Value.ownBlock] at e; done) | (cases e; omega)); have HDV : Hid (∀ g, (Value.slice a0 ls.length c0).ownBlock = some g → (Value.slice a4 ls.length c4).ownBlock ≠ some g) := Lib.hid (fun g e e' => by have h1 := HV0.out g e; have h2 := N4.out g e'; omega); clear o4 g4 n4)
    | (at_builtin; refine wpList_append_rows rfl (.tmp 53) (.tmp 55) 50 rfl 9 _ 1 16 Tryd.underlying50 info9 rfl (by decide) (.slice a4 ls.length c4) (ls.map sR) (by rfl) (Owns.mod O4.out (Mod.of_below (F := fun _ => False) (below_alloc1 w4 (.cells #[.string res] 9))) (fun _ _ x => x)) (some ⟨w4.heap.size, 0, none⟩) 1 1 [[.string res]] (by rfl) rfl (fun e => by cases e) (lies_new w4 [.string res] 9 rfl) (by simp [Value.oneCell']) (by simp) (len_one HL63.out).1 (len_one HL63.out).2 ?_; intro v7 w7 o7 g7 n7; obtain ⟨R7, a7, L7, c7, hv7⟩ := rput I4.out HB4.out N4.out HLT.out HL63.out o7 g7 n7 HDV.out; subst hv7; have HR7 := Lib.hid R7; obtain ⟨p0, p1, p2⟩ := R7.1.cells; have q0 := free_blk R7.1.blk 0; have q1 := free_blk R7.1.blk 1; clear o7 g7 n7 R7))
  go_ret
  have m1 : Mod (fun k => k = r) w (w7.setCell ⟨r, 1, none⟩ (.slice a7 L7 c7)) := HR7.out.2.1.setCell _ _ (fun _ => rfl)
  have J1 := HR7.out.1.setLines (ls' := ls ++ [res]) HR7.out.2.2.1 (fun e => by have := HR7.out.2.2.2 r e; have := HLT.out; omega) (by have := HL63.out; simp; omega)
  exact ⟨rfl, _, J1, m1, .inr HR7.out.2.2.2⟩
theorem rcookie_any {sent : Bool} (i : RIs w r sent code v ls) (name value path : ByteArray) (age : Int) (hg0 : -9223372036854775808 ≤ age) (hg1 : age ≤ 9223372036854775807) (hn : name.size ≤ 2199023255552) (hval : value.size ≤ 2199023255552) (hp : path.size ≤ 2199023255552) :
    Calls Tryd.prog 44 #[.pointer (some ⟨r, 0, none⟩), .string name, .string value, .string path, .int .i64 age] w (RPost w r sent v (if sent then 17 else (cookieP ls name value path age).1) code (if sent then ls else (cookieP ls name value path age).2)) := by
  cases sent with
  | true => exact rcookie_sent i name value path age
  | false =>
    simp only [Bool.false_eq_true, if_false]
    unfold cookieP
    cases hc : cookP name path with
    | false => simp only [if_true]; exact rcookie_arg i name value path age (by omega) (by omega) hc
    | true =>
      simp only [Bool.true_eq_false, if_false]
      by_cases hl : 64 ≤ ls.length
      · simp only [hl, if_true]; exact rcookie_full i name value path age (by omega) (by omega) hc hl
      · simp only [hl, if_false]
        by_cases ha : age = 0
        · subst ha
          cases hpe : path.toList.isEmpty with
          | true => exact rcookie_put00 i name value path hn hval hp hc hpe hl
          | false => exact rcookie_put01 i name value path hn hval hp hc hpe hl
        · cases hpe : path.toList.isEmpty with
          | true => exact rcookie_put10 i name value path age ha hg0 hg1 hn hval hp hc hpe hl
          | false => exact rcookie_put11 i name value path age ha hg0 hg1 hn hval hp hc hpe hl
end
end Go.Proofs.YthnhpnmopjbaoaaDoor
