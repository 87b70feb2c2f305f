/-
  The walks of the document's Remove and Line (printed by genRLine11.py).
-/
import Derived.Test.YthnhpnmopjbaoaaDoorRHead11
namespace Go.Proofs.YthnhpnmopjbaoaaDoor
open Go.RowKit

theorem smallL_eq : ∀ {A l : Bs}, (∀ c ∈ A, c.toNat < 128) → (A = smallL l ↔ A = l.map lowC)
  | A, [], _ => Iff.rfl
  | [], c :: l, _ => by
    unfold smallL
    split <;> simp
  | a :: A, c :: l, h => by
    have ih := smallL_eq (A := A) (l := l) (fun x hx => h x (by simp [hx]))
    unfold smallL
    by_cases hc : c.toNat < 128
    · rw [if_pos hc, List.map_cons, List.cons.injEq, List.cons.injEq, ih]
    · rw [if_neg hc, List.map_cons, lowC_id (by omega)]
      constructor
      · intro e; exact absurd (h c (by rw [e]; simp)) hc
      · intro e; exact absurd (h c (by rw [e]; simp)) hc
theorem rname_all (s : ByteArray) : ∀ c ∈ rnameP s, nameC c = true := by
  unfold rnameP
  split
  · rename_i h
    unfold nameP at h
    split at h
    · rename_i hc
      exact fun c hx => List.all_eq_true.1 hc.2.2.2 c hx
    · cases h
  · intro c hx; cases hx
theorem lowC_ascii {c : UInt8} (h : c.toNat < 128) : (lowC c).toNat < 128 := by
  by_cases hu : 65 ≤ c.toNat ∧ c.toNat ≤ 90
  · rw [lowC_up hu.1 hu.2]; omega
  · rw [lowC_id hu]; exact h
theorem nameV_ascii (s : ByteArray) : ∀ c ∈ nameV s, c.toNat < 128 := by
  rw [nameP_rname]
  intro c hc
  obtain ⟨d, hd, rfl⟩ := List.mem_map.1 hc
  exact lowC_ascii (nameC_ascii (rname_all s d hd))
theorem rdrop_line (s : ByteArray) (ls : List ByteArray) : rdropP (str (rnameP s)) ls = dropP (str (nameV s)) ls := by
  unfold rdropP dropP
  congr 1
  funext l
  congr 1
  unfold sameP isN
  rw [str_toList, str_toList, str_toList, str_toList, ← nameP_rname, ← nameP_rname, Bool.eq_iff_iff]
  simp
theorem rdrop_remove (x : ByteArray) (ls : List ByteArray) : rdropP x ls = dropP (str (smallL x.toList)) ls := by
  unfold rdropP dropP
  congr 1
  funext l
  congr 1
  unfold sameP isN
  rw [str_toList, str_toList, str_toList, ← nameP_rname, Bool.eq_iff_iff]
  simp only [decide_eq_true_eq, beq_iff_eq]
  exact (smallL_eq (nameV_ascii l)).symm
theorem rloc (s : ByteArray) : sameP (str (rnameP s)) ⟨#[108, 111, 99, 97, 116, 105, 111, 110]⟩ = decide (nameV s = locB) := by
  unfold sameP
  rw [str_toList, ← nameP_rname]
  have e : (⟨#[108, 111, 99, 97, 116, 105, 111, 110]⟩ : ByteArray).toList.map lowC = locB := by rw [ByteArray.toList_eq]; rfl
  rw [e]
theorem rname_empty (s : ByteArray) : (str (rnameP s)).toList.isEmpty = (nameP s).isNone := by
  rw [str_toList]
  cases h : nameP s with
  | none => rw [rname_none.1 h]; rfl
  | some a =>
    have : rnameP s ≠ [] := fun e => by rw [rname_none.2 e] at h; cases h
    cases hr : rnameP s with
    | nil => exact absurd hr this
    | cons x q => rfl
section
variable {w : World} {r : Nat} {code : Int} {v : Value} {ls : List ByteArray}
theorem rremove_sent (i : RIs w r true code v ls) (s : ByteArray) : Calls Tryd.prog 45 #[.pointer (some ⟨r, 0, none⟩), .string s] w (RPost w r true v 17 code ls) := by
  have I := Lib.hid i
  obtain ⟨-, -, x2⟩ := i.cells
  clear i
  go_enter Tryd.func45, Tryd.ntmps45
  go_wp2_with fail
  go_ret
  exact ⟨rfl, v, I.out, Mod.refl _ _, .inl rfl⟩
set_option maxHeartbeats 1600000 in
set_option maxRecDepth 100000 in
theorem rremove_open (i : RIs w r false code v ls) (hsz : Small ls) (s : ByteArray) : Calls Tryd.prog 45 #[.pointer (some ⟨r, 0, none⟩), .string s] w (RPost w r false v 0 code (dropP (str (smallL s.toList)) ls)) := by
  rw [← rdrop_remove]
  have I := Lib.hid i
  obtain ⟨-, x1, x2⟩ := i.cells
  obtain ⟨a0, c0, hv0, -, -, hl0, -, -⟩ := i.own.any
  rw [List.length_map] at hv0
  subst hv0
  have HW := rwithout_any (cap := c0) (x := s) hl0 (by have := i.len; omega) hsz
  have HLT := Lib.hid (lt_of_block i.blk)
  clear i hsz hl0
  go_enter Tryd.func45, Tryd.ntmps45
  go_wp2_with fail
  refine HW.mono ?_
  rintro e w1 ⟨v1, rfl, o1, hb, n1⟩
  obtain ⟨a1, c1, hv1, -⟩ := o1.any
  rw [List.length_map] at hv1
  subst hv1
  have I1 := Lib.hid (I.out.below hb)
  have y1 := I1.out.cells.2.1
  have f1 := free_blk I1.out.blk 1
  have HH := Lib.hid (⟨o1, hb, n1⟩ : _ ∧ _ ∧ _)
  clear HW o1 hb n1
  go_wp2_with fail
  go_ret
  have hlt := HLT.out
  exact ⟨rfl, _, I1.out.setLines HH.out.1 (fun e => by have := HH.out.2.2 r e; omega) (Nat.le_trans (rdropP_len _ _) I.out.len), (Mod.of_below HH.out.2.1).setCell _ _ (fun _ => rfl), .inr HH.out.2.2⟩
theorem rline_sent (i : RIs w r true code v ls) (s : ByteArray) (rep : Bool) (n : Int) : Calls Tryd.prog 42 #[.pointer (some ⟨r, 0, none⟩), .string s, .bool rep, .int .i64 n] w (RPost w r true v 17 code ls) := by
  have I := Lib.hid i
  obtain ⟨-, -, x2⟩ := i.cells
  clear i
  go_enter Tryd.func42, Tryd.ntmps42
  go_wp2_with fail
  go_ret
  exact ⟨rfl, v, I.out, Mod.refl _ _, .inl rfl⟩
set_option maxRecDepth 100000 in
theorem rline_arg (i : RIs w r false code v ls) (s : ByteArray) (rep : Bool) (n : Int) (hn : n ≠ 0) (hr : ¬ (100 ≤ n ∧ n ≤ 599)) : Calls Tryd.prog 42 #[.pointer (some ⟨r, 0, none⟩), .string s, .bool rep, .int .i64 n] w (RPost w r false v 1 code ls) := by
  have I := Lib.hid i
  obtain ⟨-, -, x2⟩ := i.cells
  have d0 : (n != 0) = true := by simp [hn]
  clear i
  by_cases h1 : 100 ≤ n
  · have e1 : decide (n < 100) = false := by simp; omega
    have e2 : decide (599 < n) = true := by simp; omega
    clear hn hr h1
    go_enter Tryd.func42, Tryd.ntmps42
    go_wp2_with fail
    go_ret
    exact ⟨rfl, v, I.out, Mod.refl _ _, .inl rfl⟩
  · have e1 : decide (n < 100) = true := by simp; omega
    clear hn hr h1
    go_enter Tryd.func42, Tryd.ntmps42
    go_wp2_with fail
    go_ret
    exact ⟨rfl, v, I.out, Mod.refl _ _, .inl rfl⟩
theorem len_one {L : List ByteArray} {s : ByteArray} (h : L.length ≤ 63) : ((L.map sR).length + ([[Value.string s]] : List (List Value)).length ≤ maxLen) ∧ ((L.map sR).length + ([[Value.string s]] : List (List Value)).length) * 16 ≤ 140737488355328 := by
  rw [List.length_map]; unfold maxLen; simp; omega
theorem rput {w w4 w7 : World} {r : Nat} {code : Int} {v v4 v7 : Value} {ls L : List ByteArray} {s : ByteArray} (i : RIs w4 r false code v ls) (hb : Below w.heap.size w w4) (n4 : ∀ g, v4.ownBlock = some g → w.heap.size ≤ g) (hr : r < w.heap.size) (_ : L.length ≤ 63)
    (o7 : Owns w7 9 1 v7 (L.map sR ++ [[.string s]])) (g7 : (w4.alloc (.cells #[.string s] 9)).grownBy w7 v4.ownBlock) (n7 : v7.ownBlock = v4.ownBlock ∨ ∃ g, v7.ownBlock = some g ∧ (w4.alloc (.cells #[.string s] 9)).heap.size ≤ g) (hv : ∀ g, v.ownBlock = some g → v4.ownBlock ≠ some g) :
    (RIs w7 r false code v ls ∧ Mod (fun k => k = r) w w7 ∧ Owns w7 9 1 v7 ((L ++ [s]).map sR) ∧ ∀ g, v7.ownBlock = some g → w.heap.size ≤ g) ∧ ∃ a L7 c, v7 = .slice a L7 c := by
  have hs := hb.size
  have i2 := i.below (below_alloc1 w4 (.cells #[.string s] 9))
  have m7 : Mod (fun k => v4.ownBlock = some k) (w4.alloc (.cells #[.string s] 9)) w7 := (Mod.refl _ _).grown g7 (fun k e _ => e)
  refine ⟨⟨i2.mod m7 (fun e => by have := n4 r e; omega) (fun g e => hv g e), ?_, by rw [List.map_append]; exact o7, fun g e => ?_⟩, ?_⟩
  · have mA : Mod (fun k => k = r) w (w4.alloc (.cells #[.string s] 9)) := (Mod.of_below hb).alloc _
    exact mA.grown g7 (fun k e hk => by have := n4 k e; omega)
  · rcases n7 with h | ⟨g', h, hg⟩
    · rw [h] at e; exact n4 g e
    · rw [h] at e; cases e; simp at hg; omega
  · obtain ⟨a, c, h, _⟩ := o7.any
    exact ⟨a, _, c, h⟩
theorem rcode_cases {code : Int} (q : Bool) {res : Int} (hres : res = if q = true ∧ code ≠ 201 ∧ ¬ (300 ≤ code ∧ code ≤ 399) then 302 else code) :
    (q = false ∧ res = code) ∨ (q = true ∧ (code != 201) = false ∧ res = code) ∨ (q = true ∧ (code != 201) = true ∧ decide (code < 300) = false ∧ decide (399 < code) = false ∧ res = code) ∨
    (q = true ∧ (code != 201) = true ∧ decide (code < 300) = true ∧ res = 302) ∨ (q = true ∧ (code != 201) = true ∧ decide (code < 300) = false ∧ decide (399 < code) = true ∧ res = 302) := by
  cases q with
  | false => exact .inl ⟨rfl, by rw [hres]; simp⟩
  | true =>
    by_cases h2 : code = 201
    · exact .inr (.inl ⟨rfl, by simp [h2], by rw [hres]; exact if_neg (fun e => e.2.1 h2)⟩)
    · by_cases h3 : code < 300
      · exact .inr (.inr (.inr (.inl ⟨rfl, by simp [h2], by simp [h3], by rw [hres]; exact if_pos ⟨rfl, h2, by omega⟩⟩)))
      · by_cases h4 : 399 < code
        · exact .inr (.inr (.inr (.inr ⟨rfl, by simp [h2], by simp; omega, by simp [h4], by rw [hres]; exact if_pos ⟨rfl, h2, by omega⟩⟩)))
        · exact .inr (.inr (.inl ⟨rfl, by simp [h2], by simp; omega, by simp; omega, by rw [hres]; exact if_neg (fun e => e.2.2 ⟨by omega, by omega⟩)⟩))
set_option maxHeartbeats 3200000 in
set_option maxRecDepth 100000 in
theorem rline_http0 (i : RIs w r false code v ls) (s : ByteArray) (hs : s.size ≤ 140737488351232) (rep : Bool) (hb : httpP s = true) :
    Calls Tryd.prog 42 #[.pointer (some ⟨r, 0, none⟩), .string s, .bool rep, .int .i64 0] w (RPost w r false v (if statusP s = 0 then 7 else 0) (if statusP s = 0 then code else statusP s) ls) := by
  have HP := rbegins_any s w
  rw [hb] at HP
  have I := Lib.hid i
  obtain ⟨x0, x1, x2⟩ := i.cells
  have f0 := free_blk i.blk 0
  have d0 : ((0 : Int) != 0) = false := rfl
  have HT := rstatus_any (begins_size hb) hs w
  generalize statusP s = m at HT ⊢
  clear i hs hb
  by_cases hm : m = 0
  · rw [if_pos hm, if_pos hm]
    subst hm
    go_enter Tryd.func42, Tryd.ntmps42
    go_wp2_with fail
    refine HP.mono ?_
    rintro e w1 ⟨rfl, rfl⟩
    clear HP
    go_wp2_with fail
    refine HT.mono ?_
    rintro e w2 ⟨rfl, rfl⟩
    clear HT
    go_wp2_with fail
    go_ret
    exact ⟨rfl, v, I.out, Mod.refl _ _, .inl rfl⟩
  · rw [if_neg hm, if_neg hm]
    have dm : (m == 0) = false := by simp [hm]
    clear hm
    go_enter Tryd.func42, Tryd.ntmps42
    go_wp2_with fail
    refine HP.mono ?_
    rintro e w1 ⟨rfl, rfl⟩
    clear HP
    go_wp2_with fail
    refine HT.mono ?_
    rintro e w2 ⟨rfl, rfl⟩
    clear HT
    go_wp2_with fail
    go_ret
    exact ⟨rfl, v, I.out.setCode m, (Mod.refl _ _).setCell _ _ (fun _ => rfl), .inl rfl⟩
set_option maxHeartbeats 3200000 in
set_option maxRecDepth 100000 in
theorem rline_form0 (i : RIs w r false code v ls) (s : ByteArray) (hs : s.size ≤ 140737488351232) (rep : Bool) (hb : httpP s = false) (hf : nameP s = none ∨ valuedP s = false) :
    Calls Tryd.prog 42 #[.pointer (some ⟨r, 0, none⟩), .string s, .bool rep, .int .i64 0] w (RPost w r false v 7 code ls) := by
  have HP := rbegins_any s w
  rw [hb] at HP
  have I := Lib.hid i
  obtain ⟨x0, x1, x2⟩ := i.cells
  have f0 := free_blk i.blk 0
  have d0 : ((0 : Int) != 0) = false := rfl
  have HN := rname_any s hs w
  have HV := rvalued_any s hs w
  have he := rname_empty s
  have hfb : (nameP s).isNone = true ∨ ((nameP s).isNone = false ∧ valuedP s = false) := by
    cases hx : nameP s with
    | none => exact .inl rfl
    | some a => rw [hx] at hf; exact .inr ⟨rfl, hf.resolve_left (by simp)⟩
  generalize str (rnameP s) = nv at HN he
  generalize (nameP s).isNone = emp at he hfb
  generalize valuedP s = val at HV hfb
  clear i hs hb hf
  rcases hfb with rfl | ⟨rfl, rfl⟩
  · go_enter Tryd.func42, Tryd.ntmps42
    go_wp2_with fail
    refine HP.mono ?_
    rintro e w1 ⟨rfl, rfl⟩
    clear HP
    go_wp2_with fail
    refine HN.mono ?_
    rintro e w2 ⟨rfl, rfl⟩
    clear HN HV
    go_wp2_with fail
    go_ret
    exact ⟨rfl, v, I.out, Mod.refl _ _, .inl rfl⟩
  · go_enter Tryd.func42, Tryd.ntmps42
    go_wp2_with fail
    refine HP.mono ?_
    rintro e w1 ⟨rfl, rfl⟩
    clear HP
    go_wp2_with fail
    refine HN.mono ?_
    rintro e w2 ⟨rfl, rfl⟩
    clear HN
    go_wp2_with fail
    refine HV.mono ?_
    rintro e w3 ⟨rfl, rfl⟩
    clear HV
    go_wp2_with fail
    go_ret
    exact ⟨rfl, v, I.out, Mod.refl _ _, .inl rfl⟩
set_option maxHeartbeats 3200000 in
set_option maxRecDepth 100000 in
theorem rline_put0f_full (i : RIs w r false code v ls) (s : ByteArray) (hs : s.size ≤ 140737488351232) (hb : httpP s = false) (hne : nameP s ≠ none) (hv : valuedP s = true) (hl : 64 ≤ ls.length) :
    Calls Tryd.prog 42 #[.pointer (some ⟨r, 0, none⟩), .string s, .bool false, .int .i64 0] w (RPost w r false v 8 code ls) := by
  have HP := rbegins_any s w
  rw [hb] at HP
  have I := Lib.hid i
  obtain ⟨x0, x1, x2⟩ := i.cells
  have f0 := free_blk i.blk 0
  have d0 : ((0 : Int) != 0) = false := rfl
  have HN := rname_any s hs w
  have HV := rvalued_any s hs w
  rw [hv] at HV
  have he := rname_empty s
  have hsm : (nameP s).isNone = false := by cases hx : nameP s with | none => exact absurd hx hne | some a => rfl
  rw [hsm] at he
  generalize str (rnameP s) = nv at HN he
  have hln := i.len
  obtain ⟨a0, c0, hv0, -, -, hl0, hn0, -⟩ := i.own.any
  rw [List.length_map] at hv0
  subst hv0
  have HL0 := Lib.hid hl0
  have HN0 := Lib.hid hn0
  have HR1 : Hid ((([] : List (List Value)).length + (ls.map sR).length ≤ maxLen) ∧ (([] : List (List Value)).length + (ls.map sR).length) * 16 ≤ 140737488355328) := Lib.hid (by rw [List.length_map]; unfold maxLen; simp; omega)
  have HNL : Hid (ls.length = (ls.map sR).length) := Lib.hid (by simp)
  have HLE := Lib.hid hln
  have HLT := Lib.hid (lt_of_block i.blk)
  have HV0 : Hid (∀ g, (Value.slice a0 ls.length c0).ownBlock = some g → g < w.heap.size) := Lib.hid (fun g e => i.own.lt e)
  have HO0 : Hid (Owns w 9 1 (.slice none 0 0) []) := Lib.hid (Owns.empty _ _ _)
  have dl : decide (64 ≤ (ls.length : Int)) = true := by simp; omega
  clear i hs hb hne hv hsm hl hln hl0 hn0
  go_enter Tryd.func42, Tryd.ntmps42
  go_wp2_with fail
  refine HP.mono ?_
  rintro e w1 ⟨rfl, rfl⟩
  clear HP
  go_wp2_with fail
  refine HN.mono ?_
  rintro e w2 ⟨rfl, rfl⟩
  clear HN
  go_wp2_with fail
  refine HV.mono ?_
  rintro e w3 ⟨rfl, rfl⟩
  clear HV
  go_wp2_with (at_builtin; refine wpList_append_rows rfl (.const (.slice none 0 0)) (.tmp 56) 50 rfl 9 _ 1 16 Tryd.underlying50 info9 rfl (by decide) (.slice none 0 0) [] (by rfl) HO0.out a0 ls.length c0 (ls.map sR) (by rfl) HNL.out HN0.out HL0.out (sR_one _) (sR_len _) HR1.out.1 HR1.out.2 ?_; intro v4 w4 o4 g4 n4; rw [List.nil_append] at o4; obtain ⟨a4, c4, hv4, -⟩ := o4.any; rw [List.length_map] at hv4; subst hv4; have O4 := Lib.hid o4; have HB4 : Hid (Below w.heap.size w w4) := Lib.hid ⟨g4.os, g4.tape, g4.output, g4.size, fun k hk => g4.block k hk (by simp [Value.ownBlock])⟩; have I4 := Lib.hid (I.out.below HB4.out); have N4 : Hid (∀ g, (Value.slice a4 ls.length c4).ownBlock = some g → w.heap.size ≤ g) := Lib.hid (fun g e => by rcases n4 with h | ⟨k, h, hk⟩ <;> rw [h] at e <;> first | (simp [Value.ownBlock] at e; done) | (cases e; exact hk)); obtain ⟨y0, y1, y2⟩ := I4.out.cells; have g0 := free_blk I4.out.blk 0; have g1 := free_blk I4.out.blk 1; clear o4 g4 n4)
  go_ret
  exact ⟨rfl, _, I4.out, Mod.of_below HB4.out, .inl rfl⟩
set_option maxHeartbeats 3200000 in
set_option maxRecDepth 100000 in
theorem rline_put0f (i : RIs w r false code v ls) (s : ByteArray) (hs : s.size ≤ 140737488351232) (hb : httpP s = false) (hne : nameP s ≠ none) (hv : valuedP s = true) (hl : ¬ 64 ≤ ls.length) :
    Calls Tryd.prog 42 #[.pointer (some ⟨r, 0, none⟩), .string s, .bool false, .int .i64 0] w (RPost w r false v 0 (lineCode code s 0) (ls ++ [s])) := by
  obtain ⟨res, hres⟩ : ∃ res, res = lineCode code s 0 := ⟨_, rfl⟩
  rw [← hres]
  have hlc := rloc s
  obtain ⟨q, hq⟩ : ∃ q, q = decide (nameV s = locB) := ⟨_, rfl⟩
  have hres2 : res = if q = true ∧ code ≠ 201 ∧ ¬ (300 ≤ code ∧ code ≤ 399) then 302 else code := by
    rw [hres, hq]
    unfold lineCode
    rw [if_neg (by simp)]
    simp only [decide_eq_true_eq]
  have HSa := fun w => rsame_any (str (rnameP s)) ⟨#[108, 111, 99, 97, 116, 105, 111, 110]⟩ (by have := rnameP_size s; rw [str_size]; omega) w
  rw [hlc, ← hq] at HSa
  have HNN := fun w => rname_any s hs w
  clear hlc hq hres
  have HP := rbegins_any s w
  rw [hb] at HP
  have I := Lib.hid i
  obtain ⟨x0, x1, x2⟩ := i.cells
  have f0 := free_blk i.blk 0
  have d0 : ((0 : Int) != 0) = false := rfl
  have HN := rname_any s hs w
  have HV := rvalued_any s hs w
  rw [hv] at HV
  have he := rname_empty s
  have hsm : (nameP s).isNone = false := by cases hx : nameP s with | none => exact absurd hx hne | some a => rfl
  rw [hsm] at he
  generalize str (rnameP s) = nv at HN he HSa HNN
  have hln := i.len
  obtain ⟨a0, c0, hv0, -, -, hl0, hn0, -⟩ := i.own.any
  rw [List.length_map] at hv0
  subst hv0
  have HL0 := Lib.hid hl0
  have HN0 := Lib.hid hn0
  have HR1 : Hid ((([] : List (List Value)).length + (ls.map sR).length ≤ maxLen) ∧ (([] : List (List Value)).length + (ls.map sR).length) * 16 ≤ 140737488355328) := Lib.hid (by rw [List.length_map]; unfold maxLen; simp; omega)
  have HNL : Hid (ls.length = (ls.map sR).length) := Lib.hid (by simp)
  have HLE := Lib.hid hln
  have HLT := Lib.hid (lt_of_block i.blk)
  have HV0 : Hid (∀ g, (Value.slice a0 ls.length c0).ownBlock = some g → g < w.heap.size) := Lib.hid (fun g e => i.own.lt e)
  have HO0 : Hid (Owns w 9 1 (.slice none 0 0) []) := Lib.hid (Owns.empty _ _ _)
  have dl : decide (64 ≤ (ls.length : Int)) = false := by simp; omega
  have HL63 := Lib.hid (show ls.length ≤ 63 by omega)
  have HRES := Lib.hid hres2
  clear hres2
  clear i hs hb hne hv hsm hl hln hl0 hn0
  go_enter Tryd.func42, Tryd.ntmps42
  go_wp2_with fail
  refine HP.mono ?_
  rintro e w1 ⟨rfl, rfl⟩
  clear HP
  go_wp2_with fail
  refine HN.mono ?_
  rintro e w2 ⟨rfl, rfl⟩
  clear HN
  go_wp2_with fail
  refine HV.mono ?_
  rintro e w3 ⟨rfl, rfl⟩
  clear HV
  rcases rcode_cases q HRES.out with ⟨rfl, he'⟩ | ⟨rfl, d1, he'⟩ | ⟨rfl, d1, d2, d3, he'⟩ | ⟨rfl, d1, d2, he'⟩ | ⟨rfl, d1, d2, d3, he'⟩
  · have HE := Lib.hid he'
    clear he'
    go_wp2_with (first | (at_builtin; refine wpList_append_rows rfl (.const (.slice none 0 0)) (.tmp 56) 50 rfl 9 _ 1 16 Tryd.underlying50 info9 rfl (by decide) (.slice none 0 0) [] (by rfl) HO0.out a0 ls.length c0 (ls.map sR) (by rfl) HNL.out HN0.out HL0.out (sR_one _) (sR_len _) HR1.out.1 HR1.out.2 ?_; intro v4 w4 o4 g4 n4; rw [List.nil_append] at o4; obtain ⟨a4, c4, hv4, -⟩ := o4.any; rw [List.length_map] at hv4; subst hv4; have O4 := Lib.hid o4; have HB4 : Hid (Below w.heap.size w w4) := Lib.hid ⟨g4.os, g4.tape, g4.output, g4.size, fun k hk => g4.block k hk (by simp [Value.ownBlock])⟩; have I4 := Lib.hid (I.out.below HB4.out); have N4 : Hid (∀ g, (Value.slice a4 ls.length c4).ownBlock = some g → w.heap.size ≤ g) := Lib.hid (fun g e => by rcases n4 with h | ⟨k, h, hk⟩ <;> rw [h] at e <;> first | (simp [Value.ownBlock] at e; done) | (cases e; exact hk)); obtain ⟨y0, y1, y2⟩ := I4.out.cells; have g0 := free_blk I4.out.blk 0; have g1 := free_blk I4.out.blk 1; clear o4 g4 n4) | (at_builtin; refine wpList_append_rows rfl (.tmp 67) (.tmp 69) 50 rfl 9 _ 1 16 Tryd.underlying50 info9 rfl (by decide) (.slice a4 ls.length c4) (ls.map sR) (by rfl) (Owns.mod O4.out (Mod.of_below (F := fun _ => False) (below_alloc1 w4 (.cells #[.string s] 9))) (fun _ _ x => x)) (some ⟨w4.heap.size, 0, none⟩) 1 1 [[.string s]] (by rfl) rfl (fun e => by cases e) (lies_new w4 [.string s] 9 rfl) (by simp [Value.oneCell']) (by simp) (len_one HL63.out).1 (len_one HL63.out).2 ?_; intro v7 w7 o7 g7 n7; have HDV : Hid (∀ g, (Value.slice a0 ls.length c0).ownBlock = some g → (Value.slice a4 ls.length c4).ownBlock ≠ some g) := Lib.hid (fun g e e' => by have h1 := HV0.out g e; have h2 := N4.out g e'; omega); obtain ⟨R7, a7, L7, c7, hv7⟩ := rput I4.out HB4.out N4.out HLT.out HL63.out o7 g7 n7 HDV.out; subst hv7; have HR7 := Lib.hid R7; obtain ⟨p0, p1, p2⟩ := R7.1.cells; have q0 := free_blk R7.1.blk 0; have q1 := free_blk R7.1.blk 1; clear o7 g7 n7 R7))
    refine (HNN _).mono ?_
    rintro e w8 ⟨rfl, rfl⟩
    go_wp2_with fail
    refine (HSa _).mono ?_
    rintro e w8 ⟨rfl, nn, rfl⟩
    clear HNN HSa
    have m1 : Mod (fun k => k = r) w (w7.setCell ⟨r, 1, none⟩ (.slice a7 L7 c7)) := HR7.out.2.1.setCell _ _ (fun _ => rfl)
    have J1 := HR7.out.1.setLines (ls' := ls ++ [s]) HR7.out.2.2.1 (fun e => by have := HR7.out.2.2.2 r e; have := HLT.out; omega) (by have := HL63.out; simp; omega)
    have J2 := Lib.hid (J1.mod ((Mod.refl (fun _ => False) (w7.setCell ⟨r, 1, none⟩ (.slice a7 L7 c7))).drewN nn) (fun x => x) (fun _ _ x => x))
    have M2 := Lib.hid (m1.drewN nn)
    obtain ⟨t0, -, -⟩ := J2.out.cells
    have u0 := free_blk J2.out.blk 0
    clear m1 J1
    go_wp2_with fail
    go_ret
    rw [HE.out]
    exact ⟨rfl, _, J2.out, M2.out, .inr HR7.out.2.2.2⟩
  · have HE := Lib.hid he'
    clear he'
    go_wp2_with (first | (at_builtin; refine wpList_append_rows rfl (.const (.slice none 0 0)) (.tmp 56) 50 rfl 9 _ 1 16 Tryd.underlying50 info9 rfl (by decide) (.slice none 0 0) [] (by rfl) HO0.out a0 ls.length c0 (ls.map sR) (by rfl) HNL.out HN0.out HL0.out (sR_one _) (sR_len _) HR1.out.1 HR1.out.2 ?_; intro v4 w4 o4 g4 n4; rw [List.nil_append] at o4; obtain ⟨a4, c4, hv4, -⟩ := o4.any; rw [List.length_map] at hv4; subst hv4; have O4 := Lib.hid o4; have HB4 : Hid (Below w.heap.size w w4) := Lib.hid ⟨g4.os, g4.tape, g4.output, g4.size, fun k hk => g4.block k hk (by simp [Value.ownBlock])⟩; have I4 := Lib.hid (I.out.below HB4.out); have N4 : Hid (∀ g, (Value.slice a4 ls.length c4).ownBlock = some g → w.heap.size ≤ g) := Lib.hid (fun g e => by rcases n4 with h | ⟨k, h, hk⟩ <;> rw [h] at e <;> first | (simp [Value.ownBlock] at e; done) | (cases e; exact hk)); obtain ⟨y0, y1, y2⟩ := I4.out.cells; have g0 := free_blk I4.out.blk 0; have g1 := free_blk I4.out.blk 1; clear o4 g4 n4) | (at_builtin; refine wpList_append_rows rfl (.tmp 67) (.tmp 69) 50 rfl 9 _ 1 16 Tryd.underlying50 info9 rfl (by decide) (.slice a4 ls.length c4) (ls.map sR) (by rfl) (Owns.mod O4.out (Mod.of_below (F := fun _ => False) (below_alloc1 w4 (.cells #[.string s] 9))) (fun _ _ x => x)) (some ⟨w4.heap.size, 0, none⟩) 1 1 [[.string s]] (by rfl) rfl (fun e => by cases e) (lies_new w4 [.string s] 9 rfl) (by simp [Value.oneCell']) (by simp) (len_one HL63.out).1 (len_one HL63.out).2 ?_; intro v7 w7 o7 g7 n7; have HDV : Hid (∀ g, (Value.slice a0 ls.length c0).ownBlock = some g → (Value.slice a4 ls.length c4).ownBlock ≠ some g) := Lib.hid (fun g e e' => by have h1 := HV0.out g e; have h2 := N4.out g e'; omega); obtain ⟨R7, a7, L7, c7, hv7⟩ := rput I4.out HB4.out N4.out HLT.out HL63.out o7 g7 n7 HDV.out; subst hv7; have HR7 := Lib.hid R7; obtain ⟨p0, p1, p2⟩ := R7.1.cells; have q0 := free_blk R7.1.blk 0; have q1 := free_blk R7.1.blk 1; clear o7 g7 n7 R7))
    refine (HNN _).mono ?_
    rintro e w8 ⟨rfl, rfl⟩
    go_wp2_with fail
    refine (HSa _).mono ?_
    rintro e w8 ⟨rfl, nn, rfl⟩
    clear HNN HSa
    have m1 : Mod (fun k => k = r) w (w7.setCell ⟨r, 1, none⟩ (.slice a7 L7 c7)) := HR7.out.2.1.setCell _ _ (fun _ => rfl)
    have J1 := HR7.out.1.setLines (ls' := ls ++ [s]) HR7.out.2.2.1 (fun e => by have := HR7.out.2.2.2 r e; have := HLT.out; omega) (by have := HL63.out; simp; omega)
    have J2 := Lib.hid (J1.mod ((Mod.refl (fun _ => False) (w7.setCell ⟨r, 1, none⟩ (.slice a7 L7 c7))).drewN nn) (fun x => x) (fun _ _ x => x))
    have M2 := Lib.hid (m1.drewN nn)
    obtain ⟨t0, -, -⟩ := J2.out.cells
    have u0 := free_blk J2.out.blk 0
    clear m1 J1
    go_wp2_with fail
    go_ret
    rw [HE.out]
    exact ⟨rfl, _, J2.out, M2.out, .inr HR7.out.2.2.2⟩
  · have HE := Lib.hid he'
    clear he'
    go_wp2_with (first | (at_builtin; refine wpList_append_rows rfl (.const (.slice none 0 0)) (.tmp 56) 50 rfl 9 _ 1 16 Tryd.underlying50 info9 rfl (by decide) (.slice none 0 0) [] (by rfl) HO0.out a0 ls.length c0 (ls.map sR) (by rfl) HNL.out HN0.out HL0.out (sR_one _) (sR_len _) HR1.out.1 HR1.out.2 ?_; intro v4 w4 o4 g4 n4; rw [List.nil_append] at o4; obtain ⟨a4, c4, hv4, -⟩ := o4.any; rw [List.length_map] at hv4; subst hv4; have O4 := Lib.hid o4; have HB4 : Hid (Below w.heap.size w w4) := Lib.hid ⟨g4.os, g4.tape, g4.output, g4.size, fun k hk => g4.block k hk (by simp [Value.ownBlock])⟩; have I4 := Lib.hid (I.out.below HB4.out); have N4 : Hid (∀ g, (Value.slice a4 ls.length c4).ownBlock = some g → w.heap.size ≤ g) := Lib.hid (fun g e => by rcases n4 with h | ⟨k, h, hk⟩ <;> rw [h] at e <;> first | (simp [Value.ownBlock] at e; done) | (cases e; exact hk)); obtain ⟨y0, y1, y2⟩ := I4.out.cells; have g0 := free_blk I4.out.blk 0; have g1 := free_blk I4.out.blk 1; clear o4 g4 n4) | (at_builtin; refine wpList_append_rows rfl (.tmp 67) (.tmp 69) 50 rfl 9 _ 1 16 Tryd.underlying50 info9 rfl (by decide) (.slice a4 ls.length c4) (ls.map sR) (by rfl) (Owns.mod O4.out (Mod.of_below (F := fun _ => False) (below_alloc1 w4 (.cells #[.string s] 9))) (fun _ _ x => x)) (some ⟨w4.heap.size, 0, none⟩) 1 1 [[.string s]] (by rfl) rfl (fun e => by cases e) (lies_new w4 [.string s] 9 rfl) (by simp [Value.oneCell']) (by simp) (len_one HL63.out).1 (len_one HL63.out).2 ?_; intro v7 w7 o7 g7 n7; have HDV : Hid (∀ g, (Value.slice a0 ls.length c0).ownBlock = some g → (Value.slice a4 ls.length c4).ownBlock ≠ some g) := Lib.hid (fun g e e' => by have h1 := HV0.out g e; have h2 := N4.out g e'; omega); obtain ⟨R7, a7, L7, c7, hv7⟩ := rput I4.out HB4.out N4.out HLT.out HL63.out o7 g7 n7 HDV.out; subst hv7; have HR7 := Lib.hid R7; obtain ⟨p0, p1, p2⟩ := R7.1.cells; have q0 := free_blk R7.1.blk 0; have q1 := free_blk R7.1.blk 1; clear o7 g7 n7 R7))
    refine (HNN _).mono ?_
    rintro e w8 ⟨rfl, rfl⟩
    go_wp2_with fail
    refine (HSa _).mono ?_
    rintro e w8 ⟨rfl, nn, rfl⟩
    clear HNN HSa
    have m1 : Mod (fun k => k = r) w (w7.setCell ⟨r, 1, none⟩ (.slice a7 L7 c7)) := HR7.out.2.1.setCell _ _ (fun _ => rfl)
    have J1 := HR7.out.1.setLines (ls' := ls ++ [s]) HR7.out.2.2.1 (fun e => by have := HR7.out.2.2.2 r e; have := HLT.out; omega) (by have := HL63.out; simp; omega)
    have J2 := Lib.hid (J1.mod ((Mod.refl (fun _ => False) (w7.setCell ⟨r, 1, none⟩ (.slice a7 L7 c7))).drewN nn) (fun x => x) (fun _ _ x => x))
    have M2 := Lib.hid (m1.drewN nn)
    obtain ⟨t0, -, -⟩ := J2.out.cells
    have u0 := free_blk J2.out.blk 0
    clear m1 J1
    go_wp2_with fail
    go_ret
    rw [HE.out]
    exact ⟨rfl, _, J2.out, M2.out, .inr HR7.out.2.2.2⟩
  · have HE := Lib.hid he'
    clear he'
    go_wp2_with (first | (at_builtin; refine wpList_append_rows rfl (.const (.slice none 0 0)) (.tmp 56) 50 rfl 9 _ 1 16 Tryd.underlying50 info9 rfl (by decide) (.slice none 0 0) [] (by rfl) HO0.out a0 ls.length c0 (ls.map sR) (by rfl) HNL.out HN0.out HL0.out (sR_one _) (sR_len _) HR1.out.1 HR1.out.2 ?_; intro v4 w4 o4 g4 n4; rw [List.nil_append] at o4; obtain ⟨a4, c4, hv4, -⟩ := o4.any; rw [List.length_map] at hv4; subst hv4; have O4 := Lib.hid o4; have HB4 : Hid (Below w.heap.size w w4) := Lib.hid ⟨g4.os, g4.tape, g4.output, g4.size, fun k hk => g4.block k hk (by simp [Value.ownBlock])⟩; have I4 := Lib.hid (I.out.below HB4.out); have N4 : Hid (∀ g, (Value.slice a4 ls.length c4).ownBlock = some g → w.heap.size ≤ g) := Lib.hid (fun g e => by rcases n4 with h | ⟨k, h, hk⟩ <;> rw [h] at e <;> first | (simp [Value.ownBlock] at e; done) | (cases e; exact hk)); obtain ⟨y0, y1, y2⟩ := I4.out.cells; have g0 := free_blk I4.out.blk 0; have g1 := free_blk I4.out.blk 1; clear o4 g4 n4) | (at_builtin; refine wpList_append_rows rfl (.tmp 67) (.tmp 69) 50 rfl 9 _ 1 16 Tryd.underlying50 info9 rfl (by decide) (.slice a4 ls.length c4) (ls.map sR) (by rfl) (Owns.mod O4.out (Mod.of_below (F := fun _ => False) (below_alloc1 w4 (.cells #[.string s] 9))) (fun _ _ x => x)) (some ⟨w4.heap.size, 0, none⟩) 1 1 [[.string s]] (by rfl) rfl (fun e => by cases e) (lies_new w4 [.string s] 9 rfl) (by simp [Value.oneCell']) (by simp) (len_one HL63.out).1 (len_one HL63.out).2 ?_; intro v7 w7 o7 g7 n7; have HDV : Hid (∀ g, (Value.slice a0 ls.length c0).ownBlock = some g → (Value.slice a4 ls.length c4).ownBlock ≠ some g) := Lib.hid (fun g e e' => by have h1 := HV0.out g e; have h2 := N4.out g e'; omega); obtain ⟨R7, a7, L7, c7, hv7⟩ := rput I4.out HB4.out N4.out HLT.out HL63.out o7 g7 n7 HDV.out; subst hv7; have HR7 := Lib.hid R7; obtain ⟨p0, p1, p2⟩ := R7.1.cells; have q0 := free_blk R7.1.blk 0; have q1 := free_blk R7.1.blk 1; clear o7 g7 n7 R7))
    refine (HNN _).mono ?_
    rintro e w8 ⟨rfl, rfl⟩
    go_wp2_with fail
    refine (HSa _).mono ?_
    rintro e w8 ⟨rfl, nn, rfl⟩
    clear HNN HSa
    have m1 : Mod (fun k => k = r) w (w7.setCell ⟨r, 1, none⟩ (.slice a7 L7 c7)) := HR7.out.2.1.setCell _ _ (fun _ => rfl)
    have J1 := HR7.out.1.setLines (ls' := ls ++ [s]) HR7.out.2.2.1 (fun e => by have := HR7.out.2.2.2 r e; have := HLT.out; omega) (by have := HL63.out; simp; omega)
    have J2 := Lib.hid (J1.mod ((Mod.refl (fun _ => False) (w7.setCell ⟨r, 1, none⟩ (.slice a7 L7 c7))).drewN nn) (fun x => x) (fun _ _ x => x))
    have M2 := Lib.hid (m1.drewN nn)
    obtain ⟨t0, -, -⟩ := J2.out.cells
    have u0 := free_blk J2.out.blk 0
    clear m1 J1
    go_wp2_with fail
    go_ret
    rw [HE.out]
    exact ⟨rfl, _, J2.out.setCode 302, M2.out.setCell _ _ (fun _ => rfl), .inr HR7.out.2.2.2⟩
  · have HE := Lib.hid he'
    clear he'
    go_wp2_with (first | (at_builtin; refine wpList_append_rows rfl (.const (.slice none 0 0)) (.tmp 56) 50 rfl 9 _ 1 16 Tryd.underlying50 info9 rfl (by decide) (.slice none 0 0) [] (by rfl) HO0.out a0 ls.length c0 (ls.map sR) (by rfl) HNL.out HN0.out HL0.out (sR_one _) (sR_len _) HR1.out.1 HR1.out.2 ?_; intro v4 w4 o4 g4 n4; rw [List.nil_append] at o4; obtain ⟨a4, c4, hv4, -⟩ := o4.any; rw [List.length_map] at hv4; subst hv4; have O4 := Lib.hid o4; have HB4 : Hid (Below w.heap.size w w4) := Lib.hid ⟨g4.os, g4.tape, g4.output, g4.size, fun k hk => g4.block k hk (by simp [Value.ownBlock])⟩; have I4 := Lib.hid (I.out.below HB4.out); have N4 : Hid (∀ g, (Value.slice a4 ls.length c4).ownBlock = some g → w.heap.size ≤ g) := Lib.hid (fun g e => by rcases n4 with h | ⟨k, h, hk⟩ <;> rw [h] at e <;> first | (simp [Value.ownBlock] at e; done) | (cases e; exact hk)); obtain ⟨y0, y1, y2⟩ := I4.out.cells; have g0 := free_blk I4.out.blk 0; have g1 := free_blk I4.out.blk 1; clear o4 g4 n4) | (at_builtin; refine wpList_append_rows rfl (.tmp 67) (.tmp 69) 50 rfl 9 _ 1 16 Tryd.underlying50 info9 rfl (by decide) (.slice a4 ls.length c4) (ls.map sR) (by rfl) (Owns.mod O4.out (Mod.of_below (F := fun _ => False) (below_alloc1 w4 (.cells #[.string s] 9))) (fun _ _ x => x)) (some ⟨w4.heap.size, 0, none⟩) 1 1 [[.string s]] (by rfl) rfl (fun e => by cases e) (lies_new w4 [.string s] 9 rfl) (by simp [Value.oneCell']) (by simp) (len_one HL63.out).1 (len_one HL63.out).2 ?_; intro v7 w7 o7 g7 n7; have HDV : Hid (∀ g, (Value.slice a0 ls.length c0).ownBlock = some g → (Value.slice a4 ls.length c4).ownBlock ≠ some g) := Lib.hid (fun g e e' => by have h1 := HV0.out g e; have h2 := N4.out g e'; omega); obtain ⟨R7, a7, L7, c7, hv7⟩ := rput I4.out HB4.out N4.out HLT.out HL63.out o7 g7 n7 HDV.out; subst hv7; have HR7 := Lib.hid R7; obtain ⟨p0, p1, p2⟩ := R7.1.cells; have q0 := free_blk R7.1.blk 0; have q1 := free_blk R7.1.blk 1; clear o7 g7 n7 R7))
    refine (HNN _).mono ?_
    rintro e w8 ⟨rfl, rfl⟩
    go_wp2_with fail
    refine (HSa _).mono ?_
    rintro e w8 ⟨rfl, nn, rfl⟩
    clear HNN HSa
    have m1 : Mod (fun k => k = r) w (w7.setCell ⟨r, 1, none⟩ (.slice a7 L7 c7)) := HR7.out.2.1.setCell _ _ (fun _ => rfl)
    have J1 := HR7.out.1.setLines (ls' := ls ++ [s]) HR7.out.2.2.1 (fun e => by have := HR7.out.2.2.2 r e; have := HLT.out; omega) (by have := HL63.out; simp; omega)
    have J2 := Lib.hid (J1.mod ((Mod.refl (fun _ => False) (w7.setCell ⟨r, 1, none⟩ (.slice a7 L7 c7))).drewN nn) (fun x => x) (fun _ _ x => x))
    have M2 := Lib.hid (m1.drewN nn)
    obtain ⟨t0, -, -⟩ := J2.out.cells
    have u0 := free_blk J2.out.blk 0
    clear m1 J1
    go_wp2_with fail
    go_ret
    rw [HE.out]
    exact ⟨rfl, _, J2.out.setCode 302, M2.out.setCell _ _ (fun _ => rfl), .inr HR7.out.2.2.2⟩
set_option maxHeartbeats 3200000 in
set_option maxRecDepth 100000 in
theorem rline_put0t_full (i : RIs w r false code v ls) (hsz : Small ls) (s : ByteArray) (hs : s.size ≤ 140737488351232) (hb : httpP s = false) (hne : nameP s ≠ none) (hv : valuedP s = true) (hl : 64 ≤ (rdropP (str (rnameP s)) ls).length) :
    Calls Tryd.prog 42 #[.pointer (some ⟨r, 0, none⟩), .string s, .bool true, .int .i64 0] w (RPost w r false v 8 code ls) := by
  have HP := rbegins_any s w
  rw [hb] at HP
  have I := Lib.hid i
  obtain ⟨x0, x1, x2⟩ := i.cells
  have f0 := free_blk i.blk 0
  have d0 : ((0 : Int) != 0) = false := rfl
  have HN := rname_any s hs w
  have HV := rvalued_any s hs w
  rw [hv] at HV
  have he := rname_empty s
  have hsm : (nameP s).isNone = false := by cases hx : nameP s with | none => exact absurd hx hne | some a => rfl
  rw [hsm] at he
  have HN2 := fun w => rname_any s hs w
  generalize str (rnameP s) = nv at HN he HN2 hl
  have hln := i.len
  obtain ⟨a0, c0, hv0, -, -, hl0, hn0, -⟩ := i.own.any
  rw [List.length_map] at hv0
  subst hv0
  have HL0 := Lib.hid hl0
  have HN0 := Lib.hid hn0
  have HR1 : Hid ((([] : List (List Value)).length + (ls.map sR).length ≤ maxLen) ∧ (([] : List (List Value)).length + (ls.map sR).length) * 16 ≤ 140737488355328) := Lib.hid (by rw [List.length_map]; unfold maxLen; simp; omega)
  have HNL : Hid (ls.length = (ls.map sR).length) := Lib.hid (by simp)
  have HLE := Lib.hid hln
  have HLT := Lib.hid (lt_of_block i.blk)
  have HV0 : Hid (∀ g, (Value.slice a0 ls.length c0).ownBlock = some g → g < w.heap.size) := Lib.hid (fun g e => i.own.lt e)
  have HO0 : Hid (Owns w 9 1 (.slice none 0 0) []) := Lib.hid (Owns.empty _ _ _)
  have dl : decide (64 ≤ ((rdropP nv ls).length : Int)) = true := by simp; omega
  have HSM := Lib.hid hsz
  clear i hs hb hne hv hsm hl hln hl0 hn0 hsz
  go_enter Tryd.func42, Tryd.ntmps42
  go_wp2_with fail
  refine HP.mono ?_
  rintro e w1 ⟨rfl, rfl⟩
  clear HP
  go_wp2_with fail
  refine HN.mono ?_
  rintro e w2 ⟨rfl, rfl⟩
  clear HN
  go_wp2_with fail
  refine HV.mono ?_
  rintro e w3 ⟨rfl, rfl⟩
  clear HV
  go_wp2_with (at_builtin; refine wpList_append_rows rfl (.const (.slice none 0 0)) (.tmp 56) 50 rfl 9 _ 1 16 Tryd.underlying50 info9 rfl (by decide) (.slice none 0 0) [] (by rfl) HO0.out a0 ls.length c0 (ls.map sR) (by rfl) HNL.out HN0.out HL0.out (sR_one _) (sR_len _) HR1.out.1 HR1.out.2 ?_; intro v4 w4 o4 g4 n4; rw [List.nil_append] at o4; obtain ⟨a4, c4, hv4, -⟩ := o4.any; rw [List.length_map] at hv4; subst hv4; have O4 := Lib.hid o4; have HB4 : Hid (Below w.heap.size w w4) := Lib.hid ⟨g4.os, g4.tape, g4.output, g4.size, fun k hk => g4.block k hk (by simp [Value.ownBlock])⟩; have I4 := Lib.hid (I.out.below HB4.out); have N4 : Hid (∀ g, (Value.slice a4 ls.length c4).ownBlock = some g → w.heap.size ≤ g) := Lib.hid (fun g e => by rcases n4 with h | ⟨k, h, hk⟩ <;> rw [h] at e <;> first | (simp [Value.ownBlock] at e; done) | (cases e; exact hk)); obtain ⟨y0, y1, y2⟩ := I4.out.cells; have g0 := free_blk I4.out.blk 0; have g1 := free_blk I4.out.blk 1; clear o4 g4 n4)
  refine (HN2 _).mono ?_
  rintro e w5 ⟨rfl, rfl⟩
  clear HN2
  go_wp2_with fail
  have HW : Calls Tryd.prog 65 #[.slice a4 ls.length c4, .string nv] w4 (RWithPost w4 nv ls) := by
    obtain ⟨a', c', hv', -, -, hl', -, -⟩ := O4.out.any
    rw [List.length_map] at hv'
    cases hv'
    exact rwithout_any hl' (by have := HLE.out; omega) HSM.out
  refine HW.mono ?_
  rintro e w5 ⟨v5, rfl, o5, hb, n5⟩
  obtain ⟨a5, c5, hv5, -⟩ := o5.any
  rw [List.length_map] at hv5
  subst hv5
  have O5 := Lib.hid o5
  have I5 := Lib.hid (I4.out.below hb)
  have HB5 := Lib.hid (HB4.out.trans (hb.mono HB4.out.size))
  have N5 : Hid (∀ g, (Value.slice a5 (rdropP nv ls).length c5).ownBlock = some g → w.heap.size ≤ g) := Lib.hid (fun g e => Nat.le_trans HB4.out.size (n5 g e))
  clear HW o5 hb n5 y0 y1 y2 g0 g1
  obtain ⟨y0, y1, y2⟩ := I5.out.cells
  have g0 := free_blk I5.out.blk 0
  have g1 := free_blk I5.out.blk 1
  go_wp2_with fail
  go_ret
  exact ⟨rfl, _, I5.out, Mod.of_below HB5.out, .inl rfl⟩
set_option maxHeartbeats 3200000 in
set_option maxRecDepth 100000 in
theorem rline_put0t (i : RIs w r false code v ls) (hsz : Small ls) (s : ByteArray) (hs : s.size ≤ 140737488351232) (hb : httpP s = false) (hne : nameP s ≠ none) (hv : valuedP s = true) (hl : ¬ 64 ≤ (rdropP (str (rnameP s)) ls).length) :
    Calls Tryd.prog 42 #[.pointer (some ⟨r, 0, none⟩), .string s, .bool true, .int .i64 0] w (RPost w r false v 0 (lineCode code s 0) ((rdropP (str (rnameP s)) ls) ++ [s])) := by
  obtain ⟨res, hres⟩ : ∃ res, res = lineCode code s 0 := ⟨_, rfl⟩
  rw [← hres]
  have hlc := rloc s
  obtain ⟨q, hq⟩ : ∃ q, q = decide (nameV s = locB) := ⟨_, rfl⟩
  have hres2 : res = if q = true ∧ code ≠ 201 ∧ ¬ (300 ≤ code ∧ code ≤ 399) then 302 else code := by
    rw [hres, hq]
    unfold lineCode
    rw [if_neg (by simp)]
    simp only [decide_eq_true_eq]
  have HSa := fun w => rsame_any (str (rnameP s)) ⟨#[108, 111, 99, 97, 116, 105, 111, 110]⟩ (by have := rnameP_size s; rw [str_size]; omega) w
  rw [hlc, ← hq] at HSa
  have HNN := fun w => rname_any s hs w
  clear hlc hq hres
  have HP := rbegins_any s w
  rw [hb] at HP
  have I := Lib.hid i
  obtain ⟨x0, x1, x2⟩ := i.cells
  have f0 := free_blk i.blk 0
  have d0 : ((0 : Int) != 0) = false := rfl
  have HN := rname_any s hs w
  have HV := rvalued_any s hs w
  rw [hv] at HV
  have he := rname_empty s
  have hsm : (nameP s).isNone = false := by cases hx : nameP s with | none => exact absurd hx hne | some a => rfl
  rw [hsm] at he
  have HN2 := fun w => rname_any s hs w
  generalize str (rnameP s) = nv at HN he HSa HNN HN2 hl ⊢
  have hln := i.len
  obtain ⟨a0, c0, hv0, -, -, hl0, hn0, -⟩ := i.own.any
  rw [List.length_map] at hv0
  subst hv0
  have HL0 := Lib.hid hl0
  have HN0 := Lib.hid hn0
  have HR1 : Hid ((([] : List (List Value)).length + (ls.map sR).length ≤ maxLen) ∧ (([] : List (List Value)).length + (ls.map sR).length) * 16 ≤ 140737488355328) := Lib.hid (by rw [List.length_map]; unfold maxLen; simp; omega)
  have HNL : Hid (ls.length = (ls.map sR).length) := Lib.hid (by simp)
  have HLE := Lib.hid hln
  have HLT := Lib.hid (lt_of_block i.blk)
  have HV0 : Hid (∀ g, (Value.slice a0 ls.length c0).ownBlock = some g → g < w.heap.size) := Lib.hid (fun g e => i.own.lt e)
  have HO0 : Hid (Owns w 9 1 (.slice none 0 0) []) := Lib.hid (Owns.empty _ _ _)
  have dl : decide (64 ≤ ((rdropP nv ls).length : Int)) = false := by simp; omega
  have HSM := Lib.hid hsz
  have HL63 := Lib.hid (show (rdropP nv ls).length ≤ 63 by omega)
  have HRES := Lib.hid hres2
  clear hres2
  clear i hs hb hne hv hsm hl hln hl0 hn0 hsz
  go_enter Tryd.func42, Tryd.ntmps42
  go_wp2_with fail
  refine HP.mono ?_
  rintro e w1 ⟨rfl, rfl⟩
  clear HP
  go_wp2_with fail
  refine HN.mono ?_
  rintro e w2 ⟨rfl, rfl⟩
  clear HN
  go_wp2_with fail
  refine HV.mono ?_
  rintro e w3 ⟨rfl, rfl⟩
  clear HV
  go_wp2_with (at_builtin; refine wpList_append_rows rfl (.const (.slice none 0 0)) (.tmp 56) 50 rfl 9 _ 1 16 Tryd.underlying50 info9 rfl (by decide) (.slice none 0 0) [] (by rfl) HO0.out a0 ls.length c0 (ls.map sR) (by rfl) HNL.out HN0.out HL0.out (sR_one _) (sR_len _) HR1.out.1 HR1.out.2 ?_; intro v4 w4 o4 g4 n4; rw [List.nil_append] at o4; obtain ⟨a4, c4, hv4, -⟩ := o4.any; rw [List.length_map] at hv4; subst hv4; have O4 := Lib.hid o4; have HB4 : Hid (Below w.heap.size w w4) := Lib.hid ⟨g4.os, g4.tape, g4.output, g4.size, fun k hk => g4.block k hk (by simp [Value.ownBlock])⟩; have I4 := Lib.hid (I.out.below HB4.out); have N4 : Hid (∀ g, (Value.slice a4 ls.length c4).ownBlock = some g → w.heap.size ≤ g) := Lib.hid (fun g e => by rcases n4 with h | ⟨k, h, hk⟩ <;> rw [h] at e <;> first | (simp [Value.ownBlock] at e; done) | (cases e; exact hk)); obtain ⟨y0, y1, y2⟩ := I4.out.cells; have g0 := free_blk I4.out.blk 0; have g1 := free_blk I4.out.blk 1; clear o4 g4 n4)
  refine (HN2 _).mono ?_
  rintro e w5 ⟨rfl, rfl⟩
  clear HN2
  go_wp2_with fail
  have HW : Calls Tryd.prog 65 #[.slice a4 ls.length c4, .string nv] w4 (RWithPost w4 nv ls) := by
    obtain ⟨a', c', hv', -, -, hl', -, -⟩ := O4.out.any
    rw [List.length_map] at hv'
    cases hv'
    exact rwithout_any hl' (by have := HLE.out; omega) HSM.out
  refine HW.mono ?_
  rintro e w5 ⟨v5, rfl, o5, hb, n5⟩
  obtain ⟨a5, c5, hv5, -⟩ := o5.any
  rw [List.length_map] at hv5
  subst hv5
  have O5 := Lib.hid o5
  have I5 := Lib.hid (I4.out.below hb)
  have HB5 := Lib.hid (HB4.out.trans (hb.mono HB4.out.size))
  have N5 : Hid (∀ g, (Value.slice a5 (rdropP nv ls).length c5).ownBlock = some g → w.heap.size ≤ g) := Lib.hid (fun g e => Nat.le_trans HB4.out.size (n5 g e))
  clear HW o5 hb n5 y0 y1 y2 g0 g1
  obtain ⟨y0, y1, y2⟩ := I5.out.cells
  have g0 := free_blk I5.out.blk 0
  have g1 := free_blk I5.out.blk 1
  rcases rcode_cases q HRES.out with ⟨rfl, he'⟩ | ⟨rfl, d1, he'⟩ | ⟨rfl, d1, d2, d3, he'⟩ | ⟨rfl, d1, d2, he'⟩ | ⟨rfl, d1, d2, d3, he'⟩
  · have HE := Lib.hid he'
    clear he'
    go_wp2_with (at_builtin; refine wpList_append_rows rfl (.tmp 67) (.tmp 69) 50 rfl 9 _ 1 16 Tryd.underlying50 info9 rfl (by decide) (.slice a5 (rdropP nv ls).length c5) ((rdropP nv ls).map sR) (by rfl) (Owns.mod O5.out (Mod.of_below (F := fun _ => False) (below_alloc1 w5 (.cells #[.string s] 9))) (fun _ _ x => x)) (some ⟨w5.heap.size, 0, none⟩) 1 1 [[.string s]] (by rfl) rfl (fun e => by cases e) (lies_new w5 [.string s] 9 rfl) (by simp [Value.oneCell']) (by simp) (len_one HL63.out).1 (len_one HL63.out).2 ?_; intro v7 w7 o7 g7 n7; have HDV : Hid (∀ g, (Value.slice a0 ls.length c0).ownBlock = some g → (Value.slice a5 (rdropP nv ls).length c5).ownBlock ≠ some g) := Lib.hid (fun g e e' => by have h1 := HV0.out g e; have h2 := N5.out g e'; omega); obtain ⟨R7, a7, L7, c7, hv7⟩ := rput I5.out HB5.out N5.out HLT.out HL63.out o7 g7 n7 HDV.out; subst hv7; have HR7 := Lib.hid R7; obtain ⟨p0, p1, p2⟩ := R7.1.cells; have q0 := free_blk R7.1.blk 0; have q1 := free_blk R7.1.blk 1; clear o7 g7 n7 R7)
    refine (HNN _).mono ?_
    rintro e w8 ⟨rfl, rfl⟩
    go_wp2_with fail
    refine (HSa _).mono ?_
    rintro e w8 ⟨rfl, nn, rfl⟩
    clear HNN HSa
    have m1 : Mod (fun k => k = r) w (w7.setCell ⟨r, 1, none⟩ (.slice a7 L7 c7)) := HR7.out.2.1.setCell _ _ (fun _ => rfl)
    have J1 := HR7.out.1.setLines (ls' := (rdropP nv ls) ++ [s]) HR7.out.2.2.1 (fun e => by have := HR7.out.2.2.2 r e; have := HLT.out; omega) (by have := HL63.out; simp; omega)
    have J2 := Lib.hid (J1.mod ((Mod.refl (fun _ => False) (w7.setCell ⟨r, 1, none⟩ (.slice a7 L7 c7))).drewN nn) (fun x => x) (fun _ _ x => x))
    have M2 := Lib.hid (m1.drewN nn)
    obtain ⟨t0, -, -⟩ := J2.out.cells
    have u0 := free_blk J2.out.blk 0
    clear m1 J1
    go_wp2_with fail
    go_ret
    rw [HE.out]
    exact ⟨rfl, _, J2.out, M2.out, .inr HR7.out.2.2.2⟩
  · have HE := Lib.hid he'
    clear he'
    go_wp2_with (at_builtin; refine wpList_append_rows rfl (.tmp 67) (.tmp 69) 50 rfl 9 _ 1 16 Tryd.underlying50 info9 rfl (by decide) (.slice a5 (rdropP nv ls).length c5) ((rdropP nv ls).map sR) (by rfl) (Owns.mod O5.out (Mod.of_below (F := fun _ => False) (below_alloc1 w5 (.cells #[.string s] 9))) (fun _ _ x => x)) (some ⟨w5.heap.size, 0, none⟩) 1 1 [[.string s]] (by rfl) rfl (fun e => by cases e) (lies_new w5 [.string s] 9 rfl) (by simp [Value.oneCell']) (by simp) (len_one HL63.out).1 (len_one HL63.out).2 ?_; intro v7 w7 o7 g7 n7; have HDV : Hid (∀ g, (Value.slice a0 ls.length c0).ownBlock = some g → (Value.slice a5 (rdropP nv ls).length c5).ownBlock ≠ some g) := Lib.hid (fun g e e' => by have h1 := HV0.out g e; have h2 := N5.out g e'; omega); obtain ⟨R7, a7, L7, c7, hv7⟩ := rput I5.out HB5.out N5.out HLT.out HL63.out o7 g7 n7 HDV.out; subst hv7; have HR7 := Lib.hid R7; obtain ⟨p0, p1, p2⟩ := R7.1.cells; have q0 := free_blk R7.1.blk 0; have q1 := free_blk R7.1.blk 1; clear o7 g7 n7 R7)
    refine (HNN _).mono ?_
    rintro e w8 ⟨rfl, rfl⟩
    go_wp2_with fail
    refine (HSa _).mono ?_
    rintro e w8 ⟨rfl, nn, rfl⟩
    clear HNN HSa
    have m1 : Mod (fun k => k = r) w (w7.setCell ⟨r, 1, none⟩ (.slice a7 L7 c7)) := HR7.out.2.1.setCell _ _ (fun _ => rfl)
    have J1 := HR7.out.1.setLines (ls' := (rdropP nv ls) ++ [s]) HR7.out.2.2.1 (fun e => by have := HR7.out.2.2.2 r e; have := HLT.out; omega) (by have := HL63.out; simp; omega)
    have J2 := Lib.hid (J1.mod ((Mod.refl (fun _ => False) (w7.setCell ⟨r, 1, none⟩ (.slice a7 L7 c7))).drewN nn) (fun x => x) (fun _ _ x => x))
    have M2 := Lib.hid (m1.drewN nn)
    obtain ⟨t0, -, -⟩ := J2.out.cells
    have u0 := free_blk J2.out.blk 0
    clear m1 J1
    go_wp2_with fail
    go_ret
    rw [HE.out]
    exact ⟨rfl, _, J2.out, M2.out, .inr HR7.out.2.2.2⟩
  · have HE := Lib.hid he'
    clear he'
    go_wp2_with (at_builtin; refine wpList_append_rows rfl (.tmp 67) (.tmp 69) 50 rfl 9 _ 1 16 Tryd.underlying50 info9 rfl (by decide) (.slice a5 (rdropP nv ls).length c5) ((rdropP nv ls).map sR) (by rfl) (Owns.mod O5.out (Mod.of_below (F := fun _ => False) (below_alloc1 w5 (.cells #[.string s] 9))) (fun _ _ x => x)) (some ⟨w5.heap.size, 0, none⟩) 1 1 [[.string s]] (by rfl) rfl (fun e => by cases e) (lies_new w5 [.string s] 9 rfl) (by simp [Value.oneCell']) (by simp) (len_one HL63.out).1 (len_one HL63.out).2 ?_; intro v7 w7 o7 g7 n7; have HDV : Hid (∀ g, (Value.slice a0 ls.length c0).ownBlock = some g → (Value.slice a5 (rdropP nv ls).length c5).ownBlock ≠ some g) := Lib.hid (fun g e e' => by have h1 := HV0.out g e; have h2 := N5.out g e'; omega); obtain ⟨R7, a7, L7, c7, hv7⟩ := rput I5.out HB5.out N5.out HLT.out HL63.out o7 g7 n7 HDV.out; subst hv7; have HR7 := Lib.hid R7; obtain ⟨p0, p1, p2⟩ := R7.1.cells; have q0 := free_blk R7.1.blk 0; have q1 := free_blk R7.1.blk 1; clear o7 g7 n7 R7)
    refine (HNN _).mono ?_
    rintro e w8 ⟨rfl, rfl⟩
    go_wp2_with fail
    refine (HSa _).mono ?_
    rintro e w8 ⟨rfl, nn, rfl⟩
    clear HNN HSa
    have m1 : Mod (fun k => k = r) w (w7.setCell ⟨r, 1, none⟩ (.slice a7 L7 c7)) := HR7.out.2.1.setCell _ _ (fun _ => rfl)
    have J1 := HR7.out.1.setLines (ls' := (rdropP nv ls) ++ [s]) HR7.out.2.2.1 (fun e => by have := HR7.out.2.2.2 r e; have := HLT.out; omega) (by have := HL63.out; simp; omega)
    have J2 := Lib.hid (J1.mod ((Mod.refl (fun _ => False) (w7.setCell ⟨r, 1, none⟩ (.slice a7 L7 c7))).drewN nn) (fun x => x) (fun _ _ x => x))
    have M2 := Lib.hid (m1.drewN nn)
    obtain ⟨t0, -, -⟩ := J2.out.cells
    have u0 := free_blk J2.out.blk 0
    clear m1 J1
    go_wp2_with fail
    go_ret
    rw [HE.out]
    exact ⟨rfl, _, J2.out, M2.out, .inr HR7.out.2.2.2⟩
  · have HE := Lib.hid he'
    clear he'
    go_wp2_with (at_builtin; refine wpList_append_rows rfl (.tmp 67) (.tmp 69) 50 rfl 9 _ 1 16 Tryd.underlying50 info9 rfl (by decide) (.slice a5 (rdropP nv ls).length c5) ((rdropP nv ls).map sR) (by rfl) (Owns.mod O5.out (Mod.of_below (F := fun _ => False) (below_alloc1 w5 (.cells #[.string s] 9))) (fun _ _ x => x)) (some ⟨w5.heap.size, 0, none⟩) 1 1 [[.string s]] (by rfl) rfl (fun e => by cases e) (lies_new w5 [.string s] 9 rfl) (by simp [Value.oneCell']) (by simp) (len_one HL63.out).1 (len_one HL63.out).2 ?_; intro v7 w7 o7 g7 n7; have HDV : Hid (∀ g, (Value.slice a0 ls.length c0).ownBlock = some g → (Value.slice a5 (rdropP nv ls).length c5).ownBlock ≠ some g) := Lib.hid (fun g e e' => by have h1 := HV0.out g e; have h2 := N5.out g e'; omega); obtain ⟨R7, a7, L7, c7, hv7⟩ := rput I5.out HB5.out N5.out HLT.out HL63.out o7 g7 n7 HDV.out; subst hv7; have HR7 := Lib.hid R7; obtain ⟨p0, p1, p2⟩ := R7.1.cells; have q0 := free_blk R7.1.blk 0; have q1 := free_blk R7.1.blk 1; clear o7 g7 n7 R7)
    refine (HNN _).mono ?_
    rintro e w8 ⟨rfl, rfl⟩
    go_wp2_with fail
    refine (HSa _).mono ?_
    rintro e w8 ⟨rfl, nn, rfl⟩
    clear HNN HSa
    have m1 : Mod (fun k => k = r) w (w7.setCell ⟨r, 1, none⟩ (.slice a7 L7 c7)) := HR7.out.2.1.setCell _ _ (fun _ => rfl)
    have J1 := HR7.out.1.setLines (ls' := (rdropP nv ls) ++ [s]) HR7.out.2.2.1 (fun e => by have := HR7.out.2.2.2 r e; have := HLT.out; omega) (by have := HL63.out; simp; omega)
    have J2 := Lib.hid (J1.mod ((Mod.refl (fun _ => False) (w7.setCell ⟨r, 1, none⟩ (.slice a7 L7 c7))).drewN nn) (fun x => x) (fun _ _ x => x))
    have M2 := Lib.hid (m1.drewN nn)
    obtain ⟨t0, -, -⟩ := J2.out.cells
    have u0 := free_blk J2.out.blk 0
    clear m1 J1
    go_wp2_with fail
    go_ret
    rw [HE.out]
    exact ⟨rfl, _, J2.out.setCode 302, M2.out.setCell _ _ (fun _ => rfl), .inr HR7.out.2.2.2⟩
  · have HE := Lib.hid he'
    clear he'
    go_wp2_with (at_builtin; refine wpList_append_rows rfl (.tmp 67) (.tmp 69) 50 rfl 9 _ 1 16 Tryd.underlying50 info9 rfl (by decide) (.slice a5 (rdropP nv ls).length c5) ((rdropP nv ls).map sR) (by rfl) (Owns.mod O5.out (Mod.of_below (F := fun _ => False) (below_alloc1 w5 (.cells #[.string s] 9))) (fun _ _ x => x)) (some ⟨w5.heap.size, 0, none⟩) 1 1 [[.string s]] (by rfl) rfl (fun e => by cases e) (lies_new w5 [.string s] 9 rfl) (by simp [Value.oneCell']) (by simp) (len_one HL63.out).1 (len_one HL63.out).2 ?_; intro v7 w7 o7 g7 n7; have HDV : Hid (∀ g, (Value.slice a0 ls.length c0).ownBlock = some g → (Value.slice a5 (rdropP nv ls).length c5).ownBlock ≠ some g) := Lib.hid (fun g e e' => by have h1 := HV0.out g e; have h2 := N5.out g e'; omega); obtain ⟨R7, a7, L7, c7, hv7⟩ := rput I5.out HB5.out N5.out HLT.out HL63.out o7 g7 n7 HDV.out; subst hv7; have HR7 := Lib.hid R7; obtain ⟨p0, p1, p2⟩ := R7.1.cells; have q0 := free_blk R7.1.blk 0; have q1 := free_blk R7.1.blk 1; clear o7 g7 n7 R7)
    refine (HNN _).mono ?_
    rintro e w8 ⟨rfl, rfl⟩
    go_wp2_with fail
    refine (HSa _).mono ?_
    rintro e w8 ⟨rfl, nn, rfl⟩
    clear HNN HSa
    have m1 : Mod (fun k => k = r) w (w7.setCell ⟨r, 1, none⟩ (.slice a7 L7 c7)) := HR7.out.2.1.setCell _ _ (fun _ => rfl)
    have J1 := HR7.out.1.setLines (ls' := (rdropP nv ls) ++ [s]) HR7.out.2.2.1 (fun e => by have := HR7.out.2.2.2 r e; have := HLT.out; omega) (by have := HL63.out; simp; omega)
    have J2 := Lib.hid (J1.mod ((Mod.refl (fun _ => False) (w7.setCell ⟨r, 1, none⟩ (.slice a7 L7 c7))).drewN nn) (fun x => x) (fun _ _ x => x))
    have M2 := Lib.hid (m1.drewN nn)
    obtain ⟨t0, -, -⟩ := J2.out.cells
    have u0 := free_blk J2.out.blk 0
    clear m1 J1
    go_wp2_with fail
    go_ret
    rw [HE.out]
    exact ⟨rfl, _, J2.out.setCode 302, M2.out.setCell _ _ (fun _ => rfl), .inr HR7.out.2.2.2⟩
set_option maxHeartbeats 3200000 in
set_option maxRecDepth 100000 in
theorem rline_httpn (i : RIs w r false code v ls) (s : ByteArray) (hs : s.size ≤ 140737488351232) (rep : Bool) (n : Int) (hn : n ≠ 0) (hr : 100 ≤ n ∧ n ≤ 599) (hb : httpP s = true) :
    Calls Tryd.prog 42 #[.pointer (some ⟨r, 0, none⟩), .string s, .bool rep, .int .i64 n] w (RPost w r false v (if statusP s = 0 then 7 else 0) (if statusP s = 0 then code else n) ls) := by
  have HP := rbegins_any s w
  rw [hb] at HP
  have I := Lib.hid i
  obtain ⟨x0, x1, x2⟩ := i.cells
  have f0 := free_blk i.blk 0
  have d0 : (n != 0) = true := by simp [hn]
  have e1 : decide (n < 100) = false := by simp; omega
  have e2 : decide (599 < n) = false := by simp; omega
  have HT := rstatus_any (begins_size hb) hs w
  generalize statusP s = m at HT ⊢
  clear i hs hb hn hr
  by_cases hm : m = 0
  · rw [if_pos hm, if_pos hm]
    subst hm
    go_enter Tryd.func42, Tryd.ntmps42
    go_wp2_with fail
    refine HP.mono ?_
    rintro e w1 ⟨rfl, rfl⟩
    clear HP
    go_wp2_with fail
    refine HT.mono ?_
    rintro e w2 ⟨rfl, rfl⟩
    clear HT
    go_wp2_with fail
    go_ret
    exact ⟨rfl, v, I.out, Mod.refl _ _, .inl rfl⟩
  · rw [if_neg hm, if_neg hm]
    have dm : (m == 0) = false := by simp [hm]
    clear hm
    go_enter Tryd.func42, Tryd.ntmps42
    go_wp2_with fail
    refine HP.mono ?_
    rintro e w1 ⟨rfl, rfl⟩
    clear HP
    go_wp2_with fail
    refine HT.mono ?_
    rintro e w2 ⟨rfl, rfl⟩
    clear HT
    go_wp2_with fail
    go_ret
    have m1 : Mod (fun k => k = r) w (w.setCell ⟨r, 0, none⟩ (.int .i64 m)) := (Mod.refl _ _).setCell _ _ (fun _ => rfl)
    exact ⟨rfl, v, (I.out.setCode m).setCode n, m1.setCell _ _ (fun _ => rfl), .inl rfl⟩
set_option maxHeartbeats 3200000 in
set_option maxRecDepth 100000 in
theorem rline_formn (i : RIs w r false code v ls) (s : ByteArray) (hs : s.size ≤ 140737488351232) (rep : Bool) (n : Int) (hn : n ≠ 0) (hr : 100 ≤ n ∧ n ≤ 599) (hb : httpP s = false) (hf : nameP s = none ∨ valuedP s = false) :
    Calls Tryd.prog 42 #[.pointer (some ⟨r, 0, none⟩), .string s, .bool rep, .int .i64 n] w (RPost w r false v 7 code ls) := by
  have HP := rbegins_any s w
  rw [hb] at HP
  have I := Lib.hid i
  obtain ⟨x0, x1, x2⟩ := i.cells
  have f0 := free_blk i.blk 0
  have d0 : (n != 0) = true := by simp [hn]
  have e1 : decide (n < 100) = false := by simp; omega
  have e2 : decide (599 < n) = false := by simp; omega
  have HN := rname_any s hs w
  have HV := rvalued_any s hs w
  have he := rname_empty s
  have hfb : (nameP s).isNone = true ∨ ((nameP s).isNone = false ∧ valuedP s = false) := by
    cases hx : nameP s with
    | none => exact .inl rfl
    | some a => rw [hx] at hf; exact .inr ⟨rfl, hf.resolve_left (by simp)⟩
  generalize str (rnameP s) = nv at HN he
  generalize (nameP s).isNone = emp at he hfb
  generalize valuedP s = val at HV hfb
  clear i hs hb hf hn hr
  rcases hfb with rfl | ⟨rfl, rfl⟩
  · go_enter Tryd.func42, Tryd.ntmps42
    go_wp2_with fail
    refine HP.mono ?_
    rintro e w1 ⟨rfl, rfl⟩
    clear HP
    go_wp2_with fail
    refine HN.mono ?_
    rintro e w2 ⟨rfl, rfl⟩
    clear HN HV
    go_wp2_with fail
    go_ret
    exact ⟨rfl, v, I.out, Mod.refl _ _, .inl rfl⟩
  · go_enter Tryd.func42, Tryd.ntmps42
    go_wp2_with fail
    refine HP.mono ?_
    rintro e w1 ⟨rfl, rfl⟩
    clear HP
    go_wp2_with fail
    refine HN.mono ?_
    rintro e w2 ⟨rfl, rfl⟩
    clear HN
    go_wp2_with fail
    refine HV.mono ?_
    rintro e w3 ⟨rfl, rfl⟩
    clear HV
    go_wp2_with fail
    go_ret
    exact ⟨rfl, v, I.out, Mod.refl _ _, .inl rfl⟩
set_option maxHeartbeats 3200000 in
set_option maxRecDepth 100000 in
theorem rline_putnf_full (i : RIs w r false code v ls) (s : ByteArray) (hs : s.size ≤ 140737488351232) (n : Int) (hn : n ≠ 0) (hr : 100 ≤ n ∧ n ≤ 599) (hb : httpP s = false) (hne : nameP s ≠ none) (hv : valuedP s = true) (hl : 64 ≤ ls.length) :
    Calls Tryd.prog 42 #[.pointer (some ⟨r, 0, none⟩), .string s, .bool false, .int .i64 n] w (RPost w r false v 8 code ls) := by
  have HP := rbegins_any s w
  rw [hb] at HP
  have I := Lib.hid i
  obtain ⟨x0, x1, x2⟩ := i.cells
  have f0 := free_blk i.blk 0
  have d0 : (n != 0) = true := by simp [hn]
  have e1 : decide (n < 100) = false := by simp; omega
  have e2 : decide (599 < n) = false := by simp; omega
  have HN := rname_any s hs w
  have HV := rvalued_any s hs w
  rw [hv] at HV
  have he := rname_empty s
  have hsm : (nameP s).isNone = false := by cases hx : nameP s with | none => exact absurd hx hne | some a => rfl
  rw [hsm] at he
  generalize str (rnameP s) = nv at HN he
  have hln := i.len
  obtain ⟨a0, c0, hv0, -, -, hl0, hn0, -⟩ := i.own.any
  rw [List.length_map] at hv0
  subst hv0
  have HL0 := Lib.hid hl0
  have HN0 := Lib.hid hn0
  have HR1 : Hid ((([] : List (List Value)).length + (ls.map sR).length ≤ maxLen) ∧ (([] : List (List Value)).length + (ls.map sR).length) * 16 ≤ 140737488355328) := Lib.hid (by rw [List.length_map]; unfold maxLen; simp; omega)
  have HNL : Hid (ls.length = (ls.map sR).length) := Lib.hid (by simp)
  have HLE := Lib.hid hln
  have HLT := Lib.hid (lt_of_block i.blk)
  have HV0 : Hid (∀ g, (Value.slice a0 ls.length c0).ownBlock = some g → g < w.heap.size) := Lib.hid (fun g e => i.own.lt e)
  have HO0 : Hid (Owns w 9 1 (.slice none 0 0) []) := Lib.hid (Owns.empty _ _ _)
  have dl : decide (64 ≤ (ls.length : Int)) = true := by simp; omega
  clear i hs hb hne hv hsm hl hln hl0 hn0 hn hr
  go_enter Tryd.func42, Tryd.ntmps42
  go_wp2_with fail
  refine HP.mono ?_
  rintro e w1 ⟨rfl, rfl⟩
  clear HP
  go_wp2_with fail
  refine HN.mono ?_
  rintro e w2 ⟨rfl, rfl⟩
  clear HN
  go_wp2_with fail
  refine HV.mono ?_
  rintro e w3 ⟨rfl, rfl⟩
  clear HV
  go_wp2_with (at_builtin; refine wpList_append_rows rfl (.const (.slice none 0 0)) (.tmp 56) 50 rfl 9 _ 1 16 Tryd.underlying50 info9 rfl (by decide) (.slice none 0 0) [] (by rfl) HO0.out a0 ls.length c0 (ls.map sR) (by rfl) HNL.out HN0.out HL0.out (sR_one _) (sR_len _) HR1.out.1 HR1.out.2 ?_; intro v4 w4 o4 g4 n4; rw [List.nil_append] at o4; obtain ⟨a4, c4, hv4, -⟩ := o4.any; rw [List.length_map] at hv4; subst hv4; have O4 := Lib.hid o4; have HB4 : Hid (Below w.heap.size w w4) := Lib.hid ⟨g4.os, g4.tape, g4.output, g4.size, fun k hk => g4.block k hk (by simp [Value.ownBlock])⟩; have I4 := Lib.hid (I.out.below HB4.out); have N4 : Hid (∀ g, (Value.slice a4 ls.length c4).ownBlock = some g → w.heap.size ≤ g) := Lib.hid (fun g e => by rcases n4 with h | ⟨k, h, hk⟩ <;> rw [h] at e <;> first | (simp [Value.ownBlock] at e; done) | (cases e; exact hk)); obtain ⟨y0, y1, y2⟩ := I4.out.cells; have g0 := free_blk I4.out.blk 0; have g1 := free_blk I4.out.blk 1; clear o4 g4 n4)
  go_ret
  exact ⟨rfl, _, I4.out, Mod.of_below HB4.out, .inl rfl⟩
set_option maxHeartbeats 3200000 in
set_option maxRecDepth 100000 in
theorem rline_putnf (i : RIs w r false code v ls) (s : ByteArray) (hs : s.size ≤ 140737488351232) (n : Int) (hn : n ≠ 0) (hr : 100 ≤ n ∧ n ≤ 599) (hb : httpP s = false) (hne : nameP s ≠ none) (hv : valuedP s = true) (hl : ¬ 64 ≤ ls.length) :
    Calls Tryd.prog 42 #[.pointer (some ⟨r, 0, none⟩), .string s, .bool false, .int .i64 n] w (RPost w r false v 0 (n) (ls ++ [s])) := by
  have HP := rbegins_any s w
  rw [hb] at HP
  have I := Lib.hid i
  obtain ⟨x0, x1, x2⟩ := i.cells
  have f0 := free_blk i.blk 0
  have d0 : (n != 0) = true := by simp [hn]
  have e1 : decide (n < 100) = false := by simp; omega
  have e2 : decide (599 < n) = false := by simp; omega
  have HN := rname_any s hs w
  have HV := rvalued_any s hs w
  rw [hv] at HV
  have he := rname_empty s
  have hsm : (nameP s).isNone = false := by cases hx : nameP s with | none => exact absurd hx hne | some a => rfl
  rw [hsm] at he
  generalize str (rnameP s) = nv at HN he
  have hln := i.len
  obtain ⟨a0, c0, hv0, -, -, hl0, hn0, -⟩ := i.own.any
  rw [List.length_map] at hv0
  subst hv0
  have HL0 := Lib.hid hl0
  have HN0 := Lib.hid hn0
  have HR1 : Hid ((([] : List (List Value)).length + (ls.map sR).length ≤ maxLen) ∧ (([] : List (List Value)).length + (ls.map sR).length) * 16 ≤ 140737488355328) := Lib.hid (by rw [List.length_map]; unfold maxLen; simp; omega)
  have HNL : Hid (ls.length = (ls.map sR).length) := Lib.hid (by simp)
  have HLE := Lib.hid hln
  have HLT := Lib.hid (lt_of_block i.blk)
  have HV0 : Hid (∀ g, (Value.slice a0 ls.length c0).ownBlock = some g → g < w.heap.size) := Lib.hid (fun g e => i.own.lt e)
  have HO0 : Hid (Owns w 9 1 (.slice none 0 0) []) := Lib.hid (Owns.empty _ _ _)
  have dl : decide (64 ≤ (ls.length : Int)) = false := by simp; omega
  have HL63 := Lib.hid (show ls.length ≤ 63 by omega)
  clear i hs hb hne hv hsm hl hln hl0 hn0 hn hr
  go_enter Tryd.func42, Tryd.ntmps42
  go_wp2_with fail
  refine HP.mono ?_
  rintro e w1 ⟨rfl, rfl⟩
  clear HP
  go_wp2_with fail
  refine HN.mono ?_
  rintro e w2 ⟨rfl, rfl⟩
  clear HN
  go_wp2_with fail
  refine HV.mono ?_
  rintro e w3 ⟨rfl, rfl⟩
  clear HV
  go_wp2_with (first | (at_builtin; refine wpList_append_rows rfl (.const (.slice none 0 0)) (.tmp 56) 50 rfl 9 _ 1 16 Tryd.underlying50 info9 rfl (by decide) (.slice none 0 0) [] (by rfl) HO0.out a0 ls.length c0 (ls.map sR) (by rfl) HNL.out HN0.out HL0.out (sR_one _) (sR_len _) HR1.out.1 HR1.out.2 ?_; intro v4 w4 o4 g4 n4; rw [List.nil_append] at o4; obtain ⟨a4, c4, hv4, -⟩ := o4.any; rw [List.length_map] at hv4; subst hv4; have O4 := Lib.hid o4; have HB4 : Hid (Below w.heap.size w w4) := Lib.hid ⟨g4.os, g4.tape, g4.output, g4.size, fun k hk => g4.block k hk (by simp [Value.ownBlock])⟩; have I4 := Lib.hid (I.out.below HB4.out); have N4 : Hid (∀ g, (Value.slice a4 ls.length c4).ownBlock = some g → w.heap.size ≤ g) := Lib.hid (fun g e => by rcases n4 with h | ⟨k, h, hk⟩ <;> rw [h] at e <;> first | (simp [Value.ownBlock] at e; done) | (cases e; exact hk)); obtain ⟨y0, y1, y2⟩ := I4.out.cells; have g0 := free_blk I4.out.blk 0; have g1 := free_blk I4.out.blk 1; clear o4 g4 n4) | (at_builtin; refine wpList_append_rows rfl (.tmp 67) (.tmp 69) 50 rfl 9 _ 1 16 Tryd.underlying50 info9 rfl (by decide) (.slice a4 ls.length c4) (ls.map sR) (by rfl) (Owns.mod O4.out (Mod.of_below (F := fun _ => False) (below_alloc1 w4 (.cells #[.string s] 9))) (fun _ _ x => x)) (some ⟨w4.heap.size, 0, none⟩) 1 1 [[.string s]] (by rfl) rfl (fun e => by cases e) (lies_new w4 [.string s] 9 rfl) (by simp [Value.oneCell']) (by simp) (len_one HL63.out).1 (len_one HL63.out).2 ?_; intro v7 w7 o7 g7 n7; have HDV : Hid (∀ g, (Value.slice a0 ls.length c0).ownBlock = some g → (Value.slice a4 ls.length c4).ownBlock ≠ some g) := Lib.hid (fun g e e' => by have h1 := HV0.out g e; have h2 := N4.out g e'; omega); obtain ⟨R7, a7, L7, c7, hv7⟩ := rput I4.out HB4.out N4.out HLT.out HL63.out o7 g7 n7 HDV.out; subst hv7; have HR7 := Lib.hid R7; obtain ⟨p0, p1, p2⟩ := R7.1.cells; have q0 := free_blk R7.1.blk 0; have q1 := free_blk R7.1.blk 1; clear o7 g7 n7 R7))
  go_ret
  have m1 : Mod (fun k => k = r) w (w7.setCell ⟨r, 1, none⟩ (.slice a7 L7 c7)) := HR7.out.2.1.setCell _ _ (fun _ => rfl)
  have J1 := HR7.out.1.setLines (ls' := ls ++ [s]) HR7.out.2.2.1 (fun e => by have := HR7.out.2.2.2 r e; have := HLT.out; omega) (by have := HL63.out; simp; omega)
  exact ⟨rfl, _, J1.setCode n, m1.setCell _ _ (fun _ => rfl), .inr HR7.out.2.2.2⟩
set_option maxHeartbeats 3200000 in
set_option maxRecDepth 100000 in
theorem rline_putnt_full (i : RIs w r false code v ls) (hsz : Small ls) (s : ByteArray) (hs : s.size ≤ 140737488351232) (n : Int) (hn : n ≠ 0) (hr : 100 ≤ n ∧ n ≤ 599) (hb : httpP s = false) (hne : nameP s ≠ none) (hv : valuedP s = true) (hl : 64 ≤ (rdropP (str (rnameP s)) ls).length) :
    Calls Tryd.prog 42 #[.pointer (some ⟨r, 0, none⟩), .string s, .bool true, .int .i64 n] w (RPost w r false v 8 code ls) := by
  have HP := rbegins_any s w
  rw [hb] at HP
  have I := Lib.hid i
  obtain ⟨x0, x1, x2⟩ := i.cells
  have f0 := free_blk i.blk 0
  have d0 : (n != 0) = true := by simp [hn]
  have e1 : decide (n < 100) = false := by simp; omega
  have e2 : decide (599 < n) = false := by simp; omega
  have HN := rname_any s hs w
  have HV := rvalued_any s hs w
  rw [hv] at HV
  have he := rname_empty s
  have hsm : (nameP s).isNone = false := by cases hx : nameP s with | none => exact absurd hx hne | some a => rfl
  rw [hsm] at he
  have HN2 := fun w => rname_any s hs w
  generalize str (rnameP s) = nv at HN he HN2 hl
  have hln := i.len
  obtain ⟨a0, c0, hv0, -, -, hl0, hn0, -⟩ := i.own.any
  rw [List.length_map] at hv0
  subst hv0
  have HL0 := Lib.hid hl0
  have HN0 := Lib.hid hn0
  have HR1 : Hid ((([] : List (List Value)).length + (ls.map sR).length ≤ maxLen) ∧ (([] : List (List Value)).length + (ls.map sR).length) * 16 ≤ 140737488355328) := Lib.hid (by rw [List.length_map]; unfold maxLen; simp; omega)
  have HNL : Hid (ls.length = (ls.map sR).length) := Lib.hid (by simp)
  have HLE := Lib.hid hln
  have HLT := Lib.hid (lt_of_block i.blk)
  have HV0 : Hid (∀ g, (Value.slice a0 ls.length c0).ownBlock = some g → g < w.heap.size) := Lib.hid (fun g e => i.own.lt e)
  have HO0 : Hid (Owns w 9 1 (.slice none 0 0) []) := Lib.hid (Owns.empty _ _ _)
  have dl : decide (64 ≤ ((rdropP nv ls).length : Int)) = true := by simp; omega
  have HSM := Lib.hid hsz
  clear i hs hb hne hv hsm hl hln hl0 hn0 hsz hn hr
  go_enter Tryd.func42, Tryd.ntmps42
  go_wp2_with fail
  refine HP.mono ?_
  rintro e w1 ⟨rfl, rfl⟩
  clear HP
  go_wp2_with fail
  refine HN.mono ?_
  rintro e w2 ⟨rfl, rfl⟩
  clear HN
  go_wp2_with fail
  refine HV.mono ?_
  rintro e w3 ⟨rfl, rfl⟩
  clear HV
  go_wp2_with (at_builtin; refine wpList_append_rows rfl (.const (.slice none 0 0)) (.tmp 56) 50 rfl 9 _ 1 16 Tryd.underlying50 info9 rfl (by decide) (.slice none 0 0) [] (by rfl) HO0.out a0 ls.length c0 (ls.map sR) (by rfl) HNL.out HN0.out HL0.out (sR_one _) (sR_len _) HR1.out.1 HR1.out.2 ?_; intro v4 w4 o4 g4 n4; rw [List.nil_append] at o4; obtain ⟨a4, c4, hv4, -⟩ := o4.any; rw [List.length_map] at hv4; subst hv4; have O4 := Lib.hid o4; have HB4 : Hid (Below w.heap.size w w4) := Lib.hid ⟨g4.os, g4.tape, g4.output, g4.size, fun k hk => g4.block k hk (by simp [Value.ownBlock])⟩; have I4 := Lib.hid (I.out.below HB4.out); have N4 : Hid (∀ g, (Value.slice a4 ls.length c4).ownBlock = some g → w.heap.size ≤ g) := Lib.hid (fun g e => by rcases n4 with h | ⟨k, h, hk⟩ <;> rw [h] at e <;> first | (simp [Value.ownBlock] at e; done) | (cases e; exact hk)); obtain ⟨y0, y1, y2⟩ := I4.out.cells; have g0 := free_blk I4.out.blk 0; have g1 := free_blk I4.out.blk 1; clear o4 g4 n4)
  refine (HN2 _).mono ?_
  rintro e w5 ⟨rfl, rfl⟩
  clear HN2
  go_wp2_with fail
  have HW : Calls Tryd.prog 65 #[.slice a4 ls.length c4, .string nv] w4 (RWithPost w4 nv ls) := by
    obtain ⟨a', c', hv', -, -, hl', -, -⟩ := O4.out.any
    rw [List.length_map] at hv'
    cases hv'
    exact rwithout_any hl' (by have := HLE.out; omega) HSM.out
  refine HW.mono ?_
  rintro e w5 ⟨v5, rfl, o5, hb, n5⟩
  obtain ⟨a5, c5, hv5, -⟩ := o5.any
  rw [List.length_map] at hv5
  subst hv5
  have O5 := Lib.hid o5
  have I5 := Lib.hid (I4.out.below hb)
  have HB5 := Lib.hid (HB4.out.trans (hb.mono HB4.out.size))
  have N5 : Hid (∀ g, (Value.slice a5 (rdropP nv ls).length c5).ownBlock = some g → w.heap.size ≤ g) := Lib.hid (fun g e => Nat.le_trans HB4.out.size (n5 g e))
  clear HW o5 hb n5 y0 y1 y2 g0 g1
  obtain ⟨y0, y1, y2⟩ := I5.out.cells
  have g0 := free_blk I5.out.blk 0
  have g1 := free_blk I5.out.blk 1
  go_wp2_with fail
  go_ret
  exact ⟨rfl, _, I5.out, Mod.of_below HB5.out, .inl rfl⟩
set_option maxHeartbeats 3200000 in
set_option maxRecDepth 100000 in
theorem rline_putnt (i : RIs w r false code v ls) (hsz : Small ls) (s : ByteArray) (hs : s.size ≤ 140737488351232) (n : Int) (hn : n ≠ 0) (hr : 100 ≤ n ∧ n ≤ 599) (hb : httpP s = false) (hne : nameP s ≠ none) (hv : valuedP s = true) (hl : ¬ 64 ≤ (rdropP (str (rnameP s)) ls).length) :
    Calls Tryd.prog 42 #[.pointer (some ⟨r, 0, none⟩), .string s, .bool true, .int .i64 n] w (RPost w r false v 0 (n) ((rdropP (str (rnameP s)) ls) ++ [s])) := by
  have HP := rbegins_any s w
  rw [hb] at HP
  have I := Lib.hid i
  obtain ⟨x0, x1, x2⟩ := i.cells
  have f0 := free_blk i.blk 0
  have d0 : (n != 0) = true := by simp [hn]
  have e1 : decide (n < 100) = false := by simp; omega
  have e2 : decide (599 < n) = false := by simp; omega
  have HN := rname_any s hs w
  have HV := rvalued_any s hs w
  rw [hv] at HV
  have he := rname_empty s
  have hsm : (nameP s).isNone = false := by cases hx : nameP s with | none => exact absurd hx hne | some a => rfl
  rw [hsm] at he
  have HN2 := fun w => rname_any s hs w
  generalize str (rnameP s) = nv at HN he HN2 hl ⊢
  have hln := i.len
  obtain ⟨a0, c0, hv0, -, -, hl0, hn0, -⟩ := i.own.any
  rw [List.length_map] at hv0
  subst hv0
  have HL0 := Lib.hid hl0
  have HN0 := Lib.hid hn0
  have HR1 : Hid ((([] : List (List Value)).length + (ls.map sR).length ≤ maxLen) ∧ (([] : List (List Value)).length + (ls.map sR).length) * 16 ≤ 140737488355328) := Lib.hid (by rw [List.length_map]; unfold maxLen; simp; omega)
  have HNL : Hid (ls.length = (ls.map sR).length) := Lib.hid (by simp)
  have HLE := Lib.hid hln
  have HLT := Lib.hid (lt_of_block i.blk)
  have HV0 : Hid (∀ g, (Value.slice a0 ls.length c0).ownBlock = some g → g < w.heap.size) := Lib.hid (fun g e => i.own.lt e)
  have HO0 : Hid (Owns w 9 1 (.slice none 0 0) []) := Lib.hid (Owns.empty _ _ _)
  have dl : decide (64 ≤ ((rdropP nv ls).length : Int)) = false := by simp; omega
  have HSM := Lib.hid hsz
  have HL63 := Lib.hid (show (rdropP nv ls).length ≤ 63 by omega)
  clear i hs hb hne hv hsm hl hln hl0 hn0 hsz hn hr
  go_enter Tryd.func42, Tryd.ntmps42
  go_wp2_with fail
  refine HP.mono ?_
  rintro e w1 ⟨rfl, rfl⟩
  clear HP
  go_wp2_with fail
  refine HN.mono ?_
  rintro e w2 ⟨rfl, rfl⟩
  clear HN
  go_wp2_with fail
  refine HV.mono ?_
  rintro e w3 ⟨rfl, rfl⟩
  clear HV
  go_wp2_with (at_builtin; refine wpList_append_rows rfl (.const (.slice none 0 0)) (.tmp 56) 50 rfl 9 _ 1 16 Tryd.underlying50 info9 rfl (by decide) (.slice none 0 0) [] (by rfl) HO0.out a0 ls.length c0 (ls.map sR) (by rfl) HNL.out HN0.out HL0.out (sR_one _) (sR_len _) HR1.out.1 HR1.out.2 ?_; intro v4 w4 o4 g4 n4; rw [List.nil_append] at o4; obtain ⟨a4, c4, hv4, -⟩ := o4.any; rw [List.length_map] at hv4; subst hv4; have O4 := Lib.hid o4; have HB4 : Hid (Below w.heap.size w w4) := Lib.hid ⟨g4.os, g4.tape, g4.output, g4.size, fun k hk => g4.block k hk (by simp [Value.ownBlock])⟩; have I4 := Lib.hid (I.out.below HB4.out); have N4 : Hid (∀ g, (Value.slice a4 ls.length c4).ownBlock = some g → w.heap.size ≤ g) := Lib.hid (fun g e => by rcases n4 with h | ⟨k, h, hk⟩ <;> rw [h] at e <;> first | (simp [Value.ownBlock] at e; done) | (cases e; exact hk)); obtain ⟨y0, y1, y2⟩ := I4.out.cells; have g0 := free_blk I4.out.blk 0; have g1 := free_blk I4.out.blk 1; clear o4 g4 n4)
  refine (HN2 _).mono ?_
  rintro e w5 ⟨rfl, rfl⟩
  clear HN2
  go_wp2_with fail
  have HW : Calls Tryd.prog 65 #[.slice a4 ls.length c4, .string nv] w4 (RWithPost w4 nv ls) := by
    obtain ⟨a', c', hv', -, -, hl', -, -⟩ := O4.out.any
    rw [List.length_map] at hv'
    cases hv'
    exact rwithout_any hl' (by have := HLE.out; omega) HSM.out
  refine HW.mono ?_
  rintro e w5 ⟨v5, rfl, o5, hb, n5⟩
  obtain ⟨a5, c5, hv5, -⟩ := o5.any
  rw [List.length_map] at hv5
  subst hv5
  have O5 := Lib.hid o5
  have I5 := Lib.hid (I4.out.below hb)
  have HB5 := Lib.hid (HB4.out.trans (hb.mono HB4.out.size))
  have N5 : Hid (∀ g, (Value.slice a5 (rdropP nv ls).length c5).ownBlock = some g → w.heap.size ≤ g) := Lib.hid (fun g e => Nat.le_trans HB4.out.size (n5 g e))
  clear HW o5 hb n5 y0 y1 y2 g0 g1
  obtain ⟨y0, y1, y2⟩ := I5.out.cells
  have g0 := free_blk I5.out.blk 0
  have g1 := free_blk I5.out.blk 1
  go_wp2_with (at_builtin; refine wpList_append_rows rfl (.tmp 67) (.tmp 69) 50 rfl 9 _ 1 16 Tryd.underlying50 info9 rfl (by decide) (.slice a5 (rdropP nv ls).length c5) ((rdropP nv ls).map sR) (by rfl) (Owns.mod O5.out (Mod.of_below (F := fun _ => False) (below_alloc1 w5 (.cells #[.string s] 9))) (fun _ _ x => x)) (some ⟨w5.heap.size, 0, none⟩) 1 1 [[.string s]] (by rfl) rfl (fun e => by cases e) (lies_new w5 [.string s] 9 rfl) (by simp [Value.oneCell']) (by simp) (len_one HL63.out).1 (len_one HL63.out).2 ?_; intro v7 w7 o7 g7 n7; have HDV : Hid (∀ g, (Value.slice a0 ls.length c0).ownBlock = some g → (Value.slice a5 (rdropP nv ls).length c5).ownBlock ≠ some g) := Lib.hid (fun g e e' => by have h1 := HV0.out g e; have h2 := N5.out g e'; omega); obtain ⟨R7, a7, L7, c7, hv7⟩ := rput I5.out HB5.out N5.out HLT.out HL63.out o7 g7 n7 HDV.out; subst hv7; have HR7 := Lib.hid R7; obtain ⟨p0, p1, p2⟩ := R7.1.cells; have q0 := free_blk R7.1.blk 0; have q1 := free_blk R7.1.blk 1; clear o7 g7 n7 R7)
  go_ret
  have m1 : Mod (fun k => k = r) w (w7.setCell ⟨r, 1, none⟩ (.slice a7 L7 c7)) := HR7.out.2.1.setCell _ _ (fun _ => rfl)
  have J1 := HR7.out.1.setLines (ls' := (rdropP nv ls) ++ [s]) HR7.out.2.2.1 (fun e => by have := HR7.out.2.2.2 r e; have := HLT.out; omega) (by have := HL63.out; simp; omega)
  exact ⟨rfl, _, J1.setCode n, m1.setCell _ _ (fun _ => rfl), .inr HR7.out.2.2.2⟩
end
end Go.Proofs.YthnhpnmopjbaoaaDoor
