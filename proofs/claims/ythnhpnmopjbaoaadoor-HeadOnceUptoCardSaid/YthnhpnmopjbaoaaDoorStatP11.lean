/-
  The number of a status line, said on lists of bytes. Of no program.
-/
import Derived.Test.YthnhpnmopjbaoaaDoorStatus11
namespace Go.Proofs.YthnhpnmopjbaoaaDoor
open Go.RowKit

theorem get_data {s : ByteArray} {j : Nat} (h : j < s.size) : s.data.toList[j]? = some s[j] := by
  rw [← ByteArray.toList_eq, List.getElem?_eq_getElem (by rw [size_toList]; exact h), toList_at h]
theorem ext_take (t : ByteArray) (E : Nat) : (t.extract 0 E).toList = t.toList.take E := by
  rw [ByteArray.toList_eq, ByteArray.data_extract, Array.toList_extract, ← ByteArray.toList_eq]
  simp
theorem takeWhile_first {l : Bs} {c : UInt8} {k : Nat} (hk : k < l.length) (hc : l[k] = c) (ha : ∀ j (h : j < l.length), j < k → l[j] ≠ c) : l.takeWhile (· != c) = l.take k := by
  induction l generalizing k with
  | nil => simp at hk
  | cons x r ih =>
    cases k with
    | zero =>
      have : x = c := hc
      rw [List.takeWhile_cons_of_neg (by simp [this])]
      rfl
    | succ k =>
      have h0 := ha 0 (by simp) (by omega)
      rw [List.takeWhile_cons_of_pos (by simpa using h0)]
      rw [List.take_succ_cons]
      congr 1
      exact ih (k := k) (by simpa using hk) (by simpa using hc) (fun j h hj => by
        have := ha (j + 1) (by simp; omega) (by omega)
        simpa using this)
theorem tw_all {l : Bs} {c : UInt8} (ha : ∀ j (h : j < l.length), l[j] ≠ c) : l.takeWhile (· != c) = l := by
  induction l with
  | nil => rfl
  | cons x r ih =>
    have h0 := ha 0 (by simp)
    rw [List.takeWhile_cons_of_pos (by simpa using h0)]
    congr 1
    exact ih (fun j hj => by
      have := ha (j + 1) (by simp; omega)
      simpa using this)
/-- The parts of a cut, on lists. -/
theorem cutP_list (s : ByteArray) (c : UInt8) :
    (cutP s c).1.toList = s.toList.takeWhile (· != c) ∧ (cutP s c).2.1.toList = s.toList.drop ((s.toList.takeWhile (· != c)).length + 1) ∧ (cutP s c).2.2 = decide ((s.toList.takeWhile (· != c)).length < s.toList.length) := by
  have h0 := Lib.indexByte_ge s.data.toList c
  have hsz := size_toList s
  rcases Int.lt_or_le (Lib.indexByte s.data.toList c) 0 with h | h
  · have hno : ∀ j (h : j < s.toList.length), s.toList[j] ≠ c := fun j hj e => by
      have hj' : j < s.size := by rw [← hsz]; exact hj
      have := Lib.indexByte_none (l := s.data.toList) (c := c) (by omega) j
      rw [get_data hj', ← toList_at hj', e] at this
      exact absurd rfl this
    unfold cutP
    rw [if_neg (by omega), tw_all hno]
    refine ⟨rfl, ?_, by simp⟩
    rw [List.drop_of_length_le (by omega)]
    show (ByteArray.mk #[]).toList = []
    rw [ByteArray.toList_eq]
  · obtain ⟨m, hm⟩ : ∃ m : Nat, Lib.indexByte s.data.toList c = m := ⟨_, (Int.toNat_of_nonneg h).symm⟩
    obtain ⟨a1, a2⟩ := Lib.indexByte_some hm
    have hml : m < s.size := by
      have := (List.getElem?_eq_some_iff.1 a1).1
      have e2 : s.data.toList.length = s.size := Array.length_toList
      omega
    rw [get_data hml] at a1
    have htw : s.toList.takeWhile (· != c) = s.toList.take m := takeWhile_first (by rw [hsz]; exact hml) (by rw [toList_at hml]; exact Option.some.inj a1) (fun j hj hjm e => by
      have hj' : j < s.size := by rw [← hsz]; exact hj
      have := a2 j hjm
      rw [get_data hj', ← toList_at hj', e] at this
      exact absurd rfl this)
    have hl : (s.toList.take m).length = m := by rw [List.length_take]; omega
    unfold cutP
    rw [hm, if_pos (by omega), htw, hl, Int.toNat_natCast]
    refine ⟨ext_take _ _, bs_drop _ _, ?_⟩
    simp; omega
/-- The number that stands ahead of a blank or the end. -/
def code3 : Bs → Int
  | a :: b :: c :: r => if isDig a = true ∧ isDig b = true ∧ isDig c = true ∧ (r = [] ∨ r.head? = some 32) ∧ 100 ≤ dec 0 [a, b, c] ∧ dec 0 [a, b, c] ≤ 599 then (dec 0 [a, b, c] : Int) else 0
  | _ => 0
theorem okV3 (a b c : UInt8) (h : 49 ≤ a.toNat) : okV [a, b, c] = if isDig a = true ∧ isDig b = true ∧ isDig c = true then some ((dec 0 [a, b, c] : Nat) : Int) else none := by
  unfold okV
  rw [Lib.atoiAll_plain a [b, c] (by omega) (by omega)]
  by_cases hd : isDig a = true ∧ isDig b = true ∧ isDig c = true
  · have hall : ∀ x ∈ [a, b, c], isDig x = true := by simp; exact hd
    have ha := (isDig_iff a).1 hd.1
    have hb := (isDig_iff b).1 hd.2.1
    have hc := (isDig_iff c).1 hd.2.2
    have hv : dec 0 [a, b, c] < 1000 := by
      show ((0 * 10 + (a.toNat - 48)) * 10 + (b.toNat - 48)) * 10 + (c.toNat - 48) < 1000
      omega
    rw [if_pos hd, mag_digs hall (by simp), if_pos (by omega)]
    show (match (if 9223372036854775808 ≤ dec 0 [a, b, c] then Lib.NumEnd.range else Lib.NumEnd.ok ((dec 0 [a, b, c] : Nat) : Int)) with | .ok v => some v | _ => none) = _
    rw [if_neg (by omega)]
  · rw [if_neg hd]
    have hm : ∃ e, Lib.parseMag [a, b, c] = e ∧ (match e with | .ok _ => False | .range => False | _ => True) := by
      unfold Lib.parseMag
      rw [if_neg (by simp)]
      refine ⟨_, rfl, ?_⟩
      have step : ∀ (x : UInt8) (r : Bs) (acc : Nat), acc ≤ 1000 → isDig x = true → Lib.parseUint10 acc (x :: r) = Lib.parseUint10 (acc * 10 + (x.toNat - 48)) r := fun x r acc hacc hx => by
        have hx' := (isDig_iff x).1 hx
        conv => lhs; unfold Lib.parseUint10
        rw [if_pos hx', if_neg (by omega), if_neg (by omega)]
      have stop : ∀ (x : UInt8) (r : Bs) (acc : Nat), ¬ isDig x = true → (match Lib.parseUint10 acc (x :: r) with | .ok _ => False | .range => False | _ => True) := fun x r acc hx => by
        rw [isDig_iff] at hx
        unfold Lib.parseUint10
        rw [if_neg hx]
        trivial
      by_cases ha : isDig a = true
      · have ha' := (isDig_iff a).1 ha
        rw [step a _ 0 (by omega) ha]
        by_cases hb : isDig b = true
        · have hb' := (isDig_iff b).1 hb
          rw [step b _ _ (by omega) hb]
          exact stop c _ _ (fun hc => hd ⟨ha, hb, hc⟩)
        · exact stop b _ _ hb
      · exact stop a _ _ ha
    obtain ⟨e, he, hx⟩ := hm
    rw [he]
    rcases e with v | _ | _
    · exact hx.elim
    · rfl
    · exact hx.elim
theorem codeP_list (d : ByteArray) : codeP d = match d.toList with | [a, b, c] => if isDig a = true ∧ isDig b = true ∧ isDig c = true ∧ 100 ≤ dec 0 [a, b, c] ∧ dec 0 [a, b, c] ≤ 599 then (dec 0 [a, b, c] : Int) else 0 | _ => 0 := by
  have hsz := size_toList d
  by_cases h3 : d.size = 3
  · obtain ⟨a, b, c, hl⟩ : ∃ a b c, d.toList = [a, b, c] := by
      match hd : d.toList, (hsz.trans h3) with
      | [a, b, c], _ => exact ⟨a, b, c, rfl⟩
    have h0 : d.get! 0 = a := by
      rw [get0 (by omega), ← toList_at (by omega)]
      simp [hl]
    rw [hl]
    show codeP d = if isDig a = true ∧ isDig b = true ∧ isDig c = true ∧ 100 ≤ dec 0 [a, b, c] ∧ dec 0 [a, b, c] ≤ 599 then (dec 0 [a, b, c] : Int) else 0
    by_cases h49 : 49 ≤ a.toNat
    · by_cases hd : isDig a = true ∧ isDig b = true ∧ isDig c = true
      · have hok : okV d.toList = some ((dec 0 [a, b, c] : Nat) : Int) := by rw [hl, okV3 a b c h49, if_pos hd]
        rw [codeP_some hok, h0]
        by_cases hr : 100 ≤ dec 0 [a, b, c] ∧ dec 0 [a, b, c] ≤ 599
        · rw [if_pos ⟨h3, h49, by omega, by omega⟩, if_pos ⟨hd.1, hd.2.1, hd.2.2, hr⟩]
        · rw [if_neg (fun e => hr (by have := e.2.2; omega)), if_neg (fun e => hr e.2.2.2)]
      · have hok : okV d.toList = none := by rw [hl, okV3 a b c h49, if_neg hd]
        rw [codeP_none hok, if_neg (fun e => hd ⟨e.1, e.2.1, e.2.2.1⟩)]
    · have hz : ¬ (isDig a = true ∧ isDig b = true ∧ isDig c = true ∧ 100 ≤ dec 0 [a, b, c] ∧ dec 0 [a, b, c] ≤ 599) := by
        rintro ⟨ha, hb, hc, h1, h2⟩
        have ha' := (isDig_iff a).1 ha
        have hb' := (isDig_iff b).1 hb
        have hc' := (isDig_iff c).1 hc
        have hv : dec 0 [a, b, c] = ((0 * 10 + (a.toNat - 48)) * 10 + (b.toNat - 48)) * 10 + (c.toNat - 48) := rfl
        omega
      rw [if_neg hz]
      cases hok : okV d.toList with
      | none => exact codeP_none hok
      | some v => rw [codeP_some hok, h0, if_neg (fun e => h49 e.2.1)]
  · have hcz : codeP d = 0 := by
      cases hok : okV d.toList with
      | none => exact codeP_none hok
      | some v => rw [codeP_some hok, if_neg (fun e => h3 e.1)]
    rw [hcz]
    match hd : d.toList with
    | [] => rfl
    | [a] => rfl
    | [a, b] => rfl
    | [a, b, c] => rw [hd] at hsz; simp at hsz; omega
    | a :: b :: c :: x :: r => rfl
theorem tw_cons (x : UInt8) (r : Bs) : (x :: r).takeWhile (· != 32) = if x = 32 then [] else x :: r.takeWhile (· != 32) := by
  by_cases h : x = 32
  · rw [List.takeWhile_cons_of_neg (by simp [h]), if_pos h]
  · rw [List.takeWhile_cons_of_pos (by simpa using h), if_neg h]
theorem codeP_code3 (rest : ByteArray) : codeP (cutP rest 32).1 = code3 rest.toList := by
  have nd : ¬ isDig 32 = true := by decide
  rw [codeP_list, (cutP_list rest 32).1]
  generalize rest.toList = l
  match l with
  | [] => rfl
  | [a] =>
    rw [tw_cons]
    by_cases h : a = 32
    · rw [if_pos h]; rfl
    · rw [if_neg h]; rfl
  | [a, b] =>
    rw [tw_cons, tw_cons]
    by_cases h : a = 32
    · rw [if_pos h]; rfl
    · rw [if_neg h]
      by_cases h' : b = 32
      · rw [if_pos h']; rfl
      · rw [if_neg h']; rfl
  | a :: b :: c :: r =>
    show _ = if isDig a = true ∧ isDig b = true ∧ isDig c = true ∧ (r = [] ∨ r.head? = some 32) ∧ 100 ≤ dec 0 [a, b, c] ∧ dec 0 [a, b, c] ≤ 599 then (dec 0 [a, b, c] : Int) else 0
    rw [tw_cons, tw_cons, tw_cons]
    by_cases ha : a = 32
    · rw [if_pos ha, if_neg (fun e => nd (ha ▸ e.1))]
    by_cases hb : b = 32
    · rw [if_neg ha, if_pos hb, if_neg (fun e => nd (hb ▸ e.2.1))]
    by_cases hc : c = 32
    · rw [if_neg ha, if_neg hb, if_pos hc, if_neg (fun e => nd (hc ▸ e.2.2.1))]
    rw [if_neg ha, if_neg hb, if_neg hc]
    match r with
    | [] =>
      show (if isDig a = true ∧ isDig b = true ∧ isDig c = true ∧ 100 ≤ dec 0 [a, b, c] ∧ dec 0 [a, b, c] ≤ 599 then (dec 0 [a, b, c] : Int) else 0) = _
      by_cases h : isDig a = true ∧ isDig b = true ∧ isDig c = true ∧ 100 ≤ dec 0 [a, b, c] ∧ dec 0 [a, b, c] ≤ 599
      · rw [if_pos h, if_pos ⟨h.1, h.2.1, h.2.2.1, .inl rfl, h.2.2.2⟩]
      · rw [if_neg h, if_neg (fun e => h ⟨e.1, e.2.1, e.2.2.1, e.2.2.2.2⟩)]
    | x :: q =>
      rw [tw_cons]
      by_cases hx : x = 32
      · rw [if_pos hx]
        show (if isDig a = true ∧ isDig b = true ∧ isDig c = true ∧ 100 ≤ dec 0 [a, b, c] ∧ dec 0 [a, b, c] ≤ 599 then (dec 0 [a, b, c] : Int) else 0) = _
        by_cases h : isDig a = true ∧ isDig b = true ∧ isDig c = true ∧ 100 ≤ dec 0 [a, b, c] ∧ dec 0 [a, b, c] ≤ 599
        · rw [if_pos h, if_pos ⟨h.1, h.2.1, h.2.2.1, .inr (by simp [hx]), h.2.2.2⟩]
        · rw [if_neg h, if_neg (fun e => h ⟨e.1, e.2.1, e.2.2.1, e.2.2.2.2⟩)]
      · rw [if_neg hx]
        have hno : ¬ (isDig a = true ∧ isDig b = true ∧ isDig c = true ∧ (x :: q = [] ∨ (x :: q).head? = some 32) ∧ 100 ≤ dec 0 [a, b, c] ∧ dec 0 [a, b, c] ≤ 599) := by
          rintro ⟨_, _, _, h | h, _⟩
          · cases h
          · exact hx (by simpa using h)
        rw [if_neg hno]
/-- The number of a status line, by where its first blank stands. -/
theorem statusP_at {s : ByteArray} {i : Nat} (h5 : 5 ≤ i) (hi : i ≤ s.size) (ha : ∀ j (h : j < s.size), 5 ≤ j → j < i → s[j] ≠ 32) (he : ∀ h : i < s.size, s[i] = 32) :
    statusP s = if i = 5 ∨ i = s.size ∨ valuedP s = false then 0 else code3 (s.toList.drop (i + 1)) := by
  have hsz := size_toList s
  have hdl : (s.extract 5 s.size).toList = s.toList.drop 5 := bs_drop _ _
  obtain ⟨c1, c2, c3⟩ := cutP_list (s.extract 5 s.size) 32
  have htw : ((s.extract 5 s.size).toList.takeWhile (· != 32)).length = i - 5 := by
    rw [hdl]
    by_cases hlt : i < s.size
    · rw [takeWhile_first (k := i - 5) (by rw [List.length_drop]; omega) (by
        rw [List.getElem_drop]
        have : 5 + (i - 5) = i := by omega
        simp only [this]
        rw [toList_at hlt]; exact he hlt) (fun j hj hjk => by
        rw [List.getElem_drop]
        rw [List.length_drop] at hj
        rw [toList_at (by omega)]
        exact ha (5 + j) (by omega) (by omega) (by omega)), List.length_take, List.length_drop]
      omega
    · rw [tw_all (fun j hj => by
        rw [List.getElem_drop]
        rw [List.length_drop] at hj
        rw [toList_at (by omega)]
        exact ha (5 + j) (by omega) (by omega) (by omega)), List.length_drop]
      omega
  have hpre : Lib.hasPrefix (s.extract 5 s.size).data.toList [32] = true ↔ (i = 5 ∧ i < s.size) := by
    unfold Lib.hasPrefix
    rw [← ByteArray.toList_eq, hdl, List.isPrefixOf_iff_prefix]
    constructor
    · rintro ⟨q, hq⟩
      have h6 : 5 < s.size := by
        have := congrArg List.length hq
        rw [List.length_drop] at this
        simp at this
        omega
      have h7 : s[5] = 32 := by
        have e1 : (s.toList.drop 5)[0]? = some 32 := by rw [← hq]; rfl
        rw [List.getElem?_drop, List.getElem?_eq_getElem (by omega)] at e1
        rw [← toList_at h6]
        exact Option.some.inj e1
      rcases Nat.lt_or_ge 5 i with h | h
      · exact absurd h7 (ha 5 h6 (by omega) h)
      · exact ⟨by omega, by omega⟩
    · rintro ⟨rfl, hlt⟩
      have h7 := he hlt
      refine ⟨s.toList.drop 6, ?_⟩
      rw [List.drop_eq_getElem_cons (i := 5) (by omega), toList_at hlt, h7]
      rfl
  unfold statusP
  rw [c3, htw, hdl, List.length_drop]
  by_cases hval : valuedP s = true
  · by_cases hlt : i < s.size
    · by_cases hi5 : i = 5
      · rw [if_neg (fun e => by have := hpre.2 ⟨hi5, hlt⟩; rw [this] at e; cases e.2.1), if_pos (.inl hi5)]
      · have hnp : Lib.hasPrefix (s.extract 5 s.size).data.toList [32] = false := by
          cases hp : Lib.hasPrefix (s.extract 5 s.size).data.toList [32] with
          | false => rfl
          | true => exact absurd (hpre.1 hp).1 hi5
        rw [if_pos ⟨by simp; omega, hnp, hval⟩, if_neg (by rintro (e | e | e) <;> first | exact hi5 e | omega | (rw [hval] at e; cases e))]
        rw [codeP_code3, c2, htw, hdl, List.drop_drop]
        congr 2
        omega
    · rw [if_neg (fun e => by have := e.1; simp at this; omega), if_pos (.inr (.inl (by omega)))]
  · rw [if_neg (fun e => hval e.2.2), if_pos (.inr (.inr (by simpa using hval)))]
end Go.Proofs.YthnhpnmopjbaoaaDoor
