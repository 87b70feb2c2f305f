/-
  HeadOnce: what the lines of heads keep. Of no program.
-/
import Derived.Test.YthnhpnmopjbaoaaDoorDoesB11
namespace Go.Proofs.YthnhpnmopjbaoaaDoor
open Go.RowKit

/-- Lines that have a name and bytes that may stand. -/
def Good (ls : List ByteArray) : Prop := ∀ s ∈ ls, nameP s ≠ none ∧ valuedP s = true
theorem http_noname {s : ByteArray} (h : httpP s = true) : nameP s = none := by
  have h5 := begins_size h
  have e := http_long h5
  rw [h] at e
  have e' : (s.extract 0 5).toList = [72, 84, 84, 80, 47] := by simpa using e
  rw [ext_take] at e'
  have hget : ∀ j (hj : j < 5), s[j] = ([72, 84, 84, 80, 47] : Bs)[j] := fun j hj => by
    have h1 : (s.toList.take 5)[j]? = ([72, 84, 84, 80, 47] : Bs)[j]? := by rw [e']
    rw [List.getElem?_take_of_lt hj, List.getElem?_eq_getElem (by rw [size_toList]; omega), List.getElem?_eq_getElem (by simpa using hj), toList_at (by omega)] at h1
    exact Option.some.inj h1
  rw [rname_none, rname_val (k := 4) (by omega) (fun j hj hj4 => ?_) (fun _ => ?_)]
  · refine if_neg (fun e => ?_)
    obtain ⟨_, h4⟩ := e.2.2
    rw [hget 4 (by omega)] at h4
    simp at h4
  · rw [hget j (by omega)]
    match j, hj4 with
    | 0, _ => rfl
    | 1, _ => rfl
    | 2, _ => rfl
    | 3, _ => rfl
  · rw [hget 4 (by omega)]; rfl
theorem Good.drop {ls : List ByteArray} (h : Good ls) (x : ByteArray) : Good (dropP x ls) := fun s hs => h s (List.mem_filter.1 hs).1
theorem Good.snoc {ls : List ByteArray} (h : Good ls) {s : ByteArray} (h1 : nameP s ≠ none) (h2 : valuedP s = true) : Good (ls ++ [s]) := fun x hx => by
  rcases List.mem_append.1 hx with hx | hx
  · exact h x hx
  · simp at hx; subst hx; exact ⟨h1, h2⟩
theorem Good.line {ls : List ByteArray} (h : Good ls) {code : Int} {s : ByteArray} (rep : Bool) (n : Int) : Good (lineP code ls s rep n).2.2 := by
  unfold lineP
  split
  · exact h
  split
  · split <;> exact h
  split
  · exact h
  · rename_i hf
    have h1 : nameP s ≠ none := fun e => hf (.inl e)
    have h2 : valuedP s = true := by cases e : valuedP s with | true => rfl | false => exact absurd (.inr e) hf
    split
    · split
      · exact h
      · exact (h.drop _).snoc h1 h2
    · split
      · exact h
      · exact h.snoc h1 h2
theorem valued_iff (s : ByteArray) : valuedP s = true ↔ ∀ c ∈ s.toList, valuedC c = true := by unfold valuedP; rw [List.all_eq_true]
theorem valuedC_of {c : UInt8} (h : 32 ≤ c.toNat) (h2 : c.toNat ≠ 127) : valuedC c = true := by
  unfold valuedC; simp [h, h2]
theorem app_list (a b : ByteArray) : (a ++ b).toList = a.toList ++ b.toList := by rw [ByteArray.toList_eq, ByteArray.data_append, Array.toList_append, ← ByteArray.toList_eq, ← ByteArray.toList_eq]
theorem has_no {s o : ByteArray} (h : hasP s o = false) : ∀ c ∈ s.toList, badC o c = false := by
  unfold hasP at h
  have h' : (s.toList.all fun c => !badC o c) = true := by simpa using h
  intro c hc
  have := List.all_eq_true.1 h' c hc
  simpa using this
theorem bad_no {o : ByteArray} {c : UInt8} (h : badC o c = false) : 32 ≤ c.toNat ∧ c.toNat ≠ 127 := by
  unfold badC at h
  simp at h
  omega
theorem hexD_range {n : Nat} (h : n < 16) : 48 ≤ (hexD n).toNat ∧ (hexD n).toNat ≤ 70 := by
  unfold hexD
  split <;> (rw [ofNat_toNat (by omega)]; omega)
theorem encP_good (l : Bs) : ∀ c ∈ encP l, 32 ≤ c.toNat ∧ c.toNat ≠ 127 := by
  intro c hc
  unfold encP at hc
  obtain ⟨d, _, hd⟩ := List.mem_flatMap.1 hc
  have h256 := d.toNat_lt
  unfold encB at hd
  split at hd
  · rename_i hk
    simp at hd
    subst hd
    have : (97 ≤ c.toNat ∧ c.toNat ≤ 122) ∨ (65 ≤ c.toNat ∧ c.toNat ≤ 90) ∨ (48 ≤ c.toNat ∧ c.toNat ≤ 57) ∨ c.toNat = 45 ∨ c.toNat = 95 ∨ c.toNat = 46 := by
      unfold keepC at hk; simp [or_assoc] at hk; omega
    omega
  · split at hd
    · simp at hd; subst hd; decide
    · simp at hd
      rcases hd with rfl | rfl | rfl
      · decide
      · have := hexD_range (n := d.toNat / 16) (by omega); omega
      · have := hexD_range (n := d.toNat % 16) (by omega); omega
theorem decD_good (n : Nat) : ∀ c ∈ Lib.decDigits n, 48 ≤ c.toNat ∧ c.toNat ≤ 57 := by
  induction n using Nat.strongRecOn with
  | ind n ih =>
    intro c hc
    rw [Lib.decDigits] at hc
    split at hc
    · rw [List.mem_singleton] at hc; subst hc; rw [ofNat_toNat (by omega)]; omega
    · rcases List.mem_append.1 hc with hc | hc
      · exact ih (n / 10) (by omega) c hc
      · rw [List.mem_singleton] at hc; subst hc; rw [ofNat_toNat (by omega)]; omega
theorem itoa_good (n : Int) : ∀ c ∈ Lib.itoa n, 32 ≤ c.toNat ∧ c.toNat ≠ 127 := by
  intro c hc
  unfold Lib.itoa at hc
  split at hc
  · rcases List.mem_cons.1 hc with rfl | hc
    · decide
    · have := decD_good _ c hc; omega
  · have := decD_good _ c hc; omega
/-- A cookie's line has a name, and bytes that may stand. -/
theorem cookie_good {name value path : ByteArray} {age : Int} (hc : cookP name path = true) : nameP (cookieT name value path age) ≠ none ∧ valuedP (cookieT name value path age) = true := by
  obtain ⟨_, h1, h2⟩ := cookP_parts hc
  have g1 := fun c hc => bad_no (has_no h1 c hc)
  have g2 := fun c hc => bad_no (has_no h2 c hc)
  obtain ⟨rest, hrest, hall⟩ : ∃ rest : Bs, (cookieT name value path age).toList = ckA.toList ++ rest ∧ ∀ c ∈ rest, 32 ≤ c.toNat ∧ c.toNat ≠ 127 := by
    have gE := encP_good value.toList
    have gI := itoa_good age
    have gM : ∀ c ∈ ckM.toList, 32 ≤ c.toNat ∧ c.toNat ≠ 127 := by rw [ByteArray.toList_eq]; decide
    have gP : ∀ c ∈ ckP.toList, 32 ≤ c.toNat ∧ c.toNat ≠ 127 := by rw [ByteArray.toList_eq]; decide
    have gQ : ∀ c ∈ (⟨#[61]⟩ : ByteArray).toList, 32 ≤ c.toNat ∧ c.toNat ≠ 127 := by rw [ByteArray.toList_eq]; decide
    have three : ∀ c ∈ name.toList ++ ((⟨#[61]⟩ : ByteArray).toList ++ encP value.toList), 32 ≤ c.toNat ∧ c.toNat ≠ 127 := fun c hc => by
      rcases List.mem_append.1 hc with hc | hc
      · exact g1 c hc
      · rcases List.mem_append.1 hc with hc | hc
        · exact gQ c hc
        · exact gE c hc
    have mI : ∀ c ∈ ckM.toList ++ Lib.itoa age, 32 ≤ c.toNat ∧ c.toNat ≠ 127 := fun c hc => by
      rcases List.mem_append.1 hc with hc | hc
      · exact gM c hc
      · exact gI c hc
    have pI : ∀ c ∈ ckP.toList ++ path.toList, 32 ≤ c.toNat ∧ c.toNat ≠ 127 := fun c hc => by
      rcases List.mem_append.1 hc with hc | hc
      · exact gP c hc
      · exact g2 c hc
    have two : ∀ (a b : Bs), (∀ c ∈ a, 32 ≤ c.toNat ∧ c.toNat ≠ 127) → (∀ c ∈ b, 32 ≤ c.toNat ∧ c.toNat ≠ 127) → ∀ c ∈ a ++ b, 32 ≤ c.toNat ∧ c.toNat ≠ 127 := fun a b ha hb c hc => by
      rcases List.mem_append.1 hc with hc | hc
      · exact ha c hc
      · exact hb c hc
    unfold cookieT
    split <;> split
    · exact ⟨_, by simp only [app_list, str_toList, List.append_assoc], three⟩
    · exact ⟨_, by simp only [app_list, str_toList, List.append_assoc], two _ _ g1 (two _ _ gQ (two _ _ gE (two _ _ gM gI)))⟩
    · exact ⟨_, by simp only [app_list, str_toList, List.append_assoc], two _ _ g1 (two _ _ gQ (two _ _ gE (two _ _ gP g2)))⟩
    · exact ⟨_, by simp only [app_list, str_toList, List.append_assoc], two _ _ g1 (two _ _ gQ (two _ _ gE (two _ _ gM (two _ _ gI (two _ _ gP g2)))))⟩
  have hA : ckA.toList = [83, 101, 116, 45, 67, 111, 111, 107, 105, 101, 58, 32] := by rw [ByteArray.toList_eq]
  rw [hA] at hrest
  have hsz : (cookieT name value path age).size = 12 + rest.length := by rw [← size_toList, hrest, List.length_append]; rfl
  have hget : ∀ j (hj : j < 12), (cookieT name value path age)[j]'(by omega) = ([83, 101, 116, 45, 67, 111, 111, 107, 105, 101, 58, 32] : Bs)[j] := fun j hj => by
    rw [← toList_at (by omega)]
    have h1 : (cookieT name value path age).toList[j]? = ([83, 101, 116, 45, 67, 111, 111, 107, 105, 101, 58, 32] : Bs)[j]? := by rw [hrest, List.getElem?_append_left (by simpa using hj)]
    rw [List.getElem?_eq_getElem (by rw [size_toList]; omega), List.getElem?_eq_getElem (by simpa using hj)] at h1
    exact Option.some.inj h1
  constructor
  · intro e
    rw [rname_none, rname_val (k := 10) (by omega) (fun j hj hj10 => ?_) (fun _ => ?_)] at e
    · have hc : 1 ≤ 10 ∧ 10 ≤ 64 ∧ ∃ h : 10 < (cookieT name value path age).size, (cookieT name value path age)[10].toNat = 58 := ⟨by omega, by omega, by omega, by rw [hget 10 (by omega)]; rfl⟩
      rw [if_pos hc] at e
      have := congrArg List.length e
      rw [List.length_take, size_toList, hsz] at this
      change min 10 (12 + rest.length) = 0 at this
      omega
    · rw [hget j (by omega)]
      match j, hj10 with
      | 0, _ => rfl
      | 1, _ => rfl
      | 2, _ => rfl
      | 3, _ => rfl
      | 4, _ => rfl
      | 5, _ => rfl
      | 6, _ => rfl
      | 7, _ => rfl
      | 8, _ => rfl
      | 9, _ => rfl
    · rw [hget 10 (by omega)]; rfl
  · rw [valued_iff, hrest]
    have hfix : ∀ c ∈ ([83, 101, 116, 45, 67, 111, 111, 107, 105, 101, 58, 32] : Bs), 32 ≤ c.toNat ∧ c.toNat ≠ 127 := by decide
    intro c hc
    have : 32 ≤ c.toNat ∧ c.toNat ≠ 127 := by
      rcases List.mem_append.1 hc with hc | hc
      · exact hfix c hc
      · exact hall c hc
    exact valuedC_of this.1 this.2
theorem Good.cookie {ls : List ByteArray} (h : Good ls) {name value path : ByteArray} {age : Int} : Good (cookieP ls name value path age).2 := by
  unfold cookieP
  split
  · exact h
  split
  · exact h
  · rename_i hc _
    have hc' : cookP name path = true := by cases e : cookP name path with | true => rfl | false => exact absurd e hc
    exact h.snoc (cookie_good hc').1 (cookie_good hc').2
theorem Good.next {H : Bool × Int × List ByteArray} (h : Good H.2.2) (a : HA) : Good (nextS H a).2.2 := by
  unfold nextS
  split
  · exact h
  · show Good (actS H.1 H.2.1 H.2.2 a).2.2
    unfold actS
    split
    · exact h
    · unfold actP
      split
      · exact h.line _ _
      split
      · split <;> exact h
      split
      · exact h.cookie
      split
      · exact h.drop _
      · exact h
/-- A line that is put alone. -/
theorem lineP_put {code : Int} {ls : List ByteArray} {s : ByteArray} (h1 : nameP s ≠ none) (h2 : valuedP s = true) (hl : ls.length < 64) : (lineP code ls s false 0).2.2 = ls ++ [s] := by
  have hb : httpP s = false := by cases e : httpP s with | false => rfl | true => exact absurd (http_noname e) h1
  unfold lineP
  rw [if_neg (by simp), if_neg (by rw [hb]; simp), if_neg (by rintro (e | e) <;> first | exact h1 e | (rw [h2] at e; cases e))]
  simp only [Bool.false_eq_true, if_false]
  rw [if_neg (by omega)]
theorem lineP_rep {code : Int} {ls : List ByteArray} {s : ByteArray} (h1 : nameP s ≠ none) (h : (lineP code ls s true 0).1 = 0) : (lineP code ls s true 0).2.2 = dropP (str (nameV s)) ls ++ [s] ∧ valuedP s = true := by
  have hb : httpP s = false := by cases e : httpP s with | false => rfl | true => exact absurd (http_noname e) h1
  revert h
  unfold lineP
  rw [if_neg (by simp), if_neg (by rw [hb]; simp)]
  split
  · intro h; cases h
  · rename_i hf
    have h2 : valuedP s = true := by cases e : valuedP s with | true => rfl | false => exact absurd (.inr e) hf
    simp only [if_true]
    split
    · intro h; cases h
    · intro _; exact ⟨rfl, h2⟩
theorem smallL_rname (s : ByteArray) : smallL (rnameP s) = nameV s := by
  rw [nameP_rname]
  exact smallL_ascii (fun c hc => nameC_ascii (rname_all s c hc))
theorem drop_twice (s : ByteArray) (ls : List ByteArray) : dropP (str (nameV s)) (dropP (str (nameV s)) ls ++ [s]) = dropP (str (nameV s)) ls := by
  have hs : isN (str (nameV s)) s = true := by unfold isN; simp
  unfold dropP
  rw [List.filter_append, List.filter_filter]
  simp [hs]
end Go.Proofs.YthnhpnmopjbaoaaDoor
