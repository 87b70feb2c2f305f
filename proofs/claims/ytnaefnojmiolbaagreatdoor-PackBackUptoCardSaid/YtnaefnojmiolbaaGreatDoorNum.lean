/-
  Texts of numbers, said plainly: which texts are, with which number one begins, and the digits of a number. Of no program.
-/
import Derived.Test.YtnaefnojmiolbaaGreatDoorBytes
import Derived.Lib.ParseIntBTie
import Derived.Lib.SlTrimSet
import Derived.Lib.ItoaMem
namespace Go.Proofs.YtnaefnojmiolbaaGreatDoor

def isBlank (c : UInt8) : Bool := c.toNat == 32 || (decide (9 ≤ c.toNat) && decide (c.toNat ≤ 13))
def isDig (c : UInt8) : Bool := decide (48 ≤ c.toNat) && decide (c.toNat ≤ 57)
def trimB (l : Bs) : Bs := l.dropWhile isBlank
theorem isDig_iff (c : UInt8) : isDig c = true ↔ 48 ≤ c.toNat ∧ c.toNat ≤ 57 := by simp [isDig]
theorem isBlank_iff (c : UInt8) : isBlank c = true ↔ c.toNat = 32 ∨ (9 ≤ c.toNat ∧ c.toNat ≤ 13) := by simp [isBlank]
theorem u8_eq {a b : UInt8} : a = b ↔ a.toNat = b.toNat := ⟨fun h => by rw [h], fun h => UInt8.toNat_inj.1 h⟩
theorem blank_set (c : UInt8) : ([32, 9, 10, 11, 12, 13] : Bs).contains c = isBlank c := by
  rw [Bool.eq_iff_iff, isBlank_iff]
  simp only [List.contains_eq_mem, List.mem_cons, List.not_mem_nil, or_false, decide_eq_true_eq, u8_eq]
  have h : (32 : UInt8).toNat = 32 ∧ (9 : UInt8).toNat = 9 ∧ (10 : UInt8).toNat = 10 ∧ (11 : UInt8).toNat = 11 ∧ (12 : UInt8).toNat = 12 ∧ (13 : UInt8).toNat = 13 := by decide
  omega
theorem trimB_lib (l : Bs) : Lib.trimLeftS l [32, 9, 10, 11, 12, 13] = trimB l := by
  unfold Lib.trimLeftS trimB
  congr 1
  funext c
  exact blank_set c

def signLen (l : Bs) : Nat := match l with | c :: _ => if c.toNat = 45 ∨ c.toNat = 43 then 1 else 0 | [] => 0
def isNeg (l : Bs) : Bool := match l with | c :: _ => decide (c.toNat = 45) | [] => false
def digs (l : Bs) : Bs := (l.drop (signLen l)).takeWhile isDig
def dec (acc : Nat) (ds : Bs) : Nat := ds.foldl (fun a c => a * 10 + (c.toNat - 48)) acc
/-- Held within what numbers can be. -/
def sat (n : Bool) (u : Nat) : Int := if n then (if 9223372036854775808 < u then -9223372036854775808 else -(u : Int)) else (if 9223372036854775808 ≤ u then 9223372036854775807 else (u : Int))
/-- The number that a text begins with, and what stands behind it and its blanks. -/
def numOf (l : Bs) : Option (Int × Bs) :=
  if digs (trimB l) = [] then none else some (sat (isNeg (trimB l)) (dec 0 (digs (trimB l))), trimB ((trimB l).drop (signLen (trimB l) + (digs (trimB l)).length)))
def numericP (l : Bs) : Int × Bool := match numOf l with | some (n, []) => (n, true) | _ => (0, false)
def beginsP (l : Bs) : Int := match numOf l with | some (n, _) => n | none => 0

theorem dec_ge : ∀ (ds : Bs) (acc : Nat), acc ≤ dec acc ds
  | [], _ => Nat.le_refl _
  | c :: r, acc => by
    have := dec_ge r (acc * 10 + (c.toNat - 48))
    show acc ≤ dec (acc * 10 + (c.toNat - 48)) r
    omega
theorem dec_snoc (ds : Bs) (c : UInt8) (acc : Nat) : dec acc (ds ++ [c]) = dec acc ds * 10 + (c.toNat - 48) := by unfold dec; rw [List.foldl_append]; rfl
theorem dec_append (a b : Bs) (acc : Nat) : dec acc (a ++ b) = dec (dec acc a) b := by unfold dec; rw [List.foldl_append]

theorem parse_digs : ∀ (ds : Bs) (acc : Nat), (∀ c ∈ ds, isDig c = true) → (dec acc ds < 18446744073709551616 → Lib.parseUint10 acc ds = .ok (dec acc ds)) ∧ (18446744073709551616 ≤ dec acc ds → acc < 18446744073709551616 → Lib.parseUint10 acc ds = .range)
  | [], acc, _ => ⟨fun _ => rfl, fun h h' => by have : dec acc [] = acc := rfl; omega⟩
  | c :: r, acc, h => by
    have hc := (isDig_iff c).1 (h c (by simp))
    have hr : ∀ x ∈ r, isDig x = true := fun x hx => h x (by simp [hx])
    obtain ⟨h1, h2⟩ := parse_digs r (acc * 10 + (c.toNat - 48)) hr
    have hg := dec_ge r (acc * 10 + (c.toNat - 48))
    have hd : dec acc (c :: r) = dec (acc * 10 + (c.toNat - 48)) r := rfl
    rw [hd]
    unfold Lib.parseUint10
    rw [if_pos hc]
    refine ⟨fun hlt => ?_, fun hge hacc => ?_⟩
    · rw [if_neg (by omega), if_neg (by omega)]
      exact h1 hlt
    · by_cases ha : 1844674407370955162 ≤ acc
      · rw [if_pos ha]
      · rw [if_neg ha]
        by_cases hb : 18446744073709551616 ≤ acc * 10 + (c.toNat - 48)
        · rw [if_pos hb]
        · rw [if_neg hb]
          exact h2 hge (by omega)

def numVal (e : Lib.NumEnd Int) (r : Int) : Int := match e with | .ok v => v | .range => r | _ => 0
/-- What ParseInt tells as a number, whatever the error. -/
def valueP (l : Bs) : Int := numVal (Lib.parseIntB 64 l) (Lib.intSat 64 l)

theorem mag_digs {ds : Bs} (h : ∀ c ∈ ds, isDig c = true) (hne : ds ≠ []) : Lib.parseMag ds = if dec 0 ds < 18446744073709551616 then .ok (dec 0 ds) else .range := by
  unfold Lib.parseMag
  rw [if_neg hne]
  obtain ⟨h1, h2⟩ := parse_digs ds 0 h
  split
  · rename_i hlt; exact h1 hlt
  · rename_i hge; exact h2 (by omega) (by decide)
theorem value_plain {ds : Bs} (h : ∀ c ∈ ds, isDig c = true) (hne : ds ≠ []) : valueP ds = sat false (dec 0 ds) := by
  unfold valueP
  rw [Lib.parseIntB_64, Lib.intSat_64]
  obtain ⟨c, r, rfl⟩ := List.exists_cons_of_ne_nil hne
  have hc := (isDig_iff c).1 (h c (by simp))
  rw [Lib.atoiAll_plain c r (by omega) (by omega), mag_digs h hne, Lib.atoiSat_other c r (by omega)]
  unfold sat
  simp only [Bool.false_eq_true, if_false]
  by_cases hlt : dec 0 (c :: r) < 18446744073709551616
  · rw [if_pos hlt]
    show (numVal ((if 9223372036854775808 ≤ dec 0 (c :: r) then Lib.NumEnd.range else Lib.NumEnd.ok ((dec 0 (c :: r) : Nat) : Int))) ((9223372036854775807 : Int))) = _
    by_cases hm : 9223372036854775808 ≤ dec 0 (c :: r)
    · rw [if_pos hm, if_pos hm]; rfl
    · rw [if_neg hm, if_neg hm]; rfl
  · rw [if_neg hlt, if_pos (by omega)]; rfl
theorem value_plus {ds : Bs} (h : ∀ c ∈ ds, isDig c = true) (hne : ds ≠ []) : valueP (43 :: ds) = sat false (dec 0 ds) := by
  unfold valueP
  rw [Lib.parseIntB_64, Lib.intSat_64, Lib.atoiAll_plus, mag_digs h hne, Lib.atoiSat_other 43 ds (by decide)]
  unfold sat
  simp only [Bool.false_eq_true, if_false]
  by_cases hlt : dec 0 ds < 18446744073709551616
  · rw [if_pos hlt]
    show (numVal ((if 9223372036854775808 ≤ dec 0 ds then Lib.NumEnd.range else Lib.NumEnd.ok ((dec 0 ds : Nat) : Int))) ((9223372036854775807 : Int))) = _
    by_cases hm : 9223372036854775808 ≤ dec 0 ds
    · rw [if_pos hm, if_pos hm]; rfl
    · rw [if_neg hm, if_neg hm]; rfl
  · rw [if_neg hlt, if_pos (by omega)]; rfl
theorem value_minus {ds : Bs} (h : ∀ c ∈ ds, isDig c = true) (hne : ds ≠ []) : valueP (45 :: ds) = sat true (dec 0 ds) := by
  unfold valueP
  rw [Lib.parseIntB_64, Lib.intSat_64, Lib.atoiAll_minus, mag_digs h hne, Lib.atoiSat_minus ds]
  unfold sat
  simp only [if_true]
  by_cases hlt : dec 0 ds < 18446744073709551616
  · rw [if_pos hlt]
    show (numVal ((if 9223372036854775808 < dec 0 ds then Lib.NumEnd.range else Lib.NumEnd.ok (-((dec 0 ds : Nat) : Int)))) ((-9223372036854775808 : Int))) = _
    by_cases hm : 9223372036854775808 < dec 0 ds
    · rw [if_pos hm, if_pos hm]; rfl
    · rw [if_neg hm, if_neg hm]; rfl
  · rw [if_neg hlt, if_pos (by omega)]; rfl

theorem takeWhile_all {p : UInt8 → Bool} (l : Bs) : ∀ c ∈ l.takeWhile p, p c = true := by
  intro c hc
  induction l with
  | nil => cases hc
  | cons a r ih =>
    rw [List.takeWhile_cons] at hc
    split at hc
    · rcases List.mem_cons.1 hc with h | h
      · subst h; assumption
      · exact ih h
    · cases hc
theorem digs_all (l : Bs) : ∀ c ∈ digs l, isDig c = true := takeWhile_all _
theorem takeWhile_take {p : UInt8 → Bool} (l : Bs) : l.take (l.takeWhile p).length = l.takeWhile p := by
  induction l with
  | nil => rfl
  | cons a r ih =>
    rw [List.takeWhile_cons]
    split
    · rw [List.length_cons, List.take_succ_cons, ih]
    · rfl
/-- The number's own text reads as the number. -/
theorem value_head (s : Bs) (h : digs s ≠ []) : valueP (s.take (signLen s + (digs s).length)) = sat (isNeg s) (dec 0 (digs s)) := by
  cases s with
  | nil => exact absurd rfl h
  | cons c r =>
    by_cases h45 : c.toNat = 45
    · have e1 : signLen (c :: r) = 1 := by unfold signLen; simp [h45]
      have e2 : isNeg (c :: r) = true := by unfold isNeg; simp [h45]
      have e3 : digs (c :: r) = r.takeWhile isDig := by unfold digs; rw [e1]; rfl
      have e4 : c = 45 := u8_eq.2 h45
      rw [e1, e2, e3, Nat.add_comm, List.take_succ_cons, takeWhile_take, e4]
      exact value_minus (takeWhile_all r) (by rw [← e3]; exact h)
    · by_cases h43 : c.toNat = 43
      · have e1 : signLen (c :: r) = 1 := by unfold signLen; simp [h43]
        have e2 : isNeg (c :: r) = false := by unfold isNeg; simp [h45]
        have e3 : digs (c :: r) = r.takeWhile isDig := by unfold digs; rw [e1]; rfl
        have e4 : c = 43 := u8_eq.2 h43
        rw [e1, e2, e3, Nat.add_comm, List.take_succ_cons, takeWhile_take, e4]
        exact value_plus (takeWhile_all r) (by rw [← e3]; exact h)
      · have e1 : signLen (c :: r) = 0 := by unfold signLen; simp [h43, h45]
        have e2 : isNeg (c :: r) = false := by unfold isNeg; simp [h45]
        have e3 : digs (c :: r) = (c :: r).takeWhile isDig := by unfold digs; rw [e1]; rfl
        rw [e1, e2, e3, Nat.zero_add, takeWhile_take]
        exact value_plain (takeWhile_all _) (by rw [← e3]; exact h)

/-! The document's way: a number held at each digit. -/
theorem sat_step_pos {u d : Nat} (hd : d ≤ 9) (hu : sat false u ≠ 9223372036854775807) :
    (if sat false u > (9223372036854775807 - (d : Int)).tdiv 10 then 9223372036854775807 else sat false u * 10 + d) = sat false (u * 10 + d) := by
  have hu' : u < 9223372036854775807 := by
    unfold sat at hu
    simp only [Bool.false_eq_true, if_false] at hu
    split at hu
    · exact absurd rfl hu
    · omega
  have e : sat false u = u := by unfold sat; simp only [Bool.false_eq_true, if_false]; rw [if_neg (by omega)]
  have ht : (9223372036854775807 - (d : Int)).tdiv 10 = (9223372036854775807 - (d : Int)) / 10 := Int.tdiv_eq_ediv_of_nonneg (by omega)
  rw [e, ht]
  unfold sat
  simp only [Bool.false_eq_true, if_false]
  by_cases h : (u : Int) > (9223372036854775807 - (d : Int)) / 10
  · rw [if_pos h, if_pos (by omega)]
  · rw [if_neg h, if_neg (by omega)]; omega
theorem sat_step_neg {u d : Nat} (hd : d ≤ 9) (hu : sat true u ≠ -9223372036854775808) :
    (if sat true u < (-9223372036854775808 + (d : Int)).tdiv 10 then -9223372036854775808 else sat true u * 10 - d) = sat true (u * 10 + d) := by
  have hu' : u < 9223372036854775808 := by
    unfold sat at hu
    simp only [if_true] at hu
    split at hu
    · exact absurd rfl hu
    · omega
  have e : sat true u = -(u : Int) := by unfold sat; simp only [if_true]; rw [if_neg (by omega)]
  have ht : (-9223372036854775808 + (d : Int)).tdiv 10 = -((9223372036854775808 - (d : Int)) / 10) := by
    rw [show -9223372036854775808 + (d : Int) = -(9223372036854775808 - (d : Int)) by omega, Int.neg_tdiv, Int.tdiv_eq_ediv_of_nonneg (by omega)]
  rw [e, ht]
  unfold sat
  simp only [if_true]
  by_cases h : -(u : Int) < -((9223372036854775808 - (d : Int)) / 10)
  · rw [if_pos h]
    split <;> omega
  · rw [if_neg h, if_neg (by omega)]; omega
theorem sat_stuck {n : Bool} {u : Nat} (h : sat n u = -9223372036854775808 ∨ sat n u = 9223372036854775807) (r : Bs) : sat n (dec u r) = sat n u := by
  have hg := dec_ge r u
  unfold sat at h ⊢
  cases n with
  | true =>
    simp only [if_true] at h ⊢
    have : 9223372036854775808 ≤ u := by
      rcases h with h | h
      · split at h <;> omega
      · split at h <;> omega
    split <;> split <;> omega
  | false =>
    simp only [Bool.false_eq_true, if_false] at h ⊢
    have : 9223372036854775807 ≤ u := by
      rcases h with h | h
      · split at h <;> omega
      · split at h <;> omega
    split <;> split <;> omega

/-! The digits. -/
def digitsP (u : Nat) : Bs := if u = 0 then [] else Lib.decDigits u
theorem digitsP_step {u : Nat} (h : u ≠ 0) : digitsP u = digitsP (u / 10) ++ [UInt8.ofNat (48 + u % 10)] := by
  unfold digitsP
  rw [if_neg h]
  by_cases h10 : u < 10
  · rw [if_pos (by omega), Lib.decDigits, dif_pos h10, Nat.mod_eq_of_lt h10]; rfl
  · rw [if_neg (by omega), Lib.decDigits, dif_neg h10]
theorem ofNat_toNat {k : Nat} (h : k < 256) : (UInt8.ofNat k).toNat = k := by rw [UInt8.toNat_ofNat']; omega
theorem decDigits_dig (u : Nat) : ∀ c ∈ Lib.decDigits u, isDig c = true := by
  induction u using Nat.strongRecOn with
  | _ u ih =>
    rw [Lib.decDigits]
    split
    · intro c hc; rw [List.mem_singleton.1 hc, isDig_iff, ofNat_toNat (by omega)]; omega
    · intro c hc
      rcases List.mem_append.1 hc with h | h
      · exact ih (u / 10) (by omega) c h
      · rw [List.mem_singleton.1 h, isDig_iff, ofNat_toNat (by omega)]; omega
theorem decDigits_dec (u : Nat) : dec 0 (Lib.decDigits u) = u := by
  induction u using Nat.strongRecOn with
  | _ u ih =>
    rw [Lib.decDigits]
    split
    · show 0 * 10 + ((UInt8.ofNat (48 + u)).toNat - 48) = u
      rw [ofNat_toNat (by omega)]; omega
    · rw [dec_snoc, ih (u / 10) (by omega), ofNat_toNat (by omega)]; omega
theorem decDigits_ne (u : Nat) : Lib.decDigits u ≠ [] := by
  rw [Lib.decDigits]
  split
  · simp
  · simp
end Go.Proofs.YtnaefnojmiolbaaGreatDoor
