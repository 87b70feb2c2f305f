/-
  Texts of numbers, said plainly: which texts are, with which number one begins, and the digits of a number. Of no program.
  The walk of the document's Digits. Printed by genDig21.py.
  The digits of a number, with blanks around: the plain law.
-/
import Derived.Test.YtnaefnojmiolbaaGreatDoorJp2
import Derived.Lib.ParseIntBTie
import Derived.Lib.SlTrimSet
import Derived.Lib.ItoaMem
import Derived.Test.YtnaefnojmiolbaaGreatDoorRows
import Derived.Lib.ItoaLen
namespace Go.Proofs.YtnaefnojmiolbaaGreatDoor

def isBlank (c : UInt8) : Bool := c.toNat == 32 || (decide (9 ≤ c.toNat) && decide (c.toNat ≤ 13))
def isDig (c : UInt8) : Bool := decide (48 ≤ c.toNat) && decide (c.toNat ≤ 57)
def trimB (l : Bs) : Bs := l.dropWhile isBlank
theorem isDig_iff (c : UInt8) : isDig c = true ↔ 48 ≤ c.toNat ∧ c.toNat ≤ 57 := by simp [isDig]
theorem isBlank_iff (c : UInt8) : isBlank c = true ↔ c.toNat = 32 ∨ (9 ≤ c.toNat ∧ c.toNat ≤ 13) := by simp [isBlank]
theorem u8_eq {a b : UInt8} : a = b ↔ a.toNat = b.toNat := ⟨fun h => by rw [h], fun h => UInt8.toNat_inj.1 h⟩
theorem blank_set (c : UInt8) : ([32, 9, 10, 11, 12, 13] : Bs).contains c = isBlank c := by
  rw [Bool.eq_iff_iff, isBlank_iff]
  simp only [List.contains_eq_mem, List.mem_cons, List.not_mem_nil, or_false, decide_eq_true_eq, u8_eq]
  have h : (32 : UInt8).toNat = 32 ∧ (9 : UInt8).toNat = 9 ∧ (10 : UInt8).toNat = 10 ∧ (11 : UInt8).toNat = 11 ∧ (12 : UInt8).toNat = 12 ∧ (13 : UInt8).toNat = 13 := by decide
  omega
theorem trimB_lib (l : Bs) : Lib.trimLeftS l [32, 9, 10, 11, 12, 13] = trimB l := by
  unfold Lib.trimLeftS trimB
  congr 1
  funext c
  exact blank_set c

def signLen (l : Bs) : Nat := match l with | c :: _ => if c.toNat = 45 ∨ c.toNat = 43 then 1 else 0 | [] => 0
def isNeg (l : Bs) : Bool := match l with | c :: _ => decide (c.toNat = 45) | [] => false
def digs (l : Bs) : Bs := (l.drop (signLen l)).takeWhile isDig
def dec (acc : Nat) (ds : Bs) : Nat := ds.foldl (fun a c => a * 10 + (c.toNat - 48)) acc
/-- Held within what numbers can be. -/
def sat (n : Bool) (u : Nat) : Int := if n then (if 9223372036854775808 < u then -9223372036854775808 else -(u : Int)) else (if 9223372036854775808 ≤ u then 9223372036854775807 else (u : Int))
/-- The number that a text begins with, and what stands behind it and its blanks. -/
def numOf (l : Bs) : Option (Int × Bs) :=
  if digs (trimB l) = [] then none else some (sat (isNeg (trimB l)) (dec 0 (digs (trimB l))), trimB ((trimB l).drop (signLen (trimB l) + (digs (trimB l)).length)))
def numericP (l : Bs) : Int × Bool := match numOf l with | some (n, []) => (n, true) | _ => (0, false)
def beginsP (l : Bs) : Int := match numOf l with | some (n, _) => n | none => 0

theorem dec_ge : ∀ (ds : Bs) (acc : Nat), acc ≤ dec acc ds
  | [], _ => Nat.le_refl _
  | c :: r, acc => by
    have := dec_ge r (acc * 10 + (c.toNat - 48))
    show acc ≤ dec (acc * 10 + (c.toNat - 48)) r
    omega
theorem dec_snoc (ds : Bs) (c : UInt8) (acc : Nat) : dec acc (ds ++ [c]) = dec acc ds * 10 + (c.toNat - 48) := by unfold dec; rw [List.foldl_append]; rfl
theorem dec_append (a b : Bs) (acc : Nat) : dec acc (a ++ b) = dec (dec acc a) b := by unfold dec; rw [List.foldl_append]

theorem parse_digs : ∀ (ds : Bs) (acc : Nat), (∀ c ∈ ds, isDig c = true) → (dec acc ds < 18446744073709551616 → Lib.parseUint10 acc ds = .ok (dec acc ds)) ∧ (18446744073709551616 ≤ dec acc ds → acc < 18446744073709551616 → Lib.parseUint10 acc ds = .range)
  | [], acc, _ => ⟨fun _ => rfl, fun h h' => by have : dec acc [] = acc := rfl; omega⟩
  | c :: r, acc, h => by
    have hc := (isDig_iff c).1 (h c (by simp))
    have hr : ∀ x ∈ r, isDig x = true := fun x hx => h x (by simp [hx])
    obtain ⟨h1, h2⟩ := parse_digs r (acc * 10 + (c.toNat - 48)) hr
    have hg := dec_ge r (acc * 10 + (c.toNat - 48))
    have hd : dec acc (c :: r) = dec (acc * 10 + (c.toNat - 48)) r := rfl
    rw [hd]
    unfold Lib.parseUint10
    rw [if_pos hc]
    refine ⟨fun hlt => ?_, fun hge hacc => ?_⟩
    · rw [if_neg (by omega), if_neg (by omega)]
      exact h1 hlt
    · by_cases ha : 1844674407370955162 ≤ acc
      · rw [if_pos ha]
      · rw [if_neg ha]
        by_cases hb : 18446744073709551616 ≤ acc * 10 + (c.toNat - 48)
        · rw [if_pos hb]
        · rw [if_neg hb]
          exact h2 hge (by omega)

def numVal (e : Lib.NumEnd Int) (r : Int) : Int := match e with | .ok v => v | .range => r | _ => 0
/-- What ParseInt tells as a number, whatever the error. -/
def valueP (l : Bs) : Int := numVal (Lib.parseIntB 64 l) (Lib.intSat 64 l)

theorem mag_digs {ds : Bs} (h : ∀ c ∈ ds, isDig c = true) (hne : ds ≠ []) : Lib.parseMag ds = if dec 0 ds < 18446744073709551616 then .ok (dec 0 ds) else .range := by
  unfold Lib.parseMag
  rw [if_neg hne]
  obtain ⟨h1, h2⟩ := parse_digs ds 0 h
  split
  · rename_i hlt; exact h1 hlt
  · rename_i hge; exact h2 (by omega) (by decide)
theorem value_plain {ds : Bs} (h : ∀ c ∈ ds, isDig c = true) (hne : ds ≠ []) : valueP ds = sat false (dec 0 ds) := by
  unfold valueP
  rw [Lib.parseIntB_64, Lib.intSat_64]
  obtain ⟨c, r, rfl⟩ := List.exists_cons_of_ne_nil hne
  have hc := (isDig_iff c).1 (h c (by simp))
  rw [Lib.atoiAll_plain c r (by omega) (by omega), mag_digs h hne, Lib.atoiSat_other c r (by omega)]
  unfold sat
  simp only [Bool.false_eq_true, if_false]
  by_cases hlt : dec 0 (c :: r) < 18446744073709551616
  · rw [if_pos hlt]
    show (numVal ((if 9223372036854775808 ≤ dec 0 (c :: r) then Lib.NumEnd.range else Lib.NumEnd.ok ((dec 0 (c :: r) : Nat) : Int))) ((9223372036854775807 : Int))) = _
    by_cases hm : 9223372036854775808 ≤ dec 0 (c :: r)
    · rw [if_pos hm, if_pos hm]; rfl
    · rw [if_neg hm, if_neg hm]; rfl
  · rw [if_neg hlt, if_pos (by omega)]; rfl
theorem value_plus {ds : Bs} (h : ∀ c ∈ ds, isDig c = true) (hne : ds ≠ []) : valueP (43 :: ds) = sat false (dec 0 ds) := by
  unfold valueP
  rw [Lib.parseIntB_64, Lib.intSat_64, Lib.atoiAll_plus, mag_digs h hne, Lib.atoiSat_other 43 ds (by decide)]
  unfold sat
  simp only [Bool.false_eq_true, if_false]
  by_cases hlt : dec 0 ds < 18446744073709551616
  · rw [if_pos hlt]
    show (numVal ((if 9223372036854775808 ≤ dec 0 ds then Lib.NumEnd.range else Lib.NumEnd.ok ((dec 0 ds : Nat) : Int))) ((9223372036854775807 : Int))) = _
    by_cases hm : 9223372036854775808 ≤ dec 0 ds
    · rw [if_pos hm, if_pos hm]; rfl
    · rw [if_neg hm, if_neg hm]; rfl
  · rw [if_neg hlt, if_pos (by omega)]; rfl
theorem value_minus {ds : Bs} (h : ∀ c ∈ ds, isDig c = true) (hne : ds ≠ []) : valueP (45 :: ds) = sat true (dec 0 ds) := by
  unfold valueP
  rw [Lib.parseIntB_64, Lib.intSat_64, Lib.atoiAll_minus, mag_digs h hne, Lib.atoiSat_minus ds]
  unfold sat
  simp only [if_true]
  by_cases hlt : dec 0 ds < 18446744073709551616
  · rw [if_pos hlt]
    show (numVal ((if 9223372036854775808 < dec 0 ds then Lib.NumEnd.range else Lib.NumEnd.ok (-((dec 0 ds : Nat) : Int)))) ((-9223372036854775808 : Int))) = _
    by_cases hm : 9223372036854775808 < dec 0 ds
    · rw [if_pos hm, if_pos hm]; rfl
    · rw [if_neg hm, if_neg hm]; rfl
  · rw [if_neg hlt, if_pos (by omega)]; rfl

theorem takeWhile_all {p : UInt8 → Bool} (l : Bs) : ∀ c ∈ l.takeWhile p, p c = true := by
  intro c hc
  induction l with
  | nil => cases hc
  | cons a r ih =>
    rw [List.takeWhile_cons] at hc
    split at hc
    · rcases List.mem_cons.1 hc with h | h
      · subst h; assumption
      · exact ih h
    · cases hc
theorem digs_all (l : Bs) : ∀ c ∈ digs l, isDig c = true := takeWhile_all _
theorem takeWhile_take {p : UInt8 → Bool} (l : Bs) : l.take (l.takeWhile p).length = l.takeWhile p := by
  induction l with
  | nil => rfl
  | cons a r ih =>
    rw [List.takeWhile_cons]
    split
    · rw [List.length_cons, List.take_succ_cons, ih]
    · rfl
/-- The number's own text reads as the number. -/
theorem value_head (s : Bs) (h : digs s ≠ []) : valueP (s.take (signLen s + (digs s).length)) = sat (isNeg s) (dec 0 (digs s)) := by
  cases s with
  | nil => exact absurd rfl h
  | cons c r =>
    by_cases h45 : c.toNat = 45
    · have e1 : signLen (c :: r) = 1 := by unfold signLen; simp [h45]
      have e2 : isNeg (c :: r) = true := by unfold isNeg; simp [h45]
      have e3 : digs (c :: r) = r.takeWhile isDig := by unfold digs; rw [e1]; rfl
      have e4 : c = 45 := u8_eq.2 h45
      rw [e1, e2, e3, Nat.add_comm, List.take_succ_cons, takeWhile_take, e4]
      exact value_minus (takeWhile_all r) (by rw [← e3]; exact h)
    · by_cases h43 : c.toNat = 43
      · have e1 : signLen (c :: r) = 1 := by unfold signLen; simp [h43]
        have e2 : isNeg (c :: r) = false := by unfold isNeg; simp [h45]
        have e3 : digs (c :: r) = r.takeWhile isDig := by unfold digs; rw [e1]; rfl
        have e4 : c = 43 := u8_eq.2 h43
        rw [e1, e2, e3, Nat.add_comm, List.take_succ_cons, takeWhile_take, e4]
        exact value_plus (takeWhile_all r) (by rw [← e3]; exact h)
      · have e1 : signLen (c :: r) = 0 := by unfold signLen; simp [h43, h45]
        have e2 : isNeg (c :: r) = false := by unfold isNeg; simp [h45]
        have e3 : digs (c :: r) = (c :: r).takeWhile isDig := by unfold digs; rw [e1]; rfl
        rw [e1, e2, e3, Nat.zero_add, takeWhile_take]
        exact value_plain (takeWhile_all _) (by rw [← e3]; exact h)

/-! The document's way: a number held at each digit. -/
theorem sat_step_pos {u d : Nat} (hd : d ≤ 9) (hu : sat false u ≠ 9223372036854775807) :
    (if sat false u > (9223372036854775807 - (d : Int)).tdiv 10 then 9223372036854775807 else sat false u * 10 + d) = sat false (u * 10 + d) := by
  have hu' : u < 9223372036854775807 := by
    unfold sat at hu
    simp only [Bool.false_eq_true, if_false] at hu
    split at hu
    · exact absurd rfl hu
    · omega
  have e : sat false u = u := by unfold sat; simp only [Bool.false_eq_true, if_false]; rw [if_neg (by omega)]
  have ht : (9223372036854775807 - (d : Int)).tdiv 10 = (9223372036854775807 - (d : Int)) / 10 := Int.tdiv_eq_ediv_of_nonneg (by omega)
  rw [e, ht]
  unfold sat
  simp only [Bool.false_eq_true, if_false]
  by_cases h : (u : Int) > (9223372036854775807 - (d : Int)) / 10
  · rw [if_pos h, if_pos (by omega)]
  · rw [if_neg h, if_neg (by omega)]; omega
theorem sat_step_neg {u d : Nat} (hd : d ≤ 9) (hu : sat true u ≠ -9223372036854775808) :
    (if sat true u < (-9223372036854775808 + (d : Int)).tdiv 10 then -9223372036854775808 else sat true u * 10 - d) = sat true (u * 10 + d) := by
  have hu' : u < 9223372036854775808 := by
    unfold sat at hu
    simp only [if_true] at hu
    split at hu
    · exact absurd rfl hu
    · omega
  have e : sat true u = -(u : Int) := by unfold sat; simp only [if_true]; rw [if_neg (by omega)]
  have ht : (-9223372036854775808 + (d : Int)).tdiv 10 = -((9223372036854775808 - (d : Int)) / 10) := by
    rw [show -9223372036854775808 + (d : Int) = -(9223372036854775808 - (d : Int)) by omega, Int.neg_tdiv, Int.tdiv_eq_ediv_of_nonneg (by omega)]
  rw [e, ht]
  unfold sat
  simp only [if_true]
  by_cases h : -(u : Int) < -((9223372036854775808 - (d : Int)) / 10)
  · rw [if_pos h]
    split <;> omega
  · rw [if_neg h, if_neg (by omega)]; omega
theorem sat_stuck {n : Bool} {u : Nat} (h : sat n u = -9223372036854775808 ∨ sat n u = 9223372036854775807) (r : Bs) : sat n (dec u r) = sat n u := by
  have hg := dec_ge r u
  unfold sat at h ⊢
  cases n with
  | true =>
    simp only [if_true] at h ⊢
    have : 9223372036854775808 ≤ u := by
      rcases h with h | h
      · split at h <;> omega
      · split at h <;> omega
    split <;> split <;> omega
  | false =>
    simp only [Bool.false_eq_true, if_false] at h ⊢
    have : 9223372036854775807 ≤ u := by
      rcases h with h | h
      · split at h <;> omega
      · split at h <;> omega
    split <;> split <;> omega

/-! The digits. -/
def digitsP (u : Nat) : Bs := if u = 0 then [] else Lib.decDigits u
theorem digitsP_step {u : Nat} (h : u ≠ 0) : digitsP u = digitsP (u / 10) ++ [UInt8.ofNat (48 + u % 10)] := by
  unfold digitsP
  rw [if_neg h]
  by_cases h10 : u < 10
  · rw [if_pos (by omega), Lib.decDigits, dif_pos h10, Nat.mod_eq_of_lt h10]; rfl
  · rw [if_neg (by omega), Lib.decDigits, dif_neg h10]
theorem ofNat_toNat {k : Nat} (h : k < 256) : (UInt8.ofNat k).toNat = k := by rw [UInt8.toNat_ofNat']; omega
theorem decDigits_dig (u : Nat) : ∀ c ∈ Lib.decDigits u, isDig c = true := by
  induction u using Nat.strongRecOn with
  | _ u ih =>
    rw [Lib.decDigits]
    split
    · intro c hc; rw [List.mem_singleton.1 hc, isDig_iff, ofNat_toNat (by omega)]; omega
    · intro c hc
      rcases List.mem_append.1 hc with h | h
      · exact ih (u / 10) (by omega) c h
      · rw [List.mem_singleton.1 h, isDig_iff, ofNat_toNat (by omega)]; omega
theorem decDigits_dec (u : Nat) : dec 0 (Lib.decDigits u) = u := by
  induction u using Nat.strongRecOn with
  | _ u ih =>
    rw [Lib.decDigits]
    split
    · show 0 * 10 + ((UInt8.ofNat (48 + u)).toNat - 48) = u
      rw [ofNat_toNat (by omega)]; omega
    · rw [dec_snoc, ih (u / 10) (by omega), ofNat_toNat (by omega)]; omega
theorem decDigits_ne (u : Nat) : Lib.decDigits u ≠ [] := by
  rw [Lib.decDigits]
  split
  · simp
  · simp
end Go.Proofs.YtnaefnojmiolbaaGreatDoor

namespace Go.Proofs.YtnaefnojmiolbaaGreatDoor
open Go.RowKit

theorem wrap_in {x : Int} (h0 : -9223372036854775808 ≤ x) (h1 : x ≤ 9223372036854775807) : IntKind.i64.wrap x = x := by rw [IntKind.wrap_i64]; omega
theorem ret_int {k : IntKind} {a b : Int} (h : a = b) : Ending.returned (.int k a) = .returned (.int k b) := by rw [h]

theorem info5 : (Tryz.prog.info? 5).map (fun i => (i.zero, i.size, i.bytes)) = some (some (.int .u8 0), 1, 1) := by kernel_rfl
theorem digitsP_len (u : Nat) : (digitsP u).length ≤ Lib.nDigits u := by
  unfold digitsP
  split
  · simp
  · rw [Lib.decDigits_length]; exact Nat.le_refl _

theorem owns_one (w : World) (x : Value) (t : TypeId) (hx : x.oneCell' = true) : Owns (w.alloc (.cells #[x] t)) t 1 (.slice (some ⟨w.heap.size, 0, none⟩) 1 1) [[x]] :=
  ⟨⟨rfl, .inr ⟨w.heap.size, 1, #[x], rfl, Nat.zero_le _, heap_alloc_new w _, Nat.le_refl _, by decide, rfl, rfl⟩⟩, fun r hr => by rw [List.mem_singleton.1 hr]; rfl, fun r hr u hu => by rw [List.mem_singleton.1 hr] at hu; rw [List.mem_singleton.1 hu]; exact hx⟩
theorem digits_short {n : Int} (h0 : -9223372036854775808 ≤ n) (h1 : n ≤ 9223372036854775807) : (digitsP n.natAbs).length ≤ 21 := by
  have h := Lib.itoa_length_le n h0 h1
  unfold Lib.itoa at h
  unfold digitsP
  split
  · simp
  · split at h
    · simp only [List.length_cons] at h; omega
    · rename_i hn; rw [show n.natAbs = n.toNat by omega]; exact h
theorem bRows_cons (x : UInt8) (b : Bs) : bRows (x :: b) = [.int .u8 x.toNat] :: bRows b := rfl
theorem bRows_nil : bRows [] = [] := rfl

/-- The digits that are still to come, and those that have come. -/
def DigRel (W wr : World) (u v : Nat) (bv : Value) : Prop := ∃ b : Bs, digitsP u = digitsP v ++ b ∧ OwnsB wr 5 bv b ∧ Below W.heap.size W wr

/-- A text that is told; nothing that was there has turned. -/
def TextPost (W : World) (l : Bs) (e : Ending) (w' : World) : Prop := e = .returned (.string (str l)) ∧ Below W.heap.size W w'

set_option maxHeartbeats 3200000 in
theorem rdigits_pos (n : Int) (h1 : n ≤ 9223372036854775807) (hu : 0 < n) (w : World) :
    Calls Tryz.prog 61 #[.int .i64 n] w (TextPost w (Lib.itoa n)) := by
  generalize hres : Lib.itoa n = res
  have HRES := Lib.hid hres
  clear hres
  have hz : (n == 0) = false := by simp; omega
  obtain ⟨u, hun⟩ : ∃ u : Nat, n = (u : Int) := ⟨n.toNat, by omega⟩
  have HUN := Lib.hid hun
  have hlen := Lib.hid (digits_short (n := n) (by omega) h1)
  have hnn : decide (n < 0) = false := by simp; omega
  clear hun
  go_enter Tryz.func61, Tryz.ntmps61
  go_wp2_with fail
  go_loopw [3, 4] (fun bv mv wr => ∃ (m : Int) (v : Nat), 0 ≤ m ∧ m ≤ 9223372036854775807 ∧ mv = .int .i64 m ∧ Hid (m = (v : Int)) ∧ DigRel w wr u v bv) (fun _ mv _ => (intOf mv).toNat)
  case atStart => exact ⟨n, u, by omega, h1, rfl, HUN, [], by simp, Owns.empty _ _ _, Below.refl _ _⟩
  case round =>
    obtain ⟨m, v, hm0, hv, rfl, hmv, b, hb, ho, bl⟩ := hrel
    have HB := Lib.hid hb
    have HO := Lib.hid ho
    have BL := Lib.hid bl
    obtain ⟨ao, cap, rfl, hlc, hcm, hno, -⟩ := ho.any
    by_cases h0 : m = 0
    · have hv1 : (m != 0) = false := by simp [h0]
      have hconv := run_back (P := Tryz.prog) (src := 54) (dst := 9) ho Tryz.underlying54 Tryz.underlying5 Tryz.underlying9
      have HS : Hid (str b = str res) := by
        show _ = _
        have hv0 : v = 0 := by have := hmv.out; omega
        have hun := HUN.out
        have : b = res := by
          have e : digitsP v = [] := by rw [hv0]; rfl
          rw [e, List.nil_append] at hb
          rw [← hb, ← HRES.out, hun, Lib.itoa_nonneg]
          unfold digitsP
          rw [if_neg (by omega)]
        rw [this]
      clear ho hb hno bl hv h1 hlc hcm h0
      go_wp2
      go_ret
      exact ⟨by rw [← HS.out]; rfl, BL.out⟩
    · have hv0 : (m != 0) = true := by simp [h0]
      have hmv' := hmv.out
      have hd := digitsP_step (u := v) (by omega)
      have hm1 : (0 : Int) ≤ m % 10 := by omega
      have hm2 : m % 10 ≤ 9 := by omega
      have hu8 : IntKind.u8.wrap (48 + m % 10) = 48 + m % 10 := by unfold IntKind.wrap; simp [IntKind.bits]; omega
      obtain ⟨x, hx⟩ : ∃ x : UInt8, x = UInt8.ofNat (48 + v % 10) := ⟨_, rfl⟩
      have hxn : (x.toNat : Int) = 48 + m % 10 := by rw [hx, ofNat_toNat (by omega)]; omega
      have HX := Lib.hid hxn
      have HD : Hid (digitsP u = digitsP (v / 10) ++ (x :: b)) := by show _ = _; rw [hb, hd, hx, List.append_assoc]; rfl
      have HQ : Hid (m / 10 = ((v / 10 : Nat) : Int)) := by show _ = _; omega
      have hbl : b.length ≤ 21 := by
        have := hlen.out
        rw [show n.natAbs = u by have := HUN.out; omega, hb, List.length_append] at this
        omega
      have hOn : Hid (Owns (wr.alloc (.cells #[.int .u8 (48 + m % 10)] 5)) 5 1 (.slice (some ⟨wr.heap.size, 0, none⟩) 1 1) [[.int .u8 (48 + m % 10)]]) := owns_one wr _ 5 rfl
      have hL : Hid (Lies (wr.alloc (.cells #[.int .u8 (48 + m % 10)] 5)) 1 ao (bRows b)) := by
        obtain ⟨ao', cap', hv', _, _, hl, _, _⟩ := Owns.any ho
        simp only [Value.slice.injEq] at hv'
        obtain ⟨rfl, -, -⟩ := hv'
        exact hl.kept fun g off e hg => ⟨Below.heap_alloc _ _ _ hg, by simp; omega⟩
      have n1 : Hid (b.length = (bRows b).length) := (bRows_len b).symm
      have hN : Hid (ao = none → bRows b = [] ∧ cap = 0) := fun e => by obtain ⟨a, c⟩ := hno e; rw [a]; exact ⟨rfl, c⟩
      have r1 : Hid (([[Value.int .u8 (48 + m % 10)]] : List (List Value)).length + (bRows b).length ≤ maxLen) := by show _ ≤ _; unfold maxLen; rw [bRows_len]; simp; omega
      have r2 : Hid ((([[Value.int .u8 (48 + m % 10)]] : List (List Value)).length + (bRows b).length) * 1 ≤ 140737488355328) := by show _ ≤ _; rw [bRows_len]; simp; omega
      clear ho hb hno bl hd hx hxn hlc hcm hmv'
      go_wp2_with (at_builtin; refine wpList_append_rows rfl (.tmp 22) (.tmp 23) 54 rfl 5 _ 1 1 Tryz.underlying54 info5 rfl (by decide) (.slice (some ⟨wr.heap.size, 0, none⟩) 1 1) [[.int .u8 (48 + m % 10)]] rfl hOn.out ao b.length cap (bRows b) rfl n1.out hN.out hL.out (bRows_one _) (bRows_size _) r1.out r2.out ?_; intro v3 w3 o3 g3 b3; have O3 := Lib.hid o3; have G3 := Lib.hid g3; clear o3 g3 b3)
      go_roundw
      case rel =>
        refine ⟨m / 10, v / 10, by omega, by omega, rfl, HQ, x :: b, HD.out, ?_, ?_⟩
        · have := O3.out
          rw [← HX.out] at this
          exact this
        · exact (BL.out.alloc BL.out.size _).grown G3.out (by have := BL.out.size; simp; omega) (fun k e => by cases e; exact BL.out.size)
      case measure => simp [intOf]; omega
set_option maxHeartbeats 3200000 in
theorem rdigits_neg (n : Int) (h1 : -9223372036854775808 ≤ n) (hu : n < 0) (w : World) :
    Calls Tryz.prog 61 #[.int .i64 n] w (TextPost w (Lib.itoa n)) := by
  generalize hres : Lib.itoa n = res
  have HRES := Lib.hid hres
  clear hres
  have hz : (n == 0) = false := by simp; omega
  obtain ⟨u, hun⟩ : ∃ u : Nat, n = -(u : Int) := ⟨n.natAbs, by omega⟩
  have HUN := Lib.hid hun
  have hlen := Lib.hid (digits_short (n := n) h1 (by omega))
  have hnn : decide (n < 0) = true := by simp; omega
  clear hun
  go_enter Tryz.func61, Tryz.ntmps61
  go_wp2_with fail
  go_loopw [3, 4] (fun bv mv wr => ∃ (m : Int) (v : Nat), m ≤ 0 ∧ -9223372036854775808 ≤ m ∧ mv = .int .i64 m ∧ Hid (m = -(v : Int)) ∧ DigRel w wr u v bv) (fun _ mv _ => (-intOf mv).toNat)
  case atStart => exact ⟨n, u, by omega, h1, rfl, HUN, [], by simp, Owns.empty _ _ _, Below.refl _ _⟩
  case round =>
    obtain ⟨m, v, hm0, hv, rfl, hmv, b, hb, ho, bl⟩ := hrel
    have HB := Lib.hid hb
    have HO := Lib.hid ho
    have BL := Lib.hid bl
    obtain ⟨ao, cap, rfl, hlc, hcm, hno, -⟩ := ho.any
    by_cases h0 : m = 0
    · have hv1 : (m != 0) = false := by simp [h0]
      have hconv := run_back (P := Tryz.prog) (src := 54) (dst := 9) ho Tryz.underlying54 Tryz.underlying5 Tryz.underlying9
      have HS : Hid (str [45] ++ str b = str res) := by
        show _ = _
        have hv0 : v = 0 := by have := hmv.out; omega
        have hun := HUN.out
        have : 45 :: b = res := by
          have e : digitsP v = [] := by rw [hv0]; rfl
          rw [e, List.nil_append] at hb
          rw [← hb, ← HRES.out, hun, Lib.itoa_neg u (by omega)]
          unfold digitsP
          rw [if_neg (by omega)]
        rw [str_append, ← this]; rfl
      have hbsz : (str b).size ≤ 21 := by
        have := hlen.out
        rw [show n.natAbs = u by have := HUN.out; omega, hb, List.length_append] at this
        rw [str_size]; omega
      clear ho hb hno bl hv h1 hlc hcm h0
      go_wp2
      go_ret
      exact ⟨by rw [← HS.out]; rfl, BL.out⟩
    · have hv0 : (m != 0) = true := by simp [h0]
      have hmv' := hmv.out
      have hd := digitsP_step (u := v) (by omega)
      obtain ⟨q, hq⟩ : ∃ q : Int, q = (v % 10 : Nat) := ⟨_, rfl⟩
      have ht : m.tmod 10 = -q := by rw [hmv', Int.neg_tmod, Int.tmod_eq_emod_of_nonneg (by omega)]; omega
      have hdv : m.tdiv 10 = -((v / 10 : Nat) : Int) := by rw [hmv', Int.neg_tdiv, Int.tdiv_eq_ediv_of_nonneg (by omega)]; omega
      obtain ⟨m', hm'⟩ : ∃ m' : Int, m' = m.tdiv 10 := ⟨_, rfl⟩
      have HQ : Hid (m' = -((v / 10 : Nat) : Int)) := by show _ = _; rw [hm', hdv]
      have hm1 : m' ≤ 0 := by rw [hm', hdv]; omega
      have hm2 : -9223372036854775808 ≤ m' := by rw [hm', hdv]; omega
      have hm3 : -m' < -m := by rw [hm', hdv, hmv']; omega
      have hq0 : 0 ≤ q := by omega
      have hq9 : q ≤ 9 := by omega
      have hwn : IntKind.i64.wrap (-(-q)) = q := by rw [Int.neg_neg]; exact wrap_in (by omega) (by omega)
      have hu8 : IntKind.u8.wrap (48 + q) = 48 + q := by unfold IntKind.wrap; simp [IntKind.bits]; omega
      obtain ⟨x, hx⟩ : ∃ x : UInt8, x = UInt8.ofNat (48 + v % 10) := ⟨_, rfl⟩
      have hxn : (x.toNat : Int) = 48 + q := by rw [hx, ofNat_toNat (by omega)]; omega
      have HX := Lib.hid hxn
      have HD : Hid (digitsP u = digitsP (v / 10) ++ (x :: b)) := by show _ = _; rw [hb, hd, hx, List.append_assoc]; rfl
      have hbl : b.length ≤ 21 := by
        have := hlen.out
        rw [show n.natAbs = u by have := HUN.out; omega, hb, List.length_append] at this
        omega
      have hOn : Hid (Owns (wr.alloc (.cells #[.int .u8 (48 + q)] 5)) 5 1 (.slice (some ⟨wr.heap.size, 0, none⟩) 1 1) [[.int .u8 (48 + q)]]) := owns_one wr _ 5 rfl
      have hL : Hid (Lies (wr.alloc (.cells #[.int .u8 (48 + q)] 5)) 1 ao (bRows b)) := by
        obtain ⟨ao', cap', hv', _, _, hl, _, _⟩ := Owns.any ho
        simp only [Value.slice.injEq] at hv'
        obtain ⟨rfl, -, -⟩ := hv'
        exact hl.kept fun g off e hg => ⟨Below.heap_alloc _ _ _ hg, by simp; omega⟩
      have n1 : Hid (b.length = (bRows b).length) := (bRows_len b).symm
      have hN : Hid (ao = none → bRows b = [] ∧ cap = 0) := fun e => by obtain ⟨a, c⟩ := hno e; rw [a]; exact ⟨rfl, c⟩
      have r1 : Hid (([[Value.int .u8 (48 + q)]] : List (List Value)).length + (bRows b).length ≤ maxLen) := by show _ ≤ _; unfold maxLen; rw [bRows_len]; simp; omega
      have r2 : Hid ((([[Value.int .u8 (48 + q)]] : List (List Value)).length + (bRows b).length) * 1 ≤ 140737488355328) := by show _ ≤ _; rw [bRows_len]; simp; omega
      have HM' := Lib.hid hm'
      have hm0' : m < 0 := by omega
      clear ho hb hno bl hd hx hxn hlc hcm hmv' hq hdv hm'
      by_cases hqz : q = 0
      · have hn0 : decide (-q < 0) = false := by simp; omega
        have hn1 : -q = q := by omega
        rw [hn1] at ht hn0
        clear hn1 hwn hqz
        go_wp2_with (at_builtin; refine wpList_append_rows rfl (.tmp 22) (.tmp 23) 54 rfl 5 _ 1 1 Tryz.underlying54 info5 rfl (by decide) (.slice (some ⟨wr.heap.size, 0, none⟩) 1 1) [[.int .u8 (48 + q)]] rfl hOn.out ao b.length cap (bRows b) rfl n1.out hN.out hL.out (bRows_one _) (bRows_size _) r1.out r2.out ?_; intro v3 w3 o3 g3 b3; have O3 := Lib.hid o3; have G3 := Lib.hid g3; clear o3 g3 b3)
        go_roundw
        case rel =>
          refine ⟨m', v / 10, hm1, hm2, by rw [HM'.out], HQ, x :: b, HD.out, ?_, ?_⟩
          · have := O3.out
            rw [← HX.out] at this
            exact this
          · exact (BL.out.alloc BL.out.size _).grown G3.out (by have := BL.out.size; simp; omega) (fun k e => by cases e; exact BL.out.size)
        case measure => simp [intOf]; rw [← HM'.out]; omega
      · have hn0 : decide (0 < q) = true := by simp; omega
        have hnn2 : -(-q) = q := Int.neg_neg q
        clear hqz
        go_wp2_with (at_builtin; refine wpList_append_rows rfl (.tmp 22) (.tmp 23) 54 rfl 5 _ 1 1 Tryz.underlying54 info5 rfl (by decide) (.slice (some ⟨wr.heap.size, 0, none⟩) 1 1) [[.int .u8 (48 + q)]] rfl hOn.out ao b.length cap (bRows b) rfl n1.out hN.out hL.out (bRows_one _) (bRows_size _) r1.out r2.out ?_; intro v3 w3 o3 g3 b3; have O3 := Lib.hid o3; have G3 := Lib.hid g3; clear o3 g3 b3)
        go_roundw
        case rel =>
          refine ⟨m', v / 10, hm1, hm2, by rw [HM'.out], HQ, x :: b, HD.out, ?_, ?_⟩
          · have := O3.out
            rw [← HX.out] at this
            exact this
          · exact (BL.out.alloc BL.out.size _).grown G3.out (by have := BL.out.size; simp; omega) (fun k e => by cases e; exact BL.out.size)
        case measure => simp [intOf]; rw [← HM'.out]; omega
theorem itoa_zero : Lib.itoa 0 = [48] := by
  show (if (0 : Int) < 0 then _ else Lib.decDigits 0) = _
  rw [if_neg (by decide), Lib.decDigits_one (by decide)]; rfl
theorem rdigits_zero (w : World) : Calls Tryz.prog 61 #[.int .i64 0] w (TextPost w [48]) := by
  go_enter Tryz.func61, Tryz.ntmps61
  go_wp2
  go_ret
  exact ⟨rfl, Below.refl _ _⟩
/-- The document's digits are the library's. -/
theorem rdigits_any (n : Int) (h0 : -9223372036854775808 ≤ n) (h1 : n ≤ 9223372036854775807) (w : World) : Calls Tryz.prog 61 #[.int .i64 n] w (TextPost w (Lib.itoa n)) := by
  by_cases hn : n < 0
  · exact rdigits_neg n h0 hn w
  · by_cases hz : n = 0
    · subst hz; rw [itoa_zero]; exact rdigits_zero w
    · exact rdigits_pos n h1 (by omega) w
end Go.Proofs.YtnaefnojmiolbaaGreatDoor

namespace Go.Proofs.YtnaefnojmiolbaaGreatDoor

theorem isDig_notBlank {c : UInt8} (h : isDig c = true) : isBlank c = false := by
  have := (isDig_iff c).1 h
  apply Bool.eq_false_iff.2
  intro hb
  have := (isBlank_iff c).1 hb
  omega
theorem dropWhile_allT {p : UInt8 → Bool} : ∀ {a : Bs} (b : Bs), (∀ c ∈ a, p c = true) → (a ++ b).dropWhile p = b.dropWhile p
  | [], _, _ => rfl
  | x :: a, b, h => by
    rw [List.cons_append, List.dropWhile_cons, if_pos (h x (by simp))]
    exact dropWhile_allT b (fun c hc => h c (by simp [hc]))
theorem takeWhile_allT {p : UInt8 → Bool} : ∀ {a : Bs} (b : Bs), (∀ c ∈ a, p c = true) → (a ++ b).takeWhile p = a ++ b.takeWhile p
  | [], _, _ => rfl
  | x :: a, b, h => by
    rw [List.cons_append, List.takeWhile_cons, if_pos (h x (by simp)), List.cons_append, takeWhile_allT b (fun c hc => h c (by simp [hc]))]
/-- No digit at the head. -/
def NoDig (l : Bs) : Prop := l.takeWhile isDig = []
/-- A number's text, blanks ahead, and what no digit begins behind. -/
theorem numOf_text (neg : Bool) (u : Nat) (a b : Bs) (ha : ∀ c ∈ a, isBlank c = true) (hb : NoDig b) :
    numOf (a ++ ((if neg then [45] else []) ++ Lib.decDigits u) ++ b) = some (sat neg u, trimB b) := by
  have hd := decDigits_dig u
  have hne := decDigits_ne u
  obtain ⟨x, r, hx⟩ := List.exists_cons_of_ne_nil hne
  have hx' : isDig x = true := hd x (by rw [hx]; simp)
  have hxi := (isDig_iff x).1 hx'
  have ht : trimB (a ++ ((if neg then [45] else []) ++ Lib.decDigits u) ++ b) = ((if neg then [45] else []) ++ Lib.decDigits u) ++ b := by
    unfold trimB
    rw [List.append_assoc, dropWhile_allT _ ha]
    cases neg
    · simp only [Bool.false_eq_true, if_false, List.nil_append]
      rw [hx, List.cons_append, List.dropWhile_cons, if_neg (by rw [isDig_notBlank hx']; decide)]
    · simp only [if_true]
      rw [List.cons_append, List.cons_append, List.dropWhile_cons, if_neg (by decide)]
  have hs : signLen (((if neg then [45] else []) ++ Lib.decDigits u) ++ b) = (if neg then 1 else 0) := by
    cases neg
    · simp only [Bool.false_eq_true, if_false, List.nil_append]
      rw [hx, List.cons_append]
      show (if x.toNat = 45 ∨ x.toNat = 43 then 1 else 0) = 0
      rw [if_neg (by omega)]
    · rfl
  have hn : isNeg (((if neg then [45] else []) ++ Lib.decDigits u) ++ b) = neg := by
    cases neg
    · simp only [Bool.false_eq_true, if_false, List.nil_append]
      rw [hx, List.cons_append]
      unfold isNeg
      simp; omega
    · rfl
  have hg : digs (((if neg then [45] else []) ++ Lib.decDigits u) ++ b) = Lib.decDigits u := by
    unfold digs
    rw [hs]
    have e : (((if neg then [45] else []) ++ Lib.decDigits u) ++ b).drop (if neg then 1 else 0) = Lib.decDigits u ++ b := by cases neg <;> rfl
    rw [e, takeWhile_allT _ hd, show b.takeWhile isDig = [] from hb, List.append_nil]
  unfold numOf
  rw [ht, hs, hn, hg, if_neg hne, decDigits_dec]
  congr 1
  congr 1
  congr 1
  rw [List.drop_append_of_le_length (by cases neg <;> simp <;> omega)]
  rw [List.drop_of_length_le (by cases neg <;> simp <;> omega)]
  rfl
theorem itoa_form (n : Int) : Lib.itoa n = (if decide (n < 0) then [45] else []) ++ Lib.decDigits n.natAbs := by
  unfold Lib.itoa
  by_cases h : n < 0
  · simp [h]
  · have e : n.toNat = n.natAbs := by omega
    simp [h, e]
theorem sat_natAbs {n : Int} (h0 : -9223372036854775808 ≤ n) (h1 : n ≤ 9223372036854775807) : sat (decide (n < 0)) n.natAbs = n := by
  unfold sat
  by_cases h : n < 0
  · rw [if_pos (by simp [h]), if_neg (by omega)]; omega
  · rw [if_neg (by simp [h]), if_neg (by omega)]; omega
theorem numOf_itoa {n : Int} (h0 : -9223372036854775808 ≤ n) (h1 : n ≤ 9223372036854775807) (a b : Bs) (ha : ∀ c ∈ a, isBlank c = true) (hb : NoDig b) :
    numOf (a ++ Lib.itoa n ++ b) = some (n, trimB b) := by
  rw [itoa_form, numOf_text _ _ a b ha hb, sat_natAbs h0 h1]
theorem trimB_all {b : Bs} (hb : ∀ c ∈ b, isBlank c = true) : trimB b = [] := by
  have := dropWhile_allT (p := isBlank) (a := b) [] hb
  rw [List.append_nil] at this
  exact this
theorem blank_noDig {b : Bs} (hb : ∀ c ∈ b, isBlank c = true) : NoDig b := by
  cases b with
  | nil => rfl
  | cons c r =>
    unfold NoDig
    have h := hb c (by simp)
    have : isDig c = false := by
      apply Bool.eq_false_iff.2
      intro hd
      rw [isDig_notBlank hd] at h
      cases h
    rw [List.takeWhile_cons, if_neg (by rw [this]; decide)]
theorem numeric_itoa {n : Int} (h0 : -9223372036854775808 ≤ n) (h1 : n ≤ 9223372036854775807) (a b : Bs) (ha : ∀ c ∈ a, isBlank c = true) (hb : ∀ c ∈ b, isBlank c = true) :
    numericP (a ++ Lib.itoa n ++ b) = (n, true) := by
  unfold numericP
  rw [numOf_itoa h0 h1 a b ha (blank_noDig hb), trimB_all hb]
theorem numeric_itoa0 {n : Int} (h0 : -9223372036854775808 ≤ n) (h1 : n ≤ 9223372036854775807) : numericP (Lib.itoa n) = (n, true) := by
  have := numeric_itoa h0 h1 [] [] (by simp) (by simp)
  simpa using this
theorem begins_itoa {n : Int} (h0 : -9223372036854775808 ≤ n) (h1 : n ≤ 9223372036854775807) (b : Bs) (hb : NoDig b) : beginsP (Lib.itoa n ++ b) = n := by
  unfold beginsP
  have := numOf_itoa h0 h1 [] b (by simp) hb
  rw [List.nil_append] at this
  rw [this]
end Go.Proofs.YtnaefnojmiolbaaGreatDoor
