/-
  The walk of the document's begin.
  The walks of the document's chapter 8: left, Few, Count, may, Right, alike, Same, where the answer is yes.
  The walks of the document's alike, Same, Find, may, Right, where the answer is yes.
  The walk of the document's Right, where the answer is yes.
  The walk of the document's Same of graphs, where the answer is yes.
-/
import Derived.Test.YtnaefnojmiolbaaGreatDoorRightZ
import Derived.Deep.Cut
import Derived.Test.YtnaefnojmiolbaaGreatDoorRawZ
import Derived.Test.YtnaefnojmiolbaaGreatDoorPackAllZ
import Derived.Test.YtnaefnojmiolbaaGreatDoorBackPZ
namespace Go.Proofs.YtnaefnojmiolbaaGreatDoor.Doc
open Go.RowKit

theorem dropWhile_le {p : UInt8 → Bool} : ∀ (l : Bs), (l.dropWhile p).length ≤ l.length
  | [] => Nat.le_refl _
  | c :: r => by
    rw [List.dropWhile_cons]
    split
    · have := dropWhile_le (p := p) r; rw [List.length_cons]; omega
    · exact Nat.le_refl _
theorem rblank_any (c : UInt8) (w : World) : Calls Tryz.prog 142 #[.int .u8 c.toNat] w fun e w' => e = .returned (.bool (isBlank c)) ∧ w = w' := by
  have hc : c.toNat < 256 := c.toNat_lt
  obtain ⟨n, hn⟩ : ∃ n, n = c.toNat := ⟨_, rfl⟩
  have hb : isBlank c = (decide (n = 32) || (decide (9 ≤ n) && decide (n ≤ 13))) := by unfold isBlank; rw [hn]; rw [show (c.toNat == 32) = decide (c.toNat = 32) from rfl]
  rw [hb, ← hn]
  rw [← hn] at hc
  clear hb hn
  obtain ⟨r, hr⟩ : ∃ r, r = (decide (n = 32) || (decide (9 ≤ n) && decide (n ≤ 13))) := ⟨_, rfl⟩
  rw [← hr]
  by_cases h1 : n = 32
  · obtain rfl : r = true := by rw [hr]; simp [h1]
    have e1 : ((n : Int) == 32) = true := by simp [h1]
    clear hr h1
    go_enter Tryz.func142, Tryz.ntmps142
    go_wp2
    go_ret
    exact ⟨rfl, rfl⟩
  · have e1 : ((n : Int) == 32) = false := by simp; omega
    by_cases h2 : 9 ≤ n
    · by_cases h3 : n ≤ 13
      · obtain rfl : r = true := by rw [hr]; simp [h2, h3]
        have e3 : decide ((n : Int) ≤ 13) = true := by simp; omega
        clear hr h1
        go_enter Tryz.func142, Tryz.ntmps142
        go_wp2
        go_ret
        exact ⟨rfl, rfl⟩
      · obtain rfl : r = false := by rw [hr]; simp [h1, h3]
        have e3 : decide ((n : Int) ≤ 13) = false := by simp; omega
        clear hr h1
        go_enter Tryz.func142, Tryz.ntmps142
        go_wp2
        go_ret
        exact ⟨rfl, rfl⟩
    · obtain rfl : r = false := by rw [hr]; simp [h1, h2]
      have e3 : decide (9 ≤ (n : Int)) = false := by simp; omega
      clear hr h1
      go_enter Tryz.func142, Tryz.ntmps142
      go_wp2
      go_ret
      exact ⟨rfl, rfl⟩
theorem rdigit_any (c : UInt8) (w : World) : Calls Tryz.prog 143 #[.int .u8 c.toNat] w fun e w' => e = .returned (.bool (isDig c)) ∧ w = w' := by
  have hc : c.toNat < 256 := c.toNat_lt
  obtain ⟨n, hn⟩ : ∃ n, n = c.toNat := ⟨_, rfl⟩
  have hb : isDig c = (decide (48 ≤ n) && decide (n ≤ 57)) := by unfold isDig; rw [hn]
  rw [hb, ← hn]
  rw [← hn] at hc
  clear hb hn
  obtain ⟨r, hr⟩ : ∃ r, r = (decide (48 ≤ n) && decide (n ≤ 57)) := ⟨_, rfl⟩
  rw [← hr]
  by_cases h2 : 48 ≤ n
  · by_cases h3 : n ≤ 57
    · obtain rfl : r = true := by rw [hr]; simp [h2, h3]
      have e3 : decide ((n : Int) ≤ 57) = true := by simp; omega
      clear hr
      go_enter Tryz.func143, Tryz.ntmps143
      go_wp2
      go_ret
      exact ⟨rfl, rfl⟩
    · obtain rfl : r = false := by rw [hr]; simp [h3]
      have e3 : decide ((n : Int) ≤ 57) = false := by simp; omega
      clear hr
      go_enter Tryz.func143, Tryz.ntmps143
      go_wp2
      go_ret
      exact ⟨rfl, rfl⟩
  · obtain rfl : r = false := by rw [hr]; simp [h2]
    have e3 : decide (48 ≤ (n : Int)) = false := by simp; omega
    clear hr
    go_enter Tryz.func143, Tryz.ntmps143
    go_wp2
    go_ret
    exact ⟨rfl, rfl⟩
theorem bl_eq (s : ByteArray) : s.toList = s.data.toList := ByteArray.toList_eq s
theorem at_some (s : ByteArray) {k : Nat} (hk : k < s.size) : s.toList[k]? = some s[k] := by
  rw [bl_eq]
  have h : k < s.data.toList.length := by rw [Array.length_toList]; exact hk
  rw [List.getElem?_eq_getElem h]
  rfl
theorem drop_at (s : ByteArray) {k : Nat} (hk : k < s.size) : s.toList.drop k = s[k] :: s.toList.drop (k + 1) := by
  have h : k < s.toList.length := by rw [size_toList]; exact hk
  rw [List.drop_eq_getElem_cons h]
  congr 1
  have := at_some s hk
  rw [List.getElem?_eq_getElem h] at this
  exact Option.some.inj this
theorem drop_end (s : ByteArray) {k : Nat} (hk : s.size ≤ k) : s.toList.drop k = [] := List.drop_of_length_le (by rw [size_toList]; exact hk)
theorem trimB_cons (c : UInt8) (r : Bs) : trimB (c :: r) = if isBlank c then trimB r else c :: r := by
  unfold trimB
  rw [List.dropWhile_cons]
theorem dropWhile_head {p : UInt8 → Bool} : ∀ {l : Bs} {c : UInt8} {r : Bs}, l.dropWhile p = c :: r → p c = false
  | [], c, r, h => by simp at h
  | a :: l, c, r, h => by
    rw [List.dropWhile_cons] at h
    split at h
    · exact dropWhile_head h
    · rename_i hp; cases h; simpa using hp

/-- The digits from a place on. -/
def digsAt (s : ByteArray) (q : Nat) : Bs := (s.toList.drop q).takeWhile isDig
theorem digs_split (s : ByteArray) (q : Nat) : s.toList.drop q = digsAt s q ++ (s.toList.drop q).dropWhile isDig := List.takeWhile_append_dropWhile.symm
theorem digs_lt (s : ByteArray) {q j : Nat} (hj : j < (digsAt s q).length) : ∃ h : q + j < s.size, isDig s[q + j] = true ∧ (digsAt s q).take (j + 1) = (digsAt s q).take j ++ [s[q + j]] := by
  have h1 : (s.toList.drop q)[j]? = some (digsAt s q)[j] := by
    rw [digs_split s q, List.getElem?_append_left hj, List.getElem?_eq_getElem hj]
  rw [List.getElem?_drop] at h1
  have h2 := (List.getElem?_eq_some_iff.1 h1).1
  rw [size_toList] at h2
  have h3 := at_some s h2
  rw [h3] at h1
  have h4 := Option.some.inj h1
  refine ⟨h2, ?_, ?_⟩
  · rw [h4]; exact takeWhile_all _ _ (List.getElem_mem hj)
  · rw [h4]; exact List.take_succ_eq_append_getElem hj
theorem digs_end (s : ByteArray) {q : Nat} (hq : q ≤ s.size) : q + (digsAt s q).length ≤ s.size ∧ ∀ h : q + (digsAt s q).length < s.size, isDig s[q + (digsAt s q).length] = false := by
  have hl : (digsAt s q).length ≤ s.size - q := by
    have := congrArg List.length (digs_split s q)
    rw [List.length_append, List.length_drop, size_toList] at this
    omega
  refine ⟨by omega, fun h => ?_⟩
  have h1 : (s.toList.drop q)[(digsAt s q).length]? = some s[q + (digsAt s q).length] := by rw [List.getElem?_drop]; exact at_some s h
  rw [digs_split s q, List.getElem?_append_right (Nat.le_refl _), Nat.sub_self] at h1
  cases hd : (s.toList.drop q).dropWhile isDig with
  | nil => rw [hd] at h1; cases h1
  | cons c r =>
    rw [hd] at h1
    have : c = s[q + (digsAt s q).length] := by simpa using h1
    rw [← this]
    exact dropWhile_head hd

/-- What begin answers. -/
def beginT (l : Bs) : Int × Int × Bool := match numOf l with | none => (0, 0, false) | some (n, r) => (n, (l.length : Int) - r.length, true)
def BeginPost (w : World) (t : Int × Int × Bool) (e : Ending) (w' : World) : Prop := e = .returned (.tuple #[.int .i64 t.1, .int .i64 t.2.1, .bool t.2.2]) ∧ w = w'
theorem begin_nil {l : Bs} (h : trimB l = []) : beginT l = (0, 0, false) := by
  unfold beginT numOf
  rw [h]
  rfl
theorem begin_none {l : Bs} (h : digs (trimB l) = []) : beginT l = (0, 0, false) := by
  unfold beginT numOf
  rw [if_pos h]
theorem digs_nil_end (s : ByteArray) {q : Nat} (h : s.size ≤ q) : digsAt s q = [] := by unfold digsAt; rw [drop_end s h]; rfl
theorem digs_nil_at (s : ByteArray) {q : Nat} (h : q < s.size) (hd : isDig s[q] = false) : digsAt s q = [] := by
  unfold digsAt; rw [drop_at s h, List.takeWhile_cons, hd]; rfl
/-- A sign's length and what it says. -/
def sgOf (c : UInt8) : Nat := if c.toNat = 45 ∨ c.toNat = 43 then 1 else 0
theorem digs_trim (s : ByteArray) {k : Nat} (hk : k < s.size) (ht : trimB s.toList = s.toList.drop k) : digs (trimB s.toList) = digsAt s (k + sgOf s[k]) ∧ signLen (trimB s.toList) = sgOf s[k] ∧ isNeg (trimB s.toList) = decide (s[k].toNat = 45) := by
  have h1 : signLen (trimB s.toList) = sgOf s[k] := by rw [ht, drop_at s hk]; rfl
  refine ⟨?_, h1, by rw [ht, drop_at s hk]; rfl⟩
  unfold digs digsAt
  rw [h1, ht, List.drop_drop]
theorem begin_some (s : ByteArray) {k q e : Nat} (hk : k < s.size) (ht : trimB s.toList = s.toList.drop k) (hq : q = k + sgOf s[k]) (hne : digsAt s q ≠ []) (he : e ≤ s.size)
    (hr : s.toList.drop e = trimB (s.toList.drop (q + (digsAt s q).length))) : beginT s.toList = (sat (decide (s[k].toNat = 45)) (dec 0 (digsAt s q)), (e : Int), true) := by
  obtain ⟨h1, h2, h3⟩ := digs_trim s hk ht
  rw [← hq] at h1
  unfold beginT numOf
  rw [h1, if_neg hne, h2, h3, ht, List.drop_drop, ← Nat.add_assoc, ← hq, ← hr]
  show (_, ((s.toList.length : Nat) : Int) - ((s.toList.drop e).length : Nat), true) = _
  rw [List.length_drop, size_toList]
  congr 2
  omega
theorem dec_take {ds : Bs} {j : Nat} {c : UInt8} (h : ds.take (j + 1) = ds.take j ++ [c]) : dec 0 (ds.take (j + 1)) = dec 0 (ds.take j) * 10 + (c.toNat - 48) := by rw [h, dec_snoc]
theorem dec_rest (n : Bool) (ds : Bs) (j : Nat) (h : sat n (dec 0 (ds.take j)) = -9223372036854775808 ∨ sat n (dec 0 (ds.take j)) = 9223372036854775807) : sat n (dec 0 ds) = sat n (dec 0 (ds.take j)) := by
  have := sat_stuck h (ds.drop j)
  rw [← dec_append, List.take_append_drop] at this
  exact this
theorem dig_bounds {c : UInt8} (h : isDig c = true) : 48 ≤ c.toNat ∧ c.toNat ≤ 57 := (isDig_iff c).1 h
theorem dig_u8 {c : UInt8} (h : isDig c = true) : IntKind.u8.wrap ((c.toNat : Int) - 48) = (c.toNat : Int) - 48 := by
  have := dig_bounds h
  unfold IntKind.wrap; simp [IntKind.bits]; omega
theorem dig_i64 {c : UInt8} (h : isDig c = true) : IntKind.i64.wrap ((c.toNat : Int) - 48) = (c.toNat : Int) - 48 := by
  have := dig_bounds h
  exact wrap_in (by omega) (by omega)

theorem wrap64_in' {x : Int} (h0 : -9223372036854775808 ≤ x) (h1 : x ≤ 9223372036854775807) : wrap64 x = x := by unfold wrap64; omega
theorem negRound {u : Nat} {a d : Int} (ha : a = sat true u) (hd0 : 0 ≤ d) (hd9 : d ≤ 9) (hne : a ≠ -9223372036854775808) :
    (a < (-9223372036854775808 + d).tdiv 10 → sat true (u * 10 + d.toNat) = -9223372036854775808) ∧
    (¬ a < (-9223372036854775808 + d).tdiv 10 → wrap64 (a * 10) = a * 10 ∧ wrap64 (a * 10 - d) = sat true (u * 10 + d.toNat) ∧ a * 10 - d = sat true (u * 10 + d.toNat)) := by
  subst ha
  have h := sat_step_neg (u := u) (d := d.toNat) (by omega) hne
  have hd : ((d.toNat : Nat) : Int) = d := Int.toNat_of_nonneg hd0
  rw [hd] at h
  refine ⟨fun hlt => by rw [if_pos hlt] at h; exact h.symm, fun hlt => ?_⟩
  rw [if_neg hlt] at h
  have ht : (-9223372036854775808 + d).tdiv 10 = -((9223372036854775808 - d) / 10) := by
    rw [show -9223372036854775808 + d = -(9223372036854775808 - d) by omega, Int.neg_tdiv, Int.tdiv_eq_ediv_of_nonneg (by omega)]
  rw [ht] at hlt
  have hle : sat true u ≤ 0 := by unfold sat; simp only [if_true]; split <;> omega
  have w1 : wrap64 (sat true u * 10) = sat true u * 10 := wrap64_in' (by omega) (by omega)
  exact ⟨w1, by rw [← h]; exact wrap64_in' (by omega) (by omega), h⟩
theorem posRound {u : Nat} {a d : Int} (ha : a = sat false u) (hd0 : 0 ≤ d) (hd9 : d ≤ 9) (hne : a ≠ 9223372036854775807) :
    ((9223372036854775807 - d) / 10 < a → sat false (u * 10 + d.toNat) = 9223372036854775807) ∧
    (¬ (9223372036854775807 - d) / 10 < a → wrap64 (a * 10) = a * 10 ∧ wrap64 (a * 10 + d) = sat false (u * 10 + d.toNat) ∧ a * 10 + d = sat false (u * 10 + d.toNat)) := by
  subst ha
  have h := sat_step_pos (u := u) (d := d.toNat) (by omega) hne
  have hd : ((d.toNat : Nat) : Int) = d := Int.toNat_of_nonneg hd0
  rw [hd, show (9223372036854775807 - d).tdiv 10 = (9223372036854775807 - d) / 10 from Int.tdiv_eq_ediv_of_nonneg (by omega)] at h
  refine ⟨fun hlt => by rw [if_pos hlt] at h; exact h.symm, fun hlt => ?_⟩
  rw [if_neg hlt] at h
  have hle : 0 ≤ sat false u := by unfold sat; simp only [Bool.false_eq_true, if_false]; split <;> omega
  have w1 : wrap64 (sat false u * 10) = sat false u * 10 := wrap64_in' (by omega) (by omega)
  exact ⟨w1, by rw [← h]; exact wrap64_in' (by omega) (by omega), h⟩
theorem sat_nonpos (u : Nat) : sat true u ≠ 9223372036854775807 := by unfold sat; simp only [if_true]; split <;> omega
theorem sat_nonneg (u : Nat) : sat false u ≠ -9223372036854775808 := by unfold sat; simp only [Bool.false_eq_true, if_false]; split <;> omega

/-- The state of the number behind j digits. -/
def NumRel (neg : Bool) (ds : Bs) (j : Nat) (a : Int) : Prop := a = sat neg (dec 0 (ds.take j)) ∧ (j < ds.length → a ≠ -9223372036854775808 ∧ a ≠ 9223372036854775807)

set_option maxRecDepth 100000 in
set_option maxHeartbeats 6400000 in
theorem rbegin_any (s : ByteArray) (hs : s.size ≤ 140737488351232) (w : World) : Calls Tryz.prog 112 #[.string s] w (BeginPost w (beginT s.toList)) := by
  obtain ⟨t, ht⟩ : ∃ t, t = beginT s.toList := ⟨_, rfl⟩
  rw [← ht]
  have HT := Lib.hid ht
  clear ht
  go_enter Tryz.func112, Tryz.ntmps112
  go_wp2_with fail
  go_loop [5] (fun i => ∃ k : Nat, k ≤ s.size ∧ i = .int .i64 k ∧ Hid (trimB (s.toList.drop k) = trimB s.toList)) (fun i => s.size - (intOf i).toNat)
  case atStart => exact ⟨0, Nat.zero_le _, rfl, by show _ = _; simp⟩
  case round =>
    obtain ⟨k, hk, rfl, HK⟩ := hrel
    by_cases hlt : k < s.size
    · cases hb : isBlank s[k] with
      | true =>
        have HN : Hid (trimB (s.toList.drop (k + 1)) = trimB s.toList) := by
          show _ = _
          have := HK.out
          rw [drop_at s hlt, trimB_cons, if_pos hb] at this
          exact this
        have HB := Lib.hid hb
        clear hb
        go_wp2_with (go_at_call 142; refine (rblank_any s[k] _).mono ?_; rw [HB.out]; rintro e w' ⟨rfl, rfl⟩)
        go_round
        case rel => exact ⟨k + 1, by omega, by go_num, HN⟩
        case measure => simp [intOf]; omega
      | false =>
        have HB := Lib.hid hb
        have HTR : Hid (trimB s.toList = s.toList.drop k) := by
          show _ = _
          have := HK.out
          rw [drop_at s hlt, trimB_cons, hb] at this
          rw [drop_at s hlt]
          exact this.symm
        clear hb
        by_cases h45 : s[k].toNat = 45
        · have e45 : ((s[k].toNat : Int) == 45) = true := by simp [h45]
          have HSG : Hid (sgOf s[k] = 1) := by show _ = _; unfold sgOf; simp [h45]
          have N45 : Hid (decide (s[k].toNat = 45) = true) := by show _ = _; simp [h45]
          have H45 := Lib.hid h45
          clear h45
          by_cases hq : k + 1 < s.size
          · have hqe : ((k : Int) + 1 == (s.size : Int)) = false := by simp; omega
            cases hd : isDig s[k + 1] with
            | false =>
              have HZ : Hid (t = (0, 0, false)) := by
                show _ = _
                rw [HT.out]
                exact begin_none (by rw [(digs_trim s hlt HTR.out).1, HSG.out]; exact digs_nil_at s hq hd)
              have HD := Lib.hid hd
              clear hd
              go_wp2_with (first
                | (go_at_call 142; refine (rblank_any s[k] _).mono ?_; rw [HB.out]; rintro e w' ⟨rfl, rfl⟩)
                | (go_at_call 143; refine (rdigit_any s[k + 1] _).mono ?_; rw [HD.out]; rintro e w' ⟨rfl, rfl⟩))
              go_ret3
              exact ⟨by rw [HZ.out]; rfl, rfl⟩
            | true =>
              have HD := Lib.hid hd
              clear hd
              go_wp2_with (first
                | (go_at_call 142; refine (rblank_any s[k] _).mono ?_; rw [HB.out]; rintro e w' ⟨rfl, rfl⟩)
                | (go_at_call 143; refine (rdigit_any s[k + 1] _).mono ?_; rw [HD.out]; rintro e w' ⟨rfl, rfl⟩))
              obtain ⟨q, hq⟩ : ∃ q, q = k + 1 := ⟨_, rfl⟩
              have HQ := Lib.hid hq
              obtain ⟨D, hD⟩ : ∃ D, D = (digsAt s q).length := ⟨_, rfl⟩
              have HDL := Lib.hid hD
              have HQS : Hid (q ≤ s.size) := by show _ ≤ _; omega
              have HNE : Hid (digsAt s q ≠ []) := by
                show _ ≠ _
                have hq' : q < s.size := by rw [hq]; omega
                unfold digsAt
                rw [drop_at s hq', List.takeWhile_cons, show isDig s[q] = true by have := HD.out; simp only [hq]; exact this]
                simp
              clear hq hD
              go_loop [5, 7] (fun i nv => ∃ (p j : Nat) (a : Int), p ≤ s.size ∧ i = .int .i64 p ∧ nv = .int .i64 a ∧ Hid (p = q + j ∧ j ≤ D ∧ NumRel true (digsAt s q) j a)) (fun i _ => s.size - (intOf i).toNat)
              case atStart => exact ⟨q, 0, 0, HQS.out, by first | (rw [HQ.out]; done) | (rw [HQ.out]; go_num), rfl, rfl, Nat.zero_le _, rfl, fun _ => by decide⟩
              case round =>
                obtain ⟨p, j, a, hp, rfl, rfl, HR⟩ := hrel
                by_cases hjl : j < D
                · obtain ⟨hpl, hpd, htk⟩ : ∃ h : p < s.size, isDig s[p] = true ∧ (digsAt s q).take (j + 1) = (digsAt s q).take j ++ [s[p]] := by
                    have := digs_lt s (q := q) (j := j) (by rw [← HDL.out]; exact hjl)
                    rw [← HR.out.1] at this
                    exact this
                  have HJ := Lib.hid hjl
                  have HPD := Lib.hid hpd
                  have hpb := dig_bounds hpd
                  obtain ⟨d, hd⟩ : ∃ d : Int, (s[p].toNat : Int) - 48 = d := ⟨_, rfl⟩
                  have w8 := dig_u8 hpd
                  rw [hd] at w8
                  have hd0 : 0 ≤ d := by omega
                  have hd9 : d ≤ 9 := by omega
                  have w64 : IntKind.i64.wrap d = d := wrap_in (by omega) (by omega)
                  have HPB := Lib.hid hpb
                  have htn : d.toNat = s[p].toNat - 48 := by omega
                  obtain ⟨hne1, hne2⟩ := HR.out.2.2.2 (by rw [← HDL.out]; exact hjl)
                  obtain ⟨R1, R2⟩ := negRound (u := dec 0 ((digsAt s q).take j)) HR.out.2.2.1 hd0 hd9 hne1
                  have hdt := dec_take htk
                  rw [htn, ← hdt] at R1 R2
                  obtain ⟨a', ha'⟩ : ∃ a', sat true (dec 0 ((digsAt s q).take (j + 1))) = a' := ⟨_, rfl⟩
                  rw [ha'] at R1 R2
                  have HA := Lib.hid ha'
                  have hp1 : p + 1 ≤ s.size := by omega
                  obtain ⟨x, hx⟩ : ∃ x, (-9223372036854775808 + d).tdiv 10 = x := ⟨_, rfl⟩
                  have wx : wrap64 x = x := by rw [← hx, show (-9223372036854775808 + d) = -(9223372036854775808 - d) by omega, Int.neg_tdiv, Int.tdiv_eq_ediv_of_nonneg (by omega)]; exact wrap64_in' (by omega) (by omega)
                  rw [hx] at R1 R2
                  have INNER : Hid (∀ p', q + (j + 1) ≤ p' → p' ≤ q + D → (p' < q + D → ∃ h : p' < s.size, isDig s[p'] = true) ∧ (¬ p' < q + D → ∀ h : p' < s.size, isDig s[p'] = false)) := by
                    intro p' h1 h2
                    refine ⟨fun h3 => ?_, fun h3 h4 => ?_⟩
                    · obtain ⟨e1, e2, _⟩ := digs_lt s (q := q) (j := p' - q) (by rw [← HDL.out]; omega)
                      have e3 : q + (p' - q) = p' := by omega
                      simp only [e3] at e1 e2
                      exact ⟨e1, e2⟩
                    · have e := (digs_end s HQS.out).2
                      have e3 : q + (digsAt s q).length = p' := by rw [← HDL.out]; omega
                      simp only [e3] at e
                      exact e h4
                  by_cases hT : a < x
                  · have ea : a' = -9223372036854775808 := R1 hT
                    have HEA := Lib.hid ea
                    have hT' : decide (a < x) = true := by simp [hT]
                    clear hpd htk hjl hpb htn hne1 hne2 R1 R2 hdt ha' ea hT
                    go_wp2_with fail
                    refine (rdigit_any s[p] _).mono ?_; rw [HPD.out]; rintro e w' ⟨rfl, rfl⟩
                    go_upto_if 101 with (fail)
                    obtain ⟨y, hy⟩ : ∃ y : Int, y = -9223372036854775808 + d := ⟨_, rfl⟩
                    rw [← hy]
                    clear hy
                    obtain ⟨mn, hmn⟩ : ∃ mn : Int, mn = -9223372036854775808 := ⟨_, rfl⟩; rw [← hmn]; have HNV := Lib.hid hmn; clear hmn hT' wx hx w8 w64 hd
                    go_wp2_with fail
                    go_loop [5] (fun i => ∃ p' : Nat, p' ≤ s.size ∧ i = .int .i64 p' ∧ Hid (q + (j + 1) ≤ p' ∧ p' ≤ q + D)) (fun i => s.size - (intOf i).toNat)
                    case atStart => exact ⟨p + 1, hp1, by go_num, by have := HR.out.1; have := HJ.out; show _ ∧ _; omega⟩
                    case round =>
                      obtain ⟨p', hp', rfl, HP'⟩ := hrel
                      by_cases h3 : p' < q + D
                      · obtain ⟨e1, e2⟩ := (INNER.out p' HP'.out.1 HP'.out.2).1 h3
                        have HE2 := Lib.hid e2
                        have H3 := Lib.hid h3
                        clear e2 h3
                        go_wp2_with fail
                        refine (rdigit_any s[p'] _).mono ?_; rw [HE2.out]; rintro e w' ⟨rfl, rfl⟩
                        go_wp2_with fail
                        go_round
                        case rel => exact ⟨p' + 1, by omega, by go_num, by have := HP'.out; have := H3.out; show _ ∧ _; omega⟩
                        case measure => simp [intOf]; omega
                      · have hpe := (INNER.out p' HP'.out.1 HP'.out.2).2 h3
                        have hpp : p' = q + D := by have := HP'.out; omega
                        have HPP := Lib.hid hpp
                        have hpgt : p < p' := by have := HP'.out; have := HR.out.1; omega
                        have REL : Hid (NumRel true (digsAt s q) D (-9223372036854775808)) := by
                          refine ⟨?_, fun h => by rw [← HDL.out] at h; omega⟩
                          rw [List.take_of_length_le (by rw [← HDL.out]; exact Nat.le_refl _)]
                          have h1 := HA.out
                          rw [HEA.out] at h1
                          rw [dec_rest true (digsAt s q) (j + 1) (by rw [h1]; simp), h1]
                        clear h3 hpp
                        by_cases h4 : p' < s.size
                        · have HE2 := Lib.hid (hpe h4)
                          clear hpe
                          go_wp2_with fail
                          refine (rdigit_any s[p'] _).mono ?_; rw [HE2.out]; rintro e w' ⟨rfl, rfl⟩
                          go_wp2_with fail
                          go_round
                          case rel => exact ⟨p', D, mn, hp', rfl, rfl, HPP.out, Nat.le_refl _, by rw [HNV.out]; exact REL.out⟩
                          case measure => simp [intOf]; omega
                        · have hps : p' = s.size := by omega
                          clear hpe
                          go_wp2_with fail
                          go_round
                          case rel => exact ⟨p', D, mn, hp', by first | rfl | (rw [hps]), rfl, HPP.out, Nat.le_refl _, by rw [HNV.out]; exact REL.out⟩
                          case measure => simp [intOf]; omega
                  · obtain ⟨W1, W2, W3⟩ := R2 hT
                    have H3 := Lib.hid W3
                    clear W3
                    have hT' : decide (a < x) = false := by simp [hT]
                    by_cases hs1 : a' = -9223372036854775808
                    · have HEA := Lib.hid hs1
                      have t1 : (a' == -9223372036854775808) = true := by simp [hs1]
                      have t2 := t1
                      clear hpd htk hjl hpb htn hne1 hne2 R1 R2 hdt ha' hT hs1
                      go_wp2_with fail
                      refine (rdigit_any s[p] _).mono ?_; rw [HPD.out]; rintro e w' ⟨rfl, rfl⟩
                      go_upto_if 101 with (fail)
                      obtain ⟨y, hy⟩ : ∃ y : Int, y = -9223372036854775808 + d := ⟨_, rfl⟩
                      rw [← hy]
                      clear hy
                      first | rw [W2] | rw [H3.out]
                      have HNV := HEA; clear hT' wx hx w8 w64 hd W1 W2 t1 t2
                      go_wp2_with fail
                      go_loop [5] (fun i => ∃ p' : Nat, p' ≤ s.size ∧ i = .int .i64 p' ∧ Hid (q + (j + 1) ≤ p' ∧ p' ≤ q + D)) (fun i => s.size - (intOf i).toNat)
                      case atStart => exact ⟨p + 1, hp1, by go_num, by have := HR.out.1; have := HJ.out; show _ ∧ _; omega⟩
                      case round =>
                        obtain ⟨p', hp', rfl, HP'⟩ := hrel
                        by_cases h3 : p' < q + D
                        · obtain ⟨e1, e2⟩ := (INNER.out p' HP'.out.1 HP'.out.2).1 h3
                          have HE2 := Lib.hid e2
                          have H3 := Lib.hid h3
                          clear e2 h3
                          go_wp2_with fail
                          refine (rdigit_any s[p'] _).mono ?_; rw [HE2.out]; rintro e w' ⟨rfl, rfl⟩
                          go_wp2_with fail
                          go_round
                          case rel => exact ⟨p' + 1, by omega, by go_num, by have := HP'.out; have := H3.out; show _ ∧ _; omega⟩
                          case measure => simp [intOf]; omega
                        · have hpe := (INNER.out p' HP'.out.1 HP'.out.2).2 h3
                          have hpp : p' = q + D := by have := HP'.out; omega
                          have HPP := Lib.hid hpp
                          have hpgt : p < p' := by have := HP'.out; have := HR.out.1; omega
                          have REL : Hid (NumRel true (digsAt s q) D (-9223372036854775808)) := by
                            refine ⟨?_, fun h => by rw [← HDL.out] at h; omega⟩
                            rw [List.take_of_length_le (by rw [← HDL.out]; exact Nat.le_refl _)]
                            have h1 := HA.out
                            rw [HEA.out] at h1
                            rw [dec_rest true (digsAt s q) (j + 1) (by rw [h1]; simp), h1]
                          clear h3 hpp
                          by_cases h4 : p' < s.size
                          · have HE2 := Lib.hid (hpe h4)
                            clear hpe
                            go_wp2_with fail
                            refine (rdigit_any s[p'] _).mono ?_; rw [HE2.out]; rintro e w' ⟨rfl, rfl⟩
                            go_wp2_with fail
                            go_round
                            case rel => exact ⟨p', D, a', hp', rfl, rfl, HPP.out, Nat.le_refl _, by rw [HNV.out]; exact REL.out⟩
                            case measure => simp [intOf]; omega
                          · have hps : p' = s.size := by omega
                            clear hpe
                            go_wp2_with fail
                            go_round
                            case rel => exact ⟨p', D, a', hp', by first | rfl | (rw [hps]), rfl, HPP.out, Nat.le_refl _, by rw [HNV.out]; exact REL.out⟩
                            case measure => simp [intOf]; omega
                    · have hs2 : a' ≠ 9223372036854775807 := by rw [← ha']; exact sat_nonpos _
                      have t1 : (a' == -9223372036854775808) = false := by simp [hs1]
                      have t2 : (a' == 9223372036854775807) = false := by simp [hs2]
                      have REL : Hid (NumRel true (digsAt s q) (j + 1) a') := ⟨ha'.symm, fun _ => ⟨hs1, hs2⟩⟩
                      clear hpd htk hjl hpb htn hne1 hne2 R1 R2 hdt ha' hT hs1 hs2
                      go_wp2_with fail
                      refine (rdigit_any s[p] _).mono ?_; rw [HPD.out]; rintro e w' ⟨rfl, rfl⟩
                      go_upto_if 101 with (fail)
                      obtain ⟨y, hy⟩ : ∃ y : Int, y = -9223372036854775808 + d := ⟨_, rfl⟩
                      rw [← hy]
                      first | rw [W2] | rw [H3.out]
                      clear hy hT' wx hx w8 w64 hd W1 W2 t1 t2
                      go_wp2_with fail
                      go_round
                      case rel => exact ⟨p + 1, j + 1, a', hp1, by go_num, rfl, by have := HR.out.1; omega, HJ.out, REL.out⟩
                      case measure => simp [intOf]; omega
                · have hDe := digs_end s HQS.out
                  rw [← HDL.out] at hDe
                  have hpq : p = q + D := by have := HR.out; omega
                  have HPQ := Lib.hid hpq
                  have HAV : Hid (sat true (dec 0 (digsAt s q)) = a) := by
                    show _ = _
                    have h1 := HR.out.2.2.1
                    rw [List.take_of_length_le (by rw [← HDL.out]; omega)] at h1
                    exact h1.symm
                  have hpe : ∀ h : p < s.size, isDig s[p] = false := by
                    intro h
                    have := hDe.2 (by omega)
                    simp only [← hpq] at this
                    exact this
                  have LAST : Hid (∀ e, e ≤ s.size → s.toList.drop e = trimB (s.toList.drop p) → t = (a, (e : Int), true)) := by
                    intro e he hr
                    rw [HT.out, begin_some s hlt HTR.out (by first | (rw [HQ.out, HSG.out]; done) | (rw [HQ.out, HSG.out]; rfl)) HNE.out he (by rw [← HDL.out, ← HPQ.out]; exact hr), N45.out, HAV.out]
                  have TR : Hid (∀ k', p ≤ k' → trimB (s.toList.drop k') = trimB (s.toList.drop p) → ∀ h : k' < s.size, (isBlank s[k'] = true → trimB (s.toList.drop (k' + 1)) = trimB (s.toList.drop p)) ∧ (isBlank s[k'] = false → s.toList.drop k' = trimB (s.toList.drop p))) := by
                    intro k' _ h1 h
                    rw [drop_at s h, trimB_cons] at h1
                    refine ⟨fun hb => by rw [if_pos hb] at h1; exact h1, fun hb => by rw [hb] at h1; rw [drop_at s h]; exact h1⟩
                  clear hDe hpq hjl
                  by_cases hpl : p < s.size
                  · have HPD := Lib.hid (hpe hpl)
                    clear hpe
                    go_wp2_with fail
                    refine (rdigit_any s[p] _).mono ?_; rw [HPD.out]; rintro e w' ⟨rfl, rfl⟩
                    go_wp2_with fail
                    go_loop [5] (fun i => ∃ k' : Nat, k' ≤ s.size ∧ i = .int .i64 k' ∧ Hid (p ≤ k' ∧ trimB (s.toList.drop k') = trimB (s.toList.drop p))) (fun i => s.size - (intOf i).toNat)
                    case atStart => exact ⟨p, hp, by first | rfl | (rw [hps]), Nat.le_refl _, rfl⟩
                    case round =>
                      obtain ⟨k', hk', rfl, HK'⟩ := hrel
                      by_cases h5 : k' < s.size
                      · cases hb' : isBlank s[k'] with
                        | true =>
                          have HN := Lib.hid ((TR.out k' HK'.out.1 HK'.out.2 h5).1 hb')
                          have HB' := Lib.hid hb'
                          clear hb'
                          go_wp2_with fail
                          refine (rblank_any s[k'] _).mono ?_; rw [HB'.out]; rintro e w' ⟨rfl, rfl⟩
                          go_wp2_with fail
                          go_round
                          case rel => exact ⟨k' + 1, by omega, by go_num, by have := HK'.out.1; exact ⟨by omega, HN.out⟩⟩
                          case measure => simp [intOf]; omega
                        | false =>
                          have HZ := Lib.hid (LAST.out k' hk' ((TR.out k' HK'.out.1 HK'.out.2 h5).2 hb'))
                          have HB' := Lib.hid hb'
                          clear hb'
                          go_wp2_with fail
                          refine (rblank_any s[k'] _).mono ?_; rw [HB'.out]; rintro e w' ⟨rfl, rfl⟩
                          go_wp2_with fail
                          go_ret3
                          exact ⟨by rw [HZ.out]; rfl, rfl⟩
                      · have hks : k' = s.size := by omega
                        have HZ := Lib.hid (LAST.out k' hk' (by have := HK'.out.2; rw [drop_end s (by omega)] at this ⊢; exact (this.symm.trans rfl).symm))
                        rw [hks] at HZ
                        go_wp2_with fail
                        go_ret3
                        exact ⟨by rw [HZ.out]; rfl, rfl⟩
                  · have hps : p = s.size := by omega
                    clear hpe
                    go_wp2_with fail
                    go_loop [5] (fun i => ∃ k' : Nat, k' ≤ s.size ∧ i = .int .i64 k' ∧ Hid (p ≤ k' ∧ trimB (s.toList.drop k') = trimB (s.toList.drop p))) (fun i => s.size - (intOf i).toNat)
                    case atStart => exact ⟨p, hp, by first | rfl | (rw [hps]), Nat.le_refl _, rfl⟩
                    case round =>
                      obtain ⟨k', hk', rfl, HK'⟩ := hrel
                      by_cases h5 : k' < s.size
                      · cases hb' : isBlank s[k'] with
                        | true =>
                          have HN := Lib.hid ((TR.out k' HK'.out.1 HK'.out.2 h5).1 hb')
                          have HB' := Lib.hid hb'
                          clear hb'
                          go_wp2_with fail
                          refine (rblank_any s[k'] _).mono ?_; rw [HB'.out]; rintro e w' ⟨rfl, rfl⟩
                          go_wp2_with fail
                          go_round
                          case rel => exact ⟨k' + 1, by omega, by go_num, by have := HK'.out.1; exact ⟨by omega, HN.out⟩⟩
                          case measure => simp [intOf]; omega
                        | false =>
                          have HZ := Lib.hid (LAST.out k' hk' ((TR.out k' HK'.out.1 HK'.out.2 h5).2 hb'))
                          have HB' := Lib.hid hb'
                          clear hb'
                          go_wp2_with fail
                          refine (rblank_any s[k'] _).mono ?_; rw [HB'.out]; rintro e w' ⟨rfl, rfl⟩
                          go_wp2_with fail
                          go_ret3
                          exact ⟨by rw [HZ.out]; rfl, rfl⟩
                      · have hks : k' = s.size := by omega
                        have HZ := Lib.hid (LAST.out k' hk' (by have := HK'.out.2; rw [drop_end s (by omega)] at this ⊢; exact (this.symm.trans rfl).symm))
                        rw [hks] at HZ
                        go_wp2_with fail
                        go_ret3
                        exact ⟨by rw [HZ.out]; rfl, rfl⟩
          · have HZ : Hid (t = (0, 0, false)) := by
              show _ = _
              rw [HT.out]
              exact begin_none (by rw [(digs_trim s hlt HTR.out).1, HSG.out]; exact digs_nil_end s (by omega))
            have hqe : ((k : Int) + 1 == (s.size : Int)) = true := by simp; omega
            go_wp2_with (go_at_call 142; refine (rblank_any s[k] _).mono ?_; rw [HB.out]; rintro e w' ⟨rfl, rfl⟩)
            go_ret3
            exact ⟨by rw [HZ.out]; rfl, rfl⟩
        · have e45 : ((s[k].toNat : Int) == 45) = false := by simp; omega
          have N45 : Hid (decide (s[k].toNat = 45) = false) := by show _ = _; simp [h45]
          by_cases h43 : s[k].toNat = 43
          · have e43 : ((s[k].toNat : Int) == 43) = true := by simp [h43]
            have HSG : Hid (sgOf s[k] = 1) := by show _ = _; unfold sgOf; simp [h43]
            have H43 := Lib.hid h43
            clear h45 h43
            by_cases hq : k + 1 < s.size
            · have hqe : ((k : Int) + 1 == (s.size : Int)) = false := by simp; omega
              cases hd : isDig s[k + 1] with
              | false =>
                have HZ : Hid (t = (0, 0, false)) := by
                  show _ = _
                  rw [HT.out]
                  exact begin_none (by rw [(digs_trim s hlt HTR.out).1, HSG.out]; exact digs_nil_at s hq hd)
                have HD := Lib.hid hd
                clear hd
                go_wp2_with (first
                  | (go_at_call 142; refine (rblank_any s[k] _).mono ?_; rw [HB.out]; rintro e w' ⟨rfl, rfl⟩)
                  | (go_at_call 143; refine (rdigit_any s[k + 1] _).mono ?_; rw [HD.out]; rintro e w' ⟨rfl, rfl⟩))
                go_ret3
                exact ⟨by rw [HZ.out]; rfl, rfl⟩
              | true =>
                have HD := Lib.hid hd
                clear hd
                go_wp2_with (first
                  | (go_at_call 142; refine (rblank_any s[k] _).mono ?_; rw [HB.out]; rintro e w' ⟨rfl, rfl⟩)
                  | (go_at_call 143; refine (rdigit_any s[k + 1] _).mono ?_; rw [HD.out]; rintro e w' ⟨rfl, rfl⟩))
                obtain ⟨q, hq⟩ : ∃ q, q = k + 1 := ⟨_, rfl⟩
                have HQ := Lib.hid hq
                obtain ⟨D, hD⟩ : ∃ D, D = (digsAt s q).length := ⟨_, rfl⟩
                have HDL := Lib.hid hD
                have HQS : Hid (q ≤ s.size) := by show _ ≤ _; omega
                have HNE : Hid (digsAt s q ≠ []) := by
                  show _ ≠ _
                  have hq' : q < s.size := by rw [hq]; omega
                  unfold digsAt
                  rw [drop_at s hq', List.takeWhile_cons, show isDig s[q] = true by have := HD.out; simp only [hq]; exact this]
                  simp
                clear hq hD
                go_loop [5, 7] (fun i nv => ∃ (p j : Nat) (a : Int), p ≤ s.size ∧ i = .int .i64 p ∧ nv = .int .i64 a ∧ Hid (p = q + j ∧ j ≤ D ∧ NumRel false (digsAt s q) j a)) (fun i _ => s.size - (intOf i).toNat)
                case atStart => exact ⟨q, 0, 0, HQS.out, by first | (rw [HQ.out]; done) | (rw [HQ.out]; go_num), rfl, rfl, Nat.zero_le _, rfl, fun _ => by decide⟩
                case round =>
                  obtain ⟨p, j, a, hp, rfl, rfl, HR⟩ := hrel
                  by_cases hjl : j < D
                  · obtain ⟨hpl, hpd, htk⟩ : ∃ h : p < s.size, isDig s[p] = true ∧ (digsAt s q).take (j + 1) = (digsAt s q).take j ++ [s[p]] := by
                      have := digs_lt s (q := q) (j := j) (by rw [← HDL.out]; exact hjl)
                      rw [← HR.out.1] at this
                      exact this
                    have HJ := Lib.hid hjl
                    have HPD := Lib.hid hpd
                    have hpb := dig_bounds hpd
                    obtain ⟨d, hd⟩ : ∃ d : Int, (s[p].toNat : Int) - 48 = d := ⟨_, rfl⟩
                    have w8 := dig_u8 hpd
                    rw [hd] at w8
                    have hd0 : 0 ≤ d := by omega
                    have hd9 : d ≤ 9 := by omega
                    have w64 : IntKind.i64.wrap d = d := wrap_in (by omega) (by omega)
                    have HPB := Lib.hid hpb
                    have htn : d.toNat = s[p].toNat - 48 := by omega
                    obtain ⟨hne1, hne2⟩ := HR.out.2.2.2 (by rw [← HDL.out]; exact hjl)
                    obtain ⟨R1, R2⟩ := posRound (u := dec 0 ((digsAt s q).take j)) HR.out.2.2.1 hd0 hd9 hne2
                    have hdt := dec_take htk
                    rw [htn, ← hdt] at R1 R2
                    obtain ⟨a', ha'⟩ : ∃ a', sat false (dec 0 ((digsAt s q).take (j + 1))) = a' := ⟨_, rfl⟩
                    rw [ha'] at R1 R2
                    have HA := Lib.hid ha'
                    have hp1 : p + 1 ≤ s.size := by omega
                    obtain ⟨x, hx⟩ : ∃ x, (9223372036854775807 - d) / 10 = x := ⟨_, rfl⟩
                    have wx : wrap64 x = x := by rw [← hx]; exact wrap64_in' (by omega) (by omega)
                    rw [hx] at R1 R2
                    have INNER : Hid (∀ p', q + (j + 1) ≤ p' → p' ≤ q + D → (p' < q + D → ∃ h : p' < s.size, isDig s[p'] = true) ∧ (¬ p' < q + D → ∀ h : p' < s.size, isDig s[p'] = false)) := by
                      intro p' h1 h2
                      refine ⟨fun h3 => ?_, fun h3 h4 => ?_⟩
                      · obtain ⟨e1, e2, _⟩ := digs_lt s (q := q) (j := p' - q) (by rw [← HDL.out]; omega)
                        have e3 : q + (p' - q) = p' := by omega
                        simp only [e3] at e1 e2
                        exact ⟨e1, e2⟩
                      · have e := (digs_end s HQS.out).2
                        have e3 : q + (digsAt s q).length = p' := by rw [← HDL.out]; omega
                        simp only [e3] at e
                        exact e h4
                    by_cases hT : x < a
                    · have ea : a' = 9223372036854775807 := R1 hT
                      have HEA := Lib.hid ea
                      have hT' : decide (x < a) = true := by simp [hT]
                      clear hpd htk hjl hpb htn hne1 hne2 R1 R2 hdt ha' ea hT
                      go_wp2_with fail
                      refine (rdigit_any s[p] _).mono ?_; rw [HPD.out]; rintro e w' ⟨rfl, rfl⟩
                      go_upto_if 101 with (fail)
                      obtain ⟨y, hy⟩ : ∃ y : Int, y = 9223372036854775807 - d := ⟨_, rfl⟩
                      rw [← hy]
                      clear hy
                      obtain ⟨mn, hmn⟩ : ∃ mn : Int, mn = 9223372036854775807 := ⟨_, rfl⟩; rw [← hmn]; have HNV := Lib.hid hmn; clear hmn hT' wx hx w8 w64 hd
                      go_wp2_with fail
                      go_loop [5] (fun i => ∃ p' : Nat, p' ≤ s.size ∧ i = .int .i64 p' ∧ Hid (q + (j + 1) ≤ p' ∧ p' ≤ q + D)) (fun i => s.size - (intOf i).toNat)
                      case atStart => exact ⟨p + 1, hp1, by go_num, by have := HR.out.1; have := HJ.out; show _ ∧ _; omega⟩
                      case round =>
                        obtain ⟨p', hp', rfl, HP'⟩ := hrel
                        by_cases h3 : p' < q + D
                        · obtain ⟨e1, e2⟩ := (INNER.out p' HP'.out.1 HP'.out.2).1 h3
                          have HE2 := Lib.hid e2
                          have H3 := Lib.hid h3
                          clear e2 h3
                          go_wp2_with fail
                          refine (rdigit_any s[p'] _).mono ?_; rw [HE2.out]; rintro e w' ⟨rfl, rfl⟩
                          go_wp2_with fail
                          go_round
                          case rel => exact ⟨p' + 1, by omega, by go_num, by have := HP'.out; have := H3.out; show _ ∧ _; omega⟩
                          case measure => simp [intOf]; omega
                        · have hpe := (INNER.out p' HP'.out.1 HP'.out.2).2 h3
                          have hpp : p' = q + D := by have := HP'.out; omega
                          have HPP := Lib.hid hpp
                          have hpgt : p < p' := by have := HP'.out; have := HR.out.1; omega
                          have REL : Hid (NumRel false (digsAt s q) D (9223372036854775807)) := by
                            refine ⟨?_, fun h => by rw [← HDL.out] at h; omega⟩
                            rw [List.take_of_length_le (by rw [← HDL.out]; exact Nat.le_refl _)]
                            have h1 := HA.out
                            rw [HEA.out] at h1
                            rw [dec_rest false (digsAt s q) (j + 1) (by rw [h1]; simp), h1]
                          clear h3 hpp
                          by_cases h4 : p' < s.size
                          · have HE2 := Lib.hid (hpe h4)
                            clear hpe
                            go_wp2_with fail
                            refine (rdigit_any s[p'] _).mono ?_; rw [HE2.out]; rintro e w' ⟨rfl, rfl⟩
                            go_wp2_with fail
                            go_round
                            case rel => exact ⟨p', D, mn, hp', rfl, rfl, HPP.out, Nat.le_refl _, by rw [HNV.out]; exact REL.out⟩
                            case measure => simp [intOf]; omega
                          · have hps : p' = s.size := by omega
                            clear hpe
                            go_wp2_with fail
                            go_round
                            case rel => exact ⟨p', D, mn, hp', by first | rfl | (rw [hps]), rfl, HPP.out, Nat.le_refl _, by rw [HNV.out]; exact REL.out⟩
                            case measure => simp [intOf]; omega
                    · obtain ⟨W1, W2, W3⟩ := R2 hT
                      have H3 := Lib.hid W3
                      clear W3
                      have hT' : decide (x < a) = false := by simp [hT]
                      by_cases hs1 : a' = 9223372036854775807
                      · have HEA := Lib.hid hs1
                        have t1 : (a' == 9223372036854775807) = true := by simp [hs1]
                        have t2 : (a' == -9223372036854775808) = false := by simp [hs1]
                        clear hpd htk hjl hpb htn hne1 hne2 R1 R2 hdt ha' hT hs1
                        go_wp2_with fail
                        refine (rdigit_any s[p] _).mono ?_; rw [HPD.out]; rintro e w' ⟨rfl, rfl⟩
                        go_upto_if 101 with (fail)
                        obtain ⟨y, hy⟩ : ∃ y : Int, y = 9223372036854775807 - d := ⟨_, rfl⟩
                        rw [← hy]
                        clear hy
                        first | rw [W2] | rw [H3.out]
                        have HNV := HEA; clear hT' wx hx w8 w64 hd W1 W2 t1 t2
                        go_wp2_with fail
                        go_loop [5] (fun i => ∃ p' : Nat, p' ≤ s.size ∧ i = .int .i64 p' ∧ Hid (q + (j + 1) ≤ p' ∧ p' ≤ q + D)) (fun i => s.size - (intOf i).toNat)
                        case atStart => exact ⟨p + 1, hp1, by go_num, by have := HR.out.1; have := HJ.out; show _ ∧ _; omega⟩
                        case round =>
                          obtain ⟨p', hp', rfl, HP'⟩ := hrel
                          by_cases h3 : p' < q + D
                          · obtain ⟨e1, e2⟩ := (INNER.out p' HP'.out.1 HP'.out.2).1 h3
                            have HE2 := Lib.hid e2
                            have H3 := Lib.hid h3
                            clear e2 h3
                            go_wp2_with fail
                            refine (rdigit_any s[p'] _).mono ?_; rw [HE2.out]; rintro e w' ⟨rfl, rfl⟩
                            go_wp2_with fail
                            go_round
                            case rel => exact ⟨p' + 1, by omega, by go_num, by have := HP'.out; have := H3.out; show _ ∧ _; omega⟩
                            case measure => simp [intOf]; omega
                          · have hpe := (INNER.out p' HP'.out.1 HP'.out.2).2 h3
                            have hpp : p' = q + D := by have := HP'.out; omega
                            have HPP := Lib.hid hpp
                            have hpgt : p < p' := by have := HP'.out; have := HR.out.1; omega
                            have REL : Hid (NumRel false (digsAt s q) D (9223372036854775807)) := by
                              refine ⟨?_, fun h => by rw [← HDL.out] at h; omega⟩
                              rw [List.take_of_length_le (by rw [← HDL.out]; exact Nat.le_refl _)]
                              have h1 := HA.out
                              rw [HEA.out] at h1
                              rw [dec_rest false (digsAt s q) (j + 1) (by rw [h1]; simp), h1]
                            clear h3 hpp
                            by_cases h4 : p' < s.size
                            · have HE2 := Lib.hid (hpe h4)
                              clear hpe
                              go_wp2_with fail
                              refine (rdigit_any s[p'] _).mono ?_; rw [HE2.out]; rintro e w' ⟨rfl, rfl⟩
                              go_wp2_with fail
                              go_round
                              case rel => exact ⟨p', D, a', hp', rfl, rfl, HPP.out, Nat.le_refl _, by rw [HNV.out]; exact REL.out⟩
                              case measure => simp [intOf]; omega
                            · have hps : p' = s.size := by omega
                              clear hpe
                              go_wp2_with fail
                              go_round
                              case rel => exact ⟨p', D, a', hp', by first | rfl | (rw [hps]), rfl, HPP.out, Nat.le_refl _, by rw [HNV.out]; exact REL.out⟩
                              case measure => simp [intOf]; omega
                      · have hs2 : a' ≠ -9223372036854775808 := by rw [← ha']; exact sat_nonneg _
                        have t1 : (a' == -9223372036854775808) = false := by simp [hs2]
                        have t2 : (a' == 9223372036854775807) = false := by simp [hs1]
                        have REL : Hid (NumRel false (digsAt s q) (j + 1) a') := ⟨ha'.symm, fun _ => ⟨hs2, hs1⟩⟩
                        clear hpd htk hjl hpb htn hne1 hne2 R1 R2 hdt ha' hT hs1 hs2
                        go_wp2_with fail
                        refine (rdigit_any s[p] _).mono ?_; rw [HPD.out]; rintro e w' ⟨rfl, rfl⟩
                        go_upto_if 101 with (fail)
                        obtain ⟨y, hy⟩ : ∃ y : Int, y = 9223372036854775807 - d := ⟨_, rfl⟩
                        rw [← hy]
                        first | rw [W2] | rw [H3.out]
                        clear hy hT' wx hx w8 w64 hd W1 W2 t1 t2
                        go_wp2_with fail
                        go_round
                        case rel => exact ⟨p + 1, j + 1, a', hp1, by go_num, rfl, by have := HR.out.1; omega, HJ.out, REL.out⟩
                        case measure => simp [intOf]; omega
                  · have hDe := digs_end s HQS.out
                    rw [← HDL.out] at hDe
                    have hpq : p = q + D := by have := HR.out; omega
                    have HPQ := Lib.hid hpq
                    have HAV : Hid (sat false (dec 0 (digsAt s q)) = a) := by
                      show _ = _
                      have h1 := HR.out.2.2.1
                      rw [List.take_of_length_le (by rw [← HDL.out]; omega)] at h1
                      exact h1.symm
                    have hpe : ∀ h : p < s.size, isDig s[p] = false := by
                      intro h
                      have := hDe.2 (by omega)
                      simp only [← hpq] at this
                      exact this
                    have LAST : Hid (∀ e, e ≤ s.size → s.toList.drop e = trimB (s.toList.drop p) → t = (a, (e : Int), true)) := by
                      intro e he hr
                      rw [HT.out, begin_some s hlt HTR.out (by first | (rw [HQ.out, HSG.out]; done) | (rw [HQ.out, HSG.out]; rfl)) HNE.out he (by rw [← HDL.out, ← HPQ.out]; exact hr), N45.out, HAV.out]
                    have TR : Hid (∀ k', p ≤ k' → trimB (s.toList.drop k') = trimB (s.toList.drop p) → ∀ h : k' < s.size, (isBlank s[k'] = true → trimB (s.toList.drop (k' + 1)) = trimB (s.toList.drop p)) ∧ (isBlank s[k'] = false → s.toList.drop k' = trimB (s.toList.drop p))) := by
                      intro k' _ h1 h
                      rw [drop_at s h, trimB_cons] at h1
                      refine ⟨fun hb => by rw [if_pos hb] at h1; exact h1, fun hb => by rw [hb] at h1; rw [drop_at s h]; exact h1⟩
                    clear hDe hpq hjl
                    by_cases hpl : p < s.size
                    · have HPD := Lib.hid (hpe hpl)
                      clear hpe
                      go_wp2_with fail
                      refine (rdigit_any s[p] _).mono ?_; rw [HPD.out]; rintro e w' ⟨rfl, rfl⟩
                      go_wp2_with fail
                      go_loop [5] (fun i => ∃ k' : Nat, k' ≤ s.size ∧ i = .int .i64 k' ∧ Hid (p ≤ k' ∧ trimB (s.toList.drop k') = trimB (s.toList.drop p))) (fun i => s.size - (intOf i).toNat)
                      case atStart => exact ⟨p, hp, by first | rfl | (rw [hps]), Nat.le_refl _, rfl⟩
                      case round =>
                        obtain ⟨k', hk', rfl, HK'⟩ := hrel
                        by_cases h5 : k' < s.size
                        · cases hb' : isBlank s[k'] with
                          | true =>
                            have HN := Lib.hid ((TR.out k' HK'.out.1 HK'.out.2 h5).1 hb')
                            have HB' := Lib.hid hb'
                            clear hb'
                            go_wp2_with fail
                            refine (rblank_any s[k'] _).mono ?_; rw [HB'.out]; rintro e w' ⟨rfl, rfl⟩
                            go_wp2_with fail
                            go_round
                            case rel => exact ⟨k' + 1, by omega, by go_num, by have := HK'.out.1; exact ⟨by omega, HN.out⟩⟩
                            case measure => simp [intOf]; omega
                          | false =>
                            have HZ := Lib.hid (LAST.out k' hk' ((TR.out k' HK'.out.1 HK'.out.2 h5).2 hb'))
                            have HB' := Lib.hid hb'
                            clear hb'
                            go_wp2_with fail
                            refine (rblank_any s[k'] _).mono ?_; rw [HB'.out]; rintro e w' ⟨rfl, rfl⟩
                            go_wp2_with fail
                            go_ret3
                            exact ⟨by rw [HZ.out]; rfl, rfl⟩
                        · have hks : k' = s.size := by omega
                          have HZ := Lib.hid (LAST.out k' hk' (by have := HK'.out.2; rw [drop_end s (by omega)] at this ⊢; exact (this.symm.trans rfl).symm))
                          rw [hks] at HZ
                          go_wp2_with fail
                          go_ret3
                          exact ⟨by rw [HZ.out]; rfl, rfl⟩
                    · have hps : p = s.size := by omega
                      clear hpe
                      go_wp2_with fail
                      go_loop [5] (fun i => ∃ k' : Nat, k' ≤ s.size ∧ i = .int .i64 k' ∧ Hid (p ≤ k' ∧ trimB (s.toList.drop k') = trimB (s.toList.drop p))) (fun i => s.size - (intOf i).toNat)
                      case atStart => exact ⟨p, hp, by first | rfl | (rw [hps]), Nat.le_refl _, rfl⟩
                      case round =>
                        obtain ⟨k', hk', rfl, HK'⟩ := hrel
                        by_cases h5 : k' < s.size
                        · cases hb' : isBlank s[k'] with
                          | true =>
                            have HN := Lib.hid ((TR.out k' HK'.out.1 HK'.out.2 h5).1 hb')
                            have HB' := Lib.hid hb'
                            clear hb'
                            go_wp2_with fail
                            refine (rblank_any s[k'] _).mono ?_; rw [HB'.out]; rintro e w' ⟨rfl, rfl⟩
                            go_wp2_with fail
                            go_round
                            case rel => exact ⟨k' + 1, by omega, by go_num, by have := HK'.out.1; exact ⟨by omega, HN.out⟩⟩
                            case measure => simp [intOf]; omega
                          | false =>
                            have HZ := Lib.hid (LAST.out k' hk' ((TR.out k' HK'.out.1 HK'.out.2 h5).2 hb'))
                            have HB' := Lib.hid hb'
                            clear hb'
                            go_wp2_with fail
                            refine (rblank_any s[k'] _).mono ?_; rw [HB'.out]; rintro e w' ⟨rfl, rfl⟩
                            go_wp2_with fail
                            go_ret3
                            exact ⟨by rw [HZ.out]; rfl, rfl⟩
                        · have hks : k' = s.size := by omega
                          have HZ := Lib.hid (LAST.out k' hk' (by have := HK'.out.2; rw [drop_end s (by omega)] at this ⊢; exact (this.symm.trans rfl).symm))
                          rw [hks] at HZ
                          go_wp2_with fail
                          go_ret3
                          exact ⟨by rw [HZ.out]; rfl, rfl⟩
            · have HZ : Hid (t = (0, 0, false)) := by
                show _ = _
                rw [HT.out]
                exact begin_none (by rw [(digs_trim s hlt HTR.out).1, HSG.out]; exact digs_nil_end s (by omega))
              have hqe : ((k : Int) + 1 == (s.size : Int)) = true := by simp; omega
              go_wp2_with (go_at_call 142; refine (rblank_any s[k] _).mono ?_; rw [HB.out]; rintro e w' ⟨rfl, rfl⟩)
              go_ret3
              exact ⟨by rw [HZ.out]; rfl, rfl⟩
          · have e43 : ((s[k].toNat : Int) == 43) = false := by simp; omega
            have HSG : Hid (sgOf s[k] = 0) := by show _ = _; unfold sgOf; simp [h43, h45]
            clear h45 h43
            by_cases hq : k < s.size
            · have hqe : ((k : Int) == (s.size : Int)) = false := by simp; omega
              cases hd : isDig s[k] with
              | false =>
                have HZ : Hid (t = (0, 0, false)) := by
                  show _ = _
                  rw [HT.out]
                  exact begin_none (by rw [(digs_trim s hlt HTR.out).1, HSG.out]; exact digs_nil_at s hq hd)
                have HD := Lib.hid hd
                clear hd
                go_wp2_with (first
                  | (go_at_call 142; refine (rblank_any s[k] _).mono ?_; rw [HB.out]; rintro e w' ⟨rfl, rfl⟩)
                  | (go_at_call 143; refine (rdigit_any s[k] _).mono ?_; rw [HD.out]; rintro e w' ⟨rfl, rfl⟩))
                go_ret3
                exact ⟨by rw [HZ.out]; rfl, rfl⟩
              | true =>
                have HD := Lib.hid hd
                clear hd
                go_wp2_with (first
                  | (go_at_call 142; refine (rblank_any s[k] _).mono ?_; rw [HB.out]; rintro e w' ⟨rfl, rfl⟩)
                  | (go_at_call 143; refine (rdigit_any s[k] _).mono ?_; rw [HD.out]; rintro e w' ⟨rfl, rfl⟩))
                obtain ⟨q, hq⟩ : ∃ q, q = k := ⟨_, rfl⟩
                have HQ := Lib.hid hq
                obtain ⟨D, hD⟩ : ∃ D, D = (digsAt s q).length := ⟨_, rfl⟩
                have HDL := Lib.hid hD
                have HQS : Hid (q ≤ s.size) := by show _ ≤ _; omega
                have HNE : Hid (digsAt s q ≠ []) := by
                  show _ ≠ _
                  have hq' : q < s.size := by rw [hq]; omega
                  unfold digsAt
                  rw [drop_at s hq', List.takeWhile_cons, show isDig s[q] = true by have := HD.out; simp only [hq]; exact this]
                  simp
                clear hq hD
                go_loop [5, 7] (fun i nv => ∃ (p j : Nat) (a : Int), p ≤ s.size ∧ i = .int .i64 p ∧ nv = .int .i64 a ∧ Hid (p = q + j ∧ j ≤ D ∧ NumRel false (digsAt s q) j a)) (fun i _ => s.size - (intOf i).toNat)
                case atStart => exact ⟨q, 0, 0, HQS.out, by first | (rw [HQ.out]; done) | (rw [HQ.out]; go_num), rfl, rfl, Nat.zero_le _, rfl, fun _ => by decide⟩
                case round =>
                  obtain ⟨p, j, a, hp, rfl, rfl, HR⟩ := hrel
                  by_cases hjl : j < D
                  · obtain ⟨hpl, hpd, htk⟩ : ∃ h : p < s.size, isDig s[p] = true ∧ (digsAt s q).take (j + 1) = (digsAt s q).take j ++ [s[p]] := by
                      have := digs_lt s (q := q) (j := j) (by rw [← HDL.out]; exact hjl)
                      rw [← HR.out.1] at this
                      exact this
                    have HJ := Lib.hid hjl
                    have HPD := Lib.hid hpd
                    have hpb := dig_bounds hpd
                    obtain ⟨d, hd⟩ : ∃ d : Int, (s[p].toNat : Int) - 48 = d := ⟨_, rfl⟩
                    have w8 := dig_u8 hpd
                    rw [hd] at w8
                    have hd0 : 0 ≤ d := by omega
                    have hd9 : d ≤ 9 := by omega
                    have w64 : IntKind.i64.wrap d = d := wrap_in (by omega) (by omega)
                    have HPB := Lib.hid hpb
                    have htn : d.toNat = s[p].toNat - 48 := by omega
                    obtain ⟨hne1, hne2⟩ := HR.out.2.2.2 (by rw [← HDL.out]; exact hjl)
                    obtain ⟨R1, R2⟩ := posRound (u := dec 0 ((digsAt s q).take j)) HR.out.2.2.1 hd0 hd9 hne2
                    have hdt := dec_take htk
                    rw [htn, ← hdt] at R1 R2
                    obtain ⟨a', ha'⟩ : ∃ a', sat false (dec 0 ((digsAt s q).take (j + 1))) = a' := ⟨_, rfl⟩
                    rw [ha'] at R1 R2
                    have HA := Lib.hid ha'
                    have hp1 : p + 1 ≤ s.size := by omega
                    obtain ⟨x, hx⟩ : ∃ x, (9223372036854775807 - d) / 10 = x := ⟨_, rfl⟩
                    have wx : wrap64 x = x := by rw [← hx]; exact wrap64_in' (by omega) (by omega)
                    rw [hx] at R1 R2
                    have INNER : Hid (∀ p', q + (j + 1) ≤ p' → p' ≤ q + D → (p' < q + D → ∃ h : p' < s.size, isDig s[p'] = true) ∧ (¬ p' < q + D → ∀ h : p' < s.size, isDig s[p'] = false)) := by
                      intro p' h1 h2
                      refine ⟨fun h3 => ?_, fun h3 h4 => ?_⟩
                      · obtain ⟨e1, e2, _⟩ := digs_lt s (q := q) (j := p' - q) (by rw [← HDL.out]; omega)
                        have e3 : q + (p' - q) = p' := by omega
                        simp only [e3] at e1 e2
                        exact ⟨e1, e2⟩
                      · have e := (digs_end s HQS.out).2
                        have e3 : q + (digsAt s q).length = p' := by rw [← HDL.out]; omega
                        simp only [e3] at e
                        exact e h4
                    by_cases hT : x < a
                    · have ea : a' = 9223372036854775807 := R1 hT
                      have HEA := Lib.hid ea
                      have hT' : decide (x < a) = true := by simp [hT]
                      clear hpd htk hjl hpb htn hne1 hne2 R1 R2 hdt ha' ea hT
                      go_wp2_with fail
                      refine (rdigit_any s[p] _).mono ?_; rw [HPD.out]; rintro e w' ⟨rfl, rfl⟩
                      go_upto_if 101 with (fail)
                      obtain ⟨y, hy⟩ : ∃ y : Int, y = 9223372036854775807 - d := ⟨_, rfl⟩
                      rw [← hy]
                      clear hy
                      obtain ⟨mn, hmn⟩ : ∃ mn : Int, mn = 9223372036854775807 := ⟨_, rfl⟩; rw [← hmn]; have HNV := Lib.hid hmn; clear hmn hT' wx hx w8 w64 hd
                      go_wp2_with fail
                      go_loop [5] (fun i => ∃ p' : Nat, p' ≤ s.size ∧ i = .int .i64 p' ∧ Hid (q + (j + 1) ≤ p' ∧ p' ≤ q + D)) (fun i => s.size - (intOf i).toNat)
                      case atStart => exact ⟨p + 1, hp1, by go_num, by have := HR.out.1; have := HJ.out; show _ ∧ _; omega⟩
                      case round =>
                        obtain ⟨p', hp', rfl, HP'⟩ := hrel
                        by_cases h3 : p' < q + D
                        · obtain ⟨e1, e2⟩ := (INNER.out p' HP'.out.1 HP'.out.2).1 h3
                          have HE2 := Lib.hid e2
                          have H3 := Lib.hid h3
                          clear e2 h3
                          go_wp2_with fail
                          refine (rdigit_any s[p'] _).mono ?_; rw [HE2.out]; rintro e w' ⟨rfl, rfl⟩
                          go_wp2_with fail
                          go_round
                          case rel => exact ⟨p' + 1, by omega, by go_num, by have := HP'.out; have := H3.out; show _ ∧ _; omega⟩
                          case measure => simp [intOf]; omega
                        · have hpe := (INNER.out p' HP'.out.1 HP'.out.2).2 h3
                          have hpp : p' = q + D := by have := HP'.out; omega
                          have HPP := Lib.hid hpp
                          have hpgt : p < p' := by have := HP'.out; have := HR.out.1; omega
                          have REL : Hid (NumRel false (digsAt s q) D (9223372036854775807)) := by
                            refine ⟨?_, fun h => by rw [← HDL.out] at h; omega⟩
                            rw [List.take_of_length_le (by rw [← HDL.out]; exact Nat.le_refl _)]
                            have h1 := HA.out
                            rw [HEA.out] at h1
                            rw [dec_rest false (digsAt s q) (j + 1) (by rw [h1]; simp), h1]
                          clear h3 hpp
                          by_cases h4 : p' < s.size
                          · have HE2 := Lib.hid (hpe h4)
                            clear hpe
                            go_wp2_with fail
                            refine (rdigit_any s[p'] _).mono ?_; rw [HE2.out]; rintro e w' ⟨rfl, rfl⟩
                            go_wp2_with fail
                            go_round
                            case rel => exact ⟨p', D, mn, hp', rfl, rfl, HPP.out, Nat.le_refl _, by rw [HNV.out]; exact REL.out⟩
                            case measure => simp [intOf]; omega
                          · have hps : p' = s.size := by omega
                            clear hpe
                            go_wp2_with fail
                            go_round
                            case rel => exact ⟨p', D, mn, hp', by first | rfl | (rw [hps]), rfl, HPP.out, Nat.le_refl _, by rw [HNV.out]; exact REL.out⟩
                            case measure => simp [intOf]; omega
                    · obtain ⟨W1, W2, W3⟩ := R2 hT
                      have H3 := Lib.hid W3
                      clear W3
                      have hT' : decide (x < a) = false := by simp [hT]
                      by_cases hs1 : a' = 9223372036854775807
                      · have HEA := Lib.hid hs1
                        have t1 : (a' == 9223372036854775807) = true := by simp [hs1]
                        have t2 : (a' == -9223372036854775808) = false := by simp [hs1]
                        clear hpd htk hjl hpb htn hne1 hne2 R1 R2 hdt ha' hT hs1
                        go_wp2_with fail
                        refine (rdigit_any s[p] _).mono ?_; rw [HPD.out]; rintro e w' ⟨rfl, rfl⟩
                        go_upto_if 101 with (fail)
                        obtain ⟨y, hy⟩ : ∃ y : Int, y = 9223372036854775807 - d := ⟨_, rfl⟩
                        rw [← hy]
                        clear hy
                        first | rw [W2] | rw [H3.out]
                        have HNV := HEA; clear hT' wx hx w8 w64 hd W1 W2 t1 t2
                        go_wp2_with fail
                        go_loop [5] (fun i => ∃ p' : Nat, p' ≤ s.size ∧ i = .int .i64 p' ∧ Hid (q + (j + 1) ≤ p' ∧ p' ≤ q + D)) (fun i => s.size - (intOf i).toNat)
                        case atStart => exact ⟨p + 1, hp1, by go_num, by have := HR.out.1; have := HJ.out; show _ ∧ _; omega⟩
                        case round =>
                          obtain ⟨p', hp', rfl, HP'⟩ := hrel
                          by_cases h3 : p' < q + D
                          · obtain ⟨e1, e2⟩ := (INNER.out p' HP'.out.1 HP'.out.2).1 h3
                            have HE2 := Lib.hid e2
                            have H3 := Lib.hid h3
                            clear e2 h3
                            go_wp2_with fail
                            refine (rdigit_any s[p'] _).mono ?_; rw [HE2.out]; rintro e w' ⟨rfl, rfl⟩
                            go_wp2_with fail
                            go_round
                            case rel => exact ⟨p' + 1, by omega, by go_num, by have := HP'.out; have := H3.out; show _ ∧ _; omega⟩
                            case measure => simp [intOf]; omega
                          · have hpe := (INNER.out p' HP'.out.1 HP'.out.2).2 h3
                            have hpp : p' = q + D := by have := HP'.out; omega
                            have HPP := Lib.hid hpp
                            have hpgt : p < p' := by have := HP'.out; have := HR.out.1; omega
                            have REL : Hid (NumRel false (digsAt s q) D (9223372036854775807)) := by
                              refine ⟨?_, fun h => by rw [← HDL.out] at h; omega⟩
                              rw [List.take_of_length_le (by rw [← HDL.out]; exact Nat.le_refl _)]
                              have h1 := HA.out
                              rw [HEA.out] at h1
                              rw [dec_rest false (digsAt s q) (j + 1) (by rw [h1]; simp), h1]
                            clear h3 hpp
                            by_cases h4 : p' < s.size
                            · have HE2 := Lib.hid (hpe h4)
                              clear hpe
                              go_wp2_with fail
                              refine (rdigit_any s[p'] _).mono ?_; rw [HE2.out]; rintro e w' ⟨rfl, rfl⟩
                              go_wp2_with fail
                              go_round
                              case rel => exact ⟨p', D, a', hp', rfl, rfl, HPP.out, Nat.le_refl _, by rw [HNV.out]; exact REL.out⟩
                              case measure => simp [intOf]; omega
                            · have hps : p' = s.size := by omega
                              clear hpe
                              go_wp2_with fail
                              go_round
                              case rel => exact ⟨p', D, a', hp', by first | rfl | (rw [hps]), rfl, HPP.out, Nat.le_refl _, by rw [HNV.out]; exact REL.out⟩
                              case measure => simp [intOf]; omega
                      · have hs2 : a' ≠ -9223372036854775808 := by rw [← ha']; exact sat_nonneg _
                        have t1 : (a' == -9223372036854775808) = false := by simp [hs2]
                        have t2 : (a' == 9223372036854775807) = false := by simp [hs1]
                        have REL : Hid (NumRel false (digsAt s q) (j + 1) a') := ⟨ha'.symm, fun _ => ⟨hs2, hs1⟩⟩
                        clear hpd htk hjl hpb htn hne1 hne2 R1 R2 hdt ha' hT hs1 hs2
                        go_wp2_with fail
                        refine (rdigit_any s[p] _).mono ?_; rw [HPD.out]; rintro e w' ⟨rfl, rfl⟩
                        go_upto_if 101 with (fail)
                        obtain ⟨y, hy⟩ : ∃ y : Int, y = 9223372036854775807 - d := ⟨_, rfl⟩
                        rw [← hy]
                        first | rw [W2] | rw [H3.out]
                        clear hy hT' wx hx w8 w64 hd W1 W2 t1 t2
                        go_wp2_with fail
                        go_round
                        case rel => exact ⟨p + 1, j + 1, a', hp1, by go_num, rfl, by have := HR.out.1; omega, HJ.out, REL.out⟩
                        case measure => simp [intOf]; omega
                  · have hDe := digs_end s HQS.out
                    rw [← HDL.out] at hDe
                    have hpq : p = q + D := by have := HR.out; omega
                    have HPQ := Lib.hid hpq
                    have HAV : Hid (sat false (dec 0 (digsAt s q)) = a) := by
                      show _ = _
                      have h1 := HR.out.2.2.1
                      rw [List.take_of_length_le (by rw [← HDL.out]; omega)] at h1
                      exact h1.symm
                    have hpe : ∀ h : p < s.size, isDig s[p] = false := by
                      intro h
                      have := hDe.2 (by omega)
                      simp only [← hpq] at this
                      exact this
                    have LAST : Hid (∀ e, e ≤ s.size → s.toList.drop e = trimB (s.toList.drop p) → t = (a, (e : Int), true)) := by
                      intro e he hr
                      rw [HT.out, begin_some s hlt HTR.out (by first | (rw [HQ.out, HSG.out]; done) | (rw [HQ.out, HSG.out]; rfl)) HNE.out he (by rw [← HDL.out, ← HPQ.out]; exact hr), N45.out, HAV.out]
                    have TR : Hid (∀ k', p ≤ k' → trimB (s.toList.drop k') = trimB (s.toList.drop p) → ∀ h : k' < s.size, (isBlank s[k'] = true → trimB (s.toList.drop (k' + 1)) = trimB (s.toList.drop p)) ∧ (isBlank s[k'] = false → s.toList.drop k' = trimB (s.toList.drop p))) := by
                      intro k' _ h1 h
                      rw [drop_at s h, trimB_cons] at h1
                      refine ⟨fun hb => by rw [if_pos hb] at h1; exact h1, fun hb => by rw [hb] at h1; rw [drop_at s h]; exact h1⟩
                    clear hDe hpq hjl
                    by_cases hpl : p < s.size
                    · have HPD := Lib.hid (hpe hpl)
                      clear hpe
                      go_wp2_with fail
                      refine (rdigit_any s[p] _).mono ?_; rw [HPD.out]; rintro e w' ⟨rfl, rfl⟩
                      go_wp2_with fail
                      go_loop [5] (fun i => ∃ k' : Nat, k' ≤ s.size ∧ i = .int .i64 k' ∧ Hid (p ≤ k' ∧ trimB (s.toList.drop k') = trimB (s.toList.drop p))) (fun i => s.size - (intOf i).toNat)
                      case atStart => exact ⟨p, hp, by first | rfl | (rw [hps]), Nat.le_refl _, rfl⟩
                      case round =>
                        obtain ⟨k', hk', rfl, HK'⟩ := hrel
                        by_cases h5 : k' < s.size
                        · cases hb' : isBlank s[k'] with
                          | true =>
                            have HN := Lib.hid ((TR.out k' HK'.out.1 HK'.out.2 h5).1 hb')
                            have HB' := Lib.hid hb'
                            clear hb'
                            go_wp2_with fail
                            refine (rblank_any s[k'] _).mono ?_; rw [HB'.out]; rintro e w' ⟨rfl, rfl⟩
                            go_wp2_with fail
                            go_round
                            case rel => exact ⟨k' + 1, by omega, by go_num, by have := HK'.out.1; exact ⟨by omega, HN.out⟩⟩
                            case measure => simp [intOf]; omega
                          | false =>
                            have HZ := Lib.hid (LAST.out k' hk' ((TR.out k' HK'.out.1 HK'.out.2 h5).2 hb'))
                            have HB' := Lib.hid hb'
                            clear hb'
                            go_wp2_with fail
                            refine (rblank_any s[k'] _).mono ?_; rw [HB'.out]; rintro e w' ⟨rfl, rfl⟩
                            go_wp2_with fail
                            go_ret3
                            exact ⟨by rw [HZ.out]; rfl, rfl⟩
                        · have hks : k' = s.size := by omega
                          have HZ := Lib.hid (LAST.out k' hk' (by have := HK'.out.2; rw [drop_end s (by omega)] at this ⊢; exact (this.symm.trans rfl).symm))
                          rw [hks] at HZ
                          go_wp2_with fail
                          go_ret3
                          exact ⟨by rw [HZ.out]; rfl, rfl⟩
                    · have hps : p = s.size := by omega
                      clear hpe
                      go_wp2_with fail
                      go_loop [5] (fun i => ∃ k' : Nat, k' ≤ s.size ∧ i = .int .i64 k' ∧ Hid (p ≤ k' ∧ trimB (s.toList.drop k') = trimB (s.toList.drop p))) (fun i => s.size - (intOf i).toNat)
                      case atStart => exact ⟨p, hp, by first | rfl | (rw [hps]), Nat.le_refl _, rfl⟩
                      case round =>
                        obtain ⟨k', hk', rfl, HK'⟩ := hrel
                        by_cases h5 : k' < s.size
                        · cases hb' : isBlank s[k'] with
                          | true =>
                            have HN := Lib.hid ((TR.out k' HK'.out.1 HK'.out.2 h5).1 hb')
                            have HB' := Lib.hid hb'
                            clear hb'
                            go_wp2_with fail
                            refine (rblank_any s[k'] _).mono ?_; rw [HB'.out]; rintro e w' ⟨rfl, rfl⟩
                            go_wp2_with fail
                            go_round
                            case rel => exact ⟨k' + 1, by omega, by go_num, by have := HK'.out.1; exact ⟨by omega, HN.out⟩⟩
                            case measure => simp [intOf]; omega
                          | false =>
                            have HZ := Lib.hid (LAST.out k' hk' ((TR.out k' HK'.out.1 HK'.out.2 h5).2 hb'))
                            have HB' := Lib.hid hb'
                            clear hb'
                            go_wp2_with fail
                            refine (rblank_any s[k'] _).mono ?_; rw [HB'.out]; rintro e w' ⟨rfl, rfl⟩
                            go_wp2_with fail
                            go_ret3
                            exact ⟨by rw [HZ.out]; rfl, rfl⟩
                        · have hks : k' = s.size := by omega
                          have HZ := Lib.hid (LAST.out k' hk' (by have := HK'.out.2; rw [drop_end s (by omega)] at this ⊢; exact (this.symm.trans rfl).symm))
                          rw [hks] at HZ
                          go_wp2_with fail
                          go_ret3
                          exact ⟨by rw [HZ.out]; rfl, rfl⟩
            · have HZ : Hid (t = (0, 0, false)) := by
                show _ = _
                rw [HT.out]
                exact begin_none (by rw [(digs_trim s hlt HTR.out).1, HSG.out]; exact digs_nil_end s (by omega))
              have hqe : ((k : Int) == (s.size : Int)) = true := by simp; omega
              go_wp2_with (go_at_call 142; refine (rblank_any s[k] _).mono ?_; rw [HB.out]; rintro e w' ⟨rfl, rfl⟩)
              go_ret3
              exact ⟨by rw [HZ.out]; rfl, rfl⟩
    · have HZ : Hid (t = (0, 0, false)) := by
        show _ = _
        rw [HT.out]
        have := HK.out
        rw [drop_end s (by omega)] at this
        exact begin_nil (this.symm.trans rfl)
      have hke : k = s.size := by omega
      subst hke
      go_wp2_with fail
      go_ret3
      exact ⟨by rw [HZ.out]; rfl, rfl⟩
set_option maxHeartbeats 1600000 in
theorem rnumeric_any (s : ByteArray) (hs : s.size ≤ 140737488351232) (w : World) : Calls Tryz.prog 83 #[.string s] w fun e w' => e = .returned (.tuple #[.int .i64 (numericP s.toList).1, .bool (numericP s.toList).2]) ∧ w = w' := by
  have HC := rbegin_any s hs w
  unfold beginT at HC
  cases hn : numOf s.toList with
  | none =>
    rw [hn] at HC
    have e3 : numericP s.toList = (0, false) := by unfold numericP; rw [hn]
    rw [e3]
    clear hn e3
    go_enter Tryz.func83, Tryz.ntmps83
    go_wp2_with fail
    refine HC.mono ?_
    rintro e w1 ⟨rfl, rfl⟩
    clear HC
    go_wp2_with fail
    go_ret2
    exact ⟨rfl, rfl⟩
  | some x =>
    obtain ⟨n, r⟩ := x
    rw [hn] at HC
    have hrl : r.length ≤ s.size := by
      unfold numOf at hn
      split at hn
      · cases hn
      · obtain rfl := (Prod.mk.inj (Option.some.inj hn)).2
        have h1 := dropWhile_le (p := isBlank) ((trimB s.toList).drop (signLen (trimB s.toList) + (digs (trimB s.toList)).length))
        have h2 := dropWhile_le (p := isBlank) s.toList
        rw [List.length_drop] at h1
        rw [size_toList] at h2
        unfold trimB at h1 ⊢
        omega
    rw [size_toList] at HC
    obtain ⟨E, hE⟩ : ∃ E : Int, E = (s.size : Int) - r.length := ⟨_, rfl⟩
    simp only [← hE] at HC
    by_cases hr : r = []
    · have e3 : numericP s.toList = (n, true) := by unfold numericP; rw [hn, hr]
      rw [e3]
      have hl : decide (E < (s.size : Int)) = false := by rw [hE, hr]; simp
      clear hn e3 hrl hr hE
      go_enter Tryz.func83, Tryz.ntmps83
      go_wp2_with fail
      refine HC.mono ?_
      rintro e w1 ⟨rfl, rfl⟩
      clear HC
      go_wp2_with fail
      go_ret2
      exact ⟨rfl, rfl⟩
    · have e3 : numericP s.toList = (0, false) := by
        unfold numericP
        rw [hn]
        cases r with
        | nil => exact absurd rfl hr
        | cons a b => rfl
      rw [e3]
      have hl : decide (E < (s.size : Int)) = true := by
        rw [hE]
        have : r.length ≠ 0 := fun e => hr (List.eq_nil_of_length_eq_zero e)
        simp; omega
      clear hn e3 hrl hr hE
      go_enter Tryz.func83, Tryz.ntmps83
      go_wp2_with fail
      refine HC.mono ?_
      rintro e w1 ⟨rfl, rfl⟩
      clear HC
      go_wp2_with fail
      go_ret2
      exact ⟨rfl, rfl⟩
theorem rnorm_num_walk (n : Int) (t : ByteArray) (w : World) : Calls Tryz.prog 47 #[.agg #[.bool false, .int .i64 n, .string t]] w (KeyPost w ⟨false, n, ⟨#[]⟩⟩) := by
  go_enter Tryz.func47, Tryz.ntmps47
  go_wp2_with fail
  exact bodyPost_ret (v := K.v ⟨false, n, ⟨#[]⟩⟩) (by simp [results, Tryz.results47, go_sem, K.v]) rfl ⟨rfl, ((Below.refl _ w).alloc (Nat.le_refl _) _).alloc (by simp) _⟩
set_option maxHeartbeats 3200000 in
theorem rnorm_bad_walk (n : Int) (t : ByteArray) (x : Int) (HC : ∀ w, Calls Tryz.prog 83 #[.string t] w fun e w' => e = .returned (.tuple #[.int .i64 x, .bool false]) ∧ w = w') (w : World) : Calls Tryz.prog 47 #[.agg #[.bool true, .int .i64 n, .string t]] w (KeyPost w ⟨true, 0, t⟩) := by
  have A1 := Lib.hid (at2_start w (KB true n t) (KB false 0 ⟨#[]⟩))
  go_enter Tryz.func47, Tryz.ntmps47
  go_wp2_with fail
  refine (HC _).mono ?_; rintro e w1 ⟨rfl, rfl⟩; clear HC
  generalize hW : ((w.alloc (Obj.cells #[.bool true, .int .i64 n, .string t] 62)).alloc (Obj.cells #[.bool false, .int .i64 0, .string ⟨#[]⟩] 62)) = w1 at A1
  clear hW
  obtain ⟨a0, a1, a2⟩ := cells3 A1.out.a
  obtain ⟨b0, b1, b2⟩ := cells3 A1.out.b
  obtain ⟨f0, f1, f2⟩ := free3 A1.out.b
  go_wp2_with fail
  go_quiet (fail)
  go_wp2_with fail
  obtain ⟨g0, g1, g2⟩ := cells3 (set3 (W := w1.drewN nq) A1.out.b true 0 t)
  exact bodyPost_ret (v := K.v ⟨true, 0, t⟩) (by simp [results, Tryz.results47, go_sem, K.v, g0, g1, g2]) rfl ⟨rfl, set3_below (belowN A1.out.below nq) (by simp) _ _ _⟩
set_option maxHeartbeats 3200000 in
theorem rnorm_ok_walk (n : Int) (t : ByteArray) (x : Int) (q : Bool) (s : ByteArray) (r : K) (hr : r = if q then ⟨false, x, ⟨#[]⟩⟩ else ⟨true, 0, t⟩) (hq' : (s.toList == t.toList) = q) (HC : ∀ w, Calls Tryz.prog 83 #[.string t] w fun e w' => e = .returned (.tuple #[.int .i64 x, .bool true]) ∧ w = w')
    (HI' : ∀ w, Calls Tryz.prog 61 #[.int .i64 x] w fun e w' => e = .returned (.string s) ∧ Below w.heap.size w w') (w : World) (ht : Tabs w) : Calls Tryz.prog 47 #[.agg #[.bool true, .int .i64 n, .string t]] w (KeyPost w r) := by
  have HR := Lib.hid hr
  have HTS := Lib.hid ht
  have A1 := Lib.hid (at2_start w (KB true n t) (KB false 0 ⟨#[]⟩))
  clear hr ht
  go_enter Tryz.func47, Tryz.ntmps47
  go_wp2_with fail
  refine (HC _).mono ?_; rintro e w1 ⟨rfl, rfl⟩; clear HC
  generalize hW : ((w.alloc (Obj.cells #[.bool true, .int .i64 n, .string t] 62)).alloc (Obj.cells #[.bool false, .int .i64 0, .string ⟨#[]⟩] 62)) = w1 at A1
  clear hW
  go_wp2_with fail
  have HS0 : S2 w w.heap.size (KB true n t) (KB false 0 ⟨#[]⟩) w1 := ⟨HTS.out, A1.out⟩
  clear A1
  go_region_held3 (fun W => W.cell? ⟨w.heap.size, 2, none⟩ = some (.string t) ∧ S2 w w.heap.size (KB true n t) (KB false 0 ⟨#[]⟩) W)
    (first
      | assumption
      | (refine keyS (S2.mono (keyS2 ?_) hb); assumption)
      | (refine keyS (S2.drew ?_); assumption))
    (first
      | (go_at_call 61; refine (HI' _).mono ?_; rintro e wq ⟨rfl, hb⟩))
  obtain ⟨hS, A2⟩ := (‹_ ∧ S2 _ _ _ _ _› : _ ∧ S2 _ _ _ _ _)
  obtain ⟨a0, a1, a2⟩ := cells3 A2.2.a
  obtain ⟨b0, b1, b2⟩ := cells3 A2.2.b
  obtain ⟨f0, f1, f2⟩ := free3 A2.2.b
  clear hS
  cases q
  · have e : r = ⟨true, 0, t⟩ := HR.out
    subst e
    clear HR
    go_wp2_with fail
    obtain ⟨g0, g1, g2⟩ := cells3 (set3 A2.2.b true 0 t)
    exact bodyPost_ret (v := K.v ⟨true, 0, t⟩) (by simp [results, Tryz.results47, go_sem, K.v, g0, g1, g2]) rfl ⟨rfl, set3_below A2.below (by simp) _ _ _⟩
  · have e : r = ⟨false, x, ⟨#[]⟩⟩ := HR.out
    subst e
    clear HR
    go_wp2_with fail
    obtain ⟨g0, g1, g2⟩ := cells3 (set3 A2.2.b false x ⟨#[]⟩)
    exact bodyPost_ret (v := K.v ⟨false, x, ⟨#[]⟩⟩) (by simp [results, Tryz.results47, go_sem, K.v, g0, g1, g2]) rfl ⟨rfl, set3_below A2.below (by simp) _ _ _⟩

theorem rnorm_any (k : K) (hk : k.Good) (w : World) (ht : Tabs w) : Calls Tryz.prog 47 #[k.v] w (KeyPost w k.norm) := by
  obtain ⟨b, n, t⟩ := k
  cases b with
  | false => exact rnorm_num_walk n t w
  | true =>
    have hs : t.size ≤ 140737488351232 := hk.sz
    have HN := rnumeric_any t hs
    have hb := numericP_bounds t.toList
    obtain ⟨⟨x, ok⟩, hx⟩ : ∃ x, x = numericP t.toList := ⟨_, rfl⟩
    rw [← hx] at HN hb
    cases ok with
    | false =>
      have e : K.norm ⟨true, n, t⟩ = ⟨true, 0, t⟩ := by unfold K.norm canonP; simp [← hx]
      rw [e]
      exact rnorm_bad_walk n t x HN w
    | true =>
      refine rnorm_ok_walk n t x (Lib.itoa x == t.toList) (str (Lib.itoa x)) _ ?_ (by rw [str_toList]) HN (fun w => rdigits_any x hb.1 hb.2 w) w ht
      unfold K.norm canonP
      simp only [← hx, if_true, Bool.true_and]
      cases (Lib.itoa x == t.toList) <;> rfl
end Go.Proofs.YtnaefnojmiolbaaGreatDoor.Doc

namespace Go.Proofs.YtnaefnojmiolbaaGreatDoor
open Go.RowKit

attribute [local go_sem] yld_undef
/-- Items lie behind a slice value that has room for them, all through. -/
inductive VCap (w : World) : Value → List It → Prop
  | mk (ao : Option Addr) (cap : Nat) (xs : List It) (c : Nat → Value) (lies : Lies w 7 ao (rowsV xs c)) (len : xs.length ≤ 140737488355328) (hcap : xs.length ≤ cap) (sub : ∀ (j : Nat) (hj : j < xs.length), VCap w (c j) (xs[j]).2.xs) : VCap w (.slice ao xs.length cap) xs
theorem VCap.vin {w : World} {v : Value} {xs : List It} (h : VCap w v xs) : VIn w v xs := by
  induction h with
  | mk ao cap xs c lies len _ _ ih => exact .mk ao cap xs c lies (fun _ _ _ _ => trivial) len ih
theorem VCap.form {w : World} {v : Value} {xs : List It} (h : VCap w v xs) : ∃ ao cap, v = .slice ao xs.length cap ∧ xs.length ≤ 140737488355328 ∧ xs.length ≤ cap := by
  cases h with
  | mk ao cap xs c _ len hcap _ => exact ⟨ao, cap, rfl, len, hcap⟩
theorem VCap.under {w w' : World} {v : Value} {xs : List It} (h : VCap w v xs) (hb : Below w.heap.size w w') : VCap w' v xs := by
  induction h with
  | mk ao cap xs c lies len hcap _ ih =>
    refine .mk ao cap xs c (fun i r hr => ?_) len hcap ih
    obtain ⟨g, off, e, hg, hl, hc⟩ := lies i r hr
    exact ⟨g, off, e, Nat.lt_of_lt_of_le hg hb.size, hl, fun j u hj => (hb.cell (p := ⟨g, off + i * 7 + j, none⟩) hg).trans (hc j u hj)⟩
/-- One item as it lies in a later world. -/
theorem VCap.getB {w wr : World} {ao : Option Addr} {cap m : Nat} {xs : List It} (h : VCap w (.slice ao m cap) xs) {j : Nat} (hj : j < xs.length) (hb : Below w.heap.size w wr) :
    ∃ q x g off co cc, xs[j]? = some (q, x) ∧ (q, x) ∈ xs ∧ ao = some ⟨g, off, none⟩ ∧ VCap wr (.slice co x.xs.length cc) x.xs ∧
      wr.cell? ⟨g, off + j * 7, none⟩ = some (.bool q.b) ∧ wr.cell? ⟨g, off + j * 7 + 1, none⟩ = some (.int .i64 q.n) ∧ wr.cell? ⟨g, off + j * 7 + 2, none⟩ = some (.string q.t) ∧
      wr.cell? ⟨g, off + j * 7 + 3, none⟩ = some (.int .i64 x.k) ∧ wr.cell? ⟨g, off + j * 7 + 4, none⟩ = some (.int .i64 x.n) ∧ wr.cell? ⟨g, off + j * 7 + 5, none⟩ = some (.string x.t) ∧ wr.cell? ⟨g, off + j * 7 + 6, none⟩ = some (.slice co x.xs.length cc) := by
  generalize hv : Value.slice ao m cap = v at h
  cases h with
  | mk ao' cap' xs c lies len hcap sub =>
    cases hv
    obtain ⟨g, off, rfl, hg, -, hc⟩ := lies j _ (rowsV_get hj)
    have hs := sub j hj
    obtain ⟨co, cc, hcv, -, -⟩ := hs.form
    have k := fun o => hb.cell (p := ⟨g, o, none⟩) hg
    have d0 := hc 0 _ rfl
    rw [Nat.add_zero] at d0
    refine ⟨xs[j].1, xs[j].2, g, off, co, cc, by rw [List.getElem?_eq_getElem hj], List.getElem_mem hj, rfl, by rw [← hcv]; exact hs.under hb, (k _).trans d0, (k _).trans (hc 1 _ rfl), (k _).trans (hc 2 _ rfl), (k _).trans (hc 3 _ rfl), (k _).trans (hc 4 _ rfl), (k _).trans (hc 5 _ rfl), ?_⟩
    rw [← hcv]
    exact (k _).trans (hc 6 _ rfl)
/-- The first items alone. -/
theorem VCap.take {w : World} {ao : Option Addr} {cap m : Nat} {xs : List It} (h : VCap w (.slice ao m cap) xs) {j : Nat} (hj : j ≤ xs.length) : VIn w (.slice ao j cap) (xs.take j) := by
  generalize hv : Value.slice ao m cap = v at h
  cases h with
  | mk ao' cap' xs c lies len hcap sub =>
    cases hv
    have e : (xs.take j).length = j := by rw [List.length_take]; omega
    have := VAt.mk (A := fun _ => True) (w := w) ao cap (xs.take j) c (fun i r hr => by
      have hi : i < j := by
        have := (List.getElem?_eq_some_iff.1 hr).1
        rw [rowsV_len, e] at this
        exact this
      refine lies i r ?_
      rw [← hr]
      simp [rowsV, hi]) (fun _ _ _ _ => trivial) (by omega) (fun i hi => by
        rw [List.getElem_take]
        exact (sub i (by omega)).vin)
    rw [e] at this
    exact this
set_option maxHeartbeats 1600000 in
set_option maxRecDepth 100000 in
theorem rleft_any (v : VT) : ∀ (w : World) (c : Value) (n : Int), VIn w c v.xs → 0 ≤ n → n ≤ 2048 → Calls Tryz.prog 76 #[v.v c, .int .i64 n] w (IntPost w (leftV v n)) := by
  refine VT.ind (P := fun v => ∀ (w : World) (c : Value) (n : Int), VIn w c v.xs → 0 ≤ n → n ≤ 2048 → Calls Tryz.prog 76 #[v.v c, .int .i64 n] w (IntPost w (leftV v n))) ?_ v
  intro k m t l ih w c n hv h0 h1
  have hv : VIn w c l := hv
  have hfit := hv.fits
  obtain ⟨ao, cap, rfl, hlen⟩ := hv.form
  have HV := Lib.hid hv
  have IH := Lib.hid ih
  have HF := Lib.hid hfit
  have HB := Lib.hid (below_alloc1 w (VB (.mk k m t l) (.slice ao l.length cap)))
  have HX0 := Lib.hid (heap_alloc_new w (VB (.mk k m t l) (.slice ao l.length cap)))
  obtain ⟨a0, a1, a2, a3⟩ := vb_cells (heap_alloc_new w (VB (.mk k m t l) (.slice ao l.length cap)))
  obtain ⟨hw', hw⟩ := wr_sm (x := n - (l.length : Int)) (by omega) (by omega)
  obtain ⟨r, hr⟩ : ∃ r, r = leftV (.mk k m t l) n := ⟨_, rfl⟩
  have HR : Hid (r = leftL (l.drop 0) (n - l.length)) := Lib.hid (by rw [hr, leftV]; rfl)
  have HL := Lib.hid hlen
  have HN := Lib.hid h0
  rw [← hr]
  clear hv ih hfit hr hlen h0
  show Calls Tryz.prog 76 #[.agg #[.int .i64 k, .int .i64 m, .string t, .slice ao l.length cap], .int .i64 n] w (IntPost w r)
  go_enter Tryz.func76, Tryz.ntmps76
  go_wp2_with fail
  go_loopw [1, 5] (fun nv kv wr => ∃ (j : Nat) (x : Int), j ≤ l.length ∧ nv = .int .i64 x ∧ kv = .int .i64 j ∧ Hid (r = leftL (l.drop j) x ∧ x ≤ 2048 ∧ -140737488355328 ≤ x) ∧ Hid (Below w.heap.size w wr ∧ wr.heap[w.heap.size]? = some (VB (.mk k m t l) (.slice ao l.length cap)))) (fun _ kv _ => l.length - (intOf kv).toNat)
  case atStart => exact ⟨0, n - l.length, Nat.zero_le _, rfl, rfl, Lib.hid ⟨HR.out, by omega, by have := HL.out; have := HN.out; omega⟩, Lib.hid ⟨HB.out, HX0.out⟩⟩
  case round =>
    obtain ⟨j, x, hj, rfl, rfl, HX, BX⟩ := hrel
    have x3 : wr.cell? ⟨w.heap.size, 3, none⟩ = some (.slice ao l.length cap) := (vb_cells BX.out.2).2.2.2
    clear a0 a1 a2 a3
    obtain ⟨ex, hex⟩ : ∃ e, decide (0 ≤ x) = e := ⟨_, rfl⟩
    by_cases hlt : j < l.length
    · have hi : (j : Int) < (l.length : Int) := by omega
      cases ex
      · have hx : x < 0 := by have := of_decide_eq_false hex; omega
        have hrx : r = x := by rw [HX.out.1, leftL_neg hx]
        subst hrx
        clear hx
        go_wp2_with fail
        go_ret
        exact ⟨rfl, BX.out.1⟩
      · have hx : 0 ≤ x := of_decide_eq_true hex
        obtain ⟨q, v, g, off, co, cc, hq, hm, rfl, hc, d0, d1, d2, d3, d4, d5, d6⟩ := HV.out.getB hlt BX.out.1 rfl
        obtain ⟨hwi', hwi⟩ : wrap64 ((j : Int) + 1) = (j : Int) + 1 ∧ IntKind.i64.wrap ((j : Int) + 1) = (j : Int) + 1 := wr_sm (by omega) (by have := HL.out; omega)
        have HC : Calls Tryz.prog 76 #[.agg #[.int .i64 v.k, .int .i64 v.n, .string v.t, .slice co v.xs.length cc], .int .i64 x] wr (IntPost wr (leftV v x)) := IH.out (q, v) hm _ (.slice co v.xs.length cc) x hc hx HX.out.2.1
        have HD : Hid (leftL (l.drop j) x = leftL (l.drop (j + 1)) (leftV v x)) := Lib.hid (by rw [drop_at hq, leftL_cons, if_neg (by omega)])
        have HG := Lib.hid (leftV_ge v hc.fits x hx)
        have HGe := Lib.hid (leftV_le v x hx (fun _ _ => trivial))
        have HLT := Lib.hid hlt
        generalize leftV v x = y at HC HD HG HGe
        clear hc hq hm hlt hx
        go_wp2_with fail
        refine HC.mono ?_
        rintro e w5 ⟨rfl, hb⟩
        have B5 : Hid (Below w.heap.size w w5 ∧ w5.heap[w.heap.size]? = some (VB (.mk k m t l) (.slice (some ⟨g, off, none⟩) l.length cap))) := Lib.hid ⟨BX.out.1.trans (hb.mono BX.out.1.size), (hb.block _ (lt_of_block BX.out.2)).trans BX.out.2⟩
        clear hb HC
        go_wp2_with fail
        go_roundw
        case rel => exact ⟨j + 1, y, HLT.out, rfl, by go_num, Lib.hid ⟨by rw [HX.out.1, HD.out], by have := HGe.out; have := HX.out.2.1; omega, HG.out⟩, B5⟩
        case measure => have := HLT.out; simp [intOf]; omega
    · obtain rfl : j = l.length := by omega
      have hrx : r = x := by rw [HX.out.1, List.drop_length]; rfl
      subst hrx
      go_wp2_with fail
      go_ret
      exact ⟨rfl, BX.out.1⟩
set_option maxRecDepth 100000 in
theorem few_any (v : VT) (hc : countV v ≤ 2048) (w : World) (c : Value) (hv : VIn w c v.xs) : Calls Tryz.prog 36 #[v.v c] w (BoolPost w true) := by
  obtain ⟨ao, cap, rfl, hlen⟩ := hv.form
  have HB := Lib.hid (below_alloc1 w (VB v (.slice ao v.xs.length cap)))
  obtain ⟨a0, a1, a2, a3⟩ := vb_cells (heap_alloc_new w (VB v (.slice ao v.xs.length cap)))
  have HL := rleft_any v (w.alloc (VB v (.slice ao v.xs.length cap))) (.slice ao v.xs.length cap) 2048 (hv.under HB.out) (by omega) (by omega)
  rw [left_count v 2048 (by omega)] at HL
  have hp : decide ((countV v : Int) ≤ 2048) = true := by simp; omega
  clear hv hlen hc
  simp only [VT.v] at HL ⊢
  go_enter Tryz.func36, Tryz.ntmps36
  go_wp2_with fail
  refine HL.mono ?_
  rintro e w1 ⟨rfl, hb⟩
  go_wp2_with fail
  go_ret
  exact ⟨rfl, HB.out.trans (hb.mono HB.out.size)⟩
set_option maxRecDepth 100000 in
theorem count_any (v : VT) (hc : countV v ≤ 2048) (w : World) (c : Value) (hv : VIn w c v.xs) : Calls Tryz.prog 46 #[v.v c] w (IntPost w (countV v)) := by
  obtain ⟨ao, cap, rfl, hlen⟩ := hv.form
  have HB := Lib.hid (below_alloc1 w (VB v (.slice ao v.xs.length cap)))
  obtain ⟨a0, a1, a2, a3⟩ := vb_cells (heap_alloc_new w (VB v (.slice ao v.xs.length cap)))
  have HL := rleft_any v (w.alloc (VB v (.slice ao v.xs.length cap))) (.slice ao v.xs.length cap) 2048 (hv.under HB.out) (by omega) (by omega)
  rw [left_count v 2048 (by omega)] at HL
  obtain ⟨x, hx⟩ : ∃ x : Int, x = 2048 - (countV v : Int) := ⟨_, rfl⟩
  rw [← hx] at HL
  have hp : max x (-1) = x := by omega
  have hp2 : ¬ x ≤ -1 := by omega
  have hp3 : ¬ x < -1 := by omega
  obtain ⟨hw, hw2⟩ := wr_sm (x := 2048 - x) (by omega) (by omega)
  have HX := Lib.hid hx
  clear hv hlen hc hx
  simp only [VT.v] at HL ⊢
  go_enter Tryz.func46, Tryz.ntmps46
  go_wp2_with fail
  refine HL.mono ?_
  rintro e w1 ⟨rfl, hb⟩
  go_wp2_with fail
  go_ret
  exact ⟨by show Ending.returned (.int .i64 (2048 - x)) = _; rw [HX.out]; congr 2; omega, HB.out.trans (hb.mono HB.out.size)⟩
set_option maxHeartbeats 3200000 in
set_option maxRecDepth 100000 in
theorem robj_any (v : VT) : ∀ (w : World) (c : Value) (m : Int), VIn w c v.xs → withinV v m = true → Calls Tryz.prog 45 #[v.v c, .int .i64 m] w (BoolPost w true) := by
  refine VT.ind (P := fun v => ∀ (w : World) (c : Value) (m : Int), VIn w c v.xs → withinV v m = true → Calls Tryz.prog 45 #[v.v c, .int .i64 m] w (BoolPost w true)) ?_ v
  intro k n t l ih w c m hv hw
  have hv : VIn w c l := hv
  obtain ⟨ao, cap, rfl, hlen⟩ := hv.form
  rw [withinV] at hw
  simp only [Bool.and_eq_true, Bool.not_eq_true', Bool.and_eq_false_iff, decide_eq_false_iff_not] at hw
  have HV := Lib.hid hv
  have IH := Lib.hid ih
  have HWL := Lib.hid (withinL_all hw.2)
  have HL := Lib.hid hlen
  have HB := Lib.hid (below_alloc1 w (VB (.mk k n t l) (.slice ao l.length cap)))
  have HX0 := Lib.hid (heap_alloc_new w (VB (.mk k n t l) (.slice ao l.length cap)))
  obtain ⟨a0, a1, a2, a3⟩ := vb_cells HX0.out
  simp only [VT.k, VT.n, VT.t] at a0 a1 a2
  obtain ⟨e5, he5⟩ : ∃ e, (k == 5) = e := ⟨_, rfl⟩
  obtain ⟨em, hem⟩ : ∃ e, decide (m < n) = e := ⟨_, rfl⟩
  have hgood : e5 = true → em = false := fun e => by
    rw [← he5] at e
    rw [← hem, decide_eq_false_iff_not]
    rcases hw.1 with h | h
    · exact absurd (by simpa using e) h
    · exact h
  clear hv ih hw hlen
  show Calls Tryz.prog 45 #[.agg #[.int .i64 k, .int .i64 n, .string t, .slice ao l.length cap], .int .i64 m] w _
  have main : Calls Tryz.prog 45 #[.agg #[.int .i64 k, .int .i64 n, .string t, .slice ao l.length cap], .int .i64 m] w (BoolPost w true) := by
    cases e5
    · clear hgood hem
      go_enter Tryz.func45, Tryz.ntmps45
      go_wp2_with fail
      go_loopw [5] (fun kv wr => ∃ (j : Nat), j ≤ l.length ∧ kv = .int .i64 j ∧ Hid (Below w.heap.size w wr ∧ wr.heap[w.heap.size]? = some (VB (.mk k n t l) (.slice ao l.length cap)))) (fun kv _ => l.length - (intOf kv).toNat)
      case atStart => exact ⟨0, Nat.zero_le _, rfl, Lib.hid ⟨HB.out, HX0.out⟩⟩
      case round =>
        obtain ⟨j, hj, rfl, BX⟩ := hrel
        have x3 : wr.cell? ⟨w.heap.size, 3, none⟩ = some (.slice ao l.length cap) := (vb_cells BX.out.2).2.2.2
        clear a0 a1 a2 a3
        by_cases hlt : j < l.length
        · have hi : (j : Int) < (l.length : Int) := by omega
          obtain ⟨q, v, g, off, co, cc, hq, hm, rfl, hc, d0, d1, d2, d3, d4, d5, d6⟩ := HV.out.getB hlt BX.out.1 rfl
          obtain ⟨hwi', hwi⟩ : wrap64 ((j : Int) + 1) = (j : Int) + 1 ∧ IntKind.i64.wrap ((j : Int) + 1) = (j : Int) + 1 := wr_sm (by omega) (by have := HL.out; omega)
          have HC : Calls Tryz.prog 45 #[.agg #[.int .i64 v.k, .int .i64 v.n, .string v.t, .slice co v.xs.length cc], .int .i64 m] wr (BoolPost wr true) := IH.out (q, v) hm _ (.slice co v.xs.length cc) m hc (HWL.out _ hm)
          have HLT := Lib.hid hlt
          clear hc hq hm hlt
          go_wp2_with fail
          refine HC.mono ?_
          rintro e w5 ⟨rfl, hb⟩
          have B5 : Hid (Below w.heap.size w w5 ∧ w5.heap[w.heap.size]? = some (VB (.mk k n t l) (.slice (some ⟨g, off, none⟩) l.length cap))) := Lib.hid ⟨BX.out.1.trans (hb.mono BX.out.1.size), (hb.block _ (lt_of_block BX.out.2)).trans BX.out.2⟩
          clear hb HC
          go_wp2_with fail
          go_roundw
          case rel => exact ⟨j + 1, HLT.out, by go_num, B5⟩
          case measure => have := HLT.out; simp [intOf]; omega
        · obtain rfl : j = l.length := by omega
          go_wp2_with fail
          go_ret
          exact ⟨rfl, BX.out.1⟩
    · obtain rfl := hgood rfl
      clear hgood
      go_enter Tryz.func45, Tryz.ntmps45
      go_wp2_with fail
      go_loopw [5] (fun kv wr => ∃ (j : Nat), j ≤ l.length ∧ kv = .int .i64 j ∧ Hid (Below w.heap.size w wr ∧ wr.heap[w.heap.size]? = some (VB (.mk k n t l) (.slice ao l.length cap)))) (fun kv _ => l.length - (intOf kv).toNat)
      case atStart => exact ⟨0, Nat.zero_le _, rfl, Lib.hid ⟨HB.out, HX0.out⟩⟩
      case round =>
        obtain ⟨j, hj, rfl, BX⟩ := hrel
        have x3 : wr.cell? ⟨w.heap.size, 3, none⟩ = some (.slice ao l.length cap) := (vb_cells BX.out.2).2.2.2
        clear a0 a1 a2 a3
        by_cases hlt : j < l.length
        · have hi : (j : Int) < (l.length : Int) := by omega
          obtain ⟨q, v, g, off, co, cc, hq, hm, rfl, hc, d0, d1, d2, d3, d4, d5, d6⟩ := HV.out.getB hlt BX.out.1 rfl
          obtain ⟨hwi', hwi⟩ : wrap64 ((j : Int) + 1) = (j : Int) + 1 ∧ IntKind.i64.wrap ((j : Int) + 1) = (j : Int) + 1 := wr_sm (by omega) (by have := HL.out; omega)
          have HC : Calls Tryz.prog 45 #[.agg #[.int .i64 v.k, .int .i64 v.n, .string v.t, .slice co v.xs.length cc], .int .i64 m] wr (BoolPost wr true) := IH.out (q, v) hm _ (.slice co v.xs.length cc) m hc (HWL.out _ hm)
          have HLT := Lib.hid hlt
          clear hc hq hm hlt
          go_wp2_with fail
          refine HC.mono ?_
          rintro e w5 ⟨rfl, hb⟩
          have B5 : Hid (Below w.heap.size w w5 ∧ w5.heap[w.heap.size]? = some (VB (.mk k n t l) (.slice (some ⟨g, off, none⟩) l.length cap))) := Lib.hid ⟨BX.out.1.trans (hb.mono BX.out.1.size), (hb.block _ (lt_of_block BX.out.2)).trans BX.out.2⟩
          clear hb HC
          go_wp2_with fail
          go_roundw
          case rel => exact ⟨j + 1, HLT.out, by go_num, B5⟩
          case measure => have := HLT.out; simp [intOf]; omega
        · obtain rfl : j = l.length := by omega
          go_wp2_with fail
          go_ret
          exact ⟨rfl, BX.out.1⟩
  exact main
/-- Which values are plain. -/
theorem rplain_at (k n : Int) (t : ByteArray) (ao : Option Addr) (m cap : Nat) (w : World) (h0 : decide (0 ≤ k) = true) {b : Bool} (h1 : decide (k ≤ 3) = b) : Calls Tryz.prog 77 #[.agg #[.int .i64 k, .int .i64 n, .string t, .slice ao m cap]] w (BoolPost w b) := by
  go_enter Tryz.func77, Tryz.ntmps77
  go_wp2_with fail
  go_ret
  exact ⟨rfl, below_alloc1 _ _⟩
set_option maxHeartbeats 1600000 in
set_option maxRecDepth 100000 in
theorem rsame_0 (n : Int) (t : ByteArray) (ao bo : Option Addr) (m m2 cap cap2 : Nat) (w : World) : Calls Tryz.prog 78 #[.agg #[.int .i64 0, .int .i64 n, .string t, .slice ao m cap], .agg #[.int .i64 0, .int .i64 n, .string t, .slice bo m2 cap2]] w (BoolPost w true) := by
  have HP := fun W => rplain_at 0 n t ao m cap W (by decide) (b := true) (by decide)
  have A0 := Lib.hid (at2_start w (.cells #[.int .i64 0, .int .i64 n, .string t, .slice ao m cap] 24) (.cells #[.int .i64 0, .int .i64 n, .string t, .slice bo m2 cap2] 24))
  obtain ⟨c0, c1, c2, c3⟩ := vb4 A0.out.a
  obtain ⟨d0, d1, d2, d3⟩ := vb4 A0.out.b
  have hn : (n == n) = true := by simp
  have ht : (t.toList == t.toList) = true := by simp
  have hb : ((n == 0) == (n == 0)) = true := by simp
  go_enter Tryz.func78, Tryz.ntmps78
  go_wp2_with fail
  refine (HP _).mono ?_
  rintro e w1 ⟨rfl, hb1⟩
  have A1 := Lib.hid (A0.out.mono hb1)
  clear c0 c1 c2 c3 d0 d1 d2 d3
  obtain ⟨c0, c1, c2, c3⟩ := vb4 A1.out.a
  obtain ⟨d0, d1, d2, d3⟩ := vb4 A1.out.b
  clear hb1 HP
  go_wp2_with fail
  go_ret
  exact ⟨rfl, A1.out.below⟩
set_option maxHeartbeats 1600000 in
set_option maxRecDepth 100000 in
theorem rsame_1 (n : Int) (t : ByteArray) (ao bo : Option Addr) (m m2 cap cap2 : Nat) (w : World) : Calls Tryz.prog 78 #[.agg #[.int .i64 1, .int .i64 n, .string t, .slice ao m cap], .agg #[.int .i64 1, .int .i64 n, .string t, .slice bo m2 cap2]] w (BoolPost w true) := by
  have HP := fun W => rplain_at 1 n t ao m cap W (by decide) (b := true) (by decide)
  have A0 := Lib.hid (at2_start w (.cells #[.int .i64 1, .int .i64 n, .string t, .slice ao m cap] 24) (.cells #[.int .i64 1, .int .i64 n, .string t, .slice bo m2 cap2] 24))
  obtain ⟨c0, c1, c2, c3⟩ := vb4 A0.out.a
  obtain ⟨d0, d1, d2, d3⟩ := vb4 A0.out.b
  have hn : (n == n) = true := by simp
  have ht : (t.toList == t.toList) = true := by simp
  have hb : ((n == 0) == (n == 0)) = true := by simp
  go_enter Tryz.func78, Tryz.ntmps78
  go_wp2_with fail
  refine (HP _).mono ?_
  rintro e w1 ⟨rfl, hb1⟩
  have A1 := Lib.hid (A0.out.mono hb1)
  clear c0 c1 c2 c3 d0 d1 d2 d3
  obtain ⟨c0, c1, c2, c3⟩ := vb4 A1.out.a
  obtain ⟨d0, d1, d2, d3⟩ := vb4 A1.out.b
  clear hb1 HP
  go_wp2_with fail
  go_ret
  exact ⟨rfl, A1.out.below⟩
set_option maxHeartbeats 1600000 in
set_option maxRecDepth 100000 in
theorem rsame_2 (n : Int) (t : ByteArray) (ao bo : Option Addr) (m m2 cap cap2 : Nat) (w : World) : Calls Tryz.prog 78 #[.agg #[.int .i64 2, .int .i64 n, .string t, .slice ao m cap], .agg #[.int .i64 2, .int .i64 n, .string t, .slice bo m2 cap2]] w (BoolPost w true) := by
  have HP := fun W => rplain_at 2 n t ao m cap W (by decide) (b := true) (by decide)
  have A0 := Lib.hid (at2_start w (.cells #[.int .i64 2, .int .i64 n, .string t, .slice ao m cap] 24) (.cells #[.int .i64 2, .int .i64 n, .string t, .slice bo m2 cap2] 24))
  obtain ⟨c0, c1, c2, c3⟩ := vb4 A0.out.a
  obtain ⟨d0, d1, d2, d3⟩ := vb4 A0.out.b
  have hn : (n == n) = true := by simp
  have ht : (t.toList == t.toList) = true := by simp
  have hb : ((n == 0) == (n == 0)) = true := by simp
  go_enter Tryz.func78, Tryz.ntmps78
  go_wp2_with fail
  refine (HP _).mono ?_
  rintro e w1 ⟨rfl, hb1⟩
  have A1 := Lib.hid (A0.out.mono hb1)
  clear c0 c1 c2 c3 d0 d1 d2 d3
  obtain ⟨c0, c1, c2, c3⟩ := vb4 A1.out.a
  obtain ⟨d0, d1, d2, d3⟩ := vb4 A1.out.b
  clear hb1 HP
  go_wp2_with fail
  go_ret
  exact ⟨rfl, A1.out.below⟩
set_option maxHeartbeats 1600000 in
set_option maxRecDepth 100000 in
theorem rsame_3 (n : Int) (t : ByteArray) (ao bo : Option Addr) (m m2 cap cap2 : Nat) (w : World) : Calls Tryz.prog 78 #[.agg #[.int .i64 3, .int .i64 n, .string t, .slice ao m cap], .agg #[.int .i64 3, .int .i64 n, .string t, .slice bo m2 cap2]] w (BoolPost w true) := by
  have HP := fun W => rplain_at 3 n t ao m cap W (by decide) (b := true) (by decide)
  have A0 := Lib.hid (at2_start w (.cells #[.int .i64 3, .int .i64 n, .string t, .slice ao m cap] 24) (.cells #[.int .i64 3, .int .i64 n, .string t, .slice bo m2 cap2] 24))
  obtain ⟨c0, c1, c2, c3⟩ := vb4 A0.out.a
  obtain ⟨d0, d1, d2, d3⟩ := vb4 A0.out.b
  have hn : (n == n) = true := by simp
  have ht : (t.toList == t.toList) = true := by simp
  have hb : ((n == 0) == (n == 0)) = true := by simp
  go_enter Tryz.func78, Tryz.ntmps78
  go_wp2_with fail
  refine (HP _).mono ?_
  rintro e w1 ⟨rfl, hb1⟩
  have A1 := Lib.hid (A0.out.mono hb1)
  clear c0 c1 c2 c3 d0 d1 d2 d3
  obtain ⟨c0, c1, c2, c3⟩ := vb4 A1.out.a
  obtain ⟨d0, d1, d2, d3⟩ := vb4 A1.out.b
  clear hb1 HP
  go_wp2_with fail
  go_ret
  exact ⟨rfl, A1.out.below⟩
theorem rsame_like (k n : Int) (t : ByteArray) (hk : 0 ≤ k ∧ k ≤ 3) (ao bo : Option Addr) (m m2 cap cap2 : Nat) (w : World) : Calls Tryz.prog 78 #[.agg #[.int .i64 k, .int .i64 n, .string t, .slice ao m cap], .agg #[.int .i64 k, .int .i64 n, .string t, .slice bo m2 cap2]] w (BoolPost w true) := by
  have h : k = 0 ∨ k = 1 ∨ k = 2 ∨ k = 3 := by omega
  rcases h with rfl | rfl | rfl | rfl
  · exact rsame_0 n t ao bo m m2 cap cap2 w
  · exact rsame_1 n t ao bo m m2 cap cap2 w
  · exact rsame_2 n t ao bo m m2 cap cap2 w
  · exact rsame_3 n t ao bo m m2 cap cap2 w
/-- Two values that are the same, next numbers aside. -/
inductive AlikeV : VT → VT → Prop
  | plain (k n : Int) (t : ByteArray) (l l' : List It) (hk : 0 ≤ k ∧ k ≤ 3) : AlikeV (.mk k n t l) (.mk k n t l')
  | obj (n : Int) (t t' : ByteArray) (l l' : List It) : AlikeV (.mk 5 n t l) (.mk 5 n t' l')
  | list (n n' : Int) (t t' : ByteArray) (l l' : List It) (hl : l.length = l'.length) (hk : ∀ (j : Nat) (h1 : j < l.length) (h2 : j < l'.length), (l[j]).1 = (l'[j]).1) (h : ∀ (j : Nat) (h1 : j < l.length) (h2 : j < l'.length), AlikeV (l[j]).2 (l'[j]).2) : AlikeV (.mk 4 n t l) (.mk 4 n' t' l')
end Go.Proofs.YtnaefnojmiolbaaGreatDoor

namespace Go.Proofs.YtnaefnojmiolbaaGreatDoor
open Go.RowKit

attribute [local go_sem] yld_undef
/-- Two boxes, and what lies under both. -/
structure AL (w : World) (a b : VT) (c d : Value) (V : World) : Prop where
  below : Below w.heap.size w V
  a : V.heap[w.heap.size]? = some (VB a c)
  b : V.heap[w.heap.size + 1]? = some (VB b d)
theorem AL.mono {w V V' : World} {a b : VT} {c d : Value} (h : AL w a b c d V) (hb : Below V.heap.size V V') : AL w a b c d V' :=
  ⟨h.below.trans (hb.mono h.below.size), (hb.block _ (lt_of_block h.a)).trans h.a, (hb.block _ (lt_of_block h.b)).trans h.b⟩
set_option maxHeartbeats 6400000 in
set_option maxRecDepth 100000 in
theorem alike_any {a b : VT} (hab : AlikeV a b) : ∀ (w : World) (c d : Value), VIn w c a.xs → VIn w d b.xs → Calls Tryz.prog 37 #[a.v c, b.v d] w (BoolPost w true) := by
  induction hab with
  | plain k n t l l' hk =>
    intro w c d hv hv2
    obtain ⟨ao, cap, rfl, hlen⟩ := hv.form
    obtain ⟨bo, cap2, rfl, -⟩ := hv2.form
    have A0 : Hid (AL w (.mk k n t l) (.mk k n t l') (.slice ao (VT.mk k n t l).xs.length cap) (.slice bo (VT.mk k n t l').xs.length cap2) ((w.alloc (VB (.mk k n t l) (.slice ao (VT.mk k n t l).xs.length cap))).alloc (VB (.mk k n t l') (.slice bo (VT.mk k n t l').xs.length cap2)))) := Lib.hid ⟨(at2_start w _ _).below, (at2_start w _ _).a, (at2_start w _ _).b⟩
    obtain ⟨a0, a1, a2, a3⟩ := vb_cells A0.out.a
    obtain ⟨b0, b1, b2, b3⟩ := vb_cells A0.out.b
    have hkk : (k == k) = true := by simp
    have HP := fun W => rplain_at k n t ao l.length cap W (decide_eq_true hk.1) (decide_eq_true hk.2)
    have HS := fun W => rsame_like k n t hk ao bo l.length l'.length cap cap2 W
    clear hv hv2 hlen
    simp only [VT.v, VT.k, VT.n, VT.t, VT.xs] at a0 a1 a2 a3 b0 b1 b2 b3 ⊢
    go_enter Tryz.func37, Tryz.ntmps37
    go_wp2_with fail
    refine (HP _).mono ?_
    rintro e w1 ⟨rfl, hb1⟩
    have A1 := Lib.hid (A0.out.mono hb1)
    obtain ⟨a0, a1, a2, a3⟩ := vb_cells A1.out.a
    obtain ⟨b0, b1, b2, b3⟩ := vb_cells A1.out.b
    simp only [VT.k, VT.n, VT.t, VT.xs] at a0 a1 a2 a3 b0 b1 b2 b3
    clear hb1
    go_wp2_with fail
    refine (HS _).mono ?_
    rintro e w2 ⟨rfl, hb2⟩
    go_wp2_with fail
    go_ret
    exact ⟨rfl, (A1.out.mono hb2).below⟩
  | obj n t t' l l' =>
    intro w c d hv hv2
    obtain ⟨ao, cap, rfl, hlen⟩ := hv.form
    obtain ⟨bo, cap2, rfl, -⟩ := hv2.form
    have A0 : Hid (AL w (.mk 5 n t l) (.mk 5 n t' l') (.slice ao (VT.mk 5 n t l).xs.length cap) (.slice bo (VT.mk 5 n t' l').xs.length cap2) ((w.alloc (VB (.mk 5 n t l) (.slice ao (VT.mk 5 n t l).xs.length cap))).alloc (VB (.mk 5 n t' l') (.slice bo (VT.mk 5 n t' l').xs.length cap2)))) := Lib.hid ⟨(at2_start w _ _).below, (at2_start w _ _).a, (at2_start w _ _).b⟩
    obtain ⟨a0, a1, a2, a3⟩ := vb_cells A0.out.a
    obtain ⟨b0, b1, b2, b3⟩ := vb_cells A0.out.b
    have hnn : (n == n) = true := by simp
    have HP := fun W => rplain_at 5 n t ao l.length cap W (by decide) (b := false) (by decide)
    clear hv hv2 hlen
    simp only [VT.v, VT.k, VT.n, VT.t, VT.xs] at a0 a1 a2 a3 b0 b1 b2 b3 ⊢
    go_enter Tryz.func37, Tryz.ntmps37
    go_wp2_with fail
    refine (HP _).mono ?_
    rintro e w1 ⟨rfl, hb1⟩
    have A1 := Lib.hid (A0.out.mono hb1)
    obtain ⟨a0, a1, a2, a3⟩ := vb_cells A1.out.a
    obtain ⟨b0, b1, b2, b3⟩ := vb_cells A1.out.b
    simp only [VT.k, VT.n, VT.t, VT.xs] at a0 a1 a2 a3 b0 b1 b2 b3
    clear hb1
    go_wp2_with fail
    go_ret
    exact ⟨rfl, A1.out.below⟩
  | list n n' t t' l l' hl h _ ih =>
    intro w c d hv hv2
    have hv : VIn w c l := hv
    have hv2 : VIn w d l' := hv2
    obtain ⟨ao, cap, rfl, hlen⟩ := hv.form
    obtain ⟨bo, cap2, rfl, -⟩ := hv2.form
    rw [← hl] at hv2 ⊢
    have A0 : Hid (AL w (.mk 4 n t l) (.mk 4 n' t' l') (.slice ao l.length cap) (.slice bo l.length cap2) ((w.alloc (VB (.mk 4 n t l) (.slice ao l.length cap))).alloc (VB (.mk 4 n' t' l') (.slice bo l.length cap2)))) := Lib.hid ⟨(at2_start w _ _).below, (at2_start w _ _).a, (at2_start w _ _).b⟩
    obtain ⟨a0, a1, a2, a3⟩ := vb_cells A0.out.a
    obtain ⟨b0, b1, b2, b3⟩ := vb_cells A0.out.b
    have hll : ((l.length : Int) == (l.length : Int)) = true := by simp
    have HP := fun W => rplain_at 4 n t ao l.length cap W (by decide) (b := false) (by decide)
    have HV := Lib.hid hv
    have HV2 := Lib.hid hv2
    have IH := Lib.hid ih
    have HK := Lib.hid h
    have HLL := Lib.hid hl
    have HL := Lib.hid hlen
    clear hv hv2 ih hlen h hl
    simp only [VT.v, VT.k, VT.n, VT.t] at a0 a1 a2 a3 b0 b1 b2 b3 ⊢
    go_enter Tryz.func37, Tryz.ntmps37
    go_wp2_with fail
    refine (HP _).mono ?_
    rintro e w1 ⟨rfl, hb1⟩
    have A1 := Lib.hid (A0.out.mono hb1)
    obtain ⟨a0, a1, a2, a3⟩ := vb_cells A1.out.a
    obtain ⟨b0, b1, b2, b3⟩ := vb_cells A1.out.b
    simp only [VT.k, VT.n, VT.t] at a0 a1 a2 a3 b0 b1 b2 b3
    clear hb1 HP A0
    go_wp2_with fail
    go_loopw [5] (fun kv wr => ∃ (j : Nat), j ≤ l.length ∧ kv = .int .i64 j ∧ Hid (AL w (.mk 4 n t l) (.mk 4 n' t' l') (.slice ao l.length cap) (.slice bo l.length cap2) wr)) (fun kv _ => l.length - (intOf kv).toNat)
    case atStart => exact ⟨0, Nat.zero_le _, rfl, A1⟩
    case round =>
      obtain ⟨j, hj, rfl, BX⟩ := hrel
      have x3 : wr.cell? ⟨w.heap.size, 3, none⟩ = some (.slice ao l.length cap) := (vb_cells BX.out.a).2.2.2
      clear a0 a1 a2 a3 b0 b1 b2 b3
      by_cases hlt : j < l.length
      · have hi : (j : Int) < (l.length : Int) := by omega
        have hlt2 : j < l'.length := by rw [← HLL.out]; exact hlt
        obtain ⟨q, x, g, off, co, cc, hq, hm, rfl, hc, r0, r1, r2, r3, r4, r5, r6⟩ := HV.out.getB hlt BX.out.below rfl
        obtain ⟨q', y, g2, off2, co2, cc2, hq', -, rfl, hc2, s0, s1, s2, s3, s4, s5, s6⟩ := HV2.out.getB hlt2 BX.out.below rfl
        have k1 := HK.out j hlt hlt2
        have i1 := IH.out j hlt hlt2
        rw [List.getElem?_eq_getElem hlt] at hq
        rw [List.getElem?_eq_getElem hlt2] at hq'
        rw [Option.some.inj hq, Option.some.inj hq'] at i1 k1
        simp only at i1 k1
        subst k1
        obtain ⟨hwi', hwi⟩ : wrap64 ((j : Int) + 1) = (j : Int) + 1 ∧ IntKind.i64.wrap ((j : Int) + 1) = (j : Int) + 1 := wr_sm (by omega) (by have := HL.out; omega)
        have hN : ∀ w, (binOp .neq 62 (.agg #[.bool q.b, .int .i64 q.n, .string q.t]) (.agg #[.bool q.b, .int .i64 q.n, .string q.t])).run Tryz.prog w = .ok (.bool false) w := fun w => by have := key_neq q q w; rw [K.same_self] at this; exact this
        have HC : ∀ V, VIn V (.slice co x.xs.length cc) x.xs → VIn V (.slice co2 y.xs.length cc2) y.xs → Calls Tryz.prog 37 #[.agg #[.int .i64 x.k, .int .i64 x.n, .string x.t, .slice co x.xs.length cc], .agg #[.int .i64 y.k, .int .i64 y.n, .string y.t, .slice co2 y.xs.length cc2]] V (BoolPost V true) := fun V h1 h2 => i1 V _ _ h1 h2
        have hg : g < wr.heap.size := cell_lt r0
        have hg2 : g2 < wr.heap.size := cell_lt s0
        have six : ∀ {V : World}, Below wr.heap.size wr V → ((fun V => V.cell? ⟨w.heap.size, 3, none⟩ = some (.slice (some ⟨g, off, none⟩) l.length cap) ∧ V.cell? ⟨w.heap.size + 1, 3, none⟩ = some (.slice (some ⟨g2, off2, none⟩) l.length cap2) ∧ V.cell? ⟨g, off + j * 7, none⟩ = some (.bool q.b) ∧ V.cell? ⟨g, off + j * 7 + 1, none⟩ = some (.int .i64 q.n) ∧ V.cell? ⟨g, off + j * 7 + 2, none⟩ = some (.string q.t) ∧ V.cell? ⟨g, off + j * 7 + 3, none⟩ = some (.int .i64 x.k) ∧ V.cell? ⟨g, off + j * 7 + 4, none⟩ = some (.int .i64 x.n) ∧ V.cell? ⟨g, off + j * 7 + 5, none⟩ = some (.string x.t) ∧ V.cell? ⟨g, off + j * 7 + 6, none⟩ = some (.slice co x.xs.length cc) ∧ V.cell? ⟨g2, off2 + j * 7, none⟩ = some (.bool q.b) ∧ V.cell? ⟨g2, off2 + j * 7 + 1, none⟩ = some (.int .i64 q.n) ∧ V.cell? ⟨g2, off2 + j * 7 + 2, none⟩ = some (.string q.t) ∧ V.cell? ⟨g2, off2 + j * 7 + 3, none⟩ = some (.int .i64 y.k) ∧ V.cell? ⟨g2, off2 + j * 7 + 4, none⟩ = some (.int .i64 y.n) ∧ V.cell? ⟨g2, off2 + j * 7 + 5, none⟩ = some (.string y.t) ∧ V.cell? ⟨g2, off2 + j * 7 + 6, none⟩ = some (.slice co2 y.xs.length cc2)) V) := fun {V} hb =>
          ⟨(vb_cells (BX.out.mono hb).a).2.2.2, (vb_cells (BX.out.mono hb).b).2.2.2, (hb.cell (p := ⟨g, _, none⟩) hg).trans r0, (hb.cell (p := ⟨g, _, none⟩) hg).trans r1, (hb.cell (p := ⟨g, _, none⟩) hg).trans r2, (hb.cell (p := ⟨g, _, none⟩) hg).trans r3, (hb.cell (p := ⟨g, _, none⟩) hg).trans r4, (hb.cell (p := ⟨g, _, none⟩) hg).trans r5, (hb.cell (p := ⟨g, _, none⟩) hg).trans r6, (hb.cell (p := ⟨g2, _, none⟩) hg2).trans s0, (hb.cell (p := ⟨g2, _, none⟩) hg2).trans s1, (hb.cell (p := ⟨g2, _, none⟩) hg2).trans s2, (hb.cell (p := ⟨g2, _, none⟩) hg2).trans s3, (hb.cell (p := ⟨g2, _, none⟩) hg2).trans s4, (hb.cell (p := ⟨g2, _, none⟩) hg2).trans s5, (hb.cell (p := ⟨g2, _, none⟩) hg2).trans s6⟩
        have HSX := @Lib.hid _ @six
        have HS0 := Lib.hid (six (Below.refl wr.heap.size wr).drew)
        have HC1 := Lib.hid hc
        have HC2 := Lib.hid hc2
        have HLT := Lib.hid hlt
        clear hc hc2 hq hm hq' hlt hlt2 i1 six r0 r1 r2 r3 r4 r5 r6 s0 s1 s2 s3 s4 s5 s6
        go_wp2_with fail
        refine wp_region_noPanic ?_
        refine wp_region_held_drew (S := (fun V => V.cell? ⟨w.heap.size, 3, none⟩ = some (.slice (some ⟨g, off, none⟩) l.length cap) ∧ V.cell? ⟨w.heap.size + 1, 3, none⟩ = some (.slice (some ⟨g2, off2, none⟩) l.length cap2) ∧ V.cell? ⟨g, off + j * 7, none⟩ = some (.bool q.b) ∧ V.cell? ⟨g, off + j * 7 + 1, none⟩ = some (.int .i64 q.n) ∧ V.cell? ⟨g, off + j * 7 + 2, none⟩ = some (.string q.t) ∧ V.cell? ⟨g, off + j * 7 + 3, none⟩ = some (.int .i64 x.k) ∧ V.cell? ⟨g, off + j * 7 + 4, none⟩ = some (.int .i64 x.n) ∧ V.cell? ⟨g, off + j * 7 + 5, none⟩ = some (.string x.t) ∧ V.cell? ⟨g, off + j * 7 + 6, none⟩ = some (.slice co x.xs.length cc) ∧ V.cell? ⟨g2, off2 + j * 7, none⟩ = some (.bool q.b) ∧ V.cell? ⟨g2, off2 + j * 7 + 1, none⟩ = some (.int .i64 q.n) ∧ V.cell? ⟨g2, off2 + j * 7 + 2, none⟩ = some (.string q.t) ∧ V.cell? ⟨g2, off2 + j * 7 + 3, none⟩ = some (.int .i64 y.k) ∧ V.cell? ⟨g2, off2 + j * 7 + 4, none⟩ = some (.int .i64 y.n) ∧ V.cell? ⟨g2, off2 + j * 7 + 5, none⟩ = some (.string y.t) ∧ V.cell? ⟨g2, off2 + j * 7 + 6, none⟩ = some (.slice co2 y.xs.length cc2))) (by kernel_rfl) (by exact HS0.out) (fun hHeld => ?_)
        refine wpAnyH_take (i := 0) (oi := ?o0) (v := ?v0) ?hi0 (by kernel_rfl) (by kernel_rfl) (by kernel_rfl) (fun _ _ _ h => h) ?hy0 (by assumption) ?rest0
        case hi0 => simp only [gA, gZ]; rfl
        case hy0 =>
          refine Or.inl ⟨by rfl, ?_⟩
          intro w hSw; (try dsimp only at hSw); go_simp <;> (with_reducible rfl)
        (try simp only [Act.put, pA, pZ, pS])
        refine wpAnyH_take (i := 1) (oi := ?o1) (v := ?v1) ?hi1 (by kernel_rfl) (by kernel_rfl) (by kernel_rfl) (fun _ _ _ h => h) ?hy1 (by assumption) ?rest1
        case hi1 => simp only [gA, gS, gZ]; rfl
        case hy1 =>
          refine Or.inl ⟨by rfl, ?_⟩
          intro w hSw; (try dsimp only at hSw); go_simp <;> (with_reducible rfl)
        (try simp only [Act.put, pA, pZ, pS])
        refine wpAnyH_take (i := 2) (oi := ?o2) (v := ?v2) ?hi2 (by kernel_rfl) (by kernel_rfl) (by kernel_rfl) (fun _ _ _ h => h) ?hy2 (by assumption) ?rest2
        case hi2 => simp only [gA, gS, gZ]; rfl
        case hy2 =>
          refine Or.inl ⟨by rfl, ?_⟩
          intro w hSw; (try dsimp only at hSw); go_simp <;> (with_reducible rfl)
        (try simp only [Act.put, pA, pZ, pS])
        refine wpAnyH_take (i := 3) (oi := ?o3) (v := ?v3) ?hi3 (by kernel_rfl) (by kernel_rfl) (by kernel_rfl) (fun _ _ _ h => h) ?hy3 (by assumption) ?rest3
        case hi3 => simp only [gA, gS, gZ]; rfl
        case hy3 =>
          refine Or.inl ⟨by rfl, ?_⟩
          intro w hSw; (try dsimp only at hSw); go_simp <;> (with_reducible rfl)
        (try simp only [Act.put, pA, pZ, pS])
        refine wpAnyH_take (i := 4) (oi := ?o4) (v := ?v4) ?hi4 (by kernel_rfl) (by kernel_rfl) (by kernel_rfl) (fun _ _ _ h => h) ?hy4 (by assumption) ?rest4
        case hi4 => simp only [gA, gS, gZ]; rfl
        case hy4 =>
          refine Or.inl ⟨by rfl, ?_⟩
          intro w hSw; (try dsimp only at hSw); go_simp <;> (with_reducible rfl)
        (try simp only [Act.put, pA, pZ, pS])
        refine wpAnyH_take (i := 5) (oi := ?o5) (v := ?v5) ?hi5 (by kernel_rfl) (by kernel_rfl) (by kernel_rfl) (fun _ _ _ h => h) ?hy5 (by assumption) ?rest5
        case hi5 => simp only [gA, gS, gZ]; rfl
        case hy5 =>
          refine Or.inl ⟨by rfl, ?_⟩
          intro w hSw; (try dsimp only at hSw); go_simp <;> (with_reducible rfl)
        (try simp only [Act.put, pA, pZ, pS])
        refine wpAnyH_take (i := 6) (oi := ?o6) (v := ?v6) ?hi6 (by kernel_rfl) (by kernel_rfl) (by kernel_rfl) (fun _ _ _ h => h) ?hy6 (by assumption) ?rest6
        case hi6 => simp only [gA, gS, gZ]; rfl
        case hy6 =>
          refine Or.inl ⟨by rfl, ?_⟩
          intro w hSw; (try dsimp only at hSw); go_simp <;> (with_reducible rfl)
        (try simp only [Act.put, pA, pZ, pS])
        refine wpAnyH_take (i := 7) (oi := ?o7) (v := ?v7) ?hi7 (by kernel_rfl) (by kernel_rfl) (by kernel_rfl) (fun _ _ _ h => h) ?hy7 (by assumption) ?rest7
        case hi7 => simp only [gA, gS, gZ]; rfl
        case hy7 =>
          refine Or.inl ⟨by rfl, ?_⟩
          intro w hSw; (try dsimp only at hSw); go_simp <;> (with_reducible rfl)
        (try simp only [Act.put, pA, pZ, pS])
        refine wpAnyH_take (i := 8) (oi := ?o8) (v := ?v8) ?hi8 (by kernel_rfl) (by kernel_rfl) (by kernel_rfl) (fun _ _ _ h => h) ?hy8 (by assumption) ?rest8
        case hi8 => simp only [gA, gS, gZ]; rfl
        case hy8 =>
          refine Or.inl ⟨by rfl, ?_⟩
          intro w hSw; (try dsimp only at hSw); go_simp <;> (with_reducible rfl)
        (try simp only [Act.put, pA, pZ, pS])
        refine wpAnyH_take (i := 9) (oi := ?o9) (v := ?v9) ?hi9 (by kernel_rfl) (by kernel_rfl) (by kernel_rfl) (fun _ _ _ h => h) ?hy9 (by assumption) ?rest9
        case hi9 => simp only [gA, gS, gZ]; rfl
        case hy9 =>
          refine Or.inl ⟨by rfl, ?_⟩
          intro w hSw; (try dsimp only at hSw); go_simp <;> (with_reducible rfl)
        (try simp only [Act.put, pA, pZ, pS])
        refine wpAnyH_take (i := 10) (oi := ?o10) (v := ?v10) ?hi10 (by kernel_rfl) (by kernel_rfl) (by kernel_rfl) (fun _ _ _ h => h) ?hy10 (by assumption) ?rest10
        case hi10 => simp only [gA, gS, gZ]; rfl
        case hy10 =>
          refine Or.inl ⟨by rfl, ?_⟩
          intro w hSw; (try dsimp only at hSw); go_simp <;> (with_reducible rfl)
        (try simp only [Act.put, pA, pZ, pS])
        refine wpAnyH_take (i := 11) (oi := ?o11) (v := ?v11) ?hi11 (by kernel_rfl) (by kernel_rfl) (by kernel_rfl) (fun _ _ _ h => h) ?hy11 (by assumption) ?rest11
        case hi11 => simp only [gA, gS, gZ]; rfl
        case hy11 =>
          refine Or.inl ⟨by rfl, ?_⟩
          intro w hSw; (try dsimp only at hSw); go_simp <;> (with_reducible rfl)
        (try simp only [Act.put, pA, pZ, pS])
        refine wpAnyH_take (i := 12) (oi := ?o12) (v := ?v12) ?hi12 (by kernel_rfl) (by kernel_rfl) (by kernel_rfl) (fun _ _ _ h => h) ?hy12 (by assumption) ?rest12
        case hi12 => simp only [gA, gS, gZ]; rfl
        case hy12 =>
          refine Or.inl ⟨by rfl, ?_⟩
          intro w hSw; (try dsimp only at hSw); go_simp <;> (with_reducible rfl)
        (try simp only [Act.put, pA, pZ, pS])
        refine wpAnyH_take (i := 13) (oi := ?o13) (v := ?v13) ?hi13 (by kernel_rfl) (by kernel_rfl) (by kernel_rfl) (fun _ _ _ h => h) ?hy13 (by assumption) ?rest13
        case hi13 => simp only [gA, gS, gZ]; rfl
        case hy13 =>
          refine Or.inl ⟨by rfl, ?_⟩
          intro w hSw; (try dsimp only at hSw); go_simp <;> (with_reducible rfl)
        (try simp only [Act.put, pA, pZ, pS])
        refine wpAnyH_take (i := 14) (oi := ?o14) (v := ?v14) ?hi14 (by kernel_rfl) (by kernel_rfl) (by kernel_rfl) (fun _ _ _ h => h) ?hy14 (by assumption) ?rest14
        case hi14 => simp only [gA, gS, gZ]; rfl
        case hy14 =>
          refine Or.inl ⟨by rfl, ?_⟩
          intro w hSw; (try dsimp only at hSw); go_simp <;> (with_reducible rfl)
        (try simp only [Act.put, pA, pZ, pS])
        refine wpAnyH_take (i := 15) (oi := ?o15) (v := ?v15) ?hi15 (by kernel_rfl) (by kernel_rfl) (by kernel_rfl) (fun _ _ _ h => h) ?hy15 (by assumption) ?rest15
        case hi15 => simp only [gA, gS, gZ]; rfl
        case hy15 =>
          refine Or.inl ⟨by rfl, ?_⟩
          intro w hSw; (try dsimp only at hSw); go_simp <;> (with_reducible rfl)
        (try simp only [Act.put, pA, pZ, pS])
        refine wpAnyH_take (i := 16) (oi := ?o16) (v := ?v16) ?hi16 (by kernel_rfl) (by kernel_rfl) (by kernel_rfl) (fun _ _ _ h => h) ?hy16 (by assumption) ?rest16
        case hi16 => simp only [gA, gS, gZ]; rfl
        case hy16 =>
          refine Or.inl ⟨by rfl, ?_⟩
          intro w hSw; (try dsimp only at hSw); go_simp <;> (with_reducible rfl)
        (try simp only [Act.put, pA, pZ, pS])
        refine wpAnyH_take (i := 17) (oi := ?o17) (v := ?v17) ?hi17 (by kernel_rfl) (by kernel_rfl) (by kernel_rfl) (fun _ _ _ h => h) ?hy17 (by assumption) ?rest17
        case hi17 => simp only [gA, gS, gZ]; rfl
        case hy17 =>
          refine Or.inl ⟨by rfl, ?_⟩
          intro w hSw; (try dsimp only at hSw); go_simp <;> (with_reducible rfl)
        (try simp only [Act.put, pA, pZ, pS])
        refine wpAnyH_take (i := 18) (oi := ?o18) (v := ?v18) ?hi18 (by kernel_rfl) (by kernel_rfl) (by kernel_rfl) (fun _ _ _ h => h) ?hy18 (by assumption) ?rest18
        case hi18 => simp only [gA, gS, gZ]; rfl
        case hy18 =>
          refine Or.inl ⟨by rfl, ?_⟩
          intro w hSw; (try dsimp only at hSw); go_simp <;> (with_reducible rfl)
        (try simp only [Act.put, pA, pZ, pS])
        refine wpAnyH_take (i := 19) (oi := ?o19) (v := ?v19) ?hi19 (by kernel_rfl) (by kernel_rfl) (by kernel_rfl) (fun _ _ _ h => h) ?hy19 (by assumption) ?rest19
        case hi19 => simp only [gA, gS, gZ]; rfl
        case hy19 =>
          refine Or.inl ⟨by rfl, ?_⟩
          intro w hSw; (try dsimp only at hSw); go_simp <;> (with_reducible rfl)
        (try simp only [Act.put, pA, pZ, pS])
        refine wpAnyH_take (i := 20) (oi := ?o20) (v := ?v20) ?hi20 (by kernel_rfl) (by kernel_rfl) (by kernel_rfl) (fun _ _ _ h => h) ?hy20 (by assumption) ?rest20
        case hi20 => simp only [gA, gS, gZ]; rfl
        case hy20 =>
          refine Or.inl ⟨by rfl, ?_⟩
          intro w hSw; (try dsimp only at hSw); go_simp <;> (with_reducible rfl)
        (try simp only [Act.put, pA, pZ, pS])
        refine wpAnyH_take (i := 21) (oi := ?o21) (v := ?v21) ?hi21 (by kernel_rfl) (by kernel_rfl) (by kernel_rfl) (fun _ _ _ h => h) ?hy21 (by assumption) ?rest21
        case hi21 => simp only [gA, gS, gZ]; rfl
        case hy21 =>
          refine Or.inl ⟨by rfl, ?_⟩
          intro w hSw; (try dsimp only at hSw); go_simp <;> (with_reducible rfl)
        (try simp only [Act.put, pA, pZ, pS])
        refine wpAnyH_take (i := 22) (oi := ?o22) (v := ?v22) ?hi22 (by kernel_rfl) (by kernel_rfl) (by kernel_rfl) (fun _ _ _ h => h) ?hy22 (by assumption) ?rest22
        case hi22 => simp only [gA, gS, gZ]; rfl
        case hy22 =>
          refine Or.inl ⟨by rfl, ?_⟩
          intro w hSw; (try dsimp only at hSw); go_simp <;> (with_reducible rfl)
        (try simp only [Act.put, pA, pZ, pS])
        refine wpAnyH_take (i := 23) (oi := ?o23) (v := ?v23) ?hi23 (by kernel_rfl) (by kernel_rfl) (by kernel_rfl) (fun _ _ _ h => h) ?hy23 (by assumption) ?rest23
        case hi23 => simp only [gA, gS, gZ]; rfl
        case hy23 =>
          refine Or.inl ⟨by rfl, ?_⟩
          intro w hSw; (try dsimp only at hSw); go_simp <;> (with_reducible rfl)
        (try simp only [Act.put, pA, pZ, pS])
        refine wpAnyH_take (i := 24) (oi := ?o24) (v := ?v24) ?hi24 (by kernel_rfl) (by kernel_rfl) (by kernel_rfl) (fun _ _ _ h => h) ?hy24 (by assumption) ?rest24
        case hi24 => simp only [gA, gS, gZ]; rfl
        case hy24 =>
          refine Or.inl ⟨by rfl, ?_⟩
          intro w hSw; (try dsimp only at hSw); go_simp <;> (with_reducible rfl)
        (try simp only [Act.put, pA, pZ, pS])
        refine wpAnyH_take (i := 25) (oi := ?o25) (v := ?v25) ?hi25 (by kernel_rfl) (by kernel_rfl) (by kernel_rfl) (fun _ _ _ h => h) ?hy25 (by assumption) ?rest25
        case hi25 => simp only [gA, gS, gZ]; rfl
        case hy25 =>
          refine Or.inl ⟨by rfl, ?_⟩
          intro w hSw; (try dsimp only at hSw); go_simp <;> (with_reducible rfl)
        (try simp only [Act.put, pA, pZ, pS])
        refine wpAnyH_ready (rs := [26]) (by kernel_rfl) (by simp) ?_
        refine AllReadyH.cons rfl (fun K hK => ?_) AllReadyH.nil
        go_simp
        refine (HC _ (HC1.out.under (Below.refl wr.heap.size wr).drew) (HC2.out.under (Below.refl wr.heap.size wr).drew)).mono ?_; rintro _ w5 ⟨rfl, hb⟩; have HB5 : Hid (Below wr.heap.size wr w5) := Lib.hid ((Below.refl wr.heap.size wr).drew.trans hb); clear hb
        refine hK.out _ _ (HSX.out HB5.out) (fun hHeld26 => ?_)
        clear hK K
        (try simp only [Act.put, pA, pZ, pS])
        refine wpAnyH_take (i := 27) (oi := ?o27) (v := ?v27) ?hi27 (by kernel_rfl) (by kernel_rfl) (by kernel_rfl) (fun _ _ _ h => h) ?hy27 (by assumption) ?rest27
        case hi27 => simp only [gA, gS, gZ]; rfl
        case hy27 =>
          refine Or.inl ⟨by rfl, ?_⟩
          intro w hSw; (try dsimp only at hSw); go_simp <;> (with_reducible rfl)
        (try simp only [Act.put, pA, pZ, pS])
        refine wpAnyH_take (i := 28) (oi := ?o28) (v := ?v28) ?hi28 (by kernel_rfl) (by kernel_rfl) (by kernel_rfl) (fun _ _ _ h => h) ?hy28 (by assumption) ?rest28
        case hi28 => simp only [gA, gS, gZ]; rfl
        case hy28 =>
          refine Or.inl ⟨by rfl, ?_⟩
          intro w hSw; (try dsimp only at hSw); go_simp <;> (with_reducible rfl)
        (try simp only [Act.put, pA, pZ, pS])
        refine wpAnyH_done (by kernel_rfl) ?_ _
        refine NoPanic.normal ?_
        go_wp2_with fail
        go_roundw
        case rel => exact ⟨j + 1, HLT.out, by go_num, Lib.hid (BX.out.mono HB5.out)⟩
        case measure => have := HLT.out; simp [intOf]; omega
      · obtain rfl : j = l.length := by omega
        go_wp2_with fail
        go_ret
        exact ⟨rfl, BX.out.below⟩
set_option maxRecDepth 100000 in
theorem vsame_any {a b : VT} (hab : AlikeV a b) (ha : countV a ≤ 2048) (hb : countV b ≤ 2048) (w : World) (c d : Value) (hv : VIn w c a.xs) (hv2 : VIn w d b.xs) : Calls Tryz.prog 13 #[a.v c, b.v d] w (BoolPost w true) := by
  have H1 := fun W h => few_any a ha W c h
  have H2 := fun W h => few_any b hb W d h
  have H3 := fun W h1 h2 => alike_any hab W c d h1 h2
  obtain ⟨ao, cap, rfl, hlen⟩ := hv.form
  obtain ⟨bo, cap2, rfl, -⟩ := hv2.form
  have A0 : Hid (AL w a b (.slice ao a.xs.length cap) (.slice bo b.xs.length cap2) ((w.alloc (VB a (.slice ao a.xs.length cap))).alloc (VB b (.slice bo b.xs.length cap2)))) := Lib.hid ⟨(at2_start w _ _).below, (at2_start w _ _).a, (at2_start w _ _).b⟩
  obtain ⟨a0, a1, a2, a3⟩ := vb_cells A0.out.a
  obtain ⟨b0, b1, b2, b3⟩ := vb_cells A0.out.b
  have HV := Lib.hid hv
  have HV2 := Lib.hid hv2
  clear hv hv2 hlen ha hb
  simp only [VT.v] at H1 H2 H3 ⊢
  go_enter Tryz.func13, Tryz.ntmps13
  go_wp2_with fail
  refine (H1 _ (HV.out.under A0.out.below)).mono ?_
  rintro e w1 ⟨rfl, hb1⟩
  have A1 := Lib.hid (A0.out.mono hb1)
  obtain ⟨a0, a1, a2, a3⟩ := vb_cells A1.out.a
  obtain ⟨b0, b1, b2, b3⟩ := vb_cells A1.out.b
  clear hb1 A0
  go_wp2_with fail
  refine (H2 _ (HV2.out.under A1.out.below)).mono ?_
  rintro e w2 ⟨rfl, hb2⟩
  have A2 := Lib.hid (A1.out.mono hb2)
  obtain ⟨a0, a1, a2, a3⟩ := vb_cells A2.out.a
  obtain ⟨b0, b1, b2, b3⟩ := vb_cells A2.out.b
  clear hb2 A1
  go_wp2_with fail
  refine (H3 _ (HV.out.under A2.out.below) (HV2.out.under A2.out.below)).mono ?_
  rintro e w3 ⟨rfl, hb3⟩
  go_wp2_with fail
  go_ret
  exact ⟨rfl, (A2.out.mono hb3).below⟩
set_option maxHeartbeats 3200000 in
set_option maxRecDepth 100000 in
theorem rfind_none (k : K) (l : List It) (hf : ∀ x ∈ l, x.1 ≠ k) (w : World) (c : Value) (hv : VIn w c l) : Calls Tryz.prog 48 #[c, .agg #[.bool k.b, .int .i64 k.n, .string k.t]] w (IntPost w (-1)) := by
  obtain ⟨ao, cap, rfl, hlen⟩ := hv.form
  have HV := Lib.hid hv
  have HF := Lib.hid hf
  have HL := Lib.hid hlen
  have HB := Lib.hid (below_alloc1 w (KB k.b k.n k.t))
  have HX0 := Lib.hid (heap_alloc_new w (KB k.b k.n k.t))
  clear hv hf hlen
  go_enter Tryz.func48, Tryz.ntmps48
  go_wp2_with fail
  go_loopw [5] (fun kv wr => ∃ (j : Nat), j ≤ l.length ∧ kv = .int .i64 j ∧ Hid (Below w.heap.size w wr ∧ wr.heap[w.heap.size]? = some (KB k.b k.n k.t))) (fun kv _ => l.length - (intOf kv).toNat)
  case atStart => exact ⟨0, Nat.zero_le _, rfl, Lib.hid ⟨HB.out, HX0.out⟩⟩
  case round =>
    obtain ⟨j, hj, rfl, BX⟩ := hrel
    by_cases hlt : j < l.length
    · have hi : (j : Int) < (l.length : Int) := by omega
      obtain ⟨q, x, g, off, co, cc, hq, hm, rfl, hc, r0, r1, r2, r3, r4, r5, r6⟩ := HV.out.getB hlt BX.out.1 rfl
      obtain ⟨hwi', hwi⟩ : wrap64 ((j : Int) + 1) = (j : Int) + 1 ∧ IntKind.i64.wrap ((j : Int) + 1) = (j : Int) + 1 := wr_sm (by omega) (by have := HL.out; omega)
      have hN : ∀ w, (binOp .eql 62 (.agg #[.bool q.b, .int .i64 q.n, .string q.t]) (.agg #[.bool k.b, .int .i64 k.n, .string k.t])).run Tryz.prog w = .ok (.bool false) w := fun w => by
        have := key_eql q k w
        rw [K.same_ne.2 (HF.out _ hm)] at this
        exact this
      obtain ⟨z0, z1, z2⟩ := cells3 BX.out.2
      have HS0 : Hid (((fun V => V.cell? ⟨w.heap.size, 0, none⟩ = some (.bool k.b) ∧ V.cell? ⟨w.heap.size, 1, none⟩ = some (.int .i64 k.n) ∧ V.cell? ⟨w.heap.size, 2, none⟩ = some (.string k.t) ∧ V.cell? ⟨g, off + j * 7, none⟩ = some (.bool q.b) ∧ V.cell? ⟨g, off + j * 7 + 1, none⟩ = some (.int .i64 q.n) ∧ V.cell? ⟨g, off + j * 7 + 2, none⟩ = some (.string q.t)) wr.drew)) := Lib.hid ⟨z0, z1, z2, r0, r1, r2⟩
      have HLT := Lib.hid hlt
      clear hc hq hm hlt z0 z1 z2 r0 r1 r2 r3 r4 r5 r6
      go_wp2_with fail
      refine wp_region_noPanic ?_
      refine wp_region_held_drew (S := (fun V => V.cell? ⟨w.heap.size, 0, none⟩ = some (.bool k.b) ∧ V.cell? ⟨w.heap.size, 1, none⟩ = some (.int .i64 k.n) ∧ V.cell? ⟨w.heap.size, 2, none⟩ = some (.string k.t) ∧ V.cell? ⟨g, off + j * 7, none⟩ = some (.bool q.b) ∧ V.cell? ⟨g, off + j * 7 + 1, none⟩ = some (.int .i64 q.n) ∧ V.cell? ⟨g, off + j * 7 + 2, none⟩ = some (.string q.t))) (by kernel_rfl) (by exact HS0.out) (fun hHeld => ?_)
      refine wpAnyH_take (i := 0) (oi := ?o0) (v := ?v0) ?hi0 (by kernel_rfl) (by kernel_rfl) (by kernel_rfl) (fun _ _ _ h => h) ?hy0 (by assumption) ?rest0
      case hi0 => simp only [gA, gZ]; rfl
      case hy0 =>
        refine Or.inl ⟨by rfl, ?_⟩
        intro w hSw; (try dsimp only at hSw); go_simp <;> (with_reducible rfl)
      (try simp only [Act.put, pA, pZ, pS])
      refine wpAnyH_take (i := 1) (oi := ?o1) (v := ?v1) ?hi1 (by kernel_rfl) (by kernel_rfl) (by kernel_rfl) (fun _ _ _ h => h) ?hy1 (by assumption) ?rest1
      case hi1 => simp only [gA, gS, gZ]; rfl
      case hy1 =>
        refine Or.inl ⟨by rfl, ?_⟩
        intro w hSw; (try dsimp only at hSw); go_simp <;> (with_reducible rfl)
      (try simp only [Act.put, pA, pZ, pS])
      refine wpAnyH_take (i := 2) (oi := ?o2) (v := ?v2) ?hi2 (by kernel_rfl) (by kernel_rfl) (by kernel_rfl) (fun _ _ _ h => h) ?hy2 (by assumption) ?rest2
      case hi2 => simp only [gA, gS, gZ]; rfl
      case hy2 =>
        refine Or.inl ⟨by rfl, ?_⟩
        intro w hSw; (try dsimp only at hSw); go_simp <;> (with_reducible rfl)
      (try simp only [Act.put, pA, pZ, pS])
      refine wpAnyH_take (i := 3) (oi := ?o3) (v := ?v3) ?hi3 (by kernel_rfl) (by kernel_rfl) (by kernel_rfl) (fun _ _ _ h => h) ?hy3 (by assumption) ?rest3
      case hi3 => simp only [gA, gS, gZ]; rfl
      case hy3 =>
        refine Or.inl ⟨by rfl, ?_⟩
        intro w hSw; (try dsimp only at hSw); go_simp <;> (with_reducible rfl)
      (try simp only [Act.put, pA, pZ, pS])
      refine wpAnyH_take (i := 4) (oi := ?o4) (v := ?v4) ?hi4 (by kernel_rfl) (by kernel_rfl) (by kernel_rfl) (fun _ _ _ h => h) ?hy4 (by assumption) ?rest4
      case hi4 => simp only [gA, gS, gZ]; rfl
      case hy4 =>
        refine Or.inl ⟨by rfl, ?_⟩
        intro w hSw; (try dsimp only at hSw); go_simp <;> (with_reducible rfl)
      (try simp only [Act.put, pA, pZ, pS])
      refine wpAnyH_take (i := 5) (oi := ?o5) (v := ?v5) ?hi5 (by kernel_rfl) (by kernel_rfl) (by kernel_rfl) (fun _ _ _ h => h) ?hy5 (by assumption) ?rest5
      case hi5 => simp only [gA, gS, gZ]; rfl
      case hy5 =>
        refine Or.inl ⟨by rfl, ?_⟩
        intro w hSw; (try dsimp only at hSw); go_simp <;> (with_reducible rfl)
      (try simp only [Act.put, pA, pZ, pS])
      refine wpAnyH_take (i := 6) (oi := ?o6) (v := ?v6) ?hi6 (by kernel_rfl) (by kernel_rfl) (by kernel_rfl) (fun _ _ _ h => h) ?hy6 (by assumption) ?rest6
      case hi6 => simp only [gA, gS, gZ]; rfl
      case hy6 =>
        refine Or.inl ⟨by rfl, ?_⟩
        intro w hSw; (try dsimp only at hSw); go_simp <;> (with_reducible rfl)
      (try simp only [Act.put, pA, pZ, pS])
      refine wpAnyH_done (by kernel_rfl) ?_ _
      refine NoPanic.normal ?_
      go_wp2_with fail
      go_roundw
      case rel => exact ⟨j + 1, HLT.out, by go_num, Lib.hid ⟨belowD BX.out.1, BX.out.2⟩⟩
      case measure => have := HLT.out; simp [intOf]; omega
    · obtain rfl : j = l.length := by omega
      go_wp2_with fail
      go_ret
      exact ⟨rfl, BX.out.1⟩
theorem itemsL_below {n d : Int} : ∀ {l : List It} {met : List K}, itemsL n d met l = true → ∀ x ∈ l, (!x.1.b && decide (0 ≤ n) && decide (n ≤ x.1.n)) = false
  | [], _, _, x, hx => by cases hx
  | y :: l, met, h, x, hx => by
    rw [itemsL_at] at h
    simp only [Bool.and_eq_true, Bool.not_eq_true'] at h
    rcases List.mem_cons.1 hx with rfl | hx
    · exact h.2.1
    · exact itemsL_below h.2.2 x hx
set_option maxHeartbeats 12800000 in
set_option maxRecDepth 100000 in
theorem rmay_list (n : Int) (t : ByteArray) (l : List It) (hg : GoodL l) (d : Int) (h0 : 0 ≤ d) (hd : d < 64) (ht : t.toList.isEmpty = true) (hn : -1 ≤ n) (hl : l.length ≤ 2048) (hi : itemsL n d [] l = true)
    (ih : ∀ x ∈ l, ∀ (w : World) (c : Value), VCap w c x.2.xs → Tabs w → Calls Tryz.prog 59 #[x.2.v c, .int .i64 (d + 1)] w (BoolPost w true))
    (ao : Option Addr) (cap : Nat) (w : World) (hv : VCap w (.slice ao l.length cap) l) (htb : Tabs w) : Calls Tryz.prog 59 #[.agg #[.int .i64 4, .int .i64 n, .string t, .slice ao l.length cap], .int .i64 d] w (BoolPost w true) := by
  have hcap : l.length ≤ cap := by
    obtain ⟨a, b, e, -, h⟩ := hv.form
    cases e
    exact h
  have HB := Lib.hid (below_alloc1 w (VB (.mk 4 n t l) (.slice ao l.length cap)))
  have HX0 := Lib.hid (heap_alloc_new w (VB (.mk 4 n t l) (.slice ao l.length cap)))
  obtain ⟨a0, a1, a2, a3⟩ := vb_cells HX0.out
  simp only [VT.k, VT.n, VT.t] at a0 a1 a2
  have HV := Lib.hid hv
  have IH := Lib.hid ih
  have HT := Lib.hid (fun W' hb => htb.mono hb : ∀ W', Below w.heap.size w W' → Tabs W')
  have HG := Lib.hid (goodL_iff.1 hg)
  have HO := Lib.hid (itemsL_once hi)
  have HBW := Lib.hid (itemsL_below hi)
  have e1 : decide (n < -1) = false := by simp; omega
  have e2 : decide (2048 < (l.length : Int)) = false := by simp; omega
  have e3 : decide (64 ≤ d) = false := by simp; omega
  obtain ⟨hwd', hwd⟩ := wr_sm (x := d + 1) (by omega) (by omega)
  have HLL := Lib.hid hl
  have HCP := Lib.hid hcap
  obtain ⟨f0, hf0⟩ : ∃ e, decide (0 ≤ n) = e := ⟨_, rfl⟩
  have HF0 := Lib.hid hf0
  clear hv ih hg hi htb hn hl hcap hd h0
  go_enter Tryz.func59, Tryz.ntmps59
  go_wp2_with fail
  go_loopw [5] (fun kv wr => ∃ (j : Nat), j ≤ l.length ∧ kv = .int .i64 j ∧ Hid (Below w.heap.size w wr ∧ wr.heap[w.heap.size]? = some (VB (.mk 4 n t l) (.slice ao l.length cap)))) (fun kv _ => l.length - (intOf kv).toNat)
  case atStart => exact ⟨0, Nat.zero_le _, rfl, Lib.hid ⟨HB.out, HX0.out⟩⟩
  case round =>
    obtain ⟨j, hj, rfl, BX⟩ := hrel
    have x3 : wr.cell? ⟨w.heap.size, 3, none⟩ = some (.slice ao l.length cap) := (vb_cells BX.out.2).2.2.2
    clear a0 a1 a2 a3
    by_cases hlt : j < l.length
    · have hi : (j : Int) < (l.length : Int) := by omega
      obtain ⟨q, x, g, off, co, cc, hq, hm, rfl, hc, r0, r1, r2, r3, r4, r5, r6⟩ := HV.out.getB hlt BX.out.1
      obtain ⟨hwi', hwi⟩ : wrap64 ((j : Int) + 1) = (j : Int) + 1 ∧ IntKind.i64.wrap ((j : Int) + 1) = (j : Int) + 1 := wr_sm (by omega) (by have := HLL.out; omega)
      have hjc : (j : Int) ≤ (cap : Int) := by have := HCP.out; omega
      have hj0 : (0 : Int) ≤ (j : Int) := by omega
      have hnq : q.norm = q := (HO.out.2 _ hm).1
      have HN : ∀ W, Tabs W → Calls Tryz.prog 47 #[.agg #[.bool q.b, .int .i64 q.n, .string q.t]] W fun e w' => e = .returned (.agg #[.bool q.b, .int .i64 q.n, .string q.t]) ∧ Below W.heap.size W w' := fun W h => by
        have := Doc.rnorm_any q (HG.out _ hm).1 W h
        rw [hnq] at this
        exact this
      have hN : ∀ w, (binOp .neq 62 (.agg #[.bool q.b, .int .i64 q.n, .string q.t]) (.agg #[.bool q.b, .int .i64 q.n, .string q.t])).run Tryz.prog w = .ok (.bool false) w := fun w => by have := key_neq q q w; rw [K.same_self] at this; exact this
      have hpre : ∀ y ∈ l.take j, y.1 ≠ q := fun y hy => by
        obtain ⟨i, hi2, rfl⟩ := List.getElem_of_mem hy
        have hij : i < j := by rw [List.length_take] at hi2; omega
        rw [List.getElem_take]
        have := List.pairwise_iff_getElem.1 HO.out.1 i j (by omega) hlt hij
        rw [List.getElem?_eq_getElem hlt] at hq
        rw [Option.some.inj hq] at this
        exact this
      have HFN : ∀ W, Below w.heap.size w W → Calls Tryz.prog 48 #[.slice (some ⟨g, off, none⟩) j cap, .agg #[.bool q.b, .int .i64 q.n, .string q.t]] W (IntPost W (-1)) := fun W h => rfind_none q (l.take j) hpre W _ ((HV.out.take (by omega)).under h)
      have HC : ∀ V, VCap V (.slice co x.xs.length cc) x.xs → Tabs V → Calls Tryz.prog 59 #[.agg #[.int .i64 x.k, .int .i64 x.n, .string x.t, .slice co x.xs.length cc], .int .i64 (d + 1)] V (BoolPost V true) := fun V h1 h2 => IH.out (q, x) hm V _ h1 h2
      have hlast := HBW.out _ hm
      simp only at hlast
      rw [HF0.out] at hlast
      have HB1 := Lib.hid (BX.out.1.alloc BX.out.1.size (KB q.b q.n q.t))
      have HK1 := Lib.hid (heap_alloc_new wr (KB q.b q.n q.t))
      have HV1 := Lib.hid (alloc_blk BX.out.2 (KB q.b q.n q.t))
      have hgl : g < wr.heap.size := cell_lt r3
      have hcw := hc
      have six : ∀ {V : World}, Below (wr.alloc (KB q.b q.n q.t)).heap.size (wr.alloc (KB q.b q.n q.t)) V → ((fun V => V.cell? ⟨w.heap.size, 3, none⟩ = some (.slice (some ⟨g, off, none⟩) l.length cap) ∧ V.cell? ⟨wr.heap.size, 0, none⟩ = some (.bool q.b) ∧ V.cell? ⟨wr.heap.size, 1, none⟩ = some (.int .i64 q.n) ∧ V.cell? ⟨wr.heap.size, 2, none⟩ = some (.string q.t) ∧ V.cell? ⟨g, off + j * 7 + 3, none⟩ = some (.int .i64 x.k) ∧ V.cell? ⟨g, off + j * 7 + 4, none⟩ = some (.int .i64 x.n) ∧ V.cell? ⟨g, off + j * 7 + 5, none⟩ = some (.string x.t) ∧ V.cell? ⟨g, off + j * 7 + 6, none⟩ = some (.slice co x.xs.length cc)) V) := fun {V} hb => by
        have hbw : Below wr.heap.size wr V := (below_alloc1 wr (KB q.b q.n q.t)).trans (hb.mono (by simp))
        obtain ⟨z0, z1, z2⟩ := cells3 ((hb.block _ (lt_of_block HK1.out)).trans HK1.out)
        exact ⟨(vb_cells ((hb.block _ (lt_of_block HV1.out)).trans HV1.out)).2.2.2, z0, z1, z2, (hbw.cell (p := ⟨g, _, none⟩) hgl).trans r3, (hbw.cell (p := ⟨g, _, none⟩) hgl).trans r4, (hbw.cell (p := ⟨g, _, none⟩) hgl).trans r5, (hbw.cell (p := ⟨g, _, none⟩) hgl).trans r6⟩
      have HSX := @Lib.hid _ @six
      have HS0 := Lib.hid (six (Below.refl (wr.alloc (KB q.b q.n q.t)).heap.size (wr.alloc (KB q.b q.n q.t))).drew)
      have HD0 : Hid (Below (wr.alloc (KB q.b q.n q.t)).heap.size (wr.alloc (KB q.b q.n q.t)) (wr.alloc (KB q.b q.n q.t)).drew) := Lib.hid (Below.refl _ _).drew
      have HCC := Lib.hid (hc.under (below_alloc1 wr (KB q.b q.n q.t)))
      have HLT := Lib.hid hlt
      obtain ⟨f1, hf1⟩ : ∃ e, decide (n ≤ q.n) = e := ⟨_, rfl⟩
      rw [hf1] at hlast
      have HLA := Lib.hid hlast
      clear hc hcw hq hm hlt hpre hnq six r3 r4 r5 r6 hlast
      go_wp2_with fail
      refine wp_region_noPanic ?_
      refine wp_region_held_drew (S := (fun V => V.cell? ⟨w.heap.size, 3, none⟩ = some (.slice (some ⟨g, off, none⟩) l.length cap) ∧ V.cell? ⟨wr.heap.size, 0, none⟩ = some (.bool q.b) ∧ V.cell? ⟨wr.heap.size, 1, none⟩ = some (.int .i64 q.n) ∧ V.cell? ⟨wr.heap.size, 2, none⟩ = some (.string q.t) ∧ V.cell? ⟨g, off + j * 7 + 3, none⟩ = some (.int .i64 x.k) ∧ V.cell? ⟨g, off + j * 7 + 4, none⟩ = some (.int .i64 x.n) ∧ V.cell? ⟨g, off + j * 7 + 5, none⟩ = some (.string x.t) ∧ V.cell? ⟨g, off + j * 7 + 6, none⟩ = some (.slice co x.xs.length cc))) (by kernel_rfl) (by exact HS0.out) (fun hHeld => ?_)
      refine wpAnyH_take (i := 0) (oi := ?o0) (v := ?v0) ?hi0 (by kernel_rfl) (by kernel_rfl) (by kernel_rfl) (fun _ _ _ h => h) ?hy0 (by assumption) ?rest0
      case hi0 => simp only [gA, gZ]; rfl
      case hy0 =>
        refine Or.inl ⟨by rfl, ?_⟩
        intro w hSw; (try dsimp only at hSw); go_simp <;> (with_reducible rfl)
      (try simp only [Act.put, pA, pZ, pS])
      refine wpAnyH_take (i := 1) (oi := ?o1) (v := ?v1) ?hi1 (by kernel_rfl) (by kernel_rfl) (by kernel_rfl) (fun _ _ _ h => h) ?hy1 (by assumption) ?rest1
      case hi1 => simp only [gA, gS, gZ]; rfl
      case hy1 =>
        refine Or.inl ⟨by rfl, ?_⟩
        intro w hSw; (try dsimp only at hSw); go_simp <;> (with_reducible rfl)
      (try simp only [Act.put, pA, pZ, pS])
      refine wpAnyH_ready (rs := [2]) (by kernel_rfl) (by simp) ?_
      refine AllReadyH.cons rfl (fun K hK => ?_) AllReadyH.nil
      go_simp
      refine (HN _ (HT.out _ (HB1.out.trans (HD0.out.mono HB1.out.size)))).mono ?_; rintro _ w1 ⟨rfl, hb⟩; have HD1 : Hid (Below (wr.alloc (KB q.b q.n q.t)).heap.size (wr.alloc (KB q.b q.n q.t)) w1) := Lib.hid (HD0.out.trans hb); clear hb
      refine hK.out _ _ (HSX.out HD1.out) (fun hHeld2 => ?_)
      clear hK K
      (try simp only [Act.put, pA, pZ, pS])
      refine wpAnyH_take (i := 3) (oi := ?o3) (v := ?v3) ?hi3 (by kernel_rfl) (by kernel_rfl) (by kernel_rfl) (fun _ _ _ h => h) ?hy3 (by assumption) ?rest3
      case hi3 => simp only [gA, gS, gZ]; rfl
      case hy3 =>
        refine Or.inl ⟨by rfl, ?_⟩
        intro w hSw; (try dsimp only at hSw); go_simp <;> (with_reducible rfl)
      (try simp only [Act.put, pA, pZ, pS])
      refine wpAnyH_take (i := 4) (oi := ?o4) (v := ?v4) ?hi4 (by kernel_rfl) (by kernel_rfl) (by kernel_rfl) (fun _ _ _ h => h) ?hy4 (by assumption) ?rest4
      case hi4 => simp only [gA, gS, gZ]; rfl
      case hy4 =>
        refine Or.inl ⟨by rfl, ?_⟩
        intro w hSw; (try dsimp only at hSw); go_simp <;> (with_reducible rfl)
      (try simp only [Act.put, pA, pZ, pS])
      refine wpAnyH_take (i := 5) (oi := ?o5) (v := ?v5) ?hi5 (by kernel_rfl) (by kernel_rfl) (by kernel_rfl) (fun _ _ _ h => h) ?hy5 (by assumption) ?rest5
      case hi5 => simp only [gA, gS, gZ]; rfl
      case hy5 =>
        refine Or.inl ⟨by rfl, ?_⟩
        intro w hSw; (try dsimp only at hSw); go_simp <;> (with_reducible rfl)
      (try simp only [Act.put, pA, pZ, pS])
      refine wpAnyH_take (i := 6) (oi := ?o6) (v := ?v6) ?hi6 (by kernel_rfl) (by kernel_rfl) (by kernel_rfl) (fun _ _ _ h => h) ?hy6 (by assumption) ?rest6
      case hi6 => simp only [gA, gS, gZ]; rfl
      case hy6 =>
        refine Or.inl ⟨by rfl, ?_⟩
        intro w hSw; (try dsimp only at hSw); go_simp <;> (with_reducible rfl)
      (try simp only [Act.put, pA, pZ, pS])
      refine wpAnyH_take (i := 7) (oi := ?o7) (v := ?v7) ?hi7 (by kernel_rfl) (by kernel_rfl) (by kernel_rfl) (fun _ _ _ h => h) ?hy7 (by assumption) ?rest7
      case hi7 => simp only [gA, gS, gZ]; rfl
      case hy7 =>
        refine Or.inl ⟨by rfl, ?_⟩
        intro w hSw; (try dsimp only at hSw); go_simp <;> (with_reducible rfl)
      (try simp only [Act.put, pA, pZ, pS])
      refine wpAnyH_take (i := 8) (oi := ?o8) (v := ?v8) ?hi8 (by kernel_rfl) (by kernel_rfl) (by kernel_rfl) (fun _ _ _ h => h) ?hy8 (by assumption) ?rest8
      case hi8 => simp only [gA, gS, gZ]; rfl
      case hy8 =>
        refine Or.inl ⟨by rfl, ?_⟩
        intro w hSw; (try dsimp only at hSw); go_simp <;> (with_reducible rfl)
      (try simp only [Act.put, pA, pZ, pS])
      refine wpAnyH_take (i := 9) (oi := ?o9) (v := ?v9) ?hi9 (by kernel_rfl) (by kernel_rfl) (by kernel_rfl) (fun _ _ _ h => h) ?hy9 (by assumption) ?rest9
      case hi9 => simp only [gA, gS, gZ]; rfl
      case hy9 =>
        refine Or.inl ⟨by rfl, ?_⟩
        intro w hSw; (try dsimp only at hSw); go_simp <;> (with_reducible rfl)
      (try simp only [Act.put, pA, pZ, pS])
      refine wpAnyH_ready (rs := [10]) (by kernel_rfl) (by simp) ?_
      refine AllReadyH.cons rfl (fun K hK => ?_) AllReadyH.nil
      go_simp
      refine (HFN _ (HB1.out.trans (HD1.out.mono HB1.out.size))).mono ?_; rintro _ w2 ⟨rfl, hb⟩; have HD2 : Hid (Below (wr.alloc (KB q.b q.n q.t)).heap.size (wr.alloc (KB q.b q.n q.t)) w2) := Lib.hid (HD1.out.trans (hb.mono HD1.out.size)); clear hb
      refine hK.out _ _ (HSX.out HD2.out) (fun hHeld10 => ?_)
      clear hK K
      (try simp only [Act.put, pA, pZ, pS])
      refine wpAnyH_take (i := 11) (oi := ?o11) (v := ?v11) ?hi11 (by kernel_rfl) (by kernel_rfl) (by kernel_rfl) (fun _ _ _ h => h) ?hy11 (by assumption) ?rest11
      case hi11 => simp only [gA, gS, gZ]; rfl
      case hy11 =>
        refine Or.inl ⟨by rfl, ?_⟩
        intro w hSw; (try dsimp only at hSw); go_simp <;> (with_reducible rfl)
      (try simp only [Act.put, pA, pZ, pS])
      refine wpAnyH_take (i := 12) (oi := ?o12) (v := ?v12) ?hi12 (by kernel_rfl) (by kernel_rfl) (by kernel_rfl) (fun _ _ _ h => h) ?hy12 (by assumption) ?rest12
      case hi12 => simp only [gA, gS, gZ]; rfl
      case hy12 =>
        refine Or.inl ⟨by rfl, ?_⟩
        intro w hSw; (try dsimp only at hSw); go_simp <;> (with_reducible rfl)
      (try simp only [Act.put, pA, pZ, pS])
      refine wpAnyH_take (i := 13) (oi := ?o13) (v := ?v13) ?hi13 (by kernel_rfl) (by kernel_rfl) (by kernel_rfl) (fun _ _ _ h => h) ?hy13 (by assumption) ?rest13
      case hi13 => simp only [gA, gS, gZ]; rfl
      case hy13 =>
        refine Or.inl ⟨by rfl, ?_⟩
        intro w hSw; (try dsimp only at hSw); go_simp <;> (with_reducible rfl)
      (try simp only [Act.put, pA, pZ, pS])
      refine wpAnyH_take (i := 14) (oi := ?o14) (v := ?v14) ?hi14 (by kernel_rfl) (by kernel_rfl) (by kernel_rfl) (fun _ _ _ h => h) ?hy14 (by assumption) ?rest14
      case hi14 => simp only [gA, gS, gZ]; rfl
      case hy14 =>
        refine Or.inl ⟨by rfl, ?_⟩
        intro w hSw; (try dsimp only at hSw); go_simp <;> (with_reducible rfl)
      (try simp only [Act.put, pA, pZ, pS])
      refine wpAnyH_take (i := 15) (oi := ?o15) (v := ?v15) ?hi15 (by kernel_rfl) (by kernel_rfl) (by kernel_rfl) (fun _ _ _ h => h) ?hy15 (by assumption) ?rest15
      case hi15 => simp only [gA, gS, gZ]; rfl
      case hy15 =>
        refine Or.inl ⟨by rfl, ?_⟩
        intro w hSw; (try dsimp only at hSw); go_simp <;> (with_reducible rfl)
      (try simp only [Act.put, pA, pZ, pS])
      refine wpAnyH_take (i := 16) (oi := ?o16) (v := ?v16) ?hi16 (by kernel_rfl) (by kernel_rfl) (by kernel_rfl) (fun _ _ _ h => h) ?hy16 (by assumption) ?rest16
      case hi16 => simp only [gA, gS, gZ]; rfl
      case hy16 =>
        refine Or.inl ⟨by rfl, ?_⟩
        intro w hSw; (try dsimp only at hSw); go_simp <;> (with_reducible rfl)
      (try simp only [Act.put, pA, pZ, pS])
      refine wpAnyH_take (i := 17) (oi := ?o17) (v := ?v17) ?hi17 (by kernel_rfl) (by kernel_rfl) (by kernel_rfl) (fun _ _ _ h => h) ?hy17 (by assumption) ?rest17
      case hi17 => simp only [gA, gS, gZ]; rfl
      case hy17 =>
        refine Or.inl ⟨by rfl, ?_⟩
        intro w hSw; (try dsimp only at hSw); go_simp <;> (with_reducible rfl)
      (try simp only [Act.put, pA, pZ, pS])
      refine wpAnyH_take (i := 18) (oi := ?o18) (v := ?v18) ?hi18 (by kernel_rfl) (by kernel_rfl) (by kernel_rfl) (fun _ _ _ h => h) ?hy18 (by assumption) ?rest18
      case hi18 => simp only [gA, gS, gZ]; rfl
      case hy18 =>
        refine Or.inl ⟨by rfl, ?_⟩
        intro w hSw; (try dsimp only at hSw); go_simp <;> (with_reducible rfl)
      (try simp only [Act.put, pA, pZ, pS])
      refine wpAnyH_take (i := 19) (oi := ?o19) (v := ?v19) ?hi19 (by kernel_rfl) (by kernel_rfl) (by kernel_rfl) (fun _ _ _ h => h) ?hy19 (by assumption) ?rest19
      case hi19 => simp only [gA, gS, gZ]; rfl
      case hy19 =>
        refine Or.inl ⟨by rfl, ?_⟩
        intro w hSw; (try dsimp only at hSw); go_simp <;> (with_reducible rfl)
      (try simp only [Act.put, pA, pZ, pS])
      refine wpAnyH_take (i := 20) (oi := ?o20) (v := ?v20) ?hi20 (by kernel_rfl) (by kernel_rfl) (by kernel_rfl) (fun _ _ _ h => h) ?hy20 (by assumption) ?rest20
      case hi20 => simp only [gA, gS, gZ]; rfl
      case hy20 =>
        refine Or.inl ⟨by rfl, ?_⟩
        intro w hSw; (try dsimp only at hSw); go_simp <;> (with_reducible rfl)
      (try simp only [Act.put, pA, pZ, pS])
      refine wpAnyH_take (i := 21) (oi := ?o21) (v := ?v21) ?hi21 (by kernel_rfl) (by kernel_rfl) (by kernel_rfl) (fun _ _ _ h => h) ?hy21 (by assumption) ?rest21
      case hi21 => simp only [gA, gS, gZ]; rfl
      case hy21 =>
        refine Or.inl ⟨by rfl, ?_⟩
        intro w hSw; (try dsimp only at hSw); go_simp <;> (with_reducible rfl)
      (try simp only [Act.put, pA, pZ, pS])
      refine wpAnyH_ready (rs := [22]) (by kernel_rfl) (by simp) ?_
      refine AllReadyH.cons rfl (fun K hK => ?_) AllReadyH.nil
      go_simp
      refine (HC _ (HCC.out.under HD2.out) (HT.out _ (HB1.out.trans (HD2.out.mono HB1.out.size)))).mono ?_; rintro _ w3 ⟨rfl, hb⟩; have HD3 : Hid (Below (wr.alloc (KB q.b q.n q.t)).heap.size (wr.alloc (KB q.b q.n q.t)) w3) := Lib.hid (HD2.out.trans (hb.mono HD2.out.size)); clear hb
      refine hK.out _ _ (HSX.out HD3.out) (fun hHeld22 => ?_)
      clear hK K
      (try simp only [Act.put, pA, pZ, pS])
      refine wpAnyH_take (i := 23) (oi := ?o23) (v := ?v23) ?hi23 (by kernel_rfl) (by kernel_rfl) (by kernel_rfl) (fun _ _ _ h => h) ?hy23 (by assumption) ?rest23
      case hi23 => simp only [gA, gS, gZ]; rfl
      case hy23 =>
        refine Or.inl ⟨by rfl, ?_⟩
        intro w hSw; (try dsimp only at hSw); go_simp <;> (with_reducible rfl)
      (try simp only [Act.put, pA, pZ, pS])
      refine wpAnyH_take (i := 24) (oi := ?o24) (v := ?v24) ?hi24 (by kernel_rfl) (by kernel_rfl) (by kernel_rfl) (fun _ _ _ h => h) ?hy24 (by assumption) ?rest24
      case hi24 => simp only [gA, gS, gZ]; rfl
      case hy24 =>
        refine Or.inl ⟨by rfl, ?_⟩
        intro w hSw; (try dsimp only at hSw); go_simp <;> (with_reducible rfl)
      (try simp only [Act.put, pA, pZ, pS])
      refine wpAnyH_done (by kernel_rfl) ?_ _
      refine NoPanic.normal ?_
      obtain ⟨c0, c1, c2⟩ := cells3 ((HD3.out.block _ (lt_of_block HK1.out)).trans HK1.out)
      obtain ⟨b0, b1, b2, b3⟩ := vb_cells ((HD3.out.block _ (lt_of_block HV1.out)).trans HV1.out)
      simp only [VT.k, VT.n, VT.t] at b0 b1 b2
      have B9 : Hid (Below w.heap.size w w3 ∧ w3.heap[w.heap.size]? = some (VB (.mk 4 n t l) (.slice (some ⟨g, off, none⟩) l.length cap))) := Lib.hid ⟨HB1.out.trans (HD3.out.mono HB1.out.size), (HD3.out.block _ (lt_of_block HV1.out)).trans HV1.out⟩
      clear r0 r1 r2 HN hN HFN HC HS0 HCC HD0
      cases hqb : q.b
      · rw [hqb] at c0
        have hl2 := HLA.out
        rw [hqb] at hl2
        cases f0
        · go_wp2_with fail
          go_roundw
          case rel => exact ⟨j + 1, HLT.out, by go_num, B9⟩
          case measure => have := HLT.out; simp [intOf]; omega
        · obtain rfl : f1 = false := by simpa using hl2
          go_wp2_with fail
          go_roundw
          case rel => exact ⟨j + 1, HLT.out, by go_num, B9⟩
          case measure => have := HLT.out; simp [intOf]; omega
      · rw [hqb] at c0
        go_wp2_with fail
        go_roundw
        case rel => exact ⟨j + 1, HLT.out, by go_num, B9⟩
        case measure => have := HLT.out; simp [intOf]; omega
    · obtain rfl : j = l.length := by omega
      go_wp2_with fail
      go_ret
      exact ⟨rfl, BX.out.1⟩
set_option maxHeartbeats 1600000 in
set_option maxRecDepth 100000 in
theorem rmay_0 (t : ByteArray) (ht : t.toList.isEmpty = true) (ao : Option Addr) (cap : Nat) (d : Int) (w : World) : Calls Tryz.prog 59 #[.agg #[.int .i64 0, .int .i64 0, .string t, .slice ao 0 cap], .int .i64 d] w (BoolPost w true) := by
  obtain ⟨a0, a1, a2, a3⟩ := vb4 (heap_alloc_new w (.cells #[.int .i64 0, .int .i64 0, .string t, .slice ao 0 cap] 24))
  have hb := below_alloc1 w (.cells #[.int .i64 0, .int .i64 0, .string t, .slice ao 0 cap] 24)
  go_enter Tryz.func59, Tryz.ntmps59
  go_wp2_with fail
  go_ret
  exact ⟨rfl, hb⟩
set_option maxHeartbeats 1600000 in
set_option maxRecDepth 100000 in
theorem rmay_10 (t : ByteArray) (ht : t.toList.isEmpty = true) (ao : Option Addr) (cap : Nat) (d : Int) (w : World) : Calls Tryz.prog 59 #[.agg #[.int .i64 1, .int .i64 0, .string t, .slice ao 0 cap], .int .i64 d] w (BoolPost w true) := by
  obtain ⟨a0, a1, a2, a3⟩ := vb4 (heap_alloc_new w (.cells #[.int .i64 1, .int .i64 0, .string t, .slice ao 0 cap] 24))
  have hb := below_alloc1 w (.cells #[.int .i64 1, .int .i64 0, .string t, .slice ao 0 cap] 24)
  go_enter Tryz.func59, Tryz.ntmps59
  go_wp2_with fail
  go_ret
  exact ⟨rfl, hb⟩
set_option maxHeartbeats 1600000 in
set_option maxRecDepth 100000 in
theorem rmay_11 (t : ByteArray) (ht : t.toList.isEmpty = true) (ao : Option Addr) (cap : Nat) (d : Int) (w : World) : Calls Tryz.prog 59 #[.agg #[.int .i64 1, .int .i64 1, .string t, .slice ao 0 cap], .int .i64 d] w (BoolPost w true) := by
  obtain ⟨a0, a1, a2, a3⟩ := vb4 (heap_alloc_new w (.cells #[.int .i64 1, .int .i64 1, .string t, .slice ao 0 cap] 24))
  have hb := below_alloc1 w (.cells #[.int .i64 1, .int .i64 1, .string t, .slice ao 0 cap] 24)
  go_enter Tryz.func59, Tryz.ntmps59
  go_wp2_with fail
  go_ret
  exact ⟨rfl, hb⟩
set_option maxHeartbeats 1600000 in
set_option maxRecDepth 100000 in
theorem rmay_2 (n : Int) (t : ByteArray) (ht : t.toList.isEmpty = true) (ao : Option Addr) (cap : Nat) (d : Int) (w : World) : Calls Tryz.prog 59 #[.agg #[.int .i64 2, .int .i64 n, .string t, .slice ao 0 cap], .int .i64 d] w (BoolPost w true) := by
  obtain ⟨a0, a1, a2, a3⟩ := vb4 (heap_alloc_new w (.cells #[.int .i64 2, .int .i64 n, .string t, .slice ao 0 cap] 24))
  have hb := below_alloc1 w (.cells #[.int .i64 2, .int .i64 n, .string t, .slice ao 0 cap] 24)
  go_enter Tryz.func59, Tryz.ntmps59
  go_wp2_with fail
  go_ret
  exact ⟨rfl, hb⟩
set_option maxHeartbeats 1600000 in
set_option maxRecDepth 100000 in
theorem rmay_3 (t : ByteArray) (ht : t.size ≤ 65536) (ao : Option Addr) (cap : Nat) (d : Int) (w : World) : Calls Tryz.prog 59 #[.agg #[.int .i64 3, .int .i64 0, .string t, .slice ao 0 cap], .int .i64 d] w (BoolPost w true) := by
  have hs : (t.size : Int) ≤ 65536 := by omega
  obtain ⟨a0, a1, a2, a3⟩ := vb4 (heap_alloc_new w (.cells #[.int .i64 3, .int .i64 0, .string t, .slice ao 0 cap] 24))
  have hb := below_alloc1 w (.cells #[.int .i64 3, .int .i64 0, .string t, .slice ao 0 cap] 24)
  go_enter Tryz.func59, Tryz.ntmps59
  go_wp2_with fail
  go_ret
  exact ⟨rfl, hb⟩
set_option maxHeartbeats 1600000 in
set_option maxRecDepth 100000 in
theorem rmay_5 (n : Int) (hn : 1 ≤ n) (t : ByteArray) (ht : t.toList.isEmpty = true) (ao : Option Addr) (cap : Nat) (d : Int) (w : World) : Calls Tryz.prog 59 #[.agg #[.int .i64 5, .int .i64 n, .string t, .slice ao 0 cap], .int .i64 d] w (BoolPost w true) := by
  obtain ⟨a0, a1, a2, a3⟩ := vb4 (heap_alloc_new w (.cells #[.int .i64 5, .int .i64 n, .string t, .slice ao 0 cap] 24))
  have hb := below_alloc1 w (.cells #[.int .i64 5, .int .i64 n, .string t, .slice ao 0 cap] 24)
  go_enter Tryz.func59, Tryz.ntmps59
  go_wp2_with fail
  go_ret
  exact ⟨rfl, hb⟩
/-- What may be may be for the document, too. -/
theorem rmay_any (v : VT) : v.Good → ∀ d : Int, 0 ≤ d → mayV v d = true → ∀ (w : World) (c : Value), VCap w c v.xs → Tabs w → Calls Tryz.prog 59 #[v.v c, .int .i64 d] w (BoolPost w true) := by
  refine VT.ind (P := fun v => v.Good → ∀ d : Int, 0 ≤ d → mayV v d = true → ∀ (w : World) (c : Value), VCap w c v.xs → Tabs w → Calls Tryz.prog 59 #[v.v c, .int .i64 d] w (BoolPost w true)) ?_ v
  intro k n t l ih hg d hd hm w c hv ht
  have hv : VCap w c l := hv
  obtain ⟨ao, cap, rfl, -, -⟩ := hv.form
  show Calls Tryz.prog 59 #[.agg #[.int .i64 k, .int .i64 n, .string t, .slice ao l.length cap], .int .i64 d] w (BoolPost w true)
  rw [mayV] at hm
  split at hm
  · rename_i hk
    subst hk
    simp only [Bool.and_eq_true, decide_eq_true_eq] at hm
    obtain ⟨rfl, rfl, e⟩ := hm
    exact rmay_0 t e ao cap d w
  split at hm
  · rename_i hk
    subst hk
    simp only [Bool.and_eq_true, decide_eq_true_eq] at hm
    obtain ⟨rfl, h, e⟩ := hm
    rcases h with rfl | rfl
    · exact rmay_10 t e ao cap d w
    · exact rmay_11 t e ao cap d w
  split at hm
  · rename_i hk
    subst hk
    simp only [Bool.and_eq_true, decide_eq_true_eq] at hm
    obtain ⟨rfl, e⟩ := hm
    exact rmay_2 n t e ao cap d w
  split at hm
  · rename_i hk
    subst hk
    simp only [Bool.and_eq_true, decide_eq_true_eq] at hm
    obtain ⟨rfl, rfl, e⟩ := hm
    exact rmay_3 t e ao cap d w
  split at hm
  · rename_i hk
    subst hk
    simp only [Bool.and_eq_true, decide_eq_true_eq] at hm
    obtain ⟨rfl, h, e⟩ := hm
    exact rmay_5 n (by omega) t e ao cap d w
  split at hm
  · rename_i hk
    subst hk
    simp only [Bool.and_eq_true, decide_eq_true_eq] at hm
    obtain ⟨⟨⟨⟨e, h1⟩, h2⟩, h3⟩, hi⟩ := hm
    have hgl := hg.parts.2.2.2
    refine rmay_list n t l (goodL_iff.2 hgl) d hd h3 e h1 h2 hi (fun x hx w c hv ht => ih x hx (hgl x hx).2 (d + 1) (by omega) (itemsL_all hi x hx) w c hv ht) ao cap w hv ht
  · cases hm
set_option maxRecDepth 100000 in
theorem rright_any (v : VT) (hg : v.Good) (hm : mayV v 0 = true) (hc : countV v ≤ 2048) (w : World) (c : Value) (hv : VCap w c v.xs) (ht : Tabs w) : Calls Tryz.prog 29 #[v.v c] w (BoolPost w true) := by
  have H1 := fun W h => few_any v hc W c h
  have H2 := fun W h1 h2 => rmay_any v hg 0 (Int.le_refl _) hm W c h1 h2
  obtain ⟨ao, cap, rfl, -, -⟩ := hv.form
  have HB := Lib.hid (below_alloc1 w (VB v (.slice ao v.xs.length cap)))
  have HX := Lib.hid (heap_alloc_new w (VB v (.slice ao v.xs.length cap)))
  obtain ⟨a0, a1, a2, a3⟩ := vb_cells HX.out
  have HV := Lib.hid hv
  have HT := Lib.hid ht
  clear hv ht hg hm hc
  simp only [VT.v] at H1 H2 ⊢
  go_enter Tryz.func29, Tryz.ntmps29
  go_wp2_with fail
  refine (H1 _ (HV.out.vin.under HB.out)).mono ?_
  rintro e w1 ⟨rfl, hb1⟩
  have HB1 := Lib.hid (HB.out.trans (hb1.mono HB.out.size))
  obtain ⟨a0, a1, a2, a3⟩ := vb_cells ((hb1.block _ (lt_of_block HX.out)).trans HX.out)
  clear hb1
  go_wp2_with fail
  refine (H2 _ (HV.out.under HB1.out) (HT.out.mono HB1.out)).mono ?_
  rintro e w2 ⟨rfl, hb2⟩
  go_wp2_with fail
  go_ret
  exact ⟨rfl, HB1.out.trans (hb2.mono HB1.out.size)⟩
end Go.Proofs.YtnaefnojmiolbaaGreatDoor

namespace Go.Proofs.YtnaefnojmiolbaaGreatDoor
open Go.RowKit

attribute [local go_sem] yld_undef
/-- Things that lie where a slice value says, with room for their items all through. -/
def ThCap (w : World) (tv : Value) (F : List TP) : Prop := ∃ ta tc, tv = .slice ta F.length tc ∧ F.length ≤ 140737488355328 ∧
  ∀ i (hi : i < F.length), ∃ g off po pc, ta = some ⟨g, off, none⟩ ∧ g < w.heap.size ∧ VCap w (.slice po (F[i]).2.length pc) (F[i]).2 ∧ w.cell? ⟨g, off + i * 2, none⟩ = some (.string (F[i]).1) ∧ w.cell? ⟨g, off + i * 2 + 1, none⟩ = some (.slice po (F[i]).2.length pc)
theorem ThCap.thAt {w : World} {tv : Value} {F : List TP} (h : ThCap w tv F) : ThAt w tv F := by
  obtain ⟨ta, tc, e, hl, h⟩ := h
  refine ⟨ta, tc, e, hl, fun i hi => ?_⟩
  obtain ⟨g, off, po, pc, h1, h2, h3, h4, h5⟩ := h i hi
  exact ⟨g, off, _, h1, h2, h3.vin, h4, h5⟩
theorem ThCap.under {w w' : World} {tv : Value} {F : List TP} (h : ThCap w tv F) (hb : Below w.heap.size w w') : ThCap w' tv F := by
  obtain ⟨ta, tc, e, hl, h⟩ := h
  refine ⟨ta, tc, e, hl, fun i hi => ?_⟩
  obtain ⟨g, off, po, pc, h1, h2, h3, h4, h5⟩ := h i hi
  exact ⟨g, off, po, pc, h1, Nat.lt_of_lt_of_le h2 hb.size, h3.under hb, (hb.cell (p := ⟨g, off + i * 2, none⟩) h2).trans h4, (hb.cell (p := ⟨g, off + i * 2 + 1, none⟩) h2).trans h5⟩
/-- One thing as it lies in a later world. -/
theorem ThCap.get {w wr : World} {ta : Option Addr} {m tc : Nat} {F : List TP} (h : ThCap w (.slice ta m tc) F) (hb : Below w.heap.size w wr) {i : Nat} (hi : i < F.length) :
    ∃ g off po pc cls P, F[i]? = some (cls, P) ∧ (cls, P) ∈ F ∧ ta = some ⟨g, off, none⟩ ∧ VCap wr (.slice po P.length pc) P ∧ wr.cell? ⟨g, off + i * 2, none⟩ = some (.string cls) ∧ wr.cell? ⟨g, off + i * 2 + 1, none⟩ = some (.slice po P.length pc) := by
  obtain ⟨ta', tc', e, hl, h⟩ := h
  cases e
  obtain ⟨g, off, po, pc, h1, h2, h3, h4, h5⟩ := h i hi
  exact ⟨g, off, po, pc, (F[i]).1, (F[i]).2, by rw [List.getElem?_eq_getElem hi], List.getElem_mem hi, h1, h3.under hb, (hb.cell (p := ⟨g, off + i * 2, none⟩) h2).trans h4, (hb.cell (p := ⟨g, off + i * 2 + 1, none⟩) h2).trans h5⟩
/-- A graph that may be, with things of which each may be. -/
structure RightG (v : VT) (F : List TP) : Prop where
  may : mayV v 0 = true
  within : withinV v F.length = true
  total : countV v + totalW F ≤ 2048
  thing : ∀ t ∈ F, nameP t.1.toList = true ∧ propsW F.length [] t.2 = true
  good : GoodS v
  tgood : ∀ t ∈ F, t.1.size ≤ 1073741824 ∧ ∀ x ∈ t.2, KG x.1 ∧ GoodS x.2
theorem total_drop {F : List TP} {i : Nat} {t : TP} (h : F[i]? = some t) : totalW (F.drop i) = t.2.length + countL t.2 + totalW (F.drop (i + 1)) := by rw [drop_at h, total_cons]
theorem countL_drop {P : List It} {k : Nat} {x : It} (h : P[k]? = some x) : countL (P.drop k) = countV x.2 + countL (P.drop (k + 1)) := by rw [drop_at h, countL_cons]
theorem wr_few2 {a b : Nat} (h : a + 1 + b ≤ 2048) : wrap64 ((a : Int) + 1 + (b : Int)) = (a : Int) + 1 + (b : Int) ∧ IntKind.i64.wrap ((a : Int) + 1 + (b : Int)) = (a : Int) + 1 + (b : Int) := wr_sm (by omega) (by omega)
set_option maxHeartbeats 25600000 in
set_option maxRecDepth 100000 in
theorem rRight_any {v : VT} {F : List TP} (hR : RightG v F) (w : World) (c tv : Value) (hv : VCap w c v.xs) (hF : ThCap w tv F) (ht : Tabs w) : Calls Tryz.prog 18 #[v.v c, tv] w (BoolPost w true) := by
  have hcv : countV v ≤ 2048 := by have := hR.total; omega
  have HRI := Lib.hid (fun W h1 h2 => rright_any v hR.good.1 hR.may hcv W c h1 h2 : ∀ W, VCap W c v.xs → Tabs W → Calls Tryz.prog 29 #[v.v c] W (BoolPost W true))
  have HOB := Lib.hid (fun W h1 => robj_any v W c F.length h1 hR.within : ∀ W, VIn W c v.xs → Calls Tryz.prog 45 #[v.v c, .int .i64 F.length] W (BoolPost W true))
  have HCO := Lib.hid (fun W h1 => count_any v hcv W c h1 : ∀ W, VIn W c v.xs → Calls Tryz.prog 46 #[v.v c] W (IntPost W (countV v)))
  obtain ⟨ao, cap, rfl, -, -⟩ := hv.form
  have hF2 := hF
  obtain ⟨ta, tc, rfl, hFl, -⟩ := hF2
  have HV := Lib.hid hv
  have HF := Lib.hid hF
  have HT : Hid (∀ W, Below w.heap.size w W → Tabs W) := Lib.hid fun W h => ht.mono h
  have HR := Lib.hid hR
  have HFL := Lib.hid hFl
  have HX := Lib.hid (heap_alloc_new w (VB v (.slice ao v.xs.length cap)))
  have HB := Lib.hid (below_alloc1 w (VB v (.slice ao v.xs.length cap)))
  obtain ⟨a0, a1, a2, a3⟩ := vb_cells HX.out
  obtain ⟨cv, hcv2⟩ : ∃ cv, cv = countV v := ⟨_, rfl⟩
  rw [← hcv2] at HCO
  have HT0 : Hid (cv + totalW F ≤ 2048) := Lib.hid (by rw [hcv2]; exact hR.total)
  clear hv hF ht hR hFl hcv hcv2
  simp only [VT.v] at HRI HOB HCO ⊢
  go_enter Tryz.func18, Tryz.ntmps18
  go_wp2_with fail
  refine (HRI.out _ (HV.out.under HB.out) (HT.out _ HB.out)).mono ?_
  rintro _ w1 ⟨rfl, hb⟩
  have HB1 := Lib.hid (HB.out.trans (hb.mono HB.out.size))
  have HX1 := Lib.hid ((hb.block _ (lt_of_block HX.out)).trans HX.out)
  obtain ⟨a0, a1, a2, a3⟩ := vb_cells HX1.out
  clear hb HRI
  go_wp2_with fail
  refine (HOB.out _ (HV.out.vin.under HB1.out)).mono ?_
  rintro _ w2 ⟨rfl, hb⟩
  have HB2 := Lib.hid (HB1.out.trans (hb.mono HB1.out.size))
  have HX2 := Lib.hid ((hb.block _ (lt_of_block HX1.out)).trans HX1.out)
  obtain ⟨a0, a1, a2, a3⟩ := vb_cells HX2.out
  clear hb HOB HB1 HX1
  go_wp2_with fail
  refine (HCO.out _ (HV.out.vin.under HB2.out)).mono ?_
  rintro _ w3 ⟨rfl, hb⟩
  have HB3 := Lib.hid (HB2.out.trans (hb.mono HB2.out.size))
  clear hb HCO HX2 a0 a1 a2 a3 HX HB HB2
  go_wp2_with fail
  go_loopw [5, 6] (fun mv kv wr => ∃ (i cnt : Nat), i ≤ F.length ∧ mv = .int .i64 cnt ∧ kv = .int .i64 i ∧ Hid (cnt + totalW (F.drop i) ≤ 2048) ∧ Hid (Below w.heap.size w wr)) (fun _ kv _ => F.length - (intOf kv).toNat)
  case atStart => exact ⟨0, cv, Nat.zero_le _, rfl, rfl, HT0, HB3⟩
  case round =>
    obtain ⟨i, cnt, hi, rfl, rfl, HC, HBR⟩ := hrel
    obtain ⟨w4, hw4⟩ : ∃ w4, w4 = wr := ⟨_, rfl⟩
    subst hw4
    have hc1 : (cnt : Int) ≤ 2048 := by have := HC.out; omega
    by_cases hlt : i < F.length
    · have hil : (i : Int) < (F.length : Int) := by omega
      obtain ⟨hw', hw⟩ := wr_sm (x := (i : Int) + 1) (by omega) (by have := HFL.out; omega)
      obtain ⟨g, off, po, pc, cls, P, hget, hmem, rfl, hvp, c0, c1⟩ := HF.out.get HBR.out hlt
      have hPL : P.length ≤ 140737488355328 := by obtain ⟨_, _, _, h, _⟩ := hvp.form; exact h
      have HVP := Lib.hid hvp
      have HG := Lib.hid (cell_lt c1)
      have HTD : Hid (cnt + (P.length + countL P + totalW (F.drop (i + 1))) ≤ 2048) := Lib.hid (by have := HC.out; rw [total_drop hget] at this; exact this)
      have HLT := Lib.hid hlt
      have HC1 := Lib.hid c1
      clear hget hmem hvp hlt c0
      go_wp2_with fail
      go_loopw [5, 7] (fun mv kv wk => ∃ (k cn : Nat), k ≤ P.length ∧ mv = .int .i64 cn ∧ kv = .int .i64 k ∧ Hid (cn + ((P.length - k) + countL (P.drop k) + totalW (F.drop (i + 1))) ≤ 2048) ∧ Hid (Below w4.heap.size w4 wk)) (fun _ kv _ => P.length - (intOf kv).toNat)
      case atStart => exact ⟨0, cnt, Nat.zero_le _, rfl, rfl, Lib.hid (by have := HTD.out; simpa using this), Lib.hid (Below.refl _ _)⟩
      case round =>
        obtain ⟨k, cn, hk, rfl, rfl, HCN, HBK⟩ := hrel
        obtain ⟨wk, hwk⟩ : ∃ wk, wk = wr := ⟨_, rfl⟩
        subst hwk
        have c1 : wk.cell? ⟨g, off + i * 2 + 1, none⟩ = some (.slice po P.length pc) := (HBK.out.cell (p := ⟨g, off + i * 2 + 1, none⟩) HG.out).trans HC1.out
        have hc2 : (cn : Int) ≤ 2048 := by have := HCN.out; omega
        by_cases hkl : k < P.length
        · have hkl2 : (k : Int) < (P.length : Int) := by omega
          obtain ⟨hk', hkw⟩ := wr_sm (x := (k : Int) + 1) (by omega) (by omega)
          obtain ⟨q, x, pg, poff, co, cc, hq, hm, rfl, hvx, r0, r1, r2, r3, r4, r5, r6⟩ := HVP.out.getB hkl HBK.out
          obtain ⟨hsum, hcx, hcs⟩ : cn + 1 + countV x + ((P.length - (k + 1)) + countL (P.drop (k + 1)) + totalW (F.drop (i + 1))) ≤ 2048 ∧ countV x ≤ 2048 ∧ cn + 1 + countV x ≤ 2048 := by
            have h1 := HCN.out
            have hcd := countL_drop hq
            simp only at hcd
            rw [hcd] at h1
            omega
          have HFE := Lib.hid (fun W h => few_any x hcx W (.slice co x.xs.length cc) h : ∀ W, VIn W (.slice co x.xs.length cc) x.xs → Calls Tryz.prog 36 #[.agg #[.int .i64 x.k, .int .i64 x.n, .string x.t, .slice co x.xs.length cc]] W (BoolPost W true))
          have HCN2 := Lib.hid (fun W h => count_any x hcx W (.slice co x.xs.length cc) h : ∀ W, VIn W (.slice co x.xs.length cc) x.xs → Calls Tryz.prog 46 #[.agg #[.int .i64 x.k, .int .i64 x.n, .string x.t, .slice co x.xs.length cc]] W (IntPost W (countV x)))
          obtain ⟨cx, hcxe⟩ : ∃ cx, cx = countV x := ⟨_, rfl⟩
          rw [← hcxe] at HCN2 hsum hcs
          obtain ⟨hn', hnw⟩ := wr_sm (x := (cn : Int) + 1) (by omega) (by omega)
          obtain ⟨hm', hmw⟩ := wr_few2 hcs
          have HSUM := Lib.hid hsum
          have HKL := Lib.hid hkl
          have HVX := Lib.hid hvx.vin
          have hpg : pg < wk.heap.size := cell_lt r3
          have hcg : g < wk.heap.size := cell_lt c1
          clear hq hm hvx hsum hcx hcxe hkl hk hcs
          go_wp2_with fail
          refine (HFE.out _ HVX.out).mono ?_
          rintro _ w5 ⟨rfl, hb5⟩
          have HV5 := Lib.hid (HVX.out.under hb5)
          have HB5 := Lib.hid (HBK.out.trans (hb5.mono HBK.out.size))
          have c1 := (hb5.cell (p := ⟨g, off + i * 2 + 1, none⟩) hcg).trans c1
          have r3 := (hb5.cell (p := ⟨pg, poff + k * 7 + 3, none⟩) hpg).trans r3
          have r4 := (hb5.cell (p := ⟨pg, poff + k * 7 + 4, none⟩) hpg).trans r4
          have r5 := (hb5.cell (p := ⟨pg, poff + k * 7 + 5, none⟩) hpg).trans r5
          have r6 := (hb5.cell (p := ⟨pg, poff + k * 7 + 6, none⟩) hpg).trans r6
          clear hb5 HFE
          go_wp2_with fail
          refine (HCN2.out _ HV5.out).mono ?_
          rintro _ w6 ⟨rfl, hb6⟩
          have HB6 := Lib.hid (HB5.out.trans (hb6.mono HB5.out.size))
          clear hb6 HCN2 HB5 HV5
          go_wp2_with fail
          go_roundw
          case rel => exact ⟨k + 1, cn + 1 + cx, HKL.out, by go_num, by go_num, HSUM, HB6⟩
          case measure => have := HKL.out; simp [intOf]; omega
        · obtain rfl : k = P.length := by omega
          have HC9 : Hid (cn + totalW (F.drop (i + 1)) ≤ 2048) := Lib.hid (by have := HCN.out; simp only [List.drop_length, countL] at this; omega)
          go_wp2_with fail
          go_roundw
          case rel => exact ⟨i + 1, cn, HLT.out, rfl, by go_num, HC9, Lib.hid (HBR.out.trans (HBK.out.mono HBR.out.size))⟩
          case measure => have := HLT.out; simp [intOf]; omega
    · obtain rfl : i = F.length := by omega
      go_wp2_with fail
      go_loopw [8] (fun kv wt => ∃ (i : Nat), i ≤ F.length ∧ kv = .int .i64 i ∧ Hid (Below w.heap.size w wt)) (fun kv _ => F.length - (intOf kv).toNat)
      case atStart => exact ⟨0, Nat.zero_le _, rfl, HBR⟩
      case round =>
        obtain ⟨i, hi2, rfl, HBT⟩ := hrel
        obtain ⟨wt, hwt⟩ : ∃ wt, wt = wr := ⟨_, rfl⟩
        subst hwt
        clear hc1 HC hi HBR
        by_cases hlt : i < F.length
        · have hil : (i : Int) < (F.length : Int) := by omega
          obtain ⟨hw', hw⟩ := wr_sm (x := (i : Int) + 1) (by omega) (by have := HFL.out; omega)
          obtain ⟨g, off, po, pc, cls, P, hget, hmem, rfl, hvp, c0, c1⟩ := HF.out.get HBT.out hlt
          have hPL : P.length ≤ 140737488355328 := by obtain ⟨_, _, _, h, _⟩ := hvp.form; exact h
          have hPC : P.length ≤ pc := by obtain ⟨_, _, e, _, h⟩ := hvp.form; cases e; exact h
          have HVP := Lib.hid hvp
          obtain ⟨hnm, hpw⟩ := HR.out.thing _ hmem
          have HPG := Lib.hid (HR.out.tgood _ hmem)
          have HPA := Lib.hid (propsW_at hpw)
          have HCT : Hid (P.length + countL P ≤ 2048) := Lib.hid (by have h1 := total_mem hmem; simp only at h1; have := HR.out.total; omega)
          have HNM : ∀ W, Calls Tryz.prog 15 #[.string cls] W (fun e w' => e = .returned (.bool true) ∧ W = w') := fun W => by have := rname_any cls (by have := HPG.out.1; simp only at this; omega) W; rw [hnm] at this; exact this
          have HXT := Lib.hid (heap_alloc_new wt (.cells #[.string cls, .slice po P.length pc] 48))
          have HBX := Lib.hid (below_alloc1 wt (.cells #[.string cls, .slice po P.length pc] 48))
          have t0 := cell_blk HXT.out 0
          have t1 := cell_blk HXT.out 1
          have HLT := Lib.hid hlt
          clear hget hmem hvp hlt hnm hpw
          go_wp2_with fail
          refine (HNM _).mono ?_
          rintro _ w5 ⟨rfl, rfl⟩
          have HX5 := HXT
          have HB5 := HBX
          clear HNM t0 t1 HXT HBX c0 c1
          go_wp2_with fail
          go_loopw [10] (fun kv wk => ∃ (k : Nat), k ≤ P.length ∧ kv = .int .i64 k ∧ Hid (Below wt.heap.size wt wk ∧ wk.heap[wt.heap.size]? = some (.cells #[.string cls, .slice po P.length pc] 48 (0, 0)))) (fun kv _ => P.length - (intOf kv).toNat)
          case atStart => exact ⟨0, Nat.zero_le _, rfl, Lib.hid ⟨HB5.out, HX5.out⟩⟩
          case round =>
            obtain ⟨k, hk, rfl, HK⟩ := hrel
            obtain ⟨wk, hwk⟩ : ∃ wk, wk = wr := ⟨_, rfl⟩
            subst hwk
            have t1 := cell_blk HK.out.2 1
            clear HX5 HB5
            by_cases hkl : k < P.length
            · have hkl2 : (k : Int) < (P.length : Int) := by omega
              obtain ⟨hk', hkw⟩ := wr_sm (x := (k : Int) + 1) (by omega) (by omega)
              have hkc : (k : Int) ≤ (pc : Int) := by omega
              have hk0 : (0 : Int) ≤ (k : Int) := by omega
              obtain ⟨q, x, pg, poff, co, cc, hq, hm, rfl, hvx, r0, r1, r2, r3, r4, r5, r6⟩ := HVP.out.getB hkl HK.out.1
              obtain ⟨p1, p2, -, p3, p4⟩ := HPA.out.2 _ hm
              obtain ⟨g1, g2⟩ := HPG.out.2 _ hm
              have hcx : countV x ≤ 2048 := by have h1 := count_mem hm; simp only at h1; have := HCT.out; omega
              unfold rightV at p3
              rw [Bool.and_eq_true] at p3
              obtain ⟨qb, qn, qt⟩ := q
              simp only at p1 p2 p3 p4 g1 g2 r0 r1 r2 r3 r4 r5 r6
              subst p1
              have HN : ∀ W, Tabs W → Calls Tryz.prog 47 #[.agg #[.bool true, .int .i64 qn, .string qt]] W fun e w' => e = .returned (.agg #[.bool true, .int .i64 qn, .string qt]) ∧ Below W.heap.size W w' := fun W h => by
                have := Doc.rnorm_any ⟨true, qn, qt⟩ g1.1 W h
                rw [p2] at this
                exact this
              have hN : ∀ w, (binOp .neq 62 (.agg #[.bool true, .int .i64 qn, .string qt]) (.agg #[.bool true, .int .i64 qn, .string qt])).run Tryz.prog w = .ok (.bool false) w := fun w => by have := key_neq ⟨true, qn, qt⟩ ⟨true, qn, qt⟩ w; rw [K.same_self] at this; exact this
              have hpre : ∀ y ∈ P.take k, y.1 ≠ ⟨true, qn, qt⟩ := fun y hy => by
                obtain ⟨i, hi2, rfl⟩ := List.getElem_of_mem hy
                have hij : i < k := by rw [List.length_take] at hi2; omega
                rw [List.getElem_take]
                have := List.pairwise_iff_getElem.1 HPA.out.1 i k (by omega) hkl hij
                rw [List.getElem?_eq_getElem hkl] at hq
                rw [Option.some.inj hq] at this
                exact this
              have HFN : ∀ W, Below wt.heap.size wt W → Calls Tryz.prog 48 #[.slice (some ⟨pg, poff, none⟩) k pc, .agg #[.bool true, .int .i64 qn, .string qt]] W (IntPost W (-1)) := fun W h => rfind_none ⟨true, qn, qt⟩ (P.take k) hpre W _ ((HVP.out.take (by omega)).under h)
              have HRI2 : ∀ W, VCap W (.slice co x.xs.length cc) x.xs → Tabs W → Calls Tryz.prog 29 #[.agg #[.int .i64 x.k, .int .i64 x.n, .string x.t, .slice co x.xs.length cc]] W (BoolPost W true) := fun W h1 h2 => rright_any x g2.1 p3.2 hcx W _ h1 h2
              have HOB2 : ∀ W, VCap W (.slice co x.xs.length cc) x.xs → Calls Tryz.prog 45 #[.agg #[.int .i64 x.k, .int .i64 x.n, .string x.t, .slice co x.xs.length cc], .int .i64 F.length] W (BoolPost W true) := fun W h1 => robj_any x W _ F.length h1.vin p4
              obtain ⟨W0, hW0⟩ : ∃ W0, W0 = wk.alloc (IB (⟨true, qn, qt⟩, x) (.slice co x.xs.length cc)) := ⟨_, rfl⟩
              have HXI : Hid (W0.heap[wk.heap.size]? = some (IB (⟨true, qn, qt⟩, x) (.slice co x.xs.length cc))) := Lib.hid (by rw [hW0]; exact heap_alloc_new wk _)
              have HXT : Hid (W0.heap[wt.heap.size]? = some (.cells #[.string cls, .slice (some ⟨pg, poff, none⟩) P.length pc] 48 (0, 0))) := Lib.hid (by rw [hW0]; exact alloc_blk HK.out.2 _)
              have HBI : Hid (Below wk.heap.size wk W0) := Lib.hid (by rw [hW0]; exact below_alloc1 wk _)
              have HD0 : Hid (Below W0.heap.size W0 W0.drew) := Lib.hid (Below.refl _ _).drew
              have HBW : Hid (∀ V, Below W0.heap.size W0 V → Below wt.heap.size wt V) := Lib.hid fun V hb => (HK.out.1.trans (HBI.out.mono HK.out.1.size)).trans (hb.mono (Nat.le_trans HK.out.1.size HBI.out.size))
              have HTV : Hid (∀ V, Below W0.heap.size W0 V → Tabs V) := Lib.hid fun V hb => HT.out _ (HBT.out.trans ((HBW.out V hb).mono HBT.out.size))
              have HCV : Hid (∀ V, Below W0.heap.size W0 V → VCap V (.slice co x.xs.length cc) x.xs) := Lib.hid fun V hb => (hvx.under HBI.out).under hb
              have six : ∀ {V : World}, Below W0.heap.size W0 V → ((fun V => V.cell? ⟨wk.heap.size, 0, none⟩ = some (.bool true) ∧ V.cell? ⟨wk.heap.size, 1, none⟩ = some (.int .i64 qn) ∧ V.cell? ⟨wk.heap.size, 2, none⟩ = some (.string qt) ∧ V.cell? ⟨wk.heap.size, 3, none⟩ = some (.int .i64 x.k) ∧ V.cell? ⟨wk.heap.size, 4, none⟩ = some (.int .i64 x.n) ∧ V.cell? ⟨wk.heap.size, 5, none⟩ = some (.string x.t) ∧ V.cell? ⟨wk.heap.size, 6, none⟩ = some (.slice co x.xs.length cc) ∧ V.cell? ⟨wt.heap.size, 1, none⟩ = some (.slice (some ⟨pg, poff, none⟩) P.length pc)) V) := fun {V} hb => by
                obtain ⟨z0, z1, z2, z3, z4, z5, z6⟩ := ib_cells ((hb.block _ (lt_of_block HXI.out)).trans HXI.out)
                exact ⟨z0, z1, z2, z3, z4, z5, z6, cell_blk ((hb.block _ (lt_of_block HXT.out)).trans HXT.out) 1⟩
              have HSX := @Lib.hid _ @six
              have HS0 := Lib.hid (six HD0.out)
              have HKL := Lib.hid hkl
              have hFl2 : (F.length : Int) ≤ 9223372036854775807 := by have := HFL.out; omega
              clear hq hm hvx hcx p2 p3 p4 g1 g2 hpre six hkl
              go_wp2_with fail
              rw [show wk.alloc (Obj.cells #[.bool true, .int .i64 qn, .string qt, .int .i64 x.k, .int .i64 x.n, .string x.t, .slice co x.xs.length cc] 64) = W0 from hW0.symm]
              clear hW0
              refine wp_region_noPanic ?_
              refine wp_region_held_drew (S := (fun V => V.cell? ⟨wk.heap.size, 0, none⟩ = some (.bool true) ∧ V.cell? ⟨wk.heap.size, 1, none⟩ = some (.int .i64 qn) ∧ V.cell? ⟨wk.heap.size, 2, none⟩ = some (.string qt) ∧ V.cell? ⟨wk.heap.size, 3, none⟩ = some (.int .i64 x.k) ∧ V.cell? ⟨wk.heap.size, 4, none⟩ = some (.int .i64 x.n) ∧ V.cell? ⟨wk.heap.size, 5, none⟩ = some (.string x.t) ∧ V.cell? ⟨wk.heap.size, 6, none⟩ = some (.slice co x.xs.length cc) ∧ V.cell? ⟨wt.heap.size, 1, none⟩ = some (.slice (some ⟨pg, poff, none⟩) P.length pc))) (by kernel_rfl) (by exact HS0.out) (fun hHeld => ?_)
              refine wpAnyH_take (i := 0) (oi := ?o0) (v := ?v0) ?hi0 (by kernel_rfl) (by kernel_rfl) (by kernel_rfl) (fun _ _ _ h => h) ?hy0 (by assumption) ?rest0
              case hi0 => simp only [gA, gZ]; rfl
              case hy0 =>
                refine Or.inl ⟨by rfl, ?_⟩
                intro w hSw; (try dsimp only at hSw); go_simp <;> (with_reducible rfl)
              (try simp only [Act.put, pA, pZ, pS])
              refine wpAnyH_take (i := 1) (oi := ?o1) (v := ?v1) ?hi1 (by kernel_rfl) (by kernel_rfl) (by kernel_rfl) (fun _ _ _ h => h) ?hy1 (by assumption) ?rest1
              case hi1 => simp only [gA, gS, gZ]; rfl
              case hy1 =>
                refine Or.inl ⟨by rfl, ?_⟩
                intro w hSw; (try dsimp only at hSw); go_simp <;> (with_reducible rfl)
              (try simp only [Act.put, pA, pZ, pS])
              refine wpAnyH_take (i := 2) (oi := ?o2) (v := ?v2) ?hi2 (by kernel_rfl) (by kernel_rfl) (by kernel_rfl) (fun _ _ _ h => h) ?hy2 (by assumption) ?rest2
              case hi2 => simp only [gA, gS, gZ]; rfl
              case hy2 =>
                refine Or.inl ⟨by rfl, ?_⟩
                intro w hSw; (try dsimp only at hSw); go_simp <;> (with_reducible rfl)
              (try simp only [Act.put, pA, pZ, pS])
              refine wpAnyH_take (i := 3) (oi := ?o3) (v := ?v3) ?hi3 (by kernel_rfl) (by kernel_rfl) (by kernel_rfl) (fun _ _ _ h => h) ?hy3 (by assumption) ?rest3
              case hi3 => simp only [gA, gS, gZ]; rfl
              case hy3 =>
                refine Or.inl ⟨by rfl, ?_⟩
                intro w hSw; (try dsimp only at hSw); go_simp <;> (with_reducible rfl)
              (try simp only [Act.put, pA, pZ, pS])
              refine wpAnyH_take (i := 4) (oi := ?o4) (v := ?v4) ?hi4 (by kernel_rfl) (by kernel_rfl) (by kernel_rfl) (fun _ _ _ h => h) ?hy4 (by assumption) ?rest4
              case hi4 => simp only [gA, gS, gZ]; rfl
              case hy4 =>
                refine Or.inl ⟨by rfl, ?_⟩
                intro w hSw; (try dsimp only at hSw); go_simp <;> (with_reducible rfl)
              (try simp only [Act.put, pA, pZ, pS])
              refine wpAnyH_take (i := 5) (oi := ?o5) (v := ?v5) ?hi5 (by kernel_rfl) (by kernel_rfl) (by kernel_rfl) (fun _ _ _ h => h) ?hy5 (by assumption) ?rest5
              case hi5 => simp only [gA, gS, gZ]; rfl
              case hy5 =>
                refine Or.inl ⟨by rfl, ?_⟩
                intro w hSw; (try dsimp only at hSw); go_simp <;> (with_reducible rfl)
              (try simp only [Act.put, pA, pZ, pS])
              refine wpAnyH_take (i := 6) (oi := ?o6) (v := ?v6) ?hi6 (by kernel_rfl) (by kernel_rfl) (by kernel_rfl) (fun _ _ _ h => h) ?hy6 (by assumption) ?rest6
              case hi6 => simp only [gA, gS, gZ]; rfl
              case hy6 =>
                refine Or.inl ⟨by rfl, ?_⟩
                intro w hSw; (try dsimp only at hSw); go_simp <;> (with_reducible rfl)
              (try simp only [Act.put, pA, pZ, pS])
              refine wpAnyH_take (i := 7) (oi := ?o7) (v := ?v7) ?hi7 (by kernel_rfl) (by kernel_rfl) (by kernel_rfl) (fun _ _ _ h => h) ?hy7 (by assumption) ?rest7
              case hi7 => simp only [gA, gS, gZ]; rfl
              case hy7 =>
                refine Or.inl ⟨by rfl, ?_⟩
                intro w hSw; (try dsimp only at hSw); go_simp <;> (with_reducible rfl)
              (try simp only [Act.put, pA, pZ, pS])
              refine wpAnyH_take (i := 8) (oi := ?o8) (v := ?v8) ?hi8 (by kernel_rfl) (by kernel_rfl) (by kernel_rfl) (fun _ _ _ h => h) ?hy8 (by assumption) ?rest8
              case hi8 => simp only [gA, gS, gZ]; rfl
              case hy8 =>
                refine Or.inl ⟨by rfl, ?_⟩
                intro w hSw; (try dsimp only at hSw); go_simp <;> (with_reducible rfl)
              (try simp only [Act.put, pA, pZ, pS])
              refine wpAnyH_ready (rs := [9]) (by kernel_rfl) (by simp) ?_
              refine AllReadyH.cons rfl (fun K hK => ?_) AllReadyH.nil
              go_simp
              refine (HN _ (HTV.out _ HD0.out)).mono ?_
              rintro _ v9 ⟨rfl, hb⟩
              have HD9 := Lib.hid (HD0.out.trans (hb.mono HD0.out.size))
              clear hb
              refine hK.out _ _ (HSX.out HD9.out) (fun hHeld9 => ?_)
              clear hK K
              (try simp only [Act.put, pA, pZ, pS])
              refine wpAnyH_take (i := 10) (oi := ?o10) (v := ?v10) ?hi10 (by kernel_rfl) (by kernel_rfl) (by kernel_rfl) (fun _ _ _ h => h) ?hy10 (by assumption) ?rest10
              case hi10 => simp only [gA, gS, gZ]; rfl
              case hy10 =>
                refine Or.inl ⟨by rfl, ?_⟩
                intro w hSw; (try dsimp only at hSw); go_simp <;> (with_reducible rfl)
              (try simp only [Act.put, pA, pZ, pS])
              refine wpAnyH_take (i := 11) (oi := ?o11) (v := ?v11) ?hi11 (by kernel_rfl) (by kernel_rfl) (by kernel_rfl) (fun _ _ _ h => h) ?hy11 (by assumption) ?rest11
              case hi11 => simp only [gA, gS, gZ]; rfl
              case hy11 =>
                refine Or.inl ⟨by rfl, ?_⟩
                intro w hSw; (try dsimp only at hSw); go_simp <;> (with_reducible rfl)
              (try simp only [Act.put, pA, pZ, pS])
              refine wpAnyH_take (i := 12) (oi := ?o12) (v := ?v12) ?hi12 (by kernel_rfl) (by kernel_rfl) (by kernel_rfl) (fun _ _ _ h => h) ?hy12 (by assumption) ?rest12
              case hi12 => simp only [gA, gS, gZ]; rfl
              case hy12 =>
                refine Or.inl ⟨by rfl, ?_⟩
                intro w hSw; (try dsimp only at hSw); go_simp <;> (with_reducible rfl)
              (try simp only [Act.put, pA, pZ, pS])
              refine wpAnyH_take (i := 13) (oi := ?o13) (v := ?v13) ?hi13 (by kernel_rfl) (by kernel_rfl) (by kernel_rfl) (fun _ _ _ h => h) ?hy13 (by assumption) ?rest13
              case hi13 => simp only [gA, gS, gZ]; rfl
              case hy13 =>
                refine Or.inl ⟨by rfl, ?_⟩
                intro w hSw; (try dsimp only at hSw); go_simp <;> (with_reducible rfl)
              (try simp only [Act.put, pA, pZ, pS])
              refine wpAnyH_take (i := 14) (oi := ?o14) (v := ?v14) ?hi14 (by kernel_rfl) (by kernel_rfl) (by kernel_rfl) (fun _ _ _ h => h) ?hy14 (by assumption) ?rest14
              case hi14 => simp only [gA, gS, gZ]; rfl
              case hy14 =>
                refine Or.inl ⟨by rfl, ?_⟩
                intro w hSw; (try dsimp only at hSw); go_simp <;> (with_reducible rfl)
              (try simp only [Act.put, pA, pZ, pS])
              refine wpAnyH_take (i := 15) (oi := ?o15) (v := ?v15) ?hi15 (by kernel_rfl) (by kernel_rfl) (by kernel_rfl) (fun _ _ _ h => h) ?hy15 (by assumption) ?rest15
              case hi15 => simp only [gA, gS, gZ]; rfl
              case hy15 =>
                refine Or.inl ⟨by rfl, ?_⟩
                intro w hSw; (try dsimp only at hSw); go_simp <;> (with_reducible rfl)
              (try simp only [Act.put, pA, pZ, pS])
              refine wpAnyH_take (i := 16) (oi := ?o16) (v := ?v16) ?hi16 (by kernel_rfl) (by kernel_rfl) (by kernel_rfl) (fun _ _ _ h => h) ?hy16 (by assumption) ?rest16
              case hi16 => simp only [gA, gS, gZ]; rfl
              case hy16 =>
                refine Or.inl ⟨by rfl, ?_⟩
                intro w hSw; (try dsimp only at hSw); go_simp <;> (with_reducible rfl)
              (try simp only [Act.put, pA, pZ, pS])
              refine wpAnyH_take (i := 17) (oi := ?o17) (v := ?v17) ?hi17 (by kernel_rfl) (by kernel_rfl) (by kernel_rfl) (fun _ _ _ h => h) ?hy17 (by assumption) ?rest17
              case hi17 => simp only [gA, gS, gZ]; rfl
              case hy17 =>
                refine Or.inl ⟨by rfl, ?_⟩
                intro w hSw; (try dsimp only at hSw); go_simp <;> (with_reducible rfl)
              (try simp only [Act.put, pA, pZ, pS])
              refine wpAnyH_take (i := 18) (oi := ?o18) (v := ?v18) ?hi18 (by kernel_rfl) (by kernel_rfl) (by kernel_rfl) (fun _ _ _ h => h) ?hy18 (by assumption) ?rest18
              case hi18 => simp only [gA, gS, gZ]; rfl
              case hy18 =>
                refine Or.inl ⟨by rfl, ?_⟩
                intro w hSw; (try dsimp only at hSw); go_simp <;> (with_reducible rfl)
              (try simp only [Act.put, pA, pZ, pS])
              refine wpAnyH_ready (rs := [19]) (by kernel_rfl) (by simp) ?_
              refine AllReadyH.cons rfl (fun K hK => ?_) AllReadyH.nil
              go_simp
              refine (HFN _ (HBW.out _ HD9.out)).mono ?_
              rintro _ v19 ⟨rfl, hb⟩
              have HD19 := Lib.hid (HD9.out.trans (hb.mono HD9.out.size))
              clear hb
              refine hK.out _ _ (HSX.out HD19.out) (fun hHeld19 => ?_)
              clear hK K
              (try simp only [Act.put, pA, pZ, pS])
              refine wpAnyH_take (i := 20) (oi := ?o20) (v := ?v20) ?hi20 (by kernel_rfl) (by kernel_rfl) (by kernel_rfl) (fun _ _ _ h => h) ?hy20 (by assumption) ?rest20
              case hi20 => simp only [gA, gS, gZ]; rfl
              case hy20 =>
                refine Or.inl ⟨by rfl, ?_⟩
                intro w hSw; (try dsimp only at hSw); go_simp <;> (with_reducible rfl)
              (try simp only [Act.put, pA, pZ, pS])
              refine wpAnyH_take (i := 21) (oi := ?o21) (v := ?v21) ?hi21 (by kernel_rfl) (by kernel_rfl) (by kernel_rfl) (fun _ _ _ h => h) ?hy21 (by assumption) ?rest21
              case hi21 => simp only [gA, gS, gZ]; rfl
              case hy21 =>
                refine Or.inl ⟨by rfl, ?_⟩
                intro w hSw; (try dsimp only at hSw); go_simp <;> (with_reducible rfl)
              (try simp only [Act.put, pA, pZ, pS])
              refine wpAnyH_take (i := 22) (oi := ?o22) (v := ?v22) ?hi22 (by kernel_rfl) (by kernel_rfl) (by kernel_rfl) (fun _ _ _ h => h) ?hy22 (by assumption) ?rest22
              case hi22 => simp only [gA, gS, gZ]; rfl
              case hy22 =>
                refine Or.inl ⟨by rfl, ?_⟩
                intro w hSw; (try dsimp only at hSw); go_simp <;> (with_reducible rfl)
              (try simp only [Act.put, pA, pZ, pS])
              refine wpAnyH_take (i := 23) (oi := ?o23) (v := ?v23) ?hi23 (by kernel_rfl) (by kernel_rfl) (by kernel_rfl) (fun _ _ _ h => h) ?hy23 (by assumption) ?rest23
              case hi23 => simp only [gA, gS, gZ]; rfl
              case hy23 =>
                refine Or.inl ⟨by rfl, ?_⟩
                intro w hSw; (try dsimp only at hSw); go_simp <;> (with_reducible rfl)
              (try simp only [Act.put, pA, pZ, pS])
              refine wpAnyH_take (i := 24) (oi := ?o24) (v := ?v24) ?hi24 (by kernel_rfl) (by kernel_rfl) (by kernel_rfl) (fun _ _ _ h => h) ?hy24 (by assumption) ?rest24
              case hi24 => simp only [gA, gS, gZ]; rfl
              case hy24 =>
                refine Or.inl ⟨by rfl, ?_⟩
                intro w hSw; (try dsimp only at hSw); go_simp <;> (with_reducible rfl)
              (try simp only [Act.put, pA, pZ, pS])
              refine wpAnyH_ready (rs := [25]) (by kernel_rfl) (by simp) ?_
              refine AllReadyH.cons rfl (fun K hK => ?_) AllReadyH.nil
              go_simp
              refine (HRI2 _ (HCV.out _ HD19.out) (HTV.out _ HD19.out)).mono ?_
              rintro _ v25 ⟨rfl, hb⟩
              have HD25 := Lib.hid (HD19.out.trans (hb.mono HD19.out.size))
              clear hb
              refine hK.out _ _ (HSX.out HD25.out) (fun hHeld25 => ?_)
              clear hK K
              (try simp only [Act.put, pA, pZ, pS])
              refine wpAnyH_take (i := 26) (oi := ?o26) (v := ?v26) ?hi26 (by kernel_rfl) (by kernel_rfl) (by kernel_rfl) (fun _ _ _ h => h) ?hy26 (by assumption) ?rest26
              case hi26 => simp only [gA, gS, gZ]; rfl
              case hy26 =>
                refine Or.inl ⟨by rfl, ?_⟩
                intro w hSw; (try dsimp only at hSw); go_simp <;> (with_reducible rfl)
              (try simp only [Act.put, pA, pZ, pS])
              refine wpAnyH_take (i := 27) (oi := ?o27) (v := ?v27) ?hi27 (by kernel_rfl) (by kernel_rfl) (by kernel_rfl) (fun _ _ _ h => h) ?hy27 (by assumption) ?rest27
              case hi27 => simp only [gA, gS, gZ]; rfl
              case hy27 =>
                refine Or.inl ⟨by rfl, ?_⟩
                intro w hSw; (try dsimp only at hSw); go_simp <;> (with_reducible rfl)
              (try simp only [Act.put, pA, pZ, pS])
              refine wpAnyH_take (i := 28) (oi := ?o28) (v := ?v28) ?hi28 (by kernel_rfl) (by kernel_rfl) (by kernel_rfl) (fun _ _ _ h => h) ?hy28 (by assumption) ?rest28
              case hi28 => simp only [gA, gS, gZ]; rfl
              case hy28 =>
                refine Or.inl ⟨by rfl, ?_⟩
                intro w hSw; (try dsimp only at hSw); go_simp <;> (with_reducible rfl)
              (try simp only [Act.put, pA, pZ, pS])
              refine wpAnyH_take (i := 29) (oi := ?o29) (v := ?v29) ?hi29 (by kernel_rfl) (by kernel_rfl) (by kernel_rfl) (fun _ _ _ h => h) ?hy29 (by assumption) ?rest29
              case hi29 => simp only [gA, gS, gZ]; rfl
              case hy29 =>
                refine Or.inl ⟨by rfl, ?_⟩
                intro w hSw; (try dsimp only at hSw); go_simp <;> (with_reducible rfl)
              (try simp only [Act.put, pA, pZ, pS])
              refine wpAnyH_take (i := 30) (oi := ?o30) (v := ?v30) ?hi30 (by kernel_rfl) (by kernel_rfl) (by kernel_rfl) (fun _ _ _ h => h) ?hy30 (by assumption) ?rest30
              case hi30 => simp only [gA, gS, gZ]; rfl
              case hy30 =>
                refine Or.inl ⟨by rfl, ?_⟩
                intro w hSw; (try dsimp only at hSw); go_simp <;> (with_reducible rfl)
              (try simp only [Act.put, pA, pZ, pS])
              refine wpAnyH_take (i := 31) (oi := ?o31) (v := ?v31) ?hi31 (by kernel_rfl) (by kernel_rfl) (by kernel_rfl) (fun _ _ _ h => h) ?hy31 (by assumption) ?rest31
              case hi31 => simp only [gA, gS, gZ]; rfl
              case hy31 =>
                refine Or.inl ⟨by rfl, ?_⟩
                intro w hSw; (try dsimp only at hSw); go_simp <;> (with_reducible rfl)
              (try simp only [Act.put, pA, pZ, pS])
              refine wpAnyH_take (i := 32) (oi := ?o32) (v := ?v32) ?hi32 (by kernel_rfl) (by kernel_rfl) (by kernel_rfl) (fun _ _ _ h => h) ?hy32 (by assumption) ?rest32
              case hi32 => simp only [gA, gS, gZ]; rfl
              case hy32 =>
                refine Or.inl ⟨by rfl, ?_⟩
                intro w hSw; (try dsimp only at hSw); go_simp <;> (with_reducible rfl)
              (try simp only [Act.put, pA, pZ, pS])
              refine wpAnyH_ready (rs := [33]) (by kernel_rfl) (by simp) ?_
              refine AllReadyH.cons rfl (fun K hK => ?_) AllReadyH.nil
              go_simp
              refine (HOB2 _ (HCV.out _ HD25.out)).mono ?_
              rintro _ v33 ⟨rfl, hb⟩
              have HD33 := Lib.hid (HD25.out.trans (hb.mono HD25.out.size))
              clear hb
              refine hK.out _ _ (HSX.out HD33.out) (fun hHeld33 => ?_)
              clear hK K
              (try simp only [Act.put, pA, pZ, pS])
              refine wpAnyH_take (i := 34) (oi := ?o34) (v := ?v34) ?hi34 (by kernel_rfl) (by kernel_rfl) (by kernel_rfl) (fun _ _ _ h => h) ?hy34 (by assumption) ?rest34
              case hi34 => simp only [gA, gS, gZ]; rfl
              case hy34 =>
                refine Or.inl ⟨by rfl, ?_⟩
                intro w hSw; (try dsimp only at hSw); go_simp <;> (with_reducible rfl)
              (try simp only [Act.put, pA, pZ, pS])
              refine wpAnyH_take (i := 35) (oi := ?o35) (v := ?v35) ?hi35 (by kernel_rfl) (by kernel_rfl) (by kernel_rfl) (fun _ _ _ h => h) ?hy35 (by assumption) ?rest35
              case hi35 => simp only [gA, gS, gZ]; rfl
              case hy35 =>
                refine Or.inl ⟨by rfl, ?_⟩
                intro w hSw; (try dsimp only at hSw); go_simp <;> (with_reducible rfl)
              (try simp only [Act.put, pA, pZ, pS])
              refine wpAnyH_done (by kernel_rfl) ?_ _
              refine NoPanic.normal ?_
              go_wp2_with fail
              go_roundw
              case rel => exact ⟨k + 1, HKL.out, by go_num, Lib.hid ⟨HBW.out _ HD33.out, (HD33.out.block _ (lt_of_block HXT.out)).trans HXT.out⟩⟩
              case measure => have := HKL.out; simp [intOf]; omega
            · obtain rfl : k = P.length := by omega
              go_wp2_with fail
              go_roundw
              case rel => exact ⟨i + 1, HLT.out, by go_num, Lib.hid (HBT.out.trans (HK.out.1.mono HBT.out.size))⟩
              case measure => have := HLT.out; simp [intOf]; omega
        · obtain rfl : i = F.length := by omega
          go_wp2_with fail
          go_ret
          exact ⟨rfl, HBT.out⟩
end Go.Proofs.YtnaefnojmiolbaaGreatDoor

namespace Go.Proofs.YtnaefnojmiolbaaGreatDoor
open Go.RowKit

attribute [local go_sem] yld_undef
/-- One thing as it lies in a later world. -/
theorem ThAt.get {w wr : World} {ta : Option Addr} {m tc : Nat} {F : List TP} (h : ThAt w (.slice ta m tc) F) (hb : Below w.heap.size w wr) {i : Nat} (hi : i < F.length) :
    ∃ g off po pc cls P, F[i]? = some (cls, P) ∧ (cls, P) ∈ F ∧ ta = some ⟨g, off, none⟩ ∧ VIn wr (.slice po P.length pc) P ∧ wr.cell? ⟨g, off + i * 2, none⟩ = some (.string cls) ∧ wr.cell? ⟨g, off + i * 2 + 1, none⟩ = some (.slice po P.length pc) := by
  obtain ⟨ta', tc', e, hl, h⟩ := h
  cases e
  obtain ⟨g, off, c, h1, h2, h3, h4, h5⟩ := h i hi
  obtain ⟨po, pc, rfl, -⟩ := h3.form
  exact ⟨g, off, po, pc, (F[i]).1, (F[i]).2, by rw [List.getElem?_eq_getElem hi], List.getElem_mem hi, h1, h3.under hb, (hb.cell (p := ⟨g, off + i * 2, none⟩) h2).trans h4, (hb.cell (p := ⟨g, off + i * 2 + 1, none⟩) h2).trans h5⟩
/-- Two graphs that are the same. -/
structure SameG (a : VT) (x : List TP) (b : VT) (y : List TP) : Prop where
  val : AlikeV a b
  ca : countV a ≤ 2048
  cb : countV b ≤ 2048
  len : x.length = y.length
  at_ : ∀ (i : Nat) (cls cls' : ByteArray) (P P' : List It), x[i]? = some (cls, P) → y[i]? = some (cls', P') → cls = cls' ∧ AlikeV (.mk 4 0 ⟨#[]⟩ P) (.mk 4 0 ⟨#[]⟩ P') ∧ P.length + countL P ≤ 2048 ∧ P'.length + countL P' ≤ 2048
set_option maxHeartbeats 12800000 in
set_option maxRecDepth 100000 in
theorem rSame_any {a b : VT} {x y : List TP} (hG : SameG a x b y) (w : World) (c d tx ty : Value) (hv : VIn w c a.xs) (hv2 : VIn w d b.xs) (hx : ThAt w tx x) (hy : ThAt w ty y) : Calls Tryz.prog 22 #[a.v c, tx, b.v d, ty] w (BoolPost w true) := by
  have HVS := Lib.hid (fun W h1 h2 => vsame_any hG.val hG.ca hG.cb W c d h1 h2 : ∀ W, VIn W c a.xs → VIn W d b.xs → Calls Tryz.prog 13 #[a.v c, b.v d] W (BoolPost W true))
  obtain ⟨ao, cap, rfl, hlen⟩ := hv.form
  obtain ⟨bo, cap2, rfl, -⟩ := hv2.form
  have hx2 := hx
  obtain ⟨tao, tac, rfl, hxl, -⟩ := hx2
  have hy2 := hy
  obtain ⟨tbo, tbc, rfl, -, -⟩ := hy2
  rw [← hG.len] at hy ⊢
  have HG := Lib.hid hG
  have HX := Lib.hid hx
  have HY := Lib.hid hy
  have HV := Lib.hid hv
  have HV2 := Lib.hid hv2
  have HXL := Lib.hid hxl
  have hnn : ((x.length : Int) == (x.length : Int)) = true := by simp
  have A0 : Hid (AL w a b (.slice ao a.xs.length cap) (.slice bo b.xs.length cap2) ((w.alloc (VB a (.slice ao a.xs.length cap))).alloc (VB b (.slice bo b.xs.length cap2)))) := Lib.hid ⟨(at2_start w _ _).below, (at2_start w _ _).a, (at2_start w _ _).b⟩
  obtain ⟨a0, a1, a2, a3⟩ := vb_cells A0.out.a
  obtain ⟨b0, b1, b2, b3⟩ := vb_cells A0.out.b
  clear hv hv2 hlen hx hy hG hxl
  simp only [VT.v] at HVS ⊢
  go_enter Tryz.func22, Tryz.ntmps22
  go_wp2_with fail
  refine (HVS.out _ (HV.out.under A0.out.below) (HV2.out.under A0.out.below)).mono ?_
  rintro _ w1 ⟨rfl, hb⟩
  have HB1 := Lib.hid ((A0.out.mono hb).below)
  clear hb HVS a0 a1 a2 a3 b0 b1 b2 b3 A0
  go_wp2_with fail
  go_loopw [9] (fun kv wr => ∃ (i : Nat), i ≤ x.length ∧ kv = .int .i64 i ∧ Hid (Below w.heap.size w wr)) (fun kv _ => x.length - (intOf kv).toNat)
  case atStart => exact ⟨0, Nat.zero_le _, rfl, HB1⟩
  case round =>
    obtain ⟨i, hi, rfl, HB⟩ := hrel
    clear HB1
    by_cases hlt : i < x.length
    · have hil : (i : Int) < (x.length : Int) := by omega
      obtain ⟨hw', hw⟩ := wr_sm (x := (i : Int) + 1) (by omega) (by have := HXL.out; omega)
      have hlt2 : i < y.length := by rw [← HG.out.len]; exact hlt
      obtain ⟨g, off, po, pc, cls, P, hget, -, rfl, hvp, c0, c1⟩ := HX.out.get HB.out hlt
      obtain ⟨g2, off2, po2, pc2, cls2, P2, hget2, -, rfl, hvp2, d0, d1⟩ := HY.out.get HB.out hlt2
      obtain ⟨e1, e2, e3, e4⟩ := HG.out.at_ i _ _ _ _ hget hget2
      subst e1
      have HC := Lib.hid (fun W h1 h2 => vsame_any e2 (by rw [countV]; exact e3) (by rw [countV]; exact e4) W (.slice po P.length pc) (.slice po2 P2.length pc2) h1 h2 : ∀ W, VIn W (.slice po P.length pc) P → VIn W (.slice po2 P2.length pc2) P2 → Calls Tryz.prog 13 #[.agg #[.int .i64 4, .int .i64 0, .string ⟨#[]⟩, .slice po P.length pc], .agg #[.int .i64 4, .int .i64 0, .string ⟨#[]⟩, .slice po2 P2.length pc2]] W (BoolPost W true))
      have hce : (cls.toList == cls.toList) = true := by simp
      have hg : g < wr.heap.size := cell_lt c0
      have hg2 : g2 < wr.heap.size := cell_lt d0
      have six : ∀ {V : World}, Below wr.heap.size wr V → ((fun V => V.cell? ⟨g, off + i * 2, none⟩ = some (.string cls) ∧ V.cell? ⟨g, off + i * 2 + 1, none⟩ = some (.slice po P.length pc) ∧ V.cell? ⟨g2, off2 + i * 2, none⟩ = some (.string cls) ∧ V.cell? ⟨g2, off2 + i * 2 + 1, none⟩ = some (.slice po2 P2.length pc2)) V) := fun {V} hb => ⟨(hb.cell (p := ⟨g, _, none⟩) hg).trans c0, (hb.cell (p := ⟨g, _, none⟩) hg).trans c1, (hb.cell (p := ⟨g2, _, none⟩) hg2).trans d0, (hb.cell (p := ⟨g2, _, none⟩) hg2).trans d1⟩
      have HSX := @Lib.hid _ @six
      have HD0 : Hid (Below wr.heap.size wr wr.drew) := Lib.hid (Below.refl _ _).drew
      have HS0 := Lib.hid (six HD0.out)
      have HVP := Lib.hid (hvp.under HD0.out)
      have HVP2 := Lib.hid (hvp2.under HD0.out)
      have HLT := Lib.hid hlt
      clear hget hget2 hvp hvp2 e2 e3 e4 hlt hlt2 six c0 c1 d0 d1
      go_wp2_with fail
      refine wp_region_noPanic ?_
      refine wp_region_held_drew (S := (fun V => V.cell? ⟨g, off + i * 2, none⟩ = some (.string cls) ∧ V.cell? ⟨g, off + i * 2 + 1, none⟩ = some (.slice po P.length pc) ∧ V.cell? ⟨g2, off2 + i * 2, none⟩ = some (.string cls) ∧ V.cell? ⟨g2, off2 + i * 2 + 1, none⟩ = some (.slice po2 P2.length pc2))) (by kernel_rfl) (by exact HS0.out) (fun hHeld => ?_)
      refine wpAnyH_take (i := 0) (oi := ?o0) (v := ?v0) ?hi0 (by kernel_rfl) (by kernel_rfl) (by kernel_rfl) (fun _ _ _ h => h) ?hy0 (by assumption) ?rest0
      case hi0 => simp only [gA, gZ]; rfl
      case hy0 =>
        refine Or.inl ⟨by rfl, ?_⟩
        intro w hSw; (try dsimp only at hSw); go_simp <;> (with_reducible rfl)
      (try simp only [Act.put, pA, pZ, pS])
      refine wpAnyH_take (i := 1) (oi := ?o1) (v := ?v1) ?hi1 (by kernel_rfl) (by kernel_rfl) (by kernel_rfl) (fun _ _ _ h => h) ?hy1 (by assumption) ?rest1
      case hi1 => simp only [gA, gS, gZ]; rfl
      case hy1 =>
        refine Or.inl ⟨by rfl, ?_⟩
        intro w hSw; (try dsimp only at hSw); go_simp <;> (with_reducible rfl)
      (try simp only [Act.put, pA, pZ, pS])
      refine wpAnyH_take (i := 2) (oi := ?o2) (v := ?v2) ?hi2 (by kernel_rfl) (by kernel_rfl) (by kernel_rfl) (fun _ _ _ h => h) ?hy2 (by assumption) ?rest2
      case hi2 => simp only [gA, gS, gZ]; rfl
      case hy2 =>
        refine Or.inl ⟨by rfl, ?_⟩
        intro w hSw; (try dsimp only at hSw); go_simp <;> (with_reducible rfl)
      (try simp only [Act.put, pA, pZ, pS])
      refine wpAnyH_take (i := 3) (oi := ?o3) (v := ?v3) ?hi3 (by kernel_rfl) (by kernel_rfl) (by kernel_rfl) (fun _ _ _ h => h) ?hy3 (by assumption) ?rest3
      case hi3 => simp only [gA, gS, gZ]; rfl
      case hy3 =>
        refine Or.inl ⟨by rfl, ?_⟩
        intro w hSw; (try dsimp only at hSw); go_simp <;> (with_reducible rfl)
      (try simp only [Act.put, pA, pZ, pS])
      refine wpAnyH_take (i := 4) (oi := ?o4) (v := ?v4) ?hi4 (by kernel_rfl) (by kernel_rfl) (by kernel_rfl) (fun _ _ _ h => h) ?hy4 (by assumption) ?rest4
      case hi4 => simp only [gA, gS, gZ]; rfl
      case hy4 =>
        refine Or.inl ⟨by rfl, ?_⟩
        intro w hSw; (try dsimp only at hSw); go_simp <;> (with_reducible rfl)
      (try simp only [Act.put, pA, pZ, pS])
      refine wpAnyH_take (i := 5) (oi := ?o5) (v := ?v5) ?hi5 (by kernel_rfl) (by kernel_rfl) (by kernel_rfl) (fun _ _ _ h => h) ?hy5 (by assumption) ?rest5
      case hi5 => simp only [gA, gS, gZ]; rfl
      case hy5 =>
        refine Or.inl ⟨by rfl, ?_⟩
        intro w hSw; (try dsimp only at hSw); go_simp <;> (with_reducible rfl)
      (try simp only [Act.put, pA, pZ, pS])
      refine wpAnyH_take (i := 6) (oi := ?o6) (v := ?v6) ?hi6 (by kernel_rfl) (by kernel_rfl) (by kernel_rfl) (fun _ _ _ h => h) ?hy6 (by assumption) ?rest6
      case hi6 => simp only [gA, gS, gZ]; rfl
      case hy6 =>
        refine Or.inl ⟨by rfl, ?_⟩
        intro w hSw; (try dsimp only at hSw); go_simp <;> (with_reducible rfl)
      (try simp only [Act.put, pA, pZ, pS])
      refine wpAnyH_take (i := 7) (oi := ?o7) (v := ?v7) ?hi7 (by kernel_rfl) (by kernel_rfl) (by kernel_rfl) (fun _ _ _ h => h) ?hy7 (by assumption) ?rest7
      case hi7 => simp only [gA, gS, gZ]; rfl
      case hy7 =>
        refine Or.inl ⟨by rfl, ?_⟩
        intro w hSw; (try dsimp only at hSw); go_simp <;> (with_reducible rfl)
      (try simp only [Act.put, pA, pZ, pS])
      refine wpAnyH_take (i := 8) (oi := ?o8) (v := ?v8) ?hi8 (by kernel_rfl) (by kernel_rfl) (by kernel_rfl) (fun _ _ _ h => h) ?hy8 (by assumption) ?rest8
      case hi8 => simp only [gA, gS, gZ]; rfl
      case hy8 =>
        refine Or.inl ⟨by rfl, ?_⟩
        intro w hSw; (try dsimp only at hSw); go_simp <;> (with_reducible rfl)
      (try simp only [Act.put, pA, pZ, pS])
      refine wpAnyH_take (i := 9) (oi := ?o9) (v := ?v9) ?hi9 (by kernel_rfl) (by kernel_rfl) (by kernel_rfl) (fun _ _ _ h => h) ?hy9 (by assumption) ?rest9
      case hi9 => simp only [gA, gS, gZ]; rfl
      case hy9 =>
        refine Or.inl ⟨by rfl, ?_⟩
        intro w hSw; (try dsimp only at hSw); go_simp <;> (with_reducible rfl)
      (try simp only [Act.put, pA, pZ, pS])
      refine wpAnyH_take (i := 10) (oi := ?o10) (v := ?v10) ?hi10 (by kernel_rfl) (by kernel_rfl) (by kernel_rfl) (fun _ _ _ h => h) ?hy10 (by assumption) ?rest10
      case hi10 => simp only [gA, gS, gZ]; rfl
      case hy10 =>
        refine Or.inl ⟨by rfl, ?_⟩
        intro w hSw; (try dsimp only at hSw); go_simp <;> (with_reducible rfl)
      (try simp only [Act.put, pA, pZ, pS])
      refine wpAnyH_take (i := 11) (oi := ?o11) (v := ?v11) ?hi11 (by kernel_rfl) (by kernel_rfl) (by kernel_rfl) (fun _ _ _ h => h) ?hy11 (by assumption) ?rest11
      case hi11 => simp only [gA, gS, gZ]; rfl
      case hy11 =>
        refine Or.inl ⟨by rfl, ?_⟩
        intro w hSw; (try dsimp only at hSw); go_simp <;> (with_reducible rfl)
      (try simp only [Act.put, pA, pZ, pS])
      refine wpAnyH_take (i := 12) (oi := ?o12) (v := ?v12) ?hi12 (by kernel_rfl) (by kernel_rfl) (by kernel_rfl) (fun _ _ _ h => h) ?hy12 (by assumption) ?rest12
      case hi12 => simp only [gA, gS, gZ]; rfl
      case hy12 =>
        refine Or.inl ⟨by rfl, ?_⟩
        intro w hSw; (try dsimp only at hSw); go_simp <;> (with_reducible rfl)
      (try simp only [Act.put, pA, pZ, pS])
      refine wpAnyH_take (i := 13) (oi := ?o13) (v := ?v13) ?hi13 (by kernel_rfl) (by kernel_rfl) (by kernel_rfl) (fun _ _ _ h => h) ?hy13 (by assumption) ?rest13
      case hi13 => simp only [gA, gS, gZ]; rfl
      case hy13 =>
        refine Or.inl ⟨by rfl, ?_⟩
        intro w hSw; (try dsimp only at hSw); go_simp <;> (with_reducible rfl)
      (try simp only [Act.put, pA, pZ, pS])
      refine wpAnyH_take (i := 14) (oi := ?o14) (v := ?v14) ?hi14 (by kernel_rfl) (by kernel_rfl) (by kernel_rfl) (fun _ _ _ h => h) ?hy14 (by assumption) ?rest14
      case hi14 => simp only [gA, gS, gZ]; rfl
      case hy14 =>
        refine Or.inl ⟨by rfl, ?_⟩
        intro w hSw; (try dsimp only at hSw); go_simp <;> (with_reducible rfl)
      (try simp only [Act.put, pA, pZ, pS])
      refine wpAnyH_take (i := 15) (oi := ?o15) (v := ?v15) ?hi15 (by kernel_rfl) (by kernel_rfl) (by kernel_rfl) (fun _ _ _ h => h) ?hy15 (by assumption) ?rest15
      case hi15 => simp only [gA, gS, gZ]; rfl
      case hy15 =>
        refine Or.inl ⟨by rfl, ?_⟩
        intro w hSw; (try dsimp only at hSw); go_simp <;> (with_reducible rfl)
      (try simp only [Act.put, pA, pZ, pS])
      refine wpAnyH_take (i := 16) (oi := ?o16) (v := ?v16) ?hi16 (by kernel_rfl) (by kernel_rfl) (by kernel_rfl) (fun _ _ _ h => h) ?hy16 (by assumption) ?rest16
      case hi16 => simp only [gA, gS, gZ]; rfl
      case hy16 =>
        refine Or.inl ⟨by rfl, ?_⟩
        intro w hSw; (try dsimp only at hSw); go_simp <;> (with_reducible rfl)
      (try simp only [Act.put, pA, pZ, pS])
      refine wpAnyH_take (i := 17) (oi := ?o17) (v := ?v17) ?hi17 (by kernel_rfl) (by kernel_rfl) (by kernel_rfl) (fun _ _ _ h => h) ?hy17 (by assumption) ?rest17
      case hi17 => simp only [gA, gS, gZ]; rfl
      case hy17 =>
        refine Or.inl ⟨by rfl, ?_⟩
        intro w hSw; (try dsimp only at hSw); go_simp <;> (with_reducible rfl)
      (try simp only [Act.put, pA, pZ, pS])
      refine wpAnyH_take (i := 18) (oi := ?o18) (v := ?v18) ?hi18 (by kernel_rfl) (by kernel_rfl) (by kernel_rfl) (fun _ _ _ h => h) ?hy18 (by assumption) ?rest18
      case hi18 => simp only [gA, gS, gZ]; rfl
      case hy18 =>
        refine Or.inl ⟨by rfl, ?_⟩
        intro w hSw; (try dsimp only at hSw); go_simp <;> (with_reducible rfl)
      (try simp only [Act.put, pA, pZ, pS])
      refine wpAnyH_take (i := 19) (oi := ?o19) (v := ?v19) ?hi19 (by kernel_rfl) (by kernel_rfl) (by kernel_rfl) (fun _ _ _ h => h) ?hy19 (by assumption) ?rest19
      case hi19 => simp only [gA, gS, gZ]; rfl
      case hy19 =>
        refine Or.inl ⟨by rfl, ?_⟩
        intro w hSw; (try dsimp only at hSw); go_simp <;> (with_reducible rfl)
      (try simp only [Act.put, pA, pZ, pS])
      refine wpAnyH_take (i := 20) (oi := ?o20) (v := ?v20) ?hi20 (by kernel_rfl) (by kernel_rfl) (by kernel_rfl) (fun _ _ _ h => h) ?hy20 (by assumption) ?rest20
      case hi20 => simp only [gA, gS, gZ]; rfl
      case hy20 =>
        refine Or.inl ⟨by rfl, ?_⟩
        intro w hSw; (try dsimp only at hSw); go_simp <;> (with_reducible rfl)
      (try simp only [Act.put, pA, pZ, pS])
      refine wpAnyH_take (i := 21) (oi := ?o21) (v := ?v21) ?hi21 (by kernel_rfl) (by kernel_rfl) (by kernel_rfl) (fun _ _ _ h => h) ?hy21 (by assumption) ?rest21
      case hi21 => simp only [gA, gS, gZ]; rfl
      case hy21 =>
        refine Or.inl ⟨by rfl, ?_⟩
        intro w hSw; (try dsimp only at hSw); go_simp <;> (with_reducible rfl)
      (try simp only [Act.put, pA, pZ, pS])
      refine wpAnyH_take (i := 22) (oi := ?o22) (v := ?v22) ?hi22 (by kernel_rfl) (by kernel_rfl) (by kernel_rfl) (fun _ _ _ h => h) ?hy22 (by assumption) ?rest22
      case hi22 => simp only [gA, gS, gZ]; rfl
      case hy22 =>
        refine Or.inl ⟨by rfl, ?_⟩
        intro w hSw; (try dsimp only at hSw); go_simp <;> (with_reducible rfl)
      (try simp only [Act.put, pA, pZ, pS])
      refine wpAnyH_take (i := 23) (oi := ?o23) (v := ?v23) ?hi23 (by kernel_rfl) (by kernel_rfl) (by kernel_rfl) (fun _ _ _ h => h) ?hy23 (by assumption) ?rest23
      case hi23 => simp only [gA, gS, gZ]; rfl
      case hy23 =>
        refine Or.inl ⟨by rfl, ?_⟩
        intro w hSw; (try dsimp only at hSw); go_simp <;> (with_reducible rfl)
      (try simp only [Act.put, pA, pZ, pS])
      refine wpAnyH_ready (rs := [24]) (by kernel_rfl) (by simp) ?_
      refine AllReadyH.cons rfl (fun K hK => ?_) AllReadyH.nil
      go_simp
      refine (HC.out _ HVP.out HVP2.out).mono ?_
      rintro _ w5 ⟨rfl, hb⟩
      have HD1 := Lib.hid (HD0.out.trans (hb.mono HD0.out.size))
      clear hb
      refine hK.out _ _ (HSX.out HD1.out) (fun hHeld24 => ?_)
      clear hK K
      (try simp only [Act.put, pA, pZ, pS])
      refine wpAnyH_take (i := 25) (oi := ?o25) (v := ?v25) ?hi25 (by kernel_rfl) (by kernel_rfl) (by kernel_rfl) (fun _ _ _ h => h) ?hy25 (by assumption) ?rest25
      case hi25 => simp only [gA, gS, gZ]; rfl
      case hy25 =>
        refine Or.inl ⟨by rfl, ?_⟩
        intro w hSw; (try dsimp only at hSw); go_simp <;> (with_reducible rfl)
      (try simp only [Act.put, pA, pZ, pS])
      refine wpAnyH_take (i := 26) (oi := ?o26) (v := ?v26) ?hi26 (by kernel_rfl) (by kernel_rfl) (by kernel_rfl) (fun _ _ _ h => h) ?hy26 (by assumption) ?rest26
      case hi26 => simp only [gA, gS, gZ]; rfl
      case hy26 =>
        refine Or.inl ⟨by rfl, ?_⟩
        intro w hSw; (try dsimp only at hSw); go_simp <;> (with_reducible rfl)
      (try simp only [Act.put, pA, pZ, pS])
      refine wpAnyH_done (by kernel_rfl) ?_ _
      refine NoPanic.normal ?_
      go_wp2_with fail
      go_roundw
      case rel => exact ⟨i + 1, HLT.out, by go_num, Lib.hid (HB.out.trans (HD1.out.mono HB.out.size))⟩
      case measure => have := HLT.out; simp [intOf]; omega
    · obtain rfl : i = x.length := by omega
      go_wp2_with fail
      go_ret
      exact ⟨rfl, HB.out⟩
end Go.Proofs.YtnaefnojmiolbaaGreatDoor
