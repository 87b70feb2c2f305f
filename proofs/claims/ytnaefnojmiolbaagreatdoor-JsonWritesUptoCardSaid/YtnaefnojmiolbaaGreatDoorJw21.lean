/-
  The walks of the document's begin, Numeric, Norm.
-/
import Derived.Test.YtnaefnojmiolbaaGreatDoorJw11
import Derived.Test.YtnaefnojmiolbaaGreatDoorJw3
import Derived.Deep.Cut
namespace Go.Proofs.YtnaefnojmiolbaaGreatDoor.Doc
open Go.RowKit

theorem dropWhile_le {p : UInt8 → Bool} : ∀ (l : Bs), (l.dropWhile p).length ≤ l.length
  | [] => Nat.le_refl _
  | c :: r => by
    rw [List.dropWhile_cons]
    split
    · have := dropWhile_le (p := p) r; rw [List.length_cons]; omega
    · exact Nat.le_refl _
theorem rblank_any (c : UInt8) (w : World) : Calls Tryz.prog 142 #[.int .u8 c.toNat] w fun e w' => e = .returned (.bool (isBlank c)) ∧ w = w' := by
  have hc : c.toNat < 256 := c.toNat_lt
  obtain ⟨n, hn⟩ : ∃ n, n = c.toNat := ⟨_, rfl⟩
  have hb : isBlank c = (decide (n = 32) || (decide (9 ≤ n) && decide (n ≤ 13))) := by unfold isBlank; rw [hn]; rw [show (c.toNat == 32) = decide (c.toNat = 32) from rfl]
  rw [hb, ← hn]
  rw [← hn] at hc
  clear hb hn
  obtain ⟨r, hr⟩ : ∃ r, r = (decide (n = 32) || (decide (9 ≤ n) && decide (n ≤ 13))) := ⟨_, rfl⟩
  rw [← hr]
  by_cases h1 : n = 32
  · obtain rfl : r = true := by rw [hr]; simp [h1]
    have e1 : ((n : Int) == 32) = true := by simp [h1]
    clear hr h1
    go_enter Tryz.func142, Tryz.ntmps142
    go_wp2
    go_ret
    exact ⟨rfl, rfl⟩
  · have e1 : ((n : Int) == 32) = false := by simp; omega
    by_cases h2 : 9 ≤ n
    · by_cases h3 : n ≤ 13
      · obtain rfl : r = true := by rw [hr]; simp [h2, h3]
        have e3 : decide ((n : Int) ≤ 13) = true := by simp; omega
        clear hr h1
        go_enter Tryz.func142, Tryz.ntmps142
        go_wp2
        go_ret
        exact ⟨rfl, rfl⟩
      · obtain rfl : r = false := by rw [hr]; simp [h1, h3]
        have e3 : decide ((n : Int) ≤ 13) = false := by simp; omega
        clear hr h1
        go_enter Tryz.func142, Tryz.ntmps142
        go_wp2
        go_ret
        exact ⟨rfl, rfl⟩
    · obtain rfl : r = false := by rw [hr]; simp [h1, h2]
      have e3 : decide (9 ≤ (n : Int)) = false := by simp; omega
      clear hr h1
      go_enter Tryz.func142, Tryz.ntmps142
      go_wp2
      go_ret
      exact ⟨rfl, rfl⟩
theorem rdigit_any (c : UInt8) (w : World) : Calls Tryz.prog 143 #[.int .u8 c.toNat] w fun e w' => e = .returned (.bool (isDig c)) ∧ w = w' := by
  have hc : c.toNat < 256 := c.toNat_lt
  obtain ⟨n, hn⟩ : ∃ n, n = c.toNat := ⟨_, rfl⟩
  have hb : isDig c = (decide (48 ≤ n) && decide (n ≤ 57)) := by unfold isDig; rw [hn]
  rw [hb, ← hn]
  rw [← hn] at hc
  clear hb hn
  obtain ⟨r, hr⟩ : ∃ r, r = (decide (48 ≤ n) && decide (n ≤ 57)) := ⟨_, rfl⟩
  rw [← hr]
  by_cases h2 : 48 ≤ n
  · by_cases h3 : n ≤ 57
    · obtain rfl : r = true := by rw [hr]; simp [h2, h3]
      have e3 : decide ((n : Int) ≤ 57) = true := by simp; omega
      clear hr
      go_enter Tryz.func143, Tryz.ntmps143
      go_wp2
      go_ret
      exact ⟨rfl, rfl⟩
    · obtain rfl : r = false := by rw [hr]; simp [h3]
      have e3 : decide ((n : Int) ≤ 57) = false := by simp; omega
      clear hr
      go_enter Tryz.func143, Tryz.ntmps143
      go_wp2
      go_ret
      exact ⟨rfl, rfl⟩
  · obtain rfl : r = false := by rw [hr]; simp [h2]
    have e3 : decide (48 ≤ (n : Int)) = false := by simp; omega
    clear hr
    go_enter Tryz.func143, Tryz.ntmps143
    go_wp2
    go_ret
    exact ⟨rfl, rfl⟩
theorem bl_eq (s : ByteArray) : s.toList = s.data.toList := ByteArray.toList_eq s
theorem at_some (s : ByteArray) {k : Nat} (hk : k < s.size) : s.toList[k]? = some s[k] := by
  rw [bl_eq]
  have h : k < s.data.toList.length := by rw [Array.length_toList]; exact hk
  rw [List.getElem?_eq_getElem h]
  rfl
theorem drop_at (s : ByteArray) {k : Nat} (hk : k < s.size) : s.toList.drop k = s[k] :: s.toList.drop (k + 1) := by
  have h : k < s.toList.length := by rw [size_toList]; exact hk
  rw [List.drop_eq_getElem_cons h]
  congr 1
  have := at_some s hk
  rw [List.getElem?_eq_getElem h] at this
  exact Option.some.inj this
theorem drop_end (s : ByteArray) {k : Nat} (hk : s.size ≤ k) : s.toList.drop k = [] := List.drop_of_length_le (by rw [size_toList]; exact hk)
theorem trimB_cons (c : UInt8) (r : Bs) : trimB (c :: r) = if isBlank c then trimB r else c :: r := by
  unfold trimB
  rw [List.dropWhile_cons]
theorem dropWhile_head {p : UInt8 → Bool} : ∀ {l : Bs} {c : UInt8} {r : Bs}, l.dropWhile p = c :: r → p c = false
  | [], c, r, h => by simp at h
  | a :: l, c, r, h => by
    rw [List.dropWhile_cons] at h
    split at h
    · exact dropWhile_head h
    · rename_i hp; cases h; simpa using hp

/-- The digits from a place on. -/
def digsAt (s : ByteArray) (q : Nat) : Bs := (s.toList.drop q).takeWhile isDig
theorem digs_split (s : ByteArray) (q : Nat) : s.toList.drop q = digsAt s q ++ (s.toList.drop q).dropWhile isDig := List.takeWhile_append_dropWhile.symm
theorem digs_lt (s : ByteArray) {q j : Nat} (hj : j < (digsAt s q).length) : ∃ h : q + j < s.size, isDig s[q + j] = true ∧ (digsAt s q).take (j + 1) = (digsAt s q).take j ++ [s[q + j]] := by
  have h1 : (s.toList.drop q)[j]? = some (digsAt s q)[j] := by
    rw [digs_split s q, List.getElem?_append_left hj, List.getElem?_eq_getElem hj]
  rw [List.getElem?_drop] at h1
  have h2 := (List.getElem?_eq_some_iff.1 h1).1
  rw [size_toList] at h2
  have h3 := at_some s h2
  rw [h3] at h1
  have h4 := Option.some.inj h1
  refine ⟨h2, ?_, ?_⟩
  · rw [h4]; exact takeWhile_all _ _ (List.getElem_mem hj)
  · rw [h4]; exact List.take_succ_eq_append_getElem hj
theorem digs_end (s : ByteArray) {q : Nat} (hq : q ≤ s.size) : q + (digsAt s q).length ≤ s.size ∧ ∀ h : q + (digsAt s q).length < s.size, isDig s[q + (digsAt s q).length] = false := by
  have hl : (digsAt s q).length ≤ s.size - q := by
    have := congrArg List.length (digs_split s q)
    rw [List.length_append, List.length_drop, size_toList] at this
    omega
  refine ⟨by omega, fun h => ?_⟩
  have h1 : (s.toList.drop q)[(digsAt s q).length]? = some s[q + (digsAt s q).length] := by rw [List.getElem?_drop]; exact at_some s h
  rw [digs_split s q, List.getElem?_append_right (Nat.le_refl _), Nat.sub_self] at h1
  cases hd : (s.toList.drop q).dropWhile isDig with
  | nil => rw [hd] at h1; cases h1
  | cons c r =>
    rw [hd] at h1
    have : c = s[q + (digsAt s q).length] := by simpa using h1
    rw [← this]
    exact dropWhile_head hd

/-- What begin answers. -/
def beginT (l : Bs) : Int × Int × Bool := match numOf l with | none => (0, 0, false) | some (n, r) => (n, (l.length : Int) - r.length, true)
def BeginPost (w : World) (t : Int × Int × Bool) (e : Ending) (w' : World) : Prop := e = .returned (.tuple #[.int .i64 t.1, .int .i64 t.2.1, .bool t.2.2]) ∧ w = w'
theorem begin_nil {l : Bs} (h : trimB l = []) : beginT l = (0, 0, false) := by
  unfold beginT numOf
  rw [h]
  rfl
theorem begin_none {l : Bs} (h : digs (trimB l) = []) : beginT l = (0, 0, false) := by
  unfold beginT numOf
  rw [if_pos h]
theorem digs_nil_end (s : ByteArray) {q : Nat} (h : s.size ≤ q) : digsAt s q = [] := by unfold digsAt; rw [drop_end s h]; rfl
theorem digs_nil_at (s : ByteArray) {q : Nat} (h : q < s.size) (hd : isDig s[q] = false) : digsAt s q = [] := by
  unfold digsAt; rw [drop_at s h, List.takeWhile_cons, hd]; rfl
/-- A sign's length and what it says. -/
def sgOf (c : UInt8) : Nat := if c.toNat = 45 ∨ c.toNat = 43 then 1 else 0
theorem digs_trim (s : ByteArray) {k : Nat} (hk : k < s.size) (ht : trimB s.toList = s.toList.drop k) : digs (trimB s.toList) = digsAt s (k + sgOf s[k]) ∧ signLen (trimB s.toList) = sgOf s[k] ∧ isNeg (trimB s.toList) = decide (s[k].toNat = 45) := by
  have h1 : signLen (trimB s.toList) = sgOf s[k] := by rw [ht, drop_at s hk]; rfl
  refine ⟨?_, h1, by rw [ht, drop_at s hk]; rfl⟩
  unfold digs digsAt
  rw [h1, ht, List.drop_drop]
theorem begin_some (s : ByteArray) {k q e : Nat} (hk : k < s.size) (ht : trimB s.toList = s.toList.drop k) (hq : q = k + sgOf s[k]) (hne : digsAt s q ≠ []) (he : e ≤ s.size)
    (hr : s.toList.drop e = trimB (s.toList.drop (q + (digsAt s q).length))) : beginT s.toList = (sat (decide (s[k].toNat = 45)) (dec 0 (digsAt s q)), (e : Int), true) := by
  obtain ⟨h1, h2, h3⟩ := digs_trim s hk ht
  rw [← hq] at h1
  unfold beginT numOf
  rw [h1, if_neg hne, h2, h3, ht, List.drop_drop, ← Nat.add_assoc, ← hq, ← hr]
  show (_, ((s.toList.length : Nat) : Int) - ((s.toList.drop e).length : Nat), true) = _
  rw [List.length_drop, size_toList]
  congr 2
  omega
theorem dec_take {ds : Bs} {j : Nat} {c : UInt8} (h : ds.take (j + 1) = ds.take j ++ [c]) : dec 0 (ds.take (j + 1)) = dec 0 (ds.take j) * 10 + (c.toNat - 48) := by rw [h, dec_snoc]
theorem dec_rest (n : Bool) (ds : Bs) (j : Nat) (h : sat n (dec 0 (ds.take j)) = -9223372036854775808 ∨ sat n (dec 0 (ds.take j)) = 9223372036854775807) : sat n (dec 0 ds) = sat n (dec 0 (ds.take j)) := by
  have := sat_stuck h (ds.drop j)
  rw [← dec_append, List.take_append_drop] at this
  exact this
theorem dig_bounds {c : UInt8} (h : isDig c = true) : 48 ≤ c.toNat ∧ c.toNat ≤ 57 := (isDig_iff c).1 h
theorem dig_u8 {c : UInt8} (h : isDig c = true) : IntKind.u8.wrap ((c.toNat : Int) - 48) = (c.toNat : Int) - 48 := by
  have := dig_bounds h
  unfold IntKind.wrap; simp [IntKind.bits]; omega
theorem wrap64_in' {x : Int} (h0 : -9223372036854775808 ≤ x) (h1 : x ≤ 9223372036854775807) : wrap64 x = x := by unfold wrap64; omega
theorem negRound {u : Nat} {a d : Int} (ha : a = sat true u) (hd0 : 0 ≤ d) (hd9 : d ≤ 9) (hne : a ≠ -9223372036854775808) :
    (a < (-9223372036854775808 + d).tdiv 10 → sat true (u * 10 + d.toNat) = -9223372036854775808) ∧
    (¬ a < (-9223372036854775808 + d).tdiv 10 → wrap64 (a * 10) = a * 10 ∧ wrap64 (a * 10 - d) = sat true (u * 10 + d.toNat) ∧ a * 10 - d = sat true (u * 10 + d.toNat)) := by
  subst ha
  have h := sat_step_neg (u := u) (d := d.toNat) (by omega) hne
  have hd : ((d.toNat : Nat) : Int) = d := Int.toNat_of_nonneg hd0
  rw [hd] at h
  refine ⟨fun hlt => by rw [if_pos hlt] at h; exact h.symm, fun hlt => ?_⟩
  rw [if_neg hlt] at h
  have ht : (-9223372036854775808 + d).tdiv 10 = -((9223372036854775808 - d) / 10) := by
    rw [show -9223372036854775808 + d = -(9223372036854775808 - d) by omega, Int.neg_tdiv, Int.tdiv_eq_ediv_of_nonneg (by omega)]
  rw [ht] at hlt
  have hle : sat true u ≤ 0 := by unfold sat; simp only [if_true]; split <;> omega
  have w1 : wrap64 (sat true u * 10) = sat true u * 10 := wrap64_in' (by omega) (by omega)
  exact ⟨w1, by rw [← h]; exact wrap64_in' (by omega) (by omega), h⟩
theorem posRound {u : Nat} {a d : Int} (ha : a = sat false u) (hd0 : 0 ≤ d) (hd9 : d ≤ 9) (hne : a ≠ 9223372036854775807) :
    ((9223372036854775807 - d) / 10 < a → sat false (u * 10 + d.toNat) = 9223372036854775807) ∧
    (¬ (9223372036854775807 - d) / 10 < a → wrap64 (a * 10) = a * 10 ∧ wrap64 (a * 10 + d) = sat false (u * 10 + d.toNat) ∧ a * 10 + d = sat false (u * 10 + d.toNat)) := by
  subst ha
  have h := sat_step_pos (u := u) (d := d.toNat) (by omega) hne
  have hd : ((d.toNat : Nat) : Int) = d := Int.toNat_of_nonneg hd0
  rw [hd, show (9223372036854775807 - d).tdiv 10 = (9223372036854775807 - d) / 10 from Int.tdiv_eq_ediv_of_nonneg (by omega)] at h
  refine ⟨fun hlt => by rw [if_pos hlt] at h; exact h.symm, fun hlt => ?_⟩
  rw [if_neg hlt] at h
  have hle : 0 ≤ sat false u := by unfold sat; simp only [Bool.false_eq_true, if_false]; split <;> omega
  have w1 : wrap64 (sat false u * 10) = sat false u * 10 := wrap64_in' (by omega) (by omega)
  exact ⟨w1, by rw [← h]; exact wrap64_in' (by omega) (by omega), h⟩
theorem sat_nonpos (u : Nat) : sat true u ≠ 9223372036854775807 := by unfold sat; simp only [if_true]; split <;> omega
theorem sat_nonneg (u : Nat) : sat false u ≠ -9223372036854775808 := by unfold sat; simp only [Bool.false_eq_true, if_false]; split <;> omega

/-- The state of the number behind j digits. -/
def NumRel (neg : Bool) (ds : Bs) (j : Nat) (a : Int) : Prop := a = sat neg (dec 0 (ds.take j)) ∧ (j < ds.length → a ≠ -9223372036854775808 ∧ a ≠ 9223372036854775807)

set_option maxRecDepth 100000 in
set_option maxHeartbeats 6400000 in
theorem rbegin_any (s : ByteArray) (hs : s.size ≤ 140737488351232) (w : World) : Calls Tryz.prog 112 #[.string s] w (BeginPost w (beginT s.toList)) := by
  obtain ⟨t, ht⟩ : ∃ t, t = beginT s.toList := ⟨_, rfl⟩
  rw [← ht]
  have HT := Lib.hid ht
  clear ht
  go_enter Tryz.func112, Tryz.ntmps112
  go_wp2_with fail
  go_loop [5] (fun i => ∃ k : Nat, k ≤ s.size ∧ i = .int .i64 k ∧ Hid (trimB (s.toList.drop k) = trimB s.toList)) (fun i => s.size - (intOf i).toNat)
  case atStart => exact ⟨0, Nat.zero_le _, rfl, by show _ = _; simp⟩
  case round =>
    obtain ⟨k, hk, rfl, HK⟩ := hrel
    by_cases hlt : k < s.size
    · cases hb : isBlank s[k] with
      | true =>
        have HN : Hid (trimB (s.toList.drop (k + 1)) = trimB s.toList) := by
          show _ = _
          have := HK.out
          rw [drop_at s hlt, trimB_cons, if_pos hb] at this
          exact this
        have HB := Lib.hid hb
        clear hb
        go_wp2_with (go_at_call 142; refine (rblank_any s[k] _).mono ?_; rw [HB.out]; rintro e w' ⟨rfl, rfl⟩)
        go_round
        case rel => exact ⟨k + 1, by omega, by go_num, HN⟩
        case measure => simp [intOf]; omega
      | false =>
        have HB := Lib.hid hb
        have HTR : Hid (trimB s.toList = s.toList.drop k) := by
          show _ = _
          have := HK.out
          rw [drop_at s hlt, trimB_cons, hb] at this
          rw [drop_at s hlt]
          exact this.symm
        clear hb
        by_cases h45 : s[k].toNat = 45
        · have e45 : ((s[k].toNat : Int) == 45) = true := by simp [h45]
          have HSG : Hid (sgOf s[k] = 1) := by show _ = _; unfold sgOf; simp [h45]
          have N45 : Hid (decide (s[k].toNat = 45) = true) := by show _ = _; simp [h45]
          have H45 := Lib.hid h45
          clear h45
          by_cases hq : k + 1 < s.size
          · have hqe : ((k : Int) + 1 == (s.size : Int)) = false := by simp; omega
            cases hd : isDig s[k + 1] with
            | false =>
              have HZ : Hid (t = (0, 0, false)) := by
                show _ = _
                rw [HT.out]
                exact begin_none (by rw [(digs_trim s hlt HTR.out).1, HSG.out]; exact digs_nil_at s hq hd)
              have HD := Lib.hid hd
              clear hd
              go_wp2_with (first
                | (go_at_call 142; refine (rblank_any s[k] _).mono ?_; rw [HB.out]; rintro e w' ⟨rfl, rfl⟩)
                | (go_at_call 143; refine (rdigit_any s[k + 1] _).mono ?_; rw [HD.out]; rintro e w' ⟨rfl, rfl⟩))
              go_ret3
              exact ⟨by rw [HZ.out]; rfl, rfl⟩
            | true =>
              have HD := Lib.hid hd
              clear hd
              go_wp2_with (first
                | (go_at_call 142; refine (rblank_any s[k] _).mono ?_; rw [HB.out]; rintro e w' ⟨rfl, rfl⟩)
                | (go_at_call 143; refine (rdigit_any s[k + 1] _).mono ?_; rw [HD.out]; rintro e w' ⟨rfl, rfl⟩))
              obtain ⟨q, hq⟩ : ∃ q, q = k + 1 := ⟨_, rfl⟩
              have HQ := Lib.hid hq
              obtain ⟨D, hD⟩ : ∃ D, D = (digsAt s q).length := ⟨_, rfl⟩
              have HDL := Lib.hid hD
              have HQS : Hid (q ≤ s.size) := by show _ ≤ _; omega
              have HNE : Hid (digsAt s q ≠ []) := by
                show _ ≠ _
                have hq' : q < s.size := by rw [hq]; omega
                unfold digsAt
                rw [drop_at s hq', List.takeWhile_cons, show isDig s[q] = true by have := HD.out; simp only [hq]; exact this]
                simp
              clear hq hD
              go_loop [5, 7] (fun i nv => ∃ (p j : Nat) (a : Int), p ≤ s.size ∧ i = .int .i64 p ∧ nv = .int .i64 a ∧ Hid (p = q + j ∧ j ≤ D ∧ NumRel true (digsAt s q) j a)) (fun i _ => s.size - (intOf i).toNat)
              case atStart => exact ⟨q, 0, 0, HQS.out, by first | (rw [HQ.out]; done) | (rw [HQ.out]; go_num), rfl, rfl, Nat.zero_le _, rfl, fun _ => by decide⟩
              case round =>
                obtain ⟨p, j, a, hp, rfl, rfl, HR⟩ := hrel
                by_cases hjl : j < D
                · obtain ⟨hpl, hpd, htk⟩ : ∃ h : p < s.size, isDig s[p] = true ∧ (digsAt s q).take (j + 1) = (digsAt s q).take j ++ [s[p]] := by
                    have := digs_lt s (q := q) (j := j) (by rw [← HDL.out]; exact hjl)
                    rw [← HR.out.1] at this
                    exact this
                  have HJ := Lib.hid hjl
                  have HPD := Lib.hid hpd
                  have hpb := dig_bounds hpd
                  obtain ⟨d, hd⟩ : ∃ d : Int, (s[p].toNat : Int) - 48 = d := ⟨_, rfl⟩
                  have w8 := dig_u8 hpd
                  rw [hd] at w8
                  have hd0 : 0 ≤ d := by omega
                  have hd9 : d ≤ 9 := by omega
                  have w64 : IntKind.i64.wrap d = d := wrap_in (by omega) (by omega)
                  have HPB := Lib.hid hpb
                  have htn : d.toNat = s[p].toNat - 48 := by omega
                  obtain ⟨hne1, hne2⟩ := HR.out.2.2.2 (by rw [← HDL.out]; exact hjl)
                  obtain ⟨R1, R2⟩ := negRound (u := dec 0 ((digsAt s q).take j)) HR.out.2.2.1 hd0 hd9 hne1
                  have hdt := dec_take htk
                  rw [htn, ← hdt] at R1 R2
                  obtain ⟨a', ha'⟩ : ∃ a', sat true (dec 0 ((digsAt s q).take (j + 1))) = a' := ⟨_, rfl⟩
                  rw [ha'] at R1 R2
                  have HA := Lib.hid ha'
                  have hp1 : p + 1 ≤ s.size := by omega
                  obtain ⟨x, hx⟩ : ∃ x, (-9223372036854775808 + d).tdiv 10 = x := ⟨_, rfl⟩
                  have wx : wrap64 x = x := by rw [← hx, show (-9223372036854775808 + d) = -(9223372036854775808 - d) by omega, Int.neg_tdiv, Int.tdiv_eq_ediv_of_nonneg (by omega)]; exact wrap64_in' (by omega) (by omega)
                  rw [hx] at R1 R2
                  have INNER : Hid (∀ p', q + (j + 1) ≤ p' → p' ≤ q + D → (p' < q + D → ∃ h : p' < s.size, isDig s[p'] = true) ∧ (¬ p' < q + D → ∀ h : p' < s.size, isDig s[p'] = false)) := by
                    intro p' h1 h2
                    refine ⟨fun h3 => ?_, fun h3 h4 => ?_⟩
                    · obtain ⟨e1, e2, _⟩ := digs_lt s (q := q) (j := p' - q) (by rw [← HDL.out]; omega)
                      have e3 : q + (p' - q) = p' := by omega
                      simp only [e3] at e1 e2
                      exact ⟨e1, e2⟩
                    · have e := (digs_end s HQS.out).2
                      have e3 : q + (digsAt s q).length = p' := by rw [← HDL.out]; omega
                      simp only [e3] at e
                      exact e h4
                  by_cases hT : a < x
                  · have ea : a' = -9223372036854775808 := R1 hT
                    have HEA := Lib.hid ea
                    have hT' : decide (a < x) = true := by simp [hT]
                    clear hpd htk hjl hpb htn hne1 hne2 R1 R2 hdt ha' ea hT
                    go_wp2_with fail
                    refine (rdigit_any s[p] _).mono ?_; rw [HPD.out]; rintro e w' ⟨rfl, rfl⟩
                    go_upto_if 101 with (fail)
                    obtain ⟨y, hy⟩ : ∃ y : Int, y = -9223372036854775808 + d := ⟨_, rfl⟩
                    rw [← hy]
                    clear hy
                    obtain ⟨mn, hmn⟩ : ∃ mn : Int, mn = -9223372036854775808 := ⟨_, rfl⟩; rw [← hmn]; have HNV := Lib.hid hmn; clear hmn hT' wx hx w8 w64 hd
                    go_wp2_with fail
                    go_loop [5] (fun i => ∃ p' : Nat, p' ≤ s.size ∧ i = .int .i64 p' ∧ Hid (q + (j + 1) ≤ p' ∧ p' ≤ q + D)) (fun i => s.size - (intOf i).toNat)
                    case atStart => exact ⟨p + 1, hp1, by go_num, by have := HR.out.1; have := HJ.out; show _ ∧ _; omega⟩
                    case round =>
                      obtain ⟨p', hp', rfl, HP'⟩ := hrel
                      by_cases h3 : p' < q + D
                      · obtain ⟨e1, e2⟩ := (INNER.out p' HP'.out.1 HP'.out.2).1 h3
                        have HE2 := Lib.hid e2
                        have H3 := Lib.hid h3
                        clear e2 h3
                        go_wp2_with fail
                        refine (rdigit_any s[p'] _).mono ?_; rw [HE2.out]; rintro e w' ⟨rfl, rfl⟩
                        go_wp2_with fail
                        go_round
                        case rel => exact ⟨p' + 1, by omega, by go_num, by have := HP'.out; have := H3.out; show _ ∧ _; omega⟩
                        case measure => simp [intOf]; omega
                      · have hpe := (INNER.out p' HP'.out.1 HP'.out.2).2 h3
                        have hpp : p' = q + D := by have := HP'.out; omega
                        have HPP := Lib.hid hpp
                        have hpgt : p < p' := by have := HP'.out; have := HR.out.1; omega
                        have REL : Hid (NumRel true (digsAt s q) D (-9223372036854775808)) := by
                          refine ⟨?_, fun h => by rw [← HDL.out] at h; omega⟩
                          rw [List.take_of_length_le (by rw [← HDL.out]; exact Nat.le_refl _)]
                          have h1 := HA.out
                          rw [HEA.out] at h1
                          rw [dec_rest true (digsAt s q) (j + 1) (by rw [h1]; simp), h1]
                        clear h3 hpp
                        by_cases h4 : p' < s.size
                        · have HE2 := Lib.hid (hpe h4)
                          clear hpe
                          go_wp2_with fail
                          refine (rdigit_any s[p'] _).mono ?_; rw [HE2.out]; rintro e w' ⟨rfl, rfl⟩
                          go_wp2_with fail
                          go_round
                          case rel => exact ⟨p', D, mn, hp', rfl, rfl, HPP.out, Nat.le_refl _, by rw [HNV.out]; exact REL.out⟩
                          case measure => simp [intOf]; omega
                        · have hps : p' = s.size := by omega
                          clear hpe
                          go_wp2_with fail
                          go_round
                          case rel => exact ⟨p', D, mn, hp', by first | rfl | (rw [hps]), rfl, HPP.out, Nat.le_refl _, by rw [HNV.out]; exact REL.out⟩
                          case measure => simp [intOf]; omega
                  · obtain ⟨W1, W2, W3⟩ := R2 hT
                    have H3 := Lib.hid W3
                    clear W3
                    have hT' : decide (a < x) = false := by simp [hT]
                    by_cases hs1 : a' = -9223372036854775808
                    · have HEA := Lib.hid hs1
                      have t1 : (a' == -9223372036854775808) = true := by simp [hs1]
                      have t2 := t1
                      clear hpd htk hjl hpb htn hne1 hne2 R1 R2 hdt ha' hT hs1
                      go_wp2_with fail
                      refine (rdigit_any s[p] _).mono ?_; rw [HPD.out]; rintro e w' ⟨rfl, rfl⟩
                      go_upto_if 101 with (fail)
                      obtain ⟨y, hy⟩ : ∃ y : Int, y = -9223372036854775808 + d := ⟨_, rfl⟩
                      rw [← hy]
                      clear hy
                      first | rw [W2] | rw [H3.out]
                      have HNV := HEA; clear hT' wx hx w8 w64 hd W1 W2 t1 t2
                      go_wp2_with fail
                      go_loop [5] (fun i => ∃ p' : Nat, p' ≤ s.size ∧ i = .int .i64 p' ∧ Hid (q + (j + 1) ≤ p' ∧ p' ≤ q + D)) (fun i => s.size - (intOf i).toNat)
                      case atStart => exact ⟨p + 1, hp1, by go_num, by have := HR.out.1; have := HJ.out; show _ ∧ _; omega⟩
                      case round =>
                        obtain ⟨p', hp', rfl, HP'⟩ := hrel
                        by_cases h3 : p' < q + D
                        · obtain ⟨e1, e2⟩ := (INNER.out p' HP'.out.1 HP'.out.2).1 h3
                          have HE2 := Lib.hid e2
                          have H3 := Lib.hid h3
                          clear e2 h3
                          go_wp2_with fail
                          refine (rdigit_any s[p'] _).mono ?_; rw [HE2.out]; rintro e w' ⟨rfl, rfl⟩
                          go_wp2_with fail
                          go_round
                          case rel => exact ⟨p' + 1, by omega, by go_num, by have := HP'.out; have := H3.out; show _ ∧ _; omega⟩
                          case measure => simp [intOf]; omega
                        · have hpe := (INNER.out p' HP'.out.1 HP'.out.2).2 h3
                          have hpp : p' = q + D := by have := HP'.out; omega
                          have HPP := Lib.hid hpp
                          have hpgt : p < p' := by have := HP'.out; have := HR.out.1; omega
                          have REL : Hid (NumRel true (digsAt s q) D (-9223372036854775808)) := by
                            refine ⟨?_, fun h => by rw [← HDL.out] at h; omega⟩
                            rw [List.take_of_length_le (by rw [← HDL.out]; exact Nat.le_refl _)]
                            have h1 := HA.out
                            rw [HEA.out] at h1
                            rw [dec_rest true (digsAt s q) (j + 1) (by rw [h1]; simp), h1]
                          clear h3 hpp
                          by_cases h4 : p' < s.size
                          · have HE2 := Lib.hid (hpe h4)
                            clear hpe
                            go_wp2_with fail
                            refine (rdigit_any s[p'] _).mono ?_; rw [HE2.out]; rintro e w' ⟨rfl, rfl⟩
                            go_wp2_with fail
                            go_round
                            case rel => exact ⟨p', D, a', hp', rfl, rfl, HPP.out, Nat.le_refl _, by rw [HNV.out]; exact REL.out⟩
                            case measure => simp [intOf]; omega
                          · have hps : p' = s.size := by omega
                            clear hpe
                            go_wp2_with fail
                            go_round
                            case rel => exact ⟨p', D, a', hp', by first | rfl | (rw [hps]), rfl, HPP.out, Nat.le_refl _, by rw [HNV.out]; exact REL.out⟩
                            case measure => simp [intOf]; omega
                    · have hs2 : a' ≠ 9223372036854775807 := by rw [← ha']; exact sat_nonpos _
                      have t1 : (a' == -9223372036854775808) = false := by simp [hs1]
                      have t2 : (a' == 9223372036854775807) = false := by simp [hs2]
                      have REL : Hid (NumRel true (digsAt s q) (j + 1) a') := ⟨ha'.symm, fun _ => ⟨hs1, hs2⟩⟩
                      clear hpd htk hjl hpb htn hne1 hne2 R1 R2 hdt ha' hT hs1 hs2
                      go_wp2_with fail
                      refine (rdigit_any s[p] _).mono ?_; rw [HPD.out]; rintro e w' ⟨rfl, rfl⟩
                      go_upto_if 101 with (fail)
                      obtain ⟨y, hy⟩ : ∃ y : Int, y = -9223372036854775808 + d := ⟨_, rfl⟩
                      rw [← hy]
                      first | rw [W2] | rw [H3.out]
                      clear hy hT' wx hx w8 w64 hd W1 W2 t1 t2
                      go_wp2_with fail
                      go_round
                      case rel => exact ⟨p + 1, j + 1, a', hp1, by go_num, rfl, by have := HR.out.1; omega, HJ.out, REL.out⟩
                      case measure => simp [intOf]; omega
                · have hDe := digs_end s HQS.out
                  rw [← HDL.out] at hDe
                  have hpq : p = q + D := by have := HR.out; omega
                  have HPQ := Lib.hid hpq
                  have HAV : Hid (sat true (dec 0 (digsAt s q)) = a) := by
                    show _ = _
                    have h1 := HR.out.2.2.1
                    rw [List.take_of_length_le (by rw [← HDL.out]; omega)] at h1
                    exact h1.symm
                  have hpe : ∀ h : p < s.size, isDig s[p] = false := by
                    intro h
                    have := hDe.2 (by omega)
                    simp only [← hpq] at this
                    exact this
                  have LAST : Hid (∀ e, e ≤ s.size → s.toList.drop e = trimB (s.toList.drop p) → t = (a, (e : Int), true)) := by
                    intro e he hr
                    rw [HT.out, begin_some s hlt HTR.out (by first | (rw [HQ.out, HSG.out]; done) | (rw [HQ.out, HSG.out]; rfl)) HNE.out he (by rw [← HDL.out, ← HPQ.out]; exact hr), N45.out, HAV.out]
                  have TR : Hid (∀ k', p ≤ k' → trimB (s.toList.drop k') = trimB (s.toList.drop p) → ∀ h : k' < s.size, (isBlank s[k'] = true → trimB (s.toList.drop (k' + 1)) = trimB (s.toList.drop p)) ∧ (isBlank s[k'] = false → s.toList.drop k' = trimB (s.toList.drop p))) := by
                    intro k' _ h1 h
                    rw [drop_at s h, trimB_cons] at h1
                    refine ⟨fun hb => by rw [if_pos hb] at h1; exact h1, fun hb => by rw [hb] at h1; rw [drop_at s h]; exact h1⟩
                  clear hDe hpq hjl
                  by_cases hpl : p < s.size
                  · have HPD := Lib.hid (hpe hpl)
                    clear hpe
                    go_wp2_with fail
                    refine (rdigit_any s[p] _).mono ?_; rw [HPD.out]; rintro e w' ⟨rfl, rfl⟩
                    go_wp2_with fail
                    go_loop [5] (fun i => ∃ k' : Nat, k' ≤ s.size ∧ i = .int .i64 k' ∧ Hid (p ≤ k' ∧ trimB (s.toList.drop k') = trimB (s.toList.drop p))) (fun i => s.size - (intOf i).toNat)
                    case atStart => exact ⟨p, hp, by first | rfl | (rw [hps]), Nat.le_refl _, rfl⟩
                    case round =>
                      obtain ⟨k', hk', rfl, HK'⟩ := hrel
                      by_cases h5 : k' < s.size
                      · cases hb' : isBlank s[k'] with
                        | true =>
                          have HN := Lib.hid ((TR.out k' HK'.out.1 HK'.out.2 h5).1 hb')
                          have HB' := Lib.hid hb'
                          clear hb'
                          go_wp2_with fail
                          refine (rblank_any s[k'] _).mono ?_; rw [HB'.out]; rintro e w' ⟨rfl, rfl⟩
                          go_wp2_with fail
                          go_round
                          case rel => exact ⟨k' + 1, by omega, by go_num, by have := HK'.out.1; exact ⟨by omega, HN.out⟩⟩
                          case measure => simp [intOf]; omega
                        | false =>
                          have HZ := Lib.hid (LAST.out k' hk' ((TR.out k' HK'.out.1 HK'.out.2 h5).2 hb'))
                          have HB' := Lib.hid hb'
                          clear hb'
                          go_wp2_with fail
                          refine (rblank_any s[k'] _).mono ?_; rw [HB'.out]; rintro e w' ⟨rfl, rfl⟩
                          go_wp2_with fail
                          go_ret3
                          exact ⟨by rw [HZ.out]; rfl, rfl⟩
                      · have hks : k' = s.size := by omega
                        have HZ := Lib.hid (LAST.out k' hk' (by have := HK'.out.2; rw [drop_end s (by omega)] at this ⊢; exact (this.symm.trans rfl).symm))
                        rw [hks] at HZ
                        go_wp2_with fail
                        go_ret3
                        exact ⟨by rw [HZ.out]; rfl, rfl⟩
                  · have hps : p = s.size := by omega
                    clear hpe
                    go_wp2_with fail
                    go_loop [5] (fun i => ∃ k' : Nat, k' ≤ s.size ∧ i = .int .i64 k' ∧ Hid (p ≤ k' ∧ trimB (s.toList.drop k') = trimB (s.toList.drop p))) (fun i => s.size - (intOf i).toNat)
                    case atStart => exact ⟨p, hp, by first | rfl | (rw [hps]), Nat.le_refl _, rfl⟩
                    case round =>
                      obtain ⟨k', hk', rfl, HK'⟩ := hrel
                      by_cases h5 : k' < s.size
                      · cases hb' : isBlank s[k'] with
                        | true =>
                          have HN := Lib.hid ((TR.out k' HK'.out.1 HK'.out.2 h5).1 hb')
                          have HB' := Lib.hid hb'
                          clear hb'
                          go_wp2_with fail
                          refine (rblank_any s[k'] _).mono ?_; rw [HB'.out]; rintro e w' ⟨rfl, rfl⟩
                          go_wp2_with fail
                          go_round
                          case rel => exact ⟨k' + 1, by omega, by go_num, by have := HK'.out.1; exact ⟨by omega, HN.out⟩⟩
                          case measure => simp [intOf]; omega
                        | false =>
                          have HZ := Lib.hid (LAST.out k' hk' ((TR.out k' HK'.out.1 HK'.out.2 h5).2 hb'))
                          have HB' := Lib.hid hb'
                          clear hb'
                          go_wp2_with fail
                          refine (rblank_any s[k'] _).mono ?_; rw [HB'.out]; rintro e w' ⟨rfl, rfl⟩
                          go_wp2_with fail
                          go_ret3
                          exact ⟨by rw [HZ.out]; rfl, rfl⟩
                      · have hks : k' = s.size := by omega
                        have HZ := Lib.hid (LAST.out k' hk' (by have := HK'.out.2; rw [drop_end s (by omega)] at this ⊢; exact (this.symm.trans rfl).symm))
                        rw [hks] at HZ
                        go_wp2_with fail
                        go_ret3
                        exact ⟨by rw [HZ.out]; rfl, rfl⟩
          · have HZ : Hid (t = (0, 0, false)) := by
              show _ = _
              rw [HT.out]
              exact begin_none (by rw [(digs_trim s hlt HTR.out).1, HSG.out]; exact digs_nil_end s (by omega))
            have hqe : ((k : Int) + 1 == (s.size : Int)) = true := by simp; omega
            go_wp2_with (go_at_call 142; refine (rblank_any s[k] _).mono ?_; rw [HB.out]; rintro e w' ⟨rfl, rfl⟩)
            go_ret3
            exact ⟨by rw [HZ.out]; rfl, rfl⟩
        · have e45 : ((s[k].toNat : Int) == 45) = false := by simp; omega
          have N45 : Hid (decide (s[k].toNat = 45) = false) := by show _ = _; simp [h45]
          by_cases h43 : s[k].toNat = 43
          · have e43 : ((s[k].toNat : Int) == 43) = true := by simp [h43]
            have HSG : Hid (sgOf s[k] = 1) := by show _ = _; unfold sgOf; simp [h43]
            have H43 := Lib.hid h43
            clear h45 h43
            by_cases hq : k + 1 < s.size
            · have hqe : ((k : Int) + 1 == (s.size : Int)) = false := by simp; omega
              cases hd : isDig s[k + 1] with
              | false =>
                have HZ : Hid (t = (0, 0, false)) := by
                  show _ = _
                  rw [HT.out]
                  exact begin_none (by rw [(digs_trim s hlt HTR.out).1, HSG.out]; exact digs_nil_at s hq hd)
                have HD := Lib.hid hd
                clear hd
                go_wp2_with (first
                  | (go_at_call 142; refine (rblank_any s[k] _).mono ?_; rw [HB.out]; rintro e w' ⟨rfl, rfl⟩)
                  | (go_at_call 143; refine (rdigit_any s[k + 1] _).mono ?_; rw [HD.out]; rintro e w' ⟨rfl, rfl⟩))
                go_ret3
                exact ⟨by rw [HZ.out]; rfl, rfl⟩
              | true =>
                have HD := Lib.hid hd
                clear hd
                go_wp2_with (first
                  | (go_at_call 142; refine (rblank_any s[k] _).mono ?_; rw [HB.out]; rintro e w' ⟨rfl, rfl⟩)
                  | (go_at_call 143; refine (rdigit_any s[k + 1] _).mono ?_; rw [HD.out]; rintro e w' ⟨rfl, rfl⟩))
                obtain ⟨q, hq⟩ : ∃ q, q = k + 1 := ⟨_, rfl⟩
                have HQ := Lib.hid hq
                obtain ⟨D, hD⟩ : ∃ D, D = (digsAt s q).length := ⟨_, rfl⟩
                have HDL := Lib.hid hD
                have HQS : Hid (q ≤ s.size) := by show _ ≤ _; omega
                have HNE : Hid (digsAt s q ≠ []) := by
                  show _ ≠ _
                  have hq' : q < s.size := by rw [hq]; omega
                  unfold digsAt
                  rw [drop_at s hq', List.takeWhile_cons, show isDig s[q] = true by have := HD.out; simp only [hq]; exact this]
                  simp
                clear hq hD
                go_loop [5, 7] (fun i nv => ∃ (p j : Nat) (a : Int), p ≤ s.size ∧ i = .int .i64 p ∧ nv = .int .i64 a ∧ Hid (p = q + j ∧ j ≤ D ∧ NumRel false (digsAt s q) j a)) (fun i _ => s.size - (intOf i).toNat)
                case atStart => exact ⟨q, 0, 0, HQS.out, by first | (rw [HQ.out]; done) | (rw [HQ.out]; go_num), rfl, rfl, Nat.zero_le _, rfl, fun _ => by decide⟩
                case round =>
                  obtain ⟨p, j, a, hp, rfl, rfl, HR⟩ := hrel
                  by_cases hjl : j < D
                  · obtain ⟨hpl, hpd, htk⟩ : ∃ h : p < s.size, isDig s[p] = true ∧ (digsAt s q).take (j + 1) = (digsAt s q).take j ++ [s[p]] := by
                      have := digs_lt s (q := q) (j := j) (by rw [← HDL.out]; exact hjl)
                      rw [← HR.out.1] at this
                      exact this
                    have HJ := Lib.hid hjl
                    have HPD := Lib.hid hpd
                    have hpb := dig_bounds hpd
                    obtain ⟨d, hd⟩ : ∃ d : Int, (s[p].toNat : Int) - 48 = d := ⟨_, rfl⟩
                    have w8 := dig_u8 hpd
                    rw [hd] at w8
                    have hd0 : 0 ≤ d := by omega
                    have hd9 : d ≤ 9 := by omega
                    have w64 : IntKind.i64.wrap d = d := wrap_in (by omega) (by omega)
                    have HPB := Lib.hid hpb
                    have htn : d.toNat = s[p].toNat - 48 := by omega
                    obtain ⟨hne1, hne2⟩ := HR.out.2.2.2 (by rw [← HDL.out]; exact hjl)
                    obtain ⟨R1, R2⟩ := posRound (u := dec 0 ((digsAt s q).take j)) HR.out.2.2.1 hd0 hd9 hne2
                    have hdt := dec_take htk
                    rw [htn, ← hdt] at R1 R2
                    obtain ⟨a', ha'⟩ : ∃ a', sat false (dec 0 ((digsAt s q).take (j + 1))) = a' := ⟨_, rfl⟩
                    rw [ha'] at R1 R2
                    have HA := Lib.hid ha'
                    have hp1 : p + 1 ≤ s.size := by omega
                    obtain ⟨x, hx⟩ : ∃ x, (9223372036854775807 - d) / 10 = x := ⟨_, rfl⟩
                    have wx : wrap64 x = x := by rw [← hx]; exact wrap64_in' (by omega) (by omega)
                    rw [hx] at R1 R2
                    have INNER : Hid (∀ p', q + (j + 1) ≤ p' → p' ≤ q + D → (p' < q + D → ∃ h : p' < s.size, isDig s[p'] = true) ∧ (¬ p' < q + D → ∀ h : p' < s.size, isDig s[p'] = false)) := by
                      intro p' h1 h2
                      refine ⟨fun h3 => ?_, fun h3 h4 => ?_⟩
                      · obtain ⟨e1, e2, _⟩ := digs_lt s (q := q) (j := p' - q) (by rw [← HDL.out]; omega)
                        have e3 : q + (p' - q) = p' := by omega
                        simp only [e3] at e1 e2
                        exact ⟨e1, e2⟩
                      · have e := (digs_end s HQS.out).2
                        have e3 : q + (digsAt s q).length = p' := by rw [← HDL.out]; omega
                        simp only [e3] at e
                        exact e h4
                    by_cases hT : x < a
                    · have ea : a' = 9223372036854775807 := R1 hT
                      have HEA := Lib.hid ea
                      have hT' : decide (x < a) = true := by simp [hT]
                      clear hpd htk hjl hpb htn hne1 hne2 R1 R2 hdt ha' ea hT
                      go_wp2_with fail
                      refine (rdigit_any s[p] _).mono ?_; rw [HPD.out]; rintro e w' ⟨rfl, rfl⟩
                      go_upto_if 101 with (fail)
                      obtain ⟨y, hy⟩ : ∃ y : Int, y = 9223372036854775807 - d := ⟨_, rfl⟩
                      rw [← hy]
                      clear hy
                      obtain ⟨mn, hmn⟩ : ∃ mn : Int, mn = 9223372036854775807 := ⟨_, rfl⟩; rw [← hmn]; have HNV := Lib.hid hmn; clear hmn hT' wx hx w8 w64 hd
                      go_wp2_with fail
                      go_loop [5] (fun i => ∃ p' : Nat, p' ≤ s.size ∧ i = .int .i64 p' ∧ Hid (q + (j + 1) ≤ p' ∧ p' ≤ q + D)) (fun i => s.size - (intOf i).toNat)
                      case atStart => exact ⟨p + 1, hp1, by go_num, by have := HR.out.1; have := HJ.out; show _ ∧ _; omega⟩
                      case round =>
                        obtain ⟨p', hp', rfl, HP'⟩ := hrel
                        by_cases h3 : p' < q + D
                        · obtain ⟨e1, e2⟩ := (INNER.out p' HP'.out.1 HP'.out.2).1 h3
                          have HE2 := Lib.hid e2
                          have H3 := Lib.hid h3
                          clear e2 h3
                          go_wp2_with fail
                          refine (rdigit_any s[p'] _).mono ?_; rw [HE2.out]; rintro e w' ⟨rfl, rfl⟩
                          go_wp2_with fail
                          go_round
                          case rel => exact ⟨p' + 1, by omega, by go_num, by have := HP'.out; have := H3.out; show _ ∧ _; omega⟩
                          case measure => simp [intOf]; omega
                        · have hpe := (INNER.out p' HP'.out.1 HP'.out.2).2 h3
                          have hpp : p' = q + D := by have := HP'.out; omega
                          have HPP := Lib.hid hpp
                          have hpgt : p < p' := by have := HP'.out; have := HR.out.1; omega
                          have REL : Hid (NumRel false (digsAt s q) D (9223372036854775807)) := by
                            refine ⟨?_, fun h => by rw [← HDL.out] at h; omega⟩
                            rw [List.take_of_length_le (by rw [← HDL.out]; exact Nat.le_refl _)]
                            have h1 := HA.out
                            rw [HEA.out] at h1
                            rw [dec_rest false (digsAt s q) (j + 1) (by rw [h1]; simp), h1]
                          clear h3 hpp
                          by_cases h4 : p' < s.size
                          · have HE2 := Lib.hid (hpe h4)
                            clear hpe
                            go_wp2_with fail
                            refine (rdigit_any s[p'] _).mono ?_; rw [HE2.out]; rintro e w' ⟨rfl, rfl⟩
                            go_wp2_with fail
                            go_round
                            case rel => exact ⟨p', D, mn, hp', rfl, rfl, HPP.out, Nat.le_refl _, by rw [HNV.out]; exact REL.out⟩
                            case measure => simp [intOf]; omega
                          · have hps : p' = s.size := by omega
                            clear hpe
                            go_wp2_with fail
                            go_round
                            case rel => exact ⟨p', D, mn, hp', by first | rfl | (rw [hps]), rfl, HPP.out, Nat.le_refl _, by rw [HNV.out]; exact REL.out⟩
                            case measure => simp [intOf]; omega
                    · obtain ⟨W1, W2, W3⟩ := R2 hT
                      have H3 := Lib.hid W3
                      clear W3
                      have hT' : decide (x < a) = false := by simp [hT]
                      by_cases hs1 : a' = 9223372036854775807
                      · have HEA := Lib.hid hs1
                        have t1 : (a' == 9223372036854775807) = true := by simp [hs1]
                        have t2 : (a' == -9223372036854775808) = false := by simp [hs1]
                        clear hpd htk hjl hpb htn hne1 hne2 R1 R2 hdt ha' hT hs1
                        go_wp2_with fail
                        refine (rdigit_any s[p] _).mono ?_; rw [HPD.out]; rintro e w' ⟨rfl, rfl⟩
                        go_upto_if 101 with (fail)
                        obtain ⟨y, hy⟩ : ∃ y : Int, y = 9223372036854775807 - d := ⟨_, rfl⟩
                        rw [← hy]
                        clear hy
                        first | rw [W2] | rw [H3.out]
                        have HNV := HEA; clear hT' wx hx w8 w64 hd W1 W2 t1 t2
                        go_wp2_with fail
                        go_loop [5] (fun i => ∃ p' : Nat, p' ≤ s.size ∧ i = .int .i64 p' ∧ Hid (q + (j + 1) ≤ p' ∧ p' ≤ q + D)) (fun i => s.size - (intOf i).toNat)
                        case atStart => exact ⟨p + 1, hp1, by go_num, by have := HR.out.1; have := HJ.out; show _ ∧ _; omega⟩
                        case round =>
                          obtain ⟨p', hp', rfl, HP'⟩ := hrel
                          by_cases h3 : p' < q + D
                          · obtain ⟨e1, e2⟩ := (INNER.out p' HP'.out.1 HP'.out.2).1 h3
                            have HE2 := Lib.hid e2
                            have H3 := Lib.hid h3
                            clear e2 h3
                            go_wp2_with fail
                            refine (rdigit_any s[p'] _).mono ?_; rw [HE2.out]; rintro e w' ⟨rfl, rfl⟩
                            go_wp2_with fail
                            go_round
                            case rel => exact ⟨p' + 1, by omega, by go_num, by have := HP'.out; have := H3.out; show _ ∧ _; omega⟩
                            case measure => simp [intOf]; omega
                          · have hpe := (INNER.out p' HP'.out.1 HP'.out.2).2 h3
                            have hpp : p' = q + D := by have := HP'.out; omega
                            have HPP := Lib.hid hpp
                            have hpgt : p < p' := by have := HP'.out; have := HR.out.1; omega
                            have REL : Hid (NumRel false (digsAt s q) D (9223372036854775807)) := by
                              refine ⟨?_, fun h => by rw [← HDL.out] at h; omega⟩
                              rw [List.take_of_length_le (by rw [← HDL.out]; exact Nat.le_refl _)]
                              have h1 := HA.out
                              rw [HEA.out] at h1
                              rw [dec_rest false (digsAt s q) (j + 1) (by rw [h1]; simp), h1]
                            clear h3 hpp
                            by_cases h4 : p' < s.size
                            · have HE2 := Lib.hid (hpe h4)
                              clear hpe
                              go_wp2_with fail
                              refine (rdigit_any s[p'] _).mono ?_; rw [HE2.out]; rintro e w' ⟨rfl, rfl⟩
                              go_wp2_with fail
                              go_round
                              case rel => exact ⟨p', D, a', hp', rfl, rfl, HPP.out, Nat.le_refl _, by rw [HNV.out]; exact REL.out⟩
                              case measure => simp [intOf]; omega
                            · have hps : p' = s.size := by omega
                              clear hpe
                              go_wp2_with fail
                              go_round
                              case rel => exact ⟨p', D, a', hp', by first | rfl | (rw [hps]), rfl, HPP.out, Nat.le_refl _, by rw [HNV.out]; exact REL.out⟩
                              case measure => simp [intOf]; omega
                      · have hs2 : a' ≠ -9223372036854775808 := by rw [← ha']; exact sat_nonneg _
                        have t1 : (a' == -9223372036854775808) = false := by simp [hs2]
                        have t2 : (a' == 9223372036854775807) = false := by simp [hs1]
                        have REL : Hid (NumRel false (digsAt s q) (j + 1) a') := ⟨ha'.symm, fun _ => ⟨hs2, hs1⟩⟩
                        clear hpd htk hjl hpb htn hne1 hne2 R1 R2 hdt ha' hT hs1 hs2
                        go_wp2_with fail
                        refine (rdigit_any s[p] _).mono ?_; rw [HPD.out]; rintro e w' ⟨rfl, rfl⟩
                        go_upto_if 101 with (fail)
                        obtain ⟨y, hy⟩ : ∃ y : Int, y = 9223372036854775807 - d := ⟨_, rfl⟩
                        rw [← hy]
                        first | rw [W2] | rw [H3.out]
                        clear hy hT' wx hx w8 w64 hd W1 W2 t1 t2
                        go_wp2_with fail
                        go_round
                        case rel => exact ⟨p + 1, j + 1, a', hp1, by go_num, rfl, by have := HR.out.1; omega, HJ.out, REL.out⟩
                        case measure => simp [intOf]; omega
                  · have hDe := digs_end s HQS.out
                    rw [← HDL.out] at hDe
                    have hpq : p = q + D := by have := HR.out; omega
                    have HPQ := Lib.hid hpq
                    have HAV : Hid (sat false (dec 0 (digsAt s q)) = a) := by
                      show _ = _
                      have h1 := HR.out.2.2.1
                      rw [List.take_of_length_le (by rw [← HDL.out]; omega)] at h1
                      exact h1.symm
                    have hpe : ∀ h : p < s.size, isDig s[p] = false := by
                      intro h
                      have := hDe.2 (by omega)
                      simp only [← hpq] at this
                      exact this
                    have LAST : Hid (∀ e, e ≤ s.size → s.toList.drop e = trimB (s.toList.drop p) → t = (a, (e : Int), true)) := by
                      intro e he hr
                      rw [HT.out, begin_some s hlt HTR.out (by first | (rw [HQ.out, HSG.out]; done) | (rw [HQ.out, HSG.out]; rfl)) HNE.out he (by rw [← HDL.out, ← HPQ.out]; exact hr), N45.out, HAV.out]
                    have TR : Hid (∀ k', p ≤ k' → trimB (s.toList.drop k') = trimB (s.toList.drop p) → ∀ h : k' < s.size, (isBlank s[k'] = true → trimB (s.toList.drop (k' + 1)) = trimB (s.toList.drop p)) ∧ (isBlank s[k'] = false → s.toList.drop k' = trimB (s.toList.drop p))) := by
                      intro k' _ h1 h
                      rw [drop_at s h, trimB_cons] at h1
                      refine ⟨fun hb => by rw [if_pos hb] at h1; exact h1, fun hb => by rw [hb] at h1; rw [drop_at s h]; exact h1⟩
                    clear hDe hpq hjl
                    by_cases hpl : p < s.size
                    · have HPD := Lib.hid (hpe hpl)
                      clear hpe
                      go_wp2_with fail
                      refine (rdigit_any s[p] _).mono ?_; rw [HPD.out]; rintro e w' ⟨rfl, rfl⟩
                      go_wp2_with fail
                      go_loop [5] (fun i => ∃ k' : Nat, k' ≤ s.size ∧ i = .int .i64 k' ∧ Hid (p ≤ k' ∧ trimB (s.toList.drop k') = trimB (s.toList.drop p))) (fun i => s.size - (intOf i).toNat)
                      case atStart => exact ⟨p, hp, by first | rfl | (rw [hps]), Nat.le_refl _, rfl⟩
                      case round =>
                        obtain ⟨k', hk', rfl, HK'⟩ := hrel
                        by_cases h5 : k' < s.size
                        · cases hb' : isBlank s[k'] with
                          | true =>
                            have HN := Lib.hid ((TR.out k' HK'.out.1 HK'.out.2 h5).1 hb')
                            have HB' := Lib.hid hb'
                            clear hb'
                            go_wp2_with fail
                            refine (rblank_any s[k'] _).mono ?_; rw [HB'.out]; rintro e w' ⟨rfl, rfl⟩
                            go_wp2_with fail
                            go_round
                            case rel => exact ⟨k' + 1, by omega, by go_num, by have := HK'.out.1; exact ⟨by omega, HN.out⟩⟩
                            case measure => simp [intOf]; omega
                          | false =>
                            have HZ := Lib.hid (LAST.out k' hk' ((TR.out k' HK'.out.1 HK'.out.2 h5).2 hb'))
                            have HB' := Lib.hid hb'
                            clear hb'
                            go_wp2_with fail
                            refine (rblank_any s[k'] _).mono ?_; rw [HB'.out]; rintro e w' ⟨rfl, rfl⟩
                            go_wp2_with fail
                            go_ret3
                            exact ⟨by rw [HZ.out]; rfl, rfl⟩
                        · have hks : k' = s.size := by omega
                          have HZ := Lib.hid (LAST.out k' hk' (by have := HK'.out.2; rw [drop_end s (by omega)] at this ⊢; exact (this.symm.trans rfl).symm))
                          rw [hks] at HZ
                          go_wp2_with fail
                          go_ret3
                          exact ⟨by rw [HZ.out]; rfl, rfl⟩
                    · have hps : p = s.size := by omega
                      clear hpe
                      go_wp2_with fail
                      go_loop [5] (fun i => ∃ k' : Nat, k' ≤ s.size ∧ i = .int .i64 k' ∧ Hid (p ≤ k' ∧ trimB (s.toList.drop k') = trimB (s.toList.drop p))) (fun i => s.size - (intOf i).toNat)
                      case atStart => exact ⟨p, hp, by first | rfl | (rw [hps]), Nat.le_refl _, rfl⟩
                      case round =>
                        obtain ⟨k', hk', rfl, HK'⟩ := hrel
                        by_cases h5 : k' < s.size
                        · cases hb' : isBlank s[k'] with
                          | true =>
                            have HN := Lib.hid ((TR.out k' HK'.out.1 HK'.out.2 h5).1 hb')
                            have HB' := Lib.hid hb'
                            clear hb'
                            go_wp2_with fail
                            refine (rblank_any s[k'] _).mono ?_; rw [HB'.out]; rintro e w' ⟨rfl, rfl⟩
                            go_wp2_with fail
                            go_round
                            case rel => exact ⟨k' + 1, by omega, by go_num, by have := HK'.out.1; exact ⟨by omega, HN.out⟩⟩
                            case measure => simp [intOf]; omega
                          | false =>
                            have HZ := Lib.hid (LAST.out k' hk' ((TR.out k' HK'.out.1 HK'.out.2 h5).2 hb'))
                            have HB' := Lib.hid hb'
                            clear hb'
                            go_wp2_with fail
                            refine (rblank_any s[k'] _).mono ?_; rw [HB'.out]; rintro e w' ⟨rfl, rfl⟩
                            go_wp2_with fail
                            go_ret3
                            exact ⟨by rw [HZ.out]; rfl, rfl⟩
                        · have hks : k' = s.size := by omega
                          have HZ := Lib.hid (LAST.out k' hk' (by have := HK'.out.2; rw [drop_end s (by omega)] at this ⊢; exact (this.symm.trans rfl).symm))
                          rw [hks] at HZ
                          go_wp2_with fail
                          go_ret3
                          exact ⟨by rw [HZ.out]; rfl, rfl⟩
            · have HZ : Hid (t = (0, 0, false)) := by
                show _ = _
                rw [HT.out]
                exact begin_none (by rw [(digs_trim s hlt HTR.out).1, HSG.out]; exact digs_nil_end s (by omega))
              have hqe : ((k : Int) + 1 == (s.size : Int)) = true := by simp; omega
              go_wp2_with (go_at_call 142; refine (rblank_any s[k] _).mono ?_; rw [HB.out]; rintro e w' ⟨rfl, rfl⟩)
              go_ret3
              exact ⟨by rw [HZ.out]; rfl, rfl⟩
          · have e43 : ((s[k].toNat : Int) == 43) = false := by simp; omega
            have HSG : Hid (sgOf s[k] = 0) := by show _ = _; unfold sgOf; simp [h43, h45]
            clear h45 h43
            by_cases hq : k < s.size
            · have hqe : ((k : Int) == (s.size : Int)) = false := by simp; omega
              cases hd : isDig s[k] with
              | false =>
                have HZ : Hid (t = (0, 0, false)) := by
                  show _ = _
                  rw [HT.out]
                  exact begin_none (by rw [(digs_trim s hlt HTR.out).1, HSG.out]; exact digs_nil_at s hq hd)
                have HD := Lib.hid hd
                clear hd
                go_wp2_with (first
                  | (go_at_call 142; refine (rblank_any s[k] _).mono ?_; rw [HB.out]; rintro e w' ⟨rfl, rfl⟩)
                  | (go_at_call 143; refine (rdigit_any s[k] _).mono ?_; rw [HD.out]; rintro e w' ⟨rfl, rfl⟩))
                go_ret3
                exact ⟨by rw [HZ.out]; rfl, rfl⟩
              | true =>
                have HD := Lib.hid hd
                clear hd
                go_wp2_with (first
                  | (go_at_call 142; refine (rblank_any s[k] _).mono ?_; rw [HB.out]; rintro e w' ⟨rfl, rfl⟩)
                  | (go_at_call 143; refine (rdigit_any s[k] _).mono ?_; rw [HD.out]; rintro e w' ⟨rfl, rfl⟩))
                obtain ⟨q, hq⟩ : ∃ q, q = k := ⟨_, rfl⟩
                have HQ := Lib.hid hq
                obtain ⟨D, hD⟩ : ∃ D, D = (digsAt s q).length := ⟨_, rfl⟩
                have HDL := Lib.hid hD
                have HQS : Hid (q ≤ s.size) := by show _ ≤ _; omega
                have HNE : Hid (digsAt s q ≠ []) := by
                  show _ ≠ _
                  have hq' : q < s.size := by rw [hq]; omega
                  unfold digsAt
                  rw [drop_at s hq', List.takeWhile_cons, show isDig s[q] = true by have := HD.out; simp only [hq]; exact this]
                  simp
                clear hq hD
                go_loop [5, 7] (fun i nv => ∃ (p j : Nat) (a : Int), p ≤ s.size ∧ i = .int .i64 p ∧ nv = .int .i64 a ∧ Hid (p = q + j ∧ j ≤ D ∧ NumRel false (digsAt s q) j a)) (fun i _ => s.size - (intOf i).toNat)
                case atStart => exact ⟨q, 0, 0, HQS.out, by first | (rw [HQ.out]; done) | (rw [HQ.out]; go_num), rfl, rfl, Nat.zero_le _, rfl, fun _ => by decide⟩
                case round =>
                  obtain ⟨p, j, a, hp, rfl, rfl, HR⟩ := hrel
                  by_cases hjl : j < D
                  · obtain ⟨hpl, hpd, htk⟩ : ∃ h : p < s.size, isDig s[p] = true ∧ (digsAt s q).take (j + 1) = (digsAt s q).take j ++ [s[p]] := by
                      have := digs_lt s (q := q) (j := j) (by rw [← HDL.out]; exact hjl)
                      rw [← HR.out.1] at this
                      exact this
                    have HJ := Lib.hid hjl
                    have HPD := Lib.hid hpd
                    have hpb := dig_bounds hpd
                    obtain ⟨d, hd⟩ : ∃ d : Int, (s[p].toNat : Int) - 48 = d := ⟨_, rfl⟩
                    have w8 := dig_u8 hpd
                    rw [hd] at w8
                    have hd0 : 0 ≤ d := by omega
                    have hd9 : d ≤ 9 := by omega
                    have w64 : IntKind.i64.wrap d = d := wrap_in (by omega) (by omega)
                    have HPB := Lib.hid hpb
                    have htn : d.toNat = s[p].toNat - 48 := by omega
                    obtain ⟨hne1, hne2⟩ := HR.out.2.2.2 (by rw [← HDL.out]; exact hjl)
                    obtain ⟨R1, R2⟩ := posRound (u := dec 0 ((digsAt s q).take j)) HR.out.2.2.1 hd0 hd9 hne2
                    have hdt := dec_take htk
                    rw [htn, ← hdt] at R1 R2
                    obtain ⟨a', ha'⟩ : ∃ a', sat false (dec 0 ((digsAt s q).take (j + 1))) = a' := ⟨_, rfl⟩
                    rw [ha'] at R1 R2
                    have HA := Lib.hid ha'
                    have hp1 : p + 1 ≤ s.size := by omega
                    obtain ⟨x, hx⟩ : ∃ x, (9223372036854775807 - d) / 10 = x := ⟨_, rfl⟩
                    have wx : wrap64 x = x := by rw [← hx]; exact wrap64_in' (by omega) (by omega)
                    rw [hx] at R1 R2
                    have INNER : Hid (∀ p', q + (j + 1) ≤ p' → p' ≤ q + D → (p' < q + D → ∃ h : p' < s.size, isDig s[p'] = true) ∧ (¬ p' < q + D → ∀ h : p' < s.size, isDig s[p'] = false)) := by
                      intro p' h1 h2
                      refine ⟨fun h3 => ?_, fun h3 h4 => ?_⟩
                      · obtain ⟨e1, e2, _⟩ := digs_lt s (q := q) (j := p' - q) (by rw [← HDL.out]; omega)
                        have e3 : q + (p' - q) = p' := by omega
                        simp only [e3] at e1 e2
                        exact ⟨e1, e2⟩
                      · have e := (digs_end s HQS.out).2
                        have e3 : q + (digsAt s q).length = p' := by rw [← HDL.out]; omega
                        simp only [e3] at e
                        exact e h4
                    by_cases hT : x < a
                    · have ea : a' = 9223372036854775807 := R1 hT
                      have HEA := Lib.hid ea
                      have hT' : decide (x < a) = true := by simp [hT]
                      clear hpd htk hjl hpb htn hne1 hne2 R1 R2 hdt ha' ea hT
                      go_wp2_with fail
                      refine (rdigit_any s[p] _).mono ?_; rw [HPD.out]; rintro e w' ⟨rfl, rfl⟩
                      go_upto_if 101 with (fail)
                      obtain ⟨y, hy⟩ : ∃ y : Int, y = 9223372036854775807 - d := ⟨_, rfl⟩
                      rw [← hy]
                      clear hy
                      obtain ⟨mn, hmn⟩ : ∃ mn : Int, mn = 9223372036854775807 := ⟨_, rfl⟩; rw [← hmn]; have HNV := Lib.hid hmn; clear hmn hT' wx hx w8 w64 hd
                      go_wp2_with fail
                      go_loop [5] (fun i => ∃ p' : Nat, p' ≤ s.size ∧ i = .int .i64 p' ∧ Hid (q + (j + 1) ≤ p' ∧ p' ≤ q + D)) (fun i => s.size - (intOf i).toNat)
                      case atStart => exact ⟨p + 1, hp1, by go_num, by have := HR.out.1; have := HJ.out; show _ ∧ _; omega⟩
                      case round =>
                        obtain ⟨p', hp', rfl, HP'⟩ := hrel
                        by_cases h3 : p' < q + D
                        · obtain ⟨e1, e2⟩ := (INNER.out p' HP'.out.1 HP'.out.2).1 h3
                          have HE2 := Lib.hid e2
                          have H3 := Lib.hid h3
                          clear e2 h3
                          go_wp2_with fail
                          refine (rdigit_any s[p'] _).mono ?_; rw [HE2.out]; rintro e w' ⟨rfl, rfl⟩
                          go_wp2_with fail
                          go_round
                          case rel => exact ⟨p' + 1, by omega, by go_num, by have := HP'.out; have := H3.out; show _ ∧ _; omega⟩
                          case measure => simp [intOf]; omega
                        · have hpe := (INNER.out p' HP'.out.1 HP'.out.2).2 h3
                          have hpp : p' = q + D := by have := HP'.out; omega
                          have HPP := Lib.hid hpp
                          have hpgt : p < p' := by have := HP'.out; have := HR.out.1; omega
                          have REL : Hid (NumRel false (digsAt s q) D (9223372036854775807)) := by
                            refine ⟨?_, fun h => by rw [← HDL.out] at h; omega⟩
                            rw [List.take_of_length_le (by rw [← HDL.out]; exact Nat.le_refl _)]
                            have h1 := HA.out
                            rw [HEA.out] at h1
                            rw [dec_rest false (digsAt s q) (j + 1) (by rw [h1]; simp), h1]
                          clear h3 hpp
                          by_cases h4 : p' < s.size
                          · have HE2 := Lib.hid (hpe h4)
                            clear hpe
                            go_wp2_with fail
                            refine (rdigit_any s[p'] _).mono ?_; rw [HE2.out]; rintro e w' ⟨rfl, rfl⟩
                            go_wp2_with fail
                            go_round
                            case rel => exact ⟨p', D, mn, hp', rfl, rfl, HPP.out, Nat.le_refl _, by rw [HNV.out]; exact REL.out⟩
                            case measure => simp [intOf]; omega
                          · have hps : p' = s.size := by omega
                            clear hpe
                            go_wp2_with fail
                            go_round
                            case rel => exact ⟨p', D, mn, hp', by first | rfl | (rw [hps]), rfl, HPP.out, Nat.le_refl _, by rw [HNV.out]; exact REL.out⟩
                            case measure => simp [intOf]; omega
                    · obtain ⟨W1, W2, W3⟩ := R2 hT
                      have H3 := Lib.hid W3
                      clear W3
                      have hT' : decide (x < a) = false := by simp [hT]
                      by_cases hs1 : a' = 9223372036854775807
                      · have HEA := Lib.hid hs1
                        have t1 : (a' == 9223372036854775807) = true := by simp [hs1]
                        have t2 : (a' == -9223372036854775808) = false := by simp [hs1]
                        clear hpd htk hjl hpb htn hne1 hne2 R1 R2 hdt ha' hT hs1
                        go_wp2_with fail
                        refine (rdigit_any s[p] _).mono ?_; rw [HPD.out]; rintro e w' ⟨rfl, rfl⟩
                        go_upto_if 101 with (fail)
                        obtain ⟨y, hy⟩ : ∃ y : Int, y = 9223372036854775807 - d := ⟨_, rfl⟩
                        rw [← hy]
                        clear hy
                        first | rw [W2] | rw [H3.out]
                        have HNV := HEA; clear hT' wx hx w8 w64 hd W1 W2 t1 t2
                        go_wp2_with fail
                        go_loop [5] (fun i => ∃ p' : Nat, p' ≤ s.size ∧ i = .int .i64 p' ∧ Hid (q + (j + 1) ≤ p' ∧ p' ≤ q + D)) (fun i => s.size - (intOf i).toNat)
                        case atStart => exact ⟨p + 1, hp1, by go_num, by have := HR.out.1; have := HJ.out; show _ ∧ _; omega⟩
                        case round =>
                          obtain ⟨p', hp', rfl, HP'⟩ := hrel
                          by_cases h3 : p' < q + D
                          · obtain ⟨e1, e2⟩ := (INNER.out p' HP'.out.1 HP'.out.2).1 h3
                            have HE2 := Lib.hid e2
                            have H3 := Lib.hid h3
                            clear e2 h3
                            go_wp2_with fail
                            refine (rdigit_any s[p'] _).mono ?_; rw [HE2.out]; rintro e w' ⟨rfl, rfl⟩
                            go_wp2_with fail
                            go_round
                            case rel => exact ⟨p' + 1, by omega, by go_num, by have := HP'.out; have := H3.out; show _ ∧ _; omega⟩
                            case measure => simp [intOf]; omega
                          · have hpe := (INNER.out p' HP'.out.1 HP'.out.2).2 h3
                            have hpp : p' = q + D := by have := HP'.out; omega
                            have HPP := Lib.hid hpp
                            have hpgt : p < p' := by have := HP'.out; have := HR.out.1; omega
                            have REL : Hid (NumRel false (digsAt s q) D (9223372036854775807)) := by
                              refine ⟨?_, fun h => by rw [← HDL.out] at h; omega⟩
                              rw [List.take_of_length_le (by rw [← HDL.out]; exact Nat.le_refl _)]
                              have h1 := HA.out
                              rw [HEA.out] at h1
                              rw [dec_rest false (digsAt s q) (j + 1) (by rw [h1]; simp), h1]
                            clear h3 hpp
                            by_cases h4 : p' < s.size
                            · have HE2 := Lib.hid (hpe h4)
                              clear hpe
                              go_wp2_with fail
                              refine (rdigit_any s[p'] _).mono ?_; rw [HE2.out]; rintro e w' ⟨rfl, rfl⟩
                              go_wp2_with fail
                              go_round
                              case rel => exact ⟨p', D, a', hp', rfl, rfl, HPP.out, Nat.le_refl _, by rw [HNV.out]; exact REL.out⟩
                              case measure => simp [intOf]; omega
                            · have hps : p' = s.size := by omega
                              clear hpe
                              go_wp2_with fail
                              go_round
                              case rel => exact ⟨p', D, a', hp', by first | rfl | (rw [hps]), rfl, HPP.out, Nat.le_refl _, by rw [HNV.out]; exact REL.out⟩
                              case measure => simp [intOf]; omega
                      · have hs2 : a' ≠ -9223372036854775808 := by rw [← ha']; exact sat_nonneg _
                        have t1 : (a' == -9223372036854775808) = false := by simp [hs2]
                        have t2 : (a' == 9223372036854775807) = false := by simp [hs1]
                        have REL : Hid (NumRel false (digsAt s q) (j + 1) a') := ⟨ha'.symm, fun _ => ⟨hs2, hs1⟩⟩
                        clear hpd htk hjl hpb htn hne1 hne2 R1 R2 hdt ha' hT hs1 hs2
                        go_wp2_with fail
                        refine (rdigit_any s[p] _).mono ?_; rw [HPD.out]; rintro e w' ⟨rfl, rfl⟩
                        go_upto_if 101 with (fail)
                        obtain ⟨y, hy⟩ : ∃ y : Int, y = 9223372036854775807 - d := ⟨_, rfl⟩
                        rw [← hy]
                        first | rw [W2] | rw [H3.out]
                        clear hy hT' wx hx w8 w64 hd W1 W2 t1 t2
                        go_wp2_with fail
                        go_round
                        case rel => exact ⟨p + 1, j + 1, a', hp1, by go_num, rfl, by have := HR.out.1; omega, HJ.out, REL.out⟩
                        case measure => simp [intOf]; omega
                  · have hDe := digs_end s HQS.out
                    rw [← HDL.out] at hDe
                    have hpq : p = q + D := by have := HR.out; omega
                    have HPQ := Lib.hid hpq
                    have HAV : Hid (sat false (dec 0 (digsAt s q)) = a) := by
                      show _ = _
                      have h1 := HR.out.2.2.1
                      rw [List.take_of_length_le (by rw [← HDL.out]; omega)] at h1
                      exact h1.symm
                    have hpe : ∀ h : p < s.size, isDig s[p] = false := by
                      intro h
                      have := hDe.2 (by omega)
                      simp only [← hpq] at this
                      exact this
                    have LAST : Hid (∀ e, e ≤ s.size → s.toList.drop e = trimB (s.toList.drop p) → t = (a, (e : Int), true)) := by
                      intro e he hr
                      rw [HT.out, begin_some s hlt HTR.out (by first | (rw [HQ.out, HSG.out]; done) | (rw [HQ.out, HSG.out]; rfl)) HNE.out he (by rw [← HDL.out, ← HPQ.out]; exact hr), N45.out, HAV.out]
                    have TR : Hid (∀ k', p ≤ k' → trimB (s.toList.drop k') = trimB (s.toList.drop p) → ∀ h : k' < s.size, (isBlank s[k'] = true → trimB (s.toList.drop (k' + 1)) = trimB (s.toList.drop p)) ∧ (isBlank s[k'] = false → s.toList.drop k' = trimB (s.toList.drop p))) := by
                      intro k' _ h1 h
                      rw [drop_at s h, trimB_cons] at h1
                      refine ⟨fun hb => by rw [if_pos hb] at h1; exact h1, fun hb => by rw [hb] at h1; rw [drop_at s h]; exact h1⟩
                    clear hDe hpq hjl
                    by_cases hpl : p < s.size
                    · have HPD := Lib.hid (hpe hpl)
                      clear hpe
                      go_wp2_with fail
                      refine (rdigit_any s[p] _).mono ?_; rw [HPD.out]; rintro e w' ⟨rfl, rfl⟩
                      go_wp2_with fail
                      go_loop [5] (fun i => ∃ k' : Nat, k' ≤ s.size ∧ i = .int .i64 k' ∧ Hid (p ≤ k' ∧ trimB (s.toList.drop k') = trimB (s.toList.drop p))) (fun i => s.size - (intOf i).toNat)
                      case atStart => exact ⟨p, hp, by first | rfl | (rw [hps]), Nat.le_refl _, rfl⟩
                      case round =>
                        obtain ⟨k', hk', rfl, HK'⟩ := hrel
                        by_cases h5 : k' < s.size
                        · cases hb' : isBlank s[k'] with
                          | true =>
                            have HN := Lib.hid ((TR.out k' HK'.out.1 HK'.out.2 h5).1 hb')
                            have HB' := Lib.hid hb'
                            clear hb'
                            go_wp2_with fail
                            refine (rblank_any s[k'] _).mono ?_; rw [HB'.out]; rintro e w' ⟨rfl, rfl⟩
                            go_wp2_with fail
                            go_round
                            case rel => exact ⟨k' + 1, by omega, by go_num, by have := HK'.out.1; exact ⟨by omega, HN.out⟩⟩
                            case measure => simp [intOf]; omega
                          | false =>
                            have HZ := Lib.hid (LAST.out k' hk' ((TR.out k' HK'.out.1 HK'.out.2 h5).2 hb'))
                            have HB' := Lib.hid hb'
                            clear hb'
                            go_wp2_with fail
                            refine (rblank_any s[k'] _).mono ?_; rw [HB'.out]; rintro e w' ⟨rfl, rfl⟩
                            go_wp2_with fail
                            go_ret3
                            exact ⟨by rw [HZ.out]; rfl, rfl⟩
                        · have hks : k' = s.size := by omega
                          have HZ := Lib.hid (LAST.out k' hk' (by have := HK'.out.2; rw [drop_end s (by omega)] at this ⊢; exact (this.symm.trans rfl).symm))
                          rw [hks] at HZ
                          go_wp2_with fail
                          go_ret3
                          exact ⟨by rw [HZ.out]; rfl, rfl⟩
                    · have hps : p = s.size := by omega
                      clear hpe
                      go_wp2_with fail
                      go_loop [5] (fun i => ∃ k' : Nat, k' ≤ s.size ∧ i = .int .i64 k' ∧ Hid (p ≤ k' ∧ trimB (s.toList.drop k') = trimB (s.toList.drop p))) (fun i => s.size - (intOf i).toNat)
                      case atStart => exact ⟨p, hp, by first | rfl | (rw [hps]), Nat.le_refl _, rfl⟩
                      case round =>
                        obtain ⟨k', hk', rfl, HK'⟩ := hrel
                        by_cases h5 : k' < s.size
                        · cases hb' : isBlank s[k'] with
                          | true =>
                            have HN := Lib.hid ((TR.out k' HK'.out.1 HK'.out.2 h5).1 hb')
                            have HB' := Lib.hid hb'
                            clear hb'
                            go_wp2_with fail
                            refine (rblank_any s[k'] _).mono ?_; rw [HB'.out]; rintro e w' ⟨rfl, rfl⟩
                            go_wp2_with fail
                            go_round
                            case rel => exact ⟨k' + 1, by omega, by go_num, by have := HK'.out.1; exact ⟨by omega, HN.out⟩⟩
                            case measure => simp [intOf]; omega
                          | false =>
                            have HZ := Lib.hid (LAST.out k' hk' ((TR.out k' HK'.out.1 HK'.out.2 h5).2 hb'))
                            have HB' := Lib.hid hb'
                            clear hb'
                            go_wp2_with fail
                            refine (rblank_any s[k'] _).mono ?_; rw [HB'.out]; rintro e w' ⟨rfl, rfl⟩
                            go_wp2_with fail
                            go_ret3
                            exact ⟨by rw [HZ.out]; rfl, rfl⟩
                        · have hks : k' = s.size := by omega
                          have HZ := Lib.hid (LAST.out k' hk' (by have := HK'.out.2; rw [drop_end s (by omega)] at this ⊢; exact (this.symm.trans rfl).symm))
                          rw [hks] at HZ
                          go_wp2_with fail
                          go_ret3
                          exact ⟨by rw [HZ.out]; rfl, rfl⟩
            · have HZ : Hid (t = (0, 0, false)) := by
                show _ = _
                rw [HT.out]
                exact begin_none (by rw [(digs_trim s hlt HTR.out).1, HSG.out]; exact digs_nil_end s (by omega))
              have hqe : ((k : Int) == (s.size : Int)) = true := by simp; omega
              go_wp2_with (go_at_call 142; refine (rblank_any s[k] _).mono ?_; rw [HB.out]; rintro e w' ⟨rfl, rfl⟩)
              go_ret3
              exact ⟨by rw [HZ.out]; rfl, rfl⟩
    · have HZ : Hid (t = (0, 0, false)) := by
        show _ = _
        rw [HT.out]
        have := HK.out
        rw [drop_end s (by omega)] at this
        exact begin_nil (this.symm.trans rfl)
      have hke : k = s.size := by omega
      subst hke
      go_wp2_with fail
      go_ret3
      exact ⟨by rw [HZ.out]; rfl, rfl⟩
set_option maxHeartbeats 1600000 in
theorem rnumeric_any (s : ByteArray) (hs : s.size ≤ 140737488351232) (w : World) : Calls Tryz.prog 83 #[.string s] w fun e w' => e = .returned (.tuple #[.int .i64 (numericP s.toList).1, .bool (numericP s.toList).2]) ∧ w = w' := by
  have HC := rbegin_any s hs w
  unfold beginT at HC
  cases hn : numOf s.toList with
  | none =>
    rw [hn] at HC
    have e3 : numericP s.toList = (0, false) := by unfold numericP; rw [hn]
    rw [e3]
    clear hn e3
    go_enter Tryz.func83, Tryz.ntmps83
    go_wp2_with fail
    refine HC.mono ?_
    rintro e w1 ⟨rfl, rfl⟩
    clear HC
    go_wp2_with fail
    go_ret2
    exact ⟨rfl, rfl⟩
  | some x =>
    obtain ⟨n, r⟩ := x
    rw [hn] at HC
    have hrl : r.length ≤ s.size := by
      unfold numOf at hn
      split at hn
      · cases hn
      · obtain rfl := (Prod.mk.inj (Option.some.inj hn)).2
        have h1 := dropWhile_le (p := isBlank) ((trimB s.toList).drop (signLen (trimB s.toList) + (digs (trimB s.toList)).length))
        have h2 := dropWhile_le (p := isBlank) s.toList
        rw [List.length_drop] at h1
        rw [size_toList] at h2
        unfold trimB at h1 ⊢
        omega
    rw [size_toList] at HC
    obtain ⟨E, hE⟩ : ∃ E : Int, E = (s.size : Int) - r.length := ⟨_, rfl⟩
    simp only [← hE] at HC
    by_cases hr : r = []
    · have e3 : numericP s.toList = (n, true) := by unfold numericP; rw [hn, hr]
      rw [e3]
      have hl : decide (E < (s.size : Int)) = false := by rw [hE, hr]; simp
      clear hn e3 hrl hr hE
      go_enter Tryz.func83, Tryz.ntmps83
      go_wp2_with fail
      refine HC.mono ?_
      rintro e w1 ⟨rfl, rfl⟩
      clear HC
      go_wp2_with fail
      go_ret2
      exact ⟨rfl, rfl⟩
    · have e3 : numericP s.toList = (0, false) := by
        unfold numericP
        rw [hn]
        cases r with
        | nil => exact absurd rfl hr
        | cons a b => rfl
      rw [e3]
      have hl : decide (E < (s.size : Int)) = true := by
        rw [hE]
        have : r.length ≠ 0 := fun e => hr (List.eq_nil_of_length_eq_zero e)
        simp; omega
      clear hn e3 hrl hr hE
      go_enter Tryz.func83, Tryz.ntmps83
      go_wp2_with fail
      refine HC.mono ?_
      rintro e w1 ⟨rfl, rfl⟩
      clear HC
      go_wp2_with fail
      go_ret2
      exact ⟨rfl, rfl⟩
theorem rnorm_num_walk (n : Int) (t : ByteArray) (w : World) : Calls Tryz.prog 47 #[.agg #[.bool false, .int .i64 n, .string t]] w (KeyPost w ⟨false, n, ⟨#[]⟩⟩) := by
  go_enter Tryz.func47, Tryz.ntmps47
  go_wp2_with fail
  exact bodyPost_ret (v := K.v ⟨false, n, ⟨#[]⟩⟩) (by simp [results, Tryz.results47, go_sem, K.v]) rfl ⟨rfl, ((Below.refl _ w).alloc (Nat.le_refl _) _).alloc (by simp) _⟩
set_option maxHeartbeats 3200000 in
theorem rnorm_bad_walk (n : Int) (t : ByteArray) (x : Int) (HC : ∀ w, Calls Tryz.prog 83 #[.string t] w fun e w' => e = .returned (.tuple #[.int .i64 x, .bool false]) ∧ w = w') (w : World) : Calls Tryz.prog 47 #[.agg #[.bool true, .int .i64 n, .string t]] w (KeyPost w ⟨true, 0, t⟩) := by
  have A1 := Lib.hid (at2_start w (KB true n t) (KB false 0 ⟨#[]⟩))
  go_enter Tryz.func47, Tryz.ntmps47
  go_wp2_with fail
  refine (HC _).mono ?_; rintro e w1 ⟨rfl, rfl⟩; clear HC
  generalize hW : ((w.alloc (Obj.cells #[.bool true, .int .i64 n, .string t] 62)).alloc (Obj.cells #[.bool false, .int .i64 0, .string ⟨#[]⟩] 62)) = w1 at A1
  clear hW
  obtain ⟨a0, a1, a2⟩ := cells3 A1.out.a
  obtain ⟨b0, b1, b2⟩ := cells3 A1.out.b
  obtain ⟨f0, f1, f2⟩ := free3 A1.out.b
  go_wp2_with fail
  go_quiet (fail)
  go_wp2_with fail
  obtain ⟨g0, g1, g2⟩ := cells3 (set3 (W := w1.drewN nq) A1.out.b true 0 t)
  exact bodyPost_ret (v := K.v ⟨true, 0, t⟩) (by simp [results, Tryz.results47, go_sem, K.v, g0, g1, g2]) rfl ⟨rfl, set3_below (belowN A1.out.below nq) (by simp) _ _ _⟩
set_option maxHeartbeats 3200000 in
theorem rnorm_ok_walk (n : Int) (t : ByteArray) (x : Int) (q : Bool) (s : ByteArray) (r : K) (hr : r = if q then ⟨false, x, ⟨#[]⟩⟩ else ⟨true, 0, t⟩) (hq' : (s.toList == t.toList) = q) (HC : ∀ w, Calls Tryz.prog 83 #[.string t] w fun e w' => e = .returned (.tuple #[.int .i64 x, .bool true]) ∧ w = w')
    (HI' : ∀ w, Calls Tryz.prog 61 #[.int .i64 x] w fun e w' => e = .returned (.string s) ∧ Below w.heap.size w w') (w : World) (ht : Tabs w) : Calls Tryz.prog 47 #[.agg #[.bool true, .int .i64 n, .string t]] w (KeyPost w r) := by
  have HR := Lib.hid hr
  have HTS := Lib.hid ht
  have A1 := Lib.hid (at2_start w (KB true n t) (KB false 0 ⟨#[]⟩))
  clear hr ht
  go_enter Tryz.func47, Tryz.ntmps47
  go_wp2_with fail
  refine (HC _).mono ?_; rintro e w1 ⟨rfl, rfl⟩; clear HC
  generalize hW : ((w.alloc (Obj.cells #[.bool true, .int .i64 n, .string t] 62)).alloc (Obj.cells #[.bool false, .int .i64 0, .string ⟨#[]⟩] 62)) = w1 at A1
  clear hW
  go_wp2_with fail
  have HS0 : S2 w w.heap.size (KB true n t) (KB false 0 ⟨#[]⟩) w1 := ⟨HTS.out, A1.out⟩
  clear A1
  go_region_held3 (fun W => W.cell? ⟨w.heap.size, 2, none⟩ = some (.string t) ∧ S2 w w.heap.size (KB true n t) (KB false 0 ⟨#[]⟩) W)
    (first
      | assumption
      | (refine keyS (S2.mono (keyS2 ?_) hb); assumption)
      | (refine keyS (S2.drew ?_); assumption))
    (first
      | (go_at_call 61; refine (HI' _).mono ?_; rintro e wq ⟨rfl, hb⟩))
  obtain ⟨hS, A2⟩ := (‹_ ∧ S2 _ _ _ _ _› : _ ∧ S2 _ _ _ _ _)
  obtain ⟨a0, a1, a2⟩ := cells3 A2.2.a
  obtain ⟨b0, b1, b2⟩ := cells3 A2.2.b
  obtain ⟨f0, f1, f2⟩ := free3 A2.2.b
  clear hS
  cases q
  · have e : r = ⟨true, 0, t⟩ := HR.out
    subst e
    clear HR
    go_wp2_with fail
    obtain ⟨g0, g1, g2⟩ := cells3 (set3 A2.2.b true 0 t)
    exact bodyPost_ret (v := K.v ⟨true, 0, t⟩) (by simp [results, Tryz.results47, go_sem, K.v, g0, g1, g2]) rfl ⟨rfl, set3_below A2.below (by simp) _ _ _⟩
  · have e : r = ⟨false, x, ⟨#[]⟩⟩ := HR.out
    subst e
    clear HR
    go_wp2_with fail
    obtain ⟨g0, g1, g2⟩ := cells3 (set3 A2.2.b false x ⟨#[]⟩)
    exact bodyPost_ret (v := K.v ⟨false, x, ⟨#[]⟩⟩) (by simp [results, Tryz.results47, go_sem, K.v, g0, g1, g2]) rfl ⟨rfl, set3_below A2.below (by simp) _ _ _⟩

theorem rnorm_any (k : K) (hk : k.Good) (w : World) (ht : Tabs w) : Calls Tryz.prog 47 #[k.v] w (KeyPost w k.norm) := by
  obtain ⟨b, n, t⟩ := k
  cases b with
  | false => exact rnorm_num_walk n t w
  | true =>
    have hs : t.size ≤ 140737488351232 := hk.sz
    have HN := rnumeric_any t hs
    have hb := numericP_bounds t.toList
    obtain ⟨⟨x, ok⟩, hx⟩ : ∃ x, x = numericP t.toList := ⟨_, rfl⟩
    rw [← hx] at HN hb
    cases ok with
    | false =>
      have e : K.norm ⟨true, n, t⟩ = ⟨true, 0, t⟩ := by unfold K.norm canonP; simp [← hx]
      rw [e]
      exact rnorm_bad_walk n t x HN w
    | true =>
      refine rnorm_ok_walk n t x (Lib.itoa x == t.toList) (str (Lib.itoa x)) _ ?_ (by rw [str_toList]) HN (fun w => rdigits_any x hb.1 hb.2 w) w ht
      unfold K.norm canonP
      simp only [← hx, if_true, Bool.true_and]
      cases (Lib.itoa x == t.toList) <;> rfl
end Go.Proofs.YtnaefnojmiolbaaGreatDoor.Doc
