/-
  The walk of ConvBack.
-/
import Derived.Test.YtgpdhmgbmhfooaaDoorAlive06
import Derived.Test.YtgpdhmgbmhfooaaDoorBackLaw06
import Derived.Lib.ItoaLen
namespace Go.Proofs.YtgpdhmgbmhfooaaDoor
open Go.RowKit

def thin (c : UInt8) : Prop := c.toNat = 32 ∨ c.toNat = 9 ∨ c.toNat = 10
theorem thin_blank {c : UInt8} (h : thin c) : isBlank c = true := by
  rw [isBlank_iff]
  unfold thin at h
  omega
theorem itoa_short {n : Int} (h0 : -9223372036854775808 ≤ n) (h1 : n ≤ 9223372036854775807) : (Lib.itoa n).length ≤ 40 := by
  by_cases h : n = 0
  · subst h; rw [itoa_zero]; decide
  · have hd := digits_short h0 h1
    have e : digitsP n.natAbs = Lib.decDigits n.natAbs := by unfold digitsP; rw [if_neg (by omega)]
    rw [e] at hd
    rw [itoa_form]
    simp only [List.length_append]
    split <;> simp <;> omega
set_option maxHeartbeats 3200000 in
theorem back_any (n : Int) (a : ByteArray) (h0 : -9223372036854775808 ≤ n) (h1 : n ≤ 9223372036854775807) (ha : a.size ≤ 140737488351232) (w : World) (ht : Tabs w) : Calls Tryd.prog 10 #[.int .i64 n, .string a] w (BoolPost w true) := by
  obtain ⟨s, hs⟩ : ∃ s, s = str (Lib.itoa n) := ⟨_, rfl⟩
  have hl : s.toList = Lib.itoa n := by rw [hs, str_toList]
  have hsz : s.size ≤ 40 := by rw [← size_toList, hl]; exact itoa_short h0 h1
  have HD : ∀ w, Tabs w → Calls Tryd.prog 35 #[.int .i64 n] w fun e w' => e = .returned (.string s) ∧ Below w.heap.size w w' := fun w h => by
    rw [hs]; exact digits_any n h0 h1 w h
  have HN : ∀ w, Tabs w → Calls Tryd.prog 30 #[.string s] w (PairPost w (n, true)) := fun w h => by
    have := numeric_any s (by omega) w h
    rw [hl, numeric_itoa0 h0 h1] at this
    exact this
  have HB : ∀ w, Tabs w → Calls Tryd.prog 32 #[.string (s ++ ⟨#[120]⟩)] w (IntPost w n) := fun w h => by
    have e : (s ++ (⟨#[120]⟩ : ByteArray)).toList = Lib.itoa n ++ [120] := by rw [hs, show (⟨#[120]⟩ : ByteArray) = str [120] from rfl, str_append, str_toList]
    have := begins_any (s ++ ⟨#[120]⟩) (by rw [← size_toList, e, List.length_append, ← hl, size_toList]; simp; omega) w h
    rw [e, begins_itoa h0 h1 [120] (by rfl)] at this
    exact this
  have HZ : (∀ c ∈ a.toList, isBlank c = true) → ∀ w, Tabs w → Calls Tryd.prog 30 #[.string (a ++ s ++ a)] w (PairPost w (n, true)) := fun hb w h => by
    have e : (a ++ s ++ a).toList = a.toList ++ Lib.itoa n ++ a.toList := by rw [hs, ← str_of a, str_append, str_append, str_toList, str_toList]
    have := numeric_big (a ++ s ++ a) (by rw [← size_toList, e, List.length_append, List.length_append, ← hl, size_toList, size_toList]; omega) w h
    rw [e, numeric_itoa h0 h1 _ _ hb hb] at this
    exact this
  have HA := alive_any
  have HTS := Lib.hid ht
  have HZ' := Lib.hid HZ
  clear ht hs hl HZ
  go_enter Tryd.func10, Tryd.ntmps10
  go_wp2_with fail
  refine (HD _ HTS.out).mono ?_; rintro e w1 ⟨rfl, hb⟩; have B1 := Lib.hid hb; clear hb HD
  go_wp2_with fail
  refine (HN _ (HTS.out.mono B1.out)).mono ?_; rintro e w2 ⟨rfl, hb⟩; have B2 := Lib.hid (B1.out.trans (hb.mono B1.out.size)); clear B1 hb HN
  go_wp2_with fail
  refine (HB _ (HTS.out.mono B2.out)).mono ?_; rintro e w3 ⟨rfl, hb⟩; have B3 := Lib.hid (B2.out.trans (hb.mono B2.out.size)); clear B2 hb HB
  go_wp2_with fail
  refine (HA _ (HTS.out.mono B3.out)).mono ?_; rintro e w4 ⟨rfl, hb⟩; have B4 := Lib.hid (B3.out.trans (hb.mono B3.out.size)); clear B3 hb HA
  go_wp2_with fail
  go_loop [8] (fun i => ∃ k : Nat, k ≤ a.size ∧ i = .int .i64 k ∧ Hid (∀ c ∈ a.toList.take k, isBlank c = true)) (fun i => a.size - (intOf i).toNat)
  case atStart => exact ⟨0, Nat.zero_le _, rfl, by show ∀ _, _; simp⟩
  case round =>
    obtain ⟨k, hk, rfl, HK⟩ := hrel
    by_cases hlt : k < a.size
    · by_cases hth : thin a[k]
      · have HN1 : Hid (∀ c ∈ a.toList.take (k + 1), isBlank c = true) := by
          show ∀ _, _
          intro c hc
          rw [bl_eq, List.take_succ_eq_append_getElem (by simpa using hlt)] at hc
          rcases List.mem_append.1 hc with h | h
          · exact HK.out c (by rw [bl_eq]; exact h)
          · rw [List.mem_singleton.1 h]; exact thin_blank hth
        by_cases e1 : a[k].toNat = 32
        · have q1 : ((a[k].toNat : Int) != 32) = false := by simp [e1]
          clear hth e1
          go_wp2_with fail
          go_round
          case rel => exact ⟨k + 1, by omega, by go_num, HN1⟩
          case measure => simp [intOf]; omega
        have q1 : ((a[k].toNat : Int) != 32) = true := by simp; omega
        by_cases e2 : a[k].toNat = 9
        · have q2 : ((a[k].toNat : Int) != 9) = false := by simp [e2]
          clear hth e1 e2
          go_wp2_with fail
          go_round
          case rel => exact ⟨k + 1, by omega, by go_num, HN1⟩
          case measure => simp [intOf]; omega
        have q2 : ((a[k].toNat : Int) != 9) = true := by simp; omega
        have q3 : ((a[k].toNat : Int) != 10) = false := by unfold thin at hth; simp; omega
        clear hth e1 e2
        go_wp2_with fail
        go_round
        case rel => exact ⟨k + 1, by omega, by go_num, HN1⟩
        case measure => simp [intOf]; omega
      · have q1 : ((a[k].toNat : Int) != 32) = true := by unfold thin at hth; simp; omega
        have q2 : ((a[k].toNat : Int) != 9) = true := by unfold thin at hth; simp; omega
        have q3 : ((a[k].toNat : Int) != 10) = true := by unfold thin at hth; simp; omega
        clear hth
        go_wp2_with fail
        go_ret
        exact ⟨rfl, B4.out⟩
    · have HY : ∀ w, Tabs w → Calls Tryd.prog 30 #[.string (a ++ s ++ a)] w (PairPost w (n, true)) := HZ'.out (fun c hc => HK.out c (by rw [List.take_of_length_le (by rw [size_toList]; omega)]; exact hc))
      go_wp2_with fail
      refine (HY _ (HTS.out.mono B4.out)).mono ?_; rintro e w5 ⟨rfl, hb⟩; have B5 := Lib.hid (B4.out.trans (hb.mono B4.out.size)); clear B4 hb HY
      go_wp2_with fail
      go_ret
      exact ⟨rfl, B5.out⟩
end Go.Proofs.YtgpdhmgbmhfooaaDoor
