/-
  The walks of the document's named, Name, same, begins, valued (layer 11).
-/
import Derived.Test.YthnhpnmopjbaoaaDoorNameB11
import Derived.Test.YthnhpnmopjbaoaaDoorLineA11
namespace Go.Proofs.YthnhpnmopjbaoaaDoor
open Go.RowKit

theorem named_ways (c : UInt8) {x : Int} (hx : (c.toNat : Int) = x) :
    (nameC c = true ∧ ((decide (65 ≤ x) = true ∧ decide (x ≤ 90) = true) ∨ (decide (65 ≤ x) = true ∧ decide (x ≤ 90) = false ∧ decide (97 ≤ x) = true ∧ decide (x ≤ 122) = true) ∨
      (decide (65 ≤ x) = false ∧ decide (97 ≤ x) = false ∧ decide (48 ≤ x) = true ∧ decide (x ≤ 57) = true) ∨ x = 45)) ∨
    (nameC c = false ∧ (x == 45) = false ∧
      ((decide (65 ≤ x) = false ∧ decide (97 ≤ x) = false ∧ decide (48 ≤ x) = false) ∨
       (decide (65 ≤ x) = false ∧ decide (97 ≤ x) = false ∧ decide (48 ≤ x) = true ∧ decide (x ≤ 57) = false) ∨
       (decide (65 ≤ x) = true ∧ decide (x ≤ 90) = false ∧ decide (97 ≤ x) = false ∧ decide (48 ≤ x) = true ∧ decide (x ≤ 57) = false) ∨
       (decide (65 ≤ x) = true ∧ decide (x ≤ 90) = false ∧ decide (97 ≤ x) = true ∧ decide (x ≤ 122) = false ∧ decide (48 ≤ x) = true ∧ decide (x ≤ 57) = false))) := by
  have hk : nameC c = true ↔ (97 ≤ c.toNat ∧ c.toNat ≤ 122) ∨ (65 ≤ c.toNat ∧ c.toNat ≤ 90) ∨ (48 ≤ c.toNat ∧ c.toNat ≤ 57) ∨ c.toNat = 45 := by
    unfold nameC; simp [or_assoc]
  simp only [decide_eq_true_eq, decide_eq_false_iff_not, beq_eq_false_iff_ne, ne_eq]
  cases h : nameC c with
  | true =>
    have := hk.1 h
    refine .inl ⟨rfl, ?_⟩
    omega
  | false =>
    have h' : ¬ nameC c = true := by rw [h]; simp
    rw [hk] at h'
    refine .inr ⟨rfl, ?_⟩
    omega
set_option maxRecDepth 100000 in
theorem rnamed_any (c : UInt8) (w : World) : Calls Tryd.prog 54 #[.int .u8 c.toNat] w fun e w' => e = .returned (.bool (nameC c)) ∧ w = w' := by
  obtain ⟨x, hx⟩ : ∃ x : Int, (c.toNat : Int) = x := ⟨_, rfl⟩
  rcases named_ways c hx with ⟨hv, hk⟩ | ⟨hv, e1, hk⟩
  · rw [hx, hv]
    clear hv hx
    rcases hk with ⟨d1, d2⟩ | ⟨d1, d2, d3, d4⟩ | ⟨d1, d2, d3, d4⟩ | rfl
    all_goals
      go_enter Tryd.func54, Tryd.ntmps54
      go_wp2_with fail
      go_ret
      exact ⟨rfl, rfl⟩
  · rw [hx, hv]
    clear hv hx
    rcases hk with ⟨d1, d2, d3⟩ | ⟨d1, d2, d3, d4⟩ | ⟨d1, d2, d3, d4, d5⟩ | ⟨d1, d2, d3, d4, d5, d6⟩
    all_goals
      go_enter Tryd.func54, Tryd.ntmps54
      go_wp2_with fail
      go_ret
      exact ⟨rfl, rfl⟩
/-- A line's name, as it stands. -/
def rnameP (s : ByteArray) : Bs := if (nameP s).isSome = true then (cutP s 58).1.toList else []
theorem nameP_rname (s : ByteArray) : nameV s = (rnameP s).map lowC := by
  unfold nameV rnameP
  cases h : nameP s with
  | none => rfl
  | some a =>
    simp only [Option.isSome_some, if_true, Option.getD_some]
    unfold nameP at h
    split at h
    · exact (Option.some.inj h).symm
    · cases h
theorem rname_none {s : ByteArray} : nameP s = none ↔ rnameP s = [] := by
  unfold rnameP
  cases h : nameP s with
  | none => simp
  | some a =>
    simp only [Option.isSome_some, if_true]
    unfold nameP at h
    split at h
    · rename_i hc
      constructor
      · intro e; cases e
      · intro e
        have := size_toList (cutP s 58).1
        rw [e] at this
        simp at this
        omega
    · cases h
/-- How far a name goes. -/
theorem rname_val {s : ByteArray} {k : Nat} (hk : k ≤ s.size) (ha : ∀ j (h : j < s.size), j < k → nameC s[j] = true) (he : ∀ h : k < s.size, nameC s[k] = false) :
    rnameP s = if 1 ≤ k ∧ k ≤ 64 ∧ ∃ h : k < s.size, s[k].toNat = 58 then s.toList.take k else [] := by
  have hno : ∀ j (h : j < s.size), j < k → s[j] ≠ 58 := fun j h hj e => by
    have := ha j h hj
    rw [e] at this
    exact absurd this (by decide)
  have hget : ∀ j (h : j < s.size), s.data.toList[j]? = some s[j] := fun j h => by
    rw [← ByteArray.toList_eq, List.getElem?_eq_getElem (by rw [size_toList]; exact h), toList_at h]
  by_cases h58 : ∃ h : k < s.size, s[k].toNat = 58
  · obtain ⟨hlt, h58⟩ := h58
    have e58 : s[k] = 58 := UInt8.toNat_inj.1 h58
    have hix : Lib.indexByte s.data.toList 58 = (k : Int) := by
      have h1 := Lib.indexByte_ge s.data.toList 58
      rcases Int.lt_or_le (Lib.indexByte s.data.toList 58) 0 with h | h
      · have := Lib.indexByte_none (l := s.data.toList) (c := 58) (by omega) k
        rw [hget k hlt, e58] at this
        exact absurd rfl this
      · obtain ⟨m, hm⟩ : ∃ m : Nat, Lib.indexByte s.data.toList 58 = m := ⟨_, (Int.toNat_of_nonneg h).symm⟩
        obtain ⟨a1, a2⟩ := Lib.indexByte_some hm
        have hml : m < s.size := by
          have := (List.getElem?_eq_some_iff.1 a1).1
          have e2 : s.data.toList.length = s.size := Array.length_toList
          omega
        rw [hget m hml] at a1
        rcases Nat.lt_trichotomy m k with h | h | h
        · exact absurd (Option.some.inj a1) (hno m hml h)
        · rw [hm, h]
        · have := a2 k h
          rw [hget k hlt, e58] at this
          exact absurd rfl this
    have hcut : cutP s 58 = (s.extract 0 k, s.extract (k + 1) s.size, true) := by
      unfold cutP
      rw [hix, if_pos (by omega)]
      rfl
    have hsz : (s.extract 0 k).size = k := by rw [ByteArray.size_extract]; omega
    have htk : (s.extract 0 k).toList = s.toList.take k := by
      rw [ByteArray.toList_eq, ByteArray.data_extract, Array.toList_extract, ← ByteArray.toList_eq]
      simp
    have hall : (s.toList.take k).all nameC = true := by
      rw [List.all_eq_true]
      intro x hx
      obtain ⟨j, hj, rfl⟩ := List.getElem_of_mem hx
      rw [List.length_take, size_toList] at hj
      rw [List.getElem_take, toList_at (by omega)]
      exact ha j (by omega) (by omega)
    unfold rnameP nameP
    rw [hcut]
    simp only [hsz, htk, true_and]
    by_cases hc : 1 ≤ k ∧ k ≤ 64
    · have h3 : 1 ≤ k ∧ k ≤ 64 ∧ ∃ h : k < s.size, s[k].toNat = 58 := ⟨hc.1, hc.2, hlt, h58⟩
      have h4 : 1 ≤ k ∧ k ≤ 64 ∧ (s.toList.take k).all nameC = true := ⟨hc.1, hc.2, hall⟩
      simp only [if_pos h3, if_pos h4, Option.isSome_some, if_true]
    · have h3 : ¬ (1 ≤ k ∧ k ≤ 64 ∧ ∃ h : k < s.size, s[k].toNat = 58) := fun e => hc ⟨e.1, e.2.1⟩
      have h4 : ¬ (1 ≤ k ∧ k ≤ 64 ∧ (s.toList.take k).all nameC = true) := fun e => hc ⟨e.1, e.2.1⟩
      simp only [if_neg h3, if_neg h4, Option.isSome_none, Bool.false_eq_true, if_false]
  · rw [if_neg (fun e => h58 e.2.2)]
    rw [← rname_none]
    unfold nameP
    rw [if_neg]
    rintro ⟨hf, h1, h2, h3⟩
    have h0 := Lib.indexByte_ge s.data.toList 58
    rcases Int.lt_or_le (Lib.indexByte s.data.toList 58) 0 with h | h
    · unfold cutP at hf
      rw [if_neg (by omega)] at hf
      cases hf
    · obtain ⟨m, hm⟩ : ∃ m : Nat, Lib.indexByte s.data.toList 58 = m := ⟨_, (Int.toNat_of_nonneg h).symm⟩
      obtain ⟨a1, a2⟩ := Lib.indexByte_some hm
      have hml : m < s.size := by
        have := (List.getElem?_eq_some_iff.1 a1).1
        have e2 : s.data.toList.length = s.size := Array.length_toList
        omega
      rw [hget m hml] at a1
      have hkm : k < m := by
        rcases Nat.lt_trichotomy m k with h | h | h
        · exact absurd (Option.some.inj a1) (hno m hml h)
        · exact absurd ⟨by omega, by subst h; rw [Option.some.inj a1]; rfl⟩ h58
        · exact h
      have hcut : (cutP s 58).1 = s.extract 0 m := by
        unfold cutP
        rw [hm, if_pos (by omega)]
        rfl
      have htk : (s.extract 0 m).toList = s.toList.take m := by
        rw [ByteArray.toList_eq, ByteArray.data_extract, Array.toList_extract, ← ByteArray.toList_eq]
        simp
      rw [hcut, htk, List.all_eq_true] at h3
      have := h3 s[k] (by
        rw [List.mem_take_iff_getElem]
        exact ⟨k, by rw [size_toList]; omega, toList_at (by omega)⟩)
      rw [he (by omega)] at this
      cases this
set_option maxHeartbeats 1600000 in
set_option maxRecDepth 100000 in
theorem rname_any (s : ByteArray) (hs : s.size ≤ 140737488351232) (w : World) : Calls Tryd.prog 31 #[.string s] w fun e w' => e = .returned (.string (str (rnameP s))) ∧ w = w' := by
  have HN := fun c w => rnamed_any c w
  obtain ⟨r, hr⟩ : ∃ r, r = rnameP s := ⟨_, rfl⟩
  rw [← hr]
  have HR := Lib.hid hr
  clear hr
  go_enter Tryd.func31, Tryd.ntmps31
  go_wp2_with fail
  go_loopw [3] (fun kv wr => ∃ k : Nat, k ≤ s.size ∧ kv = .int .i64 k ∧ Hid (∀ j (h : j < s.size), j < k → nameC s[j] = true) ∧ w = wr) (fun kv _ => s.size - (intOf kv).toNat)
  case atStart => exact ⟨0, Nat.zero_le _, rfl, fun j _ h => absurd h (Nat.not_lt_zero j), rfl⟩
  case round =>
    obtain ⟨k, hk, rfl, HA, rfl⟩ := hrel
    have hend : (∀ h : k < s.size, nameC s[k] = false) → r = if 1 ≤ k ∧ k ≤ 64 ∧ ∃ h : k < s.size, s[k].toNat = 58 then s.toList.take k else [] := fun he => HR.out.trans (rname_val hk HA.out he)
    have HEND := Lib.hid hend
    clear hend
    by_cases hlt : k < s.size
    · have hi : (k : Int) < (s.size : Int) := by omega
      have hw : IntKind.i64.wrap ((k : Int) + 1) = (k : Int) + 1 := by rw [IntKind.wrap_i64]; omega
      have hw' : wrap64 ((k : Int) + 1) = (k : Int) + 1 := wr64 (by omega) (by omega)
      have HNk := HN s[k] w
      cases hc : nameC s[k] with
      | true =>
        rw [hc] at HNk
        have HA2 : Hid (∀ j (h : j < s.size), j < k + 1 → nameC s[j] = true) := Lib.hid (fun j h hj => by
          rcases Nat.lt_succ_iff_lt_or_eq.1 hj with h' | rfl
          · exact HA.out j h h'
          · exact hc)
        clear hc
        go_wp2_with fail
        refine HNk.mono ?_
        rintro e w1 ⟨rfl, rfl⟩
        clear HNk
        go_wp2_with fail
        go_roundw
        case rel => exact ⟨k + 1, hlt, by go_num, HA2, trivial⟩
        case measure => simp [intOf]; omega
      | false =>
        rw [hc] at HNk
        have hr := HEND.out (fun _ => hc)
        by_cases h1 : 1 ≤ k
        · have d1 : decide ((k : Int) < 1) = false := by simp; omega
          by_cases h2 : k ≤ 64
          · have d2 : decide (64 < (k : Int)) = false := by simp; omega
            have d3 : ((k : Int) == (s.size : Int)) = false := by simp; omega
            obtain ⟨x, hx⟩ : ∃ x : Int, (s[k].toNat : Int) = x := ⟨_, rfl⟩
            rw [hx] at HNk
            by_cases h58 : s[k].toNat = 58
            · have d4 : (x != 58) = false := by simp; omega
              have HF : Hid (str r = s.extract 0 k) := Lib.hid (by
                rw [hr, if_pos ⟨h1, h2, hlt, h58⟩]
                have htk : (s.extract 0 k).toList = s.toList.take k := by
                  rw [ByteArray.toList_eq, ByteArray.data_extract, Array.toList_extract, ← ByteArray.toList_eq]
                  simp
                rw [← htk, str_of])
              have g1 : (k : Int) ≤ (s.size : Int) := by omega
              clear hc h1 h2 h58 hr
              go_wp2_with fail
              refine HNk.mono ?_
              rintro e w1 ⟨rfl, rfl⟩
              clear HNk
              go_wp2_with fail
              go_ret
              exact ⟨by rw [HF.out]; rfl, rfl⟩
            · have d4 : (x != 58) = true := by simp; omega
              have HF : Hid (r = []) := Lib.hid (by rw [hr]; exact if_neg (fun e => h58 e.2.2.2))
              clear hc h1 h2 h58 hr
              go_wp2_with fail
              refine HNk.mono ?_
              rintro e w1 ⟨rfl, rfl⟩
              clear HNk
              go_wp2_with fail
              go_ret
              exact ⟨by rw [HF.out]; rfl, rfl⟩
          · have d2 : decide (64 < (k : Int)) = true := by simp; omega
            have HF : Hid (r = []) := Lib.hid (by rw [hr]; exact if_neg (fun e => h2 e.2.1))
            clear hc h1 h2 hr
            go_wp2_with fail
            refine HNk.mono ?_
            rintro e w1 ⟨rfl, rfl⟩
            clear HNk
            go_wp2_with fail
            go_ret
            exact ⟨by rw [HF.out]; rfl, rfl⟩
        · have d1 : decide ((k : Int) < 1) = true := by simp; omega
          have HF : Hid (r = []) := Lib.hid (by rw [hr]; exact if_neg (fun e => h1 e.1))
          clear hc h1 hr
          go_wp2_with fail
          refine HNk.mono ?_
          rintro e w1 ⟨rfl, rfl⟩
          clear HNk
          go_wp2_with fail
          go_ret
          exact ⟨by rw [HF.out]; rfl, rfl⟩
    · obtain rfl : k = s.size := by omega
      have HF : Hid (r = []) := Lib.hid (by rw [HEND.out (fun h => absurd h hlt)]; exact if_neg (fun e => hlt e.2.2.1))
      have d3 : ((s.size : Int) == (s.size : Int)) = true := by simp
      by_cases h1 : decide ((s.size : Int) < 1) = true
      · go_wp2_with fail
        go_ret
        exact ⟨by rw [HF.out]; rfl, rfl⟩
      · have h1 : decide ((s.size : Int) < 1) = false := by simpa using h1
        by_cases h2 : decide (64 < (s.size : Int)) = true
        · go_wp2_with fail
          go_ret
          exact ⟨by rw [HF.out]; rfl, rfl⟩
        · have h2 : decide (64 < (s.size : Int)) = false := by simpa using h2
          go_wp2_with fail
          go_ret
          exact ⟨by rw [HF.out]; rfl, rfl⟩
end Go.Proofs.YthnhpnmopjbaoaaDoor
