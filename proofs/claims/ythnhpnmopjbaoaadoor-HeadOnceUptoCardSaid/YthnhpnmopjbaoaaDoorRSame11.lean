/-
  The walks of the document's same, begins, valued (layer 11).
-/
import Derived.Test.YthnhpnmopjbaoaaDoorRName11
import Derived.BigQuiet
namespace Go.Proofs.YthnhpnmopjbaoaaDoor
open Go.RowKit

/-- Are two names the same, letters' cases aside? -/
def sameP (a b : ByteArray) : Bool := decide (a.toList.map lowC = b.toList.map lowC)
theorem low_ways (c : UInt8) {x : Int} (hx : (c.toNat : Int) = x) :
    (decide (65 ≤ x) = true ∧ decide (x ≤ 90) = true ∧ ((lowC c).toNat : Int) = x + 32 ∧ IntKind.u8.wrap (x + 32) = x + 32) ∨
    ((decide (65 ≤ x) = false ∨ (decide (65 ≤ x) = true ∧ decide (x ≤ 90) = false)) ∧ ((lowC c).toNat : Int) = x) := by
  by_cases h : 65 ≤ c.toNat ∧ c.toNat ≤ 90
  · refine .inl ⟨by simp; omega, by simp; omega, by rw [lowC_up h.1 h.2]; omega, ?_⟩
    unfold IntKind.wrap; simp [IntKind.bits]; omega
  · refine .inr ⟨?_, by rw [lowC_id h]; exact hx⟩
    by_cases h1 : 65 ≤ x
    · exact .inr ⟨by simp [h1], by simp; omega⟩
    · exact .inl (by simp [h1])
theorem map_low_get {a : ByteArray} {k : Nat} (h : k < a.size) : (a.toList.map lowC)[k]'(by rw [List.length_map, size_toList]; exact h) = lowC a[k] := by
  rw [List.getElem_map, toList_at h]
set_option maxHeartbeats 3200000 in
set_option maxRecDepth 100000 in
theorem rsame_any (a b : ByteArray) (hs : a.size ≤ 140737488351232) (w : World) : Calls Tryd.prog 66 #[.string a, .string b] w fun e w' => e = .returned (.bool (sameP a b)) ∧ ∃ n, w' = w.drewN n := by
  obtain ⟨r, hr⟩ : ∃ r, r = sameP a b := ⟨_, rfl⟩
  rw [← hr]
  have HR := Lib.hid hr
  clear hr
  by_cases hlen : a.size = b.size
  · have d0 : ((a.size : Int) != (b.size : Int)) = false := by simp [hlen]
    go_enter Tryd.func66, Tryd.ntmps66
    go_wp2_with fail
    go_loopw [5, 6, 7] (fun kv _ _ wr => ∃ k n : Nat, k ≤ a.size ∧ kv = .int .i64 k ∧ wr = w.drewN n ∧ Hid (∀ j (h1 : j < a.size) (h2 : j < b.size), j < k → lowC a[j] = lowC b[j])) (fun kv _ _ _ => a.size - (intOf kv).toNat)
    case atStart => exact ⟨0, 0, Nat.zero_le _, rfl, rfl, fun j _ _ h => absurd h (Nat.not_lt_zero j)⟩
    case round =>
      obtain ⟨k, n, hk, rfl, rfl, HE⟩ := hrel
      by_cases hlt : k < a.size
      · have hi : (k : Int) < (a.size : Int) := by omega
        have hlt2 : k < b.size := by omega
        have hi2 : (k : Int) < (b.size : Int) := by omega
        have hw : IntKind.i64.wrap ((k : Int) + 1) = (k : Int) + 1 := by rw [IntKind.wrap_i64]; omega
        have hw' : wrap64 ((k : Int) + 1) = (k : Int) + 1 := wr64 (by omega) (by omega)
        obtain ⟨x, hx⟩ : ∃ x : Int, (a[k].toNat : Int) = x := ⟨_, rfl⟩
        obtain ⟨y, hy⟩ : ∃ y : Int, (b[k].toNat : Int) = y := ⟨_, rfl⟩
        have hwx := low_ways a[k] hx
        have hwy := low_ways b[k] hy
        by_cases he : lowC a[k] = lowC b[k]
        · have HE2 : Hid (∀ j (h1 : j < a.size) (h2 : j < b.size), j < k + 1 → lowC a[j] = lowC b[j]) := Lib.hid (fun j h1 h2 hj => by
            rcases Nat.lt_succ_iff_lt_or_eq.1 hj with h' | rfl
            · exact HE.out j h1 h2 h'
            · exact he)
          rw [he] at hwx
          generalize (lowC b[k]).toNat = z at hwx hwy
          have HLT := Lib.hid hlt
          clear he
          rcases hwx with ⟨p1, p2, p3, p4⟩ | ⟨p1 | ⟨p1, p2⟩, p3⟩ <;> rcases hwy with ⟨q1, q2, q3, q4⟩ | ⟨q1 | ⟨q1, q2⟩, q3⟩
          all_goals
            first
              | (have e : ((x : Int) != y) = false := (by rw [← p3, ← q3]; simp); clear p3 q3)
              | (have e : ((x + 32 : Int) != y) = false := (by rw [← p3, ← q3]; simp); clear p3 q3)
              | (have e : ((x : Int) != y + 32) = false := (by rw [← p3, ← q3]; simp); clear p3 q3)
              | (have e : ((x + 32 : Int) != y + 32) = false := (by rw [← p3, ← q3]; simp); clear p3 q3)
          all_goals
            go_wp2_with fail
            go_quiet (fail)
            go_wp2_with fail
            go_roundw
            case rel => exact ⟨k + 1, _, HLT.out, by go_num, rfl, HE2⟩
            case measure => have := HLT.out; simp [intOf]; omega
        · have HF : Hid (r = false) := Lib.hid (by
            rw [HR.out]
            refine decide_eq_false (fun e => he ?_)
            rw [← map_low_get hlt, ← map_low_get hlt2]
            simp only [e])
          have hne : ((lowC a[k]).toNat : Int) ≠ ((lowC b[k]).toNat : Int) := fun e => he (UInt8.toNat_inj.1 (by omega))
          clear he
          rcases hwx with ⟨p1, p2, p3, p4⟩ | ⟨p1 | ⟨p1, p2⟩, p3⟩ <;> rcases hwy with ⟨q1, q2, q3, q4⟩ | ⟨q1 | ⟨q1, q2⟩, q3⟩
          all_goals
            first
              | (have e : ((x : Int) != y) = true := (by rw [← p3, ← q3]; simpa using hne); clear p3 q3 hne)
              | (have e : ((x + 32 : Int) != y) = true := (by rw [← p3, ← q3]; simpa using hne); clear p3 q3 hne)
              | (have e : ((x : Int) != y + 32) = true := (by rw [← p3, ← q3]; simpa using hne); clear p3 q3 hne)
              | (have e : ((x + 32 : Int) != y + 32) = true := (by rw [← p3, ← q3]; simpa using hne); clear p3 q3 hne)
          all_goals
            go_wp2_with fail
            go_quiet (fail)
            go_wp2_with fail
            go_ret
            exact ⟨by rw [HF.out]; rfl, _, rfl⟩
      · obtain rfl : k = a.size := by omega
        have HF : Hid (r = true) := Lib.hid (by
          rw [HR.out]
          refine decide_eq_true (List.ext_getElem (by rw [List.length_map, List.length_map, size_toList, size_toList, hlen]) (fun j h1 h2 => ?_))
          rw [List.length_map, size_toList] at h1 h2
          rw [map_low_get h1, map_low_get h2]
          exact HE.out j h1 h2 h1)
        go_wp2_with fail
        go_ret
        exact ⟨by rw [HF.out]; rfl, _, rfl⟩
  · have d0 : ((a.size : Int) != (b.size : Int)) = true := by simp; omega
    have HF : Hid (r = false) := Lib.hid (by
      rw [HR.out]
      refine decide_eq_false (fun e => hlen ?_)
      have := congrArg List.length e
      rwa [List.length_map, List.length_map, size_toList, size_toList] at this)
    clear hlen
    go_enter Tryd.func66, Tryd.ntmps66
    go_wp2_with fail
    go_ret
    exact ⟨by rw [HF.out]; rfl, 0, rfl⟩
theorem http_short {s : ByteArray} (h : ¬ 5 ≤ s.size) : httpP s = false := by
  cases hb : httpP s with
  | false => rfl
  | true => exact absurd (begins_size hb) h
theorem http_long {s : ByteArray} (h : 5 ≤ s.size) : ((s.extract 0 5).toList == [72, 84, 84, 80, 47]) = httpP s := by
  have htk : (s.extract 0 5).toList = s.toList.take 5 := by
    rw [ByteArray.toList_eq, ByteArray.data_extract, Array.toList_extract, ← ByteArray.toList_eq]
    simp
  unfold httpP Lib.hasPrefix
  rw [htk, ByteArray.toList_eq]
  have hl : 5 ≤ s.data.toList.length := by
    have e2 : s.data.toList.length = s.size := Array.length_toList
    omega
  rw [Bool.eq_iff_iff]
  simp only [beq_iff_eq, List.isPrefixOf_iff_prefix]
  constructor
  · intro e; rw [← e]; exact List.take_prefix 5 _
  · intro e
    have := List.prefix_iff_eq_take.1 e
    exact this.symm
set_option maxRecDepth 100000 in
theorem rbegins_any (s : ByteArray) (w : World) : Calls Tryd.prog 62 #[.string s] w fun e w' => e = .returned (.bool (httpP s)) ∧ w = w' := by
  by_cases h : 5 ≤ s.size
  · have d0 : decide ((5 : Int) ≤ (s.size : Int)) = true := by simp; omega
    have g1 : (5 : Int) ≤ (s.size : Int) := by omega
    have he := http_long h
    obtain ⟨q, hq⟩ : ∃ q, q = httpP s := ⟨_, rfl⟩
    rw [← hq] at he ⊢
    clear h hq
    go_enter Tryd.func62, Tryd.ntmps62
    go_wp2_with fail
    go_ret
    exact ⟨rfl, rfl⟩
  · have d0 : decide ((5 : Int) ≤ (s.size : Int)) = false := by simp; omega
    rw [http_short h]
    clear h
    go_enter Tryd.func62, Tryd.ntmps62
    go_wp2_with fail
    go_ret
    exact ⟨rfl, rfl⟩
set_option maxHeartbeats 3200000 in
set_option maxRecDepth 100000 in
theorem rvalued_any (s : ByteArray) (hs : s.size ≤ 140737488351232) (w : World) : Calls Tryd.prog 64 #[.string s] w fun e w' => e = .returned (.bool (valuedP s)) ∧ w = w' := by
  generalize hres : valuedP s = r
  have HRES := Lib.hid hres
  clear hres
  go_enter Tryd.func64, Tryd.ntmps64
  go_wp2_with fail
  go_loopw [3] (fun kv wr => ∃ k : Nat, k ≤ s.size ∧ kv = .int .i64 k ∧ Hid (∀ j (h : j < s.size), j < k → valuedC s[j] = true) ∧ w = wr) (fun kv _ => s.size - (intOf kv).toNat)
  case atStart => exact ⟨0, Nat.zero_le _, rfl, fun j _ h => absurd h (Nat.not_lt_zero j), rfl⟩
  case round =>
    obtain ⟨k, hk, rfl, HR, rfl⟩ := hrel
    by_cases hlt : k < s.size
    · have hi : (k : Int) < (s.size : Int) := by omega
      have hw : IntKind.i64.wrap ((k : Int) + 1) = (k : Int) + 1 := by rw [IntKind.wrap_i64]; omega
      have hw' : wrap64 ((k : Int) + 1) = (k : Int) + 1 := wr64 (by omega) (by omega)
      rcases classesV s[k] with ⟨d1, d2, hr⟩ | ⟨d1, d2, hr⟩ | ⟨d1, d2, d3, hr⟩ | ⟨d1, d2, d3, hr⟩
      case' inr.inl | inr.inr.inl =>
        have HF : Hid (r = false) := Lib.hid (HRES.out.symm.trans (all_not hlt hr))
        clear hr
        go_wp2_with fail
        go_ret
        exact ⟨by rw [HF.out]; rfl, rfl⟩
      all_goals
        have HN : Hid (∀ j (h : j < s.size), j < k + 1 → valuedC s[j] = true) := Lib.hid (fun j h hj => by
          rcases Nat.lt_succ_iff_lt_or_eq.1 hj with h' | rfl
          · exact HR.out j h h'
          · exact hr)
        clear hr
        go_wp2_with fail
        go_roundw
        case rel => exact ⟨k + 1, hlt, by go_num, HN, trivial⟩
        case measure => simp [intOf]; omega
    · obtain rfl : k = s.size := by omega
      have HF : Hid (r = true) := Lib.hid (HRES.out.symm.trans (all_yes (fun j h => HR.out j h h)))
      go_wp2_with fail
      go_ret
      exact ⟨by rw [HF.out]; rfl, rfl⟩
end Go.Proofs.YthnhpnmopjbaoaaDoor
