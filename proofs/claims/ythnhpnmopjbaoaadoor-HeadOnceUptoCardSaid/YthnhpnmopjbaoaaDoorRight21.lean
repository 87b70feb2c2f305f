/-
  The walks of sess.Right and of the document's Right.
-/
import Derived.Test.YthnhpnmopjbaoaaDoorBytes
import Derived.Test.YthnhpnmopjbaoaaDoorRows
namespace Go.Proofs.YthnhpnmopjbaoaaDoor
open Go.RowKit

def rightC (c : UInt8) : Bool := (decide (97 ≤ c.toNat) && decide (c.toNat ≤ 122)) || (decide (48 ≤ c.toNat) && decide (c.toNat ≤ 57))
def rightP (s : ByteArray) : Bool := s.toList.all rightC && decide (1 ≤ s.size) && decide (s.size ≤ 32)
theorem toList_at {s : ByteArray} {j : Nat} (h : j < s.size) : s.toList[j]'(by rw [size_toList]; exact h) = s[j] := by
  simp [ByteArray.toList_eq]
  rfl
theorem classes (c : UInt8) :
    (decide ((c.toNat : Int) < 97) = true ∧ decide (122 < (c.toNat : Int)) = false ∧ decide ((c.toNat : Int) < 48) = true ∧ decide (57 < (c.toNat : Int)) = false ∧ rightC c = false) ∨
    (decide ((c.toNat : Int) < 97) = true ∧ decide (122 < (c.toNat : Int)) = false ∧ decide ((c.toNat : Int) < 48) = false ∧ decide (57 < (c.toNat : Int)) = true ∧ rightC c = false) ∨
    (decide ((c.toNat : Int) < 97) = false ∧ decide (122 < (c.toNat : Int)) = true ∧ decide ((c.toNat : Int) < 48) = false ∧ decide (57 < (c.toNat : Int)) = true ∧ rightC c = false) ∨
    (decide ((c.toNat : Int) < 97) = true ∧ decide (122 < (c.toNat : Int)) = false ∧ decide ((c.toNat : Int) < 48) = false ∧ decide (57 < (c.toNat : Int)) = false ∧ rightC c = true) ∨
    (decide ((c.toNat : Int) < 97) = false ∧ decide (122 < (c.toNat : Int)) = false ∧ decide ((c.toNat : Int) < 48) = false ∧ decide (57 < (c.toNat : Int)) = true ∧ rightC c = true) := by
  have h : rightC c = true ↔ (97 ≤ c.toNat ∧ c.toNat ≤ 122) ∨ (48 ≤ c.toNat ∧ c.toNat ≤ 57) := by unfold rightC; simp
  have h' : rightC c = false ↔ ¬ ((97 ≤ c.toNat ∧ c.toNat ≤ 122) ∨ (48 ≤ c.toNat ∧ c.toNat ≤ 57)) := by rw [← h]; simp
  rw [h, h']
  simp only [decide_eq_true_eq, decide_eq_false_iff_not]
  omega
theorem classes2 (c : UInt8) :
    (decide (97 ≤ (c.toNat : Int)) = false ∧ decide ((c.toNat : Int) ≤ 122) = true ∧ decide (48 ≤ (c.toNat : Int)) = false ∧ decide ((c.toNat : Int) ≤ 57) = true ∧ rightC c = false) ∨
    (decide (97 ≤ (c.toNat : Int)) = false ∧ decide ((c.toNat : Int) ≤ 122) = true ∧ decide (48 ≤ (c.toNat : Int)) = true ∧ decide ((c.toNat : Int) ≤ 57) = false ∧ rightC c = false) ∨
    (decide (97 ≤ (c.toNat : Int)) = true ∧ decide ((c.toNat : Int) ≤ 122) = false ∧ decide (48 ≤ (c.toNat : Int)) = true ∧ decide ((c.toNat : Int) ≤ 57) = false ∧ rightC c = false) ∨
    (decide (97 ≤ (c.toNat : Int)) = false ∧ decide ((c.toNat : Int) ≤ 122) = true ∧ decide (48 ≤ (c.toNat : Int)) = true ∧ decide ((c.toNat : Int) ≤ 57) = true ∧ rightC c = true) ∨
    (decide (97 ≤ (c.toNat : Int)) = true ∧ decide ((c.toNat : Int) ≤ 122) = true ∧ decide (48 ≤ (c.toNat : Int)) = true ∧ decide ((c.toNat : Int) ≤ 57) = false ∧ rightC c = true) := by
  have h : rightC c = true ↔ (97 ≤ c.toNat ∧ c.toNat ≤ 122) ∨ (48 ≤ c.toNat ∧ c.toNat ≤ 57) := by unfold rightC; simp
  have h' : rightC c = false ↔ ¬ ((97 ≤ c.toNat ∧ c.toNat ≤ 122) ∨ (48 ≤ c.toNat ∧ c.toNat ≤ 57)) := by rw [← h]; simp
  rw [h, h']
  simp only [decide_eq_true_eq, decide_eq_false_iff_not]
  omega
theorem wr64 {x : Int} (h0 : -9223372036854775808 ≤ x) (h1 : x ≤ 9223372036854775807) : wrap64 x = x := by unfold wrap64; omega
theorem right_not {s : ByteArray} {k : Nat} (h : k < s.size) (hr : rightC s[k] = false) : rightP s = false := by
  unfold rightP
  have : s.toList.all rightC = false := by
    rw [Bool.eq_false_iff]
    intro ha
    have := List.all_eq_true.1 ha _ (List.getElem_mem (by rw [size_toList]; exact h))
    rw [toList_at h, hr] at this
    cases this
  rw [this]; rfl
theorem right_all {s : ByteArray} (h : ∀ j (h : j < s.size), rightC s[j] = true) : rightP s = (decide (1 ≤ s.size) && decide (s.size ≤ 32)) := by
  unfold rightP
  have : s.toList.all rightC = true := by
    rw [List.all_eq_true]
    intro x hx
    obtain ⟨i, hi, rfl⟩ := List.getElem_of_mem hx
    rw [size_toList] at hi
    rw [toList_at hi]
    exact h i hi
  rw [this]; rfl

set_option maxHeartbeats 3200000 in
set_option maxRecDepth 100000 in
theorem right_any (s : ByteArray) (hs : s.size ≤ 140737488351232) (w : World) : Calls Tryd.prog 12 #[.string s] w fun e w' => e = .returned (.bool (rightP s)) ∧ w = w' := by
  generalize hres : rightP s = r
  have HRES := Lib.hid hres
  clear hres
  go_enter Tryd.func12, Tryd.ntmps12
  go_wp2_with fail
  go_loopw [3, 4, 7] (fun _ _ kv wr => ∃ k : Nat, k ≤ s.size ∧ kv = .int .i64 k ∧ Hid (∀ j (h : j < s.size), j < k → rightC s[j] = true) ∧ w = wr) (fun _ _ kv _ => s.size - (intOf kv).toNat)
  case atStart => exact ⟨0, Nat.zero_le _, rfl, fun j _ h => absurd h (Nat.not_lt_zero j), rfl⟩
  case round =>
    obtain ⟨k, hk, rfl, HR, rfl⟩ := hrel
    by_cases hlt : k < s.size
    · have hi : (k : Int) < (s.size : Int) := by omega
      have hw : IntKind.i64.wrap ((k : Int) + 1) = (k : Int) + 1 := by rw [IntKind.wrap_i64]; omega
      have hw' : wrap64 ((k : Int) + 1) = (k : Int) + 1 := wr64 (by omega) (by omega)
      rcases classes s[k] with ⟨d1, d2, d3, d4, hr⟩ | ⟨d1, d2, d3, d4, hr⟩ | ⟨d1, d2, d3, d4, hr⟩ | ⟨d1, d2, d3, d4, hr⟩ | ⟨d1, d2, d3, d4, hr⟩
      iterate 3
        · have HF := Lib.hid ((right_not hlt hr).symm.trans HRES.out)
          clear hr
          go_wp2_with fail
          go_ret
          exact ⟨by rw [← HF.out]; rfl, rfl⟩
      iterate 2
        · have HN : Hid (∀ j (h : j < s.size), j < k + 1 → rightC s[j] = true) := Lib.hid (fun j h hj => by
            rcases Nat.lt_succ_iff_lt_or_eq.1 hj with h' | rfl
            · exact HR.out j h h'
            · exact hr)
          clear hr
          go_wp2_with fail
          go_roundw
          case rel => exact ⟨k + 1, hlt, by go_num, HN, trivial⟩
          case measure => simp [intOf]; omega
    · obtain rfl : k = s.size := by omega
      have HF := right_all (fun j h => HR.out j h h)
      have HF' := Lib.hid HF
      clear HF
      rw [HRES.out] at HF'
      have e2 := size_toList s
      have E2 := Lib.hid e2
      clear e2
      go_wp2_with fail
      · rename_i h
        go_ret
        refine ⟨?_, rfl⟩
        have h0 : s.size = 0 := by rw [← E2.out, h]; rfl
        rw [HF'.out, h0]
        rfl
      · rename_i h
        go_ret
        refine ⟨?_, rfl⟩
        have h0 : s.size ≠ 0 := fun e => h (List.length_eq_zero_iff.1 (by rw [E2.out, e]))
        rw [HF'.out]
        show Ending.returned (Value.bool (!s.toList.isEmpty && decide ((s.size : Int) ≤ 32))) = _
        have h1 : s.toList.isEmpty = false := by simpa using h
        have h2 : decide (1 ≤ s.size) = true := by simp; omega
        have h3 : decide ((s.size : Int) ≤ 32) = decide (s.size ≤ 32) := by rw [decide_eq_decide]; omega
        rw [h1, h2, h3]
        rfl
set_option maxHeartbeats 3200000 in
set_option maxRecDepth 100000 in
theorem rright_any (s : ByteArray) (hs : s.size ≤ 140737488351232) (w : World) : Calls Tryd.prog 13 #[.string s] w fun e w' => e = .returned (.bool (rightP s)) ∧ w = w' := by
  generalize hres : rightP s = r
  have HRES := Lib.hid hres
  clear hres
  go_enter Tryd.func13, Tryd.ntmps13
  go_wp2_with fail
  go_loopw [3] (fun kv wr => ∃ k : Nat, k ≤ s.size ∧ kv = .int .i64 k ∧ Hid (∀ j (h : j < s.size), j < k → rightC s[j] = true) ∧ w = wr) (fun kv _ => s.size - (intOf kv).toNat)
  case atStart => exact ⟨0, Nat.zero_le _, rfl, fun j _ h => absurd h (Nat.not_lt_zero j), rfl⟩
  case round =>
    obtain ⟨k, hk, rfl, HR, rfl⟩ := hrel
    by_cases hlt : k < s.size
    · have hi : (k : Int) < (s.size : Int) := by omega
      have hw : IntKind.i64.wrap ((k : Int) + 1) = (k : Int) + 1 := by rw [IntKind.wrap_i64]; omega
      have hw' : wrap64 ((k : Int) + 1) = (k : Int) + 1 := wr64 (by omega) (by omega)
      rcases classes2 s[k] with ⟨d1, d2, d3, d4, hr⟩ | ⟨d1, d2, d3, d4, hr⟩ | ⟨d1, d2, d3, d4, hr⟩ | ⟨d1, d2, d3, d4, hr⟩ | ⟨d1, d2, d3, d4, hr⟩
      iterate 3
        · have HF := Lib.hid ((right_not hlt hr).symm.trans HRES.out)
          clear hr
          go_wp2_with fail
          go_ret
          exact ⟨by rw [← HF.out]; rfl, rfl⟩
      iterate 2
        · have HN : Hid (∀ j (h : j < s.size), j < k + 1 → rightC s[j] = true) := Lib.hid (fun j h hj => by
            rcases Nat.lt_succ_iff_lt_or_eq.1 hj with h' | rfl
            · exact HR.out j h h'
            · exact hr)
          clear hr
          go_wp2_with fail
          go_roundw
          case rel => exact ⟨k + 1, hlt, by go_num, HN, trivial⟩
          case measure => simp [intOf]; omega
    · obtain rfl : k = s.size := by omega
      have HF := right_all (fun j h => HR.out j h h)
      have HF' := Lib.hid HF
      clear HF
      rw [HRES.out] at HF'
      by_cases h1 : 1 ≤ s.size
      · have d1 : decide (1 ≤ (s.size : Int)) = true := by simp; omega
        have HH := Lib.hid h1
        clear h1
        go_wp2_with fail
        go_ret
        refine ⟨?_, rfl⟩
        rw [HF'.out]
        simp only [Ending.returned.injEq]
        show Value.bool _ = _
        congr 1
        rw [decide_eq_true HH.out, Bool.true_and, decide_eq_decide]
        omega
      · have d1 : decide (1 ≤ (s.size : Int)) = false := by simp; omega
        have HH := Lib.hid h1
        clear h1
        go_wp2_with fail
        go_ret
        refine ⟨?_, rfl⟩
        rw [HF'.out, decide_eq_false HH.out]
        rfl
end Go.Proofs.YthnhpnmopjbaoaaDoor
