/-
  The walks of valued and has.
-/
import Derived.Test.YthnhpnmopjbaoaaDoorBase21
namespace Go.Proofs.YthnhpnmopjbaoaaDoor
open Go.RowKit

def valuedC (c : UInt8) : Bool := (c.toNat == 9 || decide (32 ≤ c.toNat)) && c.toNat != 127
def valuedP (s : ByteArray) : Bool := s.toList.all valuedC
theorem all_not {q : UInt8 → Bool} {s : ByteArray} {k : Nat} (h : k < s.size) (hr : q s[k] = false) : s.toList.all q = false := by
  rw [Bool.eq_false_iff]
  intro ha
  have := List.all_eq_true.1 ha _ (List.getElem_mem (by rw [size_toList]; exact h))
  rw [toList_at h, hr] at this
  cases this
theorem all_yes {q : UInt8 → Bool} {s : ByteArray} (h : ∀ j (h : j < s.size), q s[j] = true) : s.toList.all q = true := by
  rw [List.all_eq_true]
  intro x hx
  obtain ⟨i, hi, rfl⟩ := List.getElem_of_mem hx
  rw [size_toList] at hi
  rw [toList_at hi]
  exact h i hi
theorem classesV (c : UInt8) :
    (((c.toNat : Int) != 9) = false ∧ ((c.toNat : Int) == 127) = false ∧ valuedC c = true) ∨
    (((c.toNat : Int) != 9) = true ∧ decide ((c.toNat : Int) < 32) = true ∧ valuedC c = false) ∨
    (((c.toNat : Int) != 9) = true ∧ decide ((c.toNat : Int) < 32) = false ∧ ((c.toNat : Int) == 127) = true ∧ valuedC c = false) ∨
    (((c.toNat : Int) != 9) = true ∧ decide ((c.toNat : Int) < 32) = false ∧ ((c.toNat : Int) == 127) = false ∧ valuedC c = true) := by
  have h : valuedC c = true ↔ (c.toNat = 9 ∨ 32 ≤ c.toNat) ∧ c.toNat ≠ 127 := by unfold valuedC; simp
  have h' : valuedC c = false ↔ ¬ ((c.toNat = 9 ∨ 32 ≤ c.toNat) ∧ c.toNat ≠ 127) := by rw [← h]; simp
  rw [h, h']
  simp only [decide_eq_true_eq, decide_eq_false_iff_not, bne_iff_ne, beq_iff_eq, ne_eq, bne_eq_false_iff_eq, beq_eq_false_iff_ne]
  omega
set_option maxHeartbeats 3200000 in
set_option maxRecDepth 100000 in
theorem valued_any (s : ByteArray) (hs : s.size ≤ 140737488351232) (w : World) : Calls Tryd.prog 52 #[.string s] w fun e w' => e = .returned (.bool (valuedP s)) ∧ w = w' := by
  generalize hres : valuedP s = r
  have HRES := Lib.hid hres
  clear hres
  go_enter Tryd.func52, Tryd.ntmps52
  go_wp2_with fail
  go_loopw [3, 6] (fun _ kv wr => ∃ k : Nat, k ≤ s.size ∧ kv = .int .i64 k ∧ Hid (∀ j (h : j < s.size), j < k → valuedC s[j] = true) ∧ w = wr) (fun _ kv _ => s.size - (intOf kv).toNat)
  case atStart => exact ⟨0, Nat.zero_le _, rfl, fun j _ h => absurd h (Nat.not_lt_zero j), rfl⟩
  case round =>
    obtain ⟨k, hk, rfl, HR, rfl⟩ := hrel
    by_cases hlt : k < s.size
    · have hi : (k : Int) < (s.size : Int) := by omega
      have hw : IntKind.i64.wrap ((k : Int) + 1) = (k : Int) + 1 := by rw [IntKind.wrap_i64]; omega
      have hw' : wrap64 ((k : Int) + 1) = (k : Int) + 1 := wr64 (by omega) (by omega)
      rcases classesV s[k] with ⟨d1, d2, hr⟩ | ⟨d1, d2, hr⟩ | ⟨d1, d2, d3, hr⟩ | ⟨d1, d2, d3, hr⟩
      case' inr.inl | inr.inr.inl =>
        have HF : Hid (r = false) := Lib.hid (HRES.out.symm.trans (all_not hlt hr))
        clear hr
        go_wp2_with fail
        go_ret
        exact ⟨by rw [HF.out]; rfl, rfl⟩
      all_goals
        have HN : Hid (∀ j (h : j < s.size), j < k + 1 → valuedC s[j] = true) := Lib.hid (fun j h hj => by
          rcases Nat.lt_succ_iff_lt_or_eq.1 hj with h' | rfl
          · exact HR.out j h h'
          · exact hr)
        clear hr
        go_wp2_with fail
        go_roundw
        case rel => exact ⟨k + 1, hlt, by go_num, HN, trivial⟩
        case measure => simp [intOf]; omega
    · obtain rfl : k = s.size := by omega
      have HF : Hid (r = true) := Lib.hid (HRES.out.symm.trans (all_yes (fun j h => HR.out j h h)))
      go_wp2_with fail
      go_ret
      exact ⟨by rw [HF.out]; rfl, rfl⟩
/-- A byte that may not stand: below 32, 127, or one of some. -/
def badC (o : ByteArray) (c : UInt8) : Bool := decide (c.toNat < 32) || c.toNat == 127 || decide (0 ≤ Lib.indexByte o.data.toList c)
def hasP (s o : ByteArray) : Bool := !(s.toList.all fun c => !badC o c)
theorem index_byte (o : ByteArray) (c : UInt8) (w : World) : Calls Tryd.prog 76 #[.string o, .int .u8 c.toNat] w fun e w' => e = .returned (.int .i64 (Lib.indexByte o.data.toList c)) ∧ w' = w := by
  have h := Tryd.strings_IndexByte o (c.toNat : Int) w
  rw [show ((c.toNat : Int)).toNat.toUInt8 = c by simp] at h
  exact h
theorem classesH (o : ByteArray) (c : UInt8) :
    (decide ((c.toNat : Int) < 32) = true ∧ badC o c = true) ∨
    (decide ((c.toNat : Int) < 32) = false ∧ ((c.toNat : Int) == 127) = true ∧ badC o c = true) ∨
    (decide ((c.toNat : Int) < 32) = false ∧ ((c.toNat : Int) == 127) = false ∧ decide (0 ≤ Lib.indexByte o.data.toList c) = true ∧ badC o c = true) ∨
    (decide ((c.toNat : Int) < 32) = false ∧ ((c.toNat : Int) == 127) = false ∧ decide (0 ≤ Lib.indexByte o.data.toList c) = false ∧ badC o c = false) := by
  have h : badC o c = true ↔ c.toNat < 32 ∨ c.toNat = 127 ∨ 0 ≤ Lib.indexByte o.data.toList c := by unfold badC; simp [or_assoc]
  have h' : badC o c = false ↔ ¬ (c.toNat < 32 ∨ c.toNat = 127 ∨ 0 ≤ Lib.indexByte o.data.toList c) := by rw [← h]; simp
  rw [h, h']
  simp only [decide_eq_true_eq, decide_eq_false_iff_not, beq_iff_eq, beq_eq_false_iff_ne]
  omega
set_option maxHeartbeats 3200000 in
set_option maxRecDepth 100000 in
theorem has_any (s o : ByteArray) (hs : s.size ≤ 140737488351232) (w : World) : Calls Tryd.prog 56 #[.string s, .string o] w fun e w' => e = .returned (.bool (hasP s o)) ∧ w = w' := by
  generalize hres : hasP s o = r
  have HRES := Lib.hid hres
  clear hres
  go_enter Tryd.func56, Tryd.ntmps56
  go_wp2_with fail
  go_loopw [5, 8] (fun _ kv wr => ∃ k : Nat, k ≤ s.size ∧ kv = .int .i64 k ∧ Hid (∀ j (h : j < s.size), j < k → (!badC o s[j]) = true) ∧ w = wr) (fun _ kv _ => s.size - (intOf kv).toNat)
  case atStart => exact ⟨0, Nat.zero_le _, rfl, fun j _ h => absurd h (Nat.not_lt_zero j), rfl⟩
  case round =>
    obtain ⟨k, hk, rfl, HR, rfl⟩ := hrel
    by_cases hlt : k < s.size
    · have hi : (k : Int) < (s.size : Int) := by omega
      have hw : IntKind.i64.wrap ((k : Int) + 1) = (k : Int) + 1 := by rw [IntKind.wrap_i64]; omega
      have hw' : wrap64 ((k : Int) + 1) = (k : Int) + 1 := wr64 (by omega) (by omega)
      have HI := index_byte o s[k] w
      rcases classesH o s[k] with ⟨d1, hr⟩ | ⟨d1, d2, hr⟩ | ⟨d1, d2, d3, hr⟩ | ⟨d1, d2, d3, hr⟩
      iterate 2
        · have HF : Hid (r = true) := Lib.hid (HRES.out.symm.trans (by unfold hasP; rw [all_not (q := fun c => !badC o c) hlt (by rw [hr]; rfl)]; rfl))
          clear hr
          go_wp2_with fail
          go_ret
          exact ⟨by rw [HF.out]; rfl, rfl⟩
      · have HF : Hid (r = true) := Lib.hid (HRES.out.symm.trans (by unfold hasP; rw [all_not (q := fun c => !badC o c) hlt (by rw [hr]; rfl)]; rfl))
        clear hr
        go_wp2_with fail
        refine HI.mono ?_
        rintro e w1 ⟨rfl, rfl⟩
        go_wp2_with fail
        go_ret
        exact ⟨by rw [HF.out]; rfl, rfl⟩
      · have HN : Hid (∀ j (h : j < s.size), j < k + 1 → (!badC o s[j]) = true) := Lib.hid (fun j h hj => by
          rcases Nat.lt_succ_iff_lt_or_eq.1 hj with h' | rfl
          · exact HR.out j h h'
          · rw [hr]; rfl)
        clear hr
        go_wp2_with fail
        refine HI.mono ?_
        rintro e w1 ⟨rfl, rfl⟩
        clear HI
        go_wp2_with fail
        go_roundw
        case rel => exact ⟨k + 1, hlt, by go_num, HN, trivial⟩
        case measure => simp [intOf]; omega
    · obtain rfl : k = s.size := by omega
      have HF : Hid (r = false) := Lib.hid (HRES.out.symm.trans (by unfold hasP; rw [all_yes (q := fun c => !badC o c) (fun j h => HR.out j h h)]; rfl))
      go_wp2_with fail
      go_ret
      exact ⟨by rw [HF.out]; rfl, rfl⟩
end Go.Proofs.YthnhpnmopjbaoaaDoor
