/-
  The walks of the document's cooked, plain, digit (layers 11 and 9).
-/
import Derived.Test.YthnhpnmopjbaoaaDoorCookieA11
import Derived.Test.YthnhpnmopjbaoaaDoorRStat11
namespace Go.Proofs.YthnhpnmopjbaoaaDoor
open Go.RowKit

theorem bad1_all : ∀ n : Nat, n < 256 → badC ckB (UInt8.ofNat n) = (decide (n ≤ 32) || n == 127 || n == 61 || n == 44 || n == 59) := by decide +kernel
theorem bad2_all : ∀ n : Nat, n < 256 → badC ⟨#[59]⟩ (UInt8.ofNat n) = (decide (n < 32) || n == 127 || n == 59) := by decide +kernel
theorem bad1_ways (c : UInt8) {x : Int} (hx : (c.toNat : Int) = x) :
    (badC ckB c = true ∧ (decide (x ≤ 32) = true ∨ (decide (x ≤ 32) = false ∧ (x == 127) = true) ∨ (decide (x ≤ 32) = false ∧ (x == 127) = false ∧ (x == 61) = true) ∨ (decide (x ≤ 32) = false ∧ (x == 127) = false ∧ (x == 61) = false ∧ (x == 44) = true) ∨ (decide (x ≤ 32) = false ∧ (x == 127) = false ∧ (x == 61) = false ∧ (x == 44) = false ∧ (x == 59) = true))) ∨
    (badC ckB c = false ∧ decide (x ≤ 32) = false ∧ (x == 127) = false ∧ (x == 61) = false ∧ (x == 44) = false ∧ (x == 59) = false) := by
  have h := bad1_all c.toNat c.toNat_lt
  rw [UInt8.ofNat_toNat] at h
  have h1 : badC ckB c = true ↔ c.toNat ≤ 32 ∨ c.toNat = 127 ∨ c.toNat = 61 ∨ c.toNat = 44 ∨ c.toNat = 59 := by rw [h]; simp [or_assoc]
  simp only [decide_eq_true_eq, decide_eq_false_iff_not, beq_eq_false_iff_ne, beq_iff_eq, ne_eq]
  cases hb : badC ckB c with
  | true => have := h1.1 hb; refine .inl ⟨rfl, ?_⟩; omega
  | false =>
    have h2 : ¬ badC ckB c = true := by rw [hb]; simp
    rw [h1] at h2
    refine .inr ⟨rfl, ?_⟩
    omega
theorem bad2_ways (c : UInt8) {x : Int} (hx : (c.toNat : Int) = x) :
    (badC ⟨#[59]⟩ c = true ∧ (decide (x < 32) = true ∨ (decide (x < 32) = false ∧ (x == 127) = true) ∨ (decide (x < 32) = false ∧ (x == 127) = false ∧ (x == 59) = true))) ∨
    (badC ⟨#[59]⟩ c = false ∧ decide (x < 32) = false ∧ (x == 127) = false ∧ (x == 59) = false) := by
  have h := bad2_all c.toNat c.toNat_lt
  rw [UInt8.ofNat_toNat] at h
  have h1 : badC ⟨#[59]⟩ c = true ↔ c.toNat < 32 ∨ c.toNat = 127 ∨ c.toNat = 59 := by rw [h]; simp [or_assoc]
  simp only [decide_eq_true_eq, decide_eq_false_iff_not, beq_eq_false_iff_ne, beq_iff_eq, ne_eq]
  cases hb : badC ⟨#[59]⟩ c with
  | true => have := h1.1 hb; refine .inl ⟨rfl, ?_⟩; omega
  | false =>
    have h2 : ¬ badC ⟨#[59]⟩ c = true := by rw [hb]; simp
    rw [h1] at h2
    refine .inr ⟨rfl, ?_⟩
    omega
theorem hasP_bad {s o : ByteArray} {k : Nat} (h : k < s.size) (hb : badC o s[k] = true) : hasP s o = true := by
  unfold hasP
  rw [all_not (q := fun c => !badC o c) h (by rw [hb]; rfl)]
  rfl
theorem hasP_good {s o : ByteArray} (h : ∀ j (h : j < s.size), badC o s[j] = false) : hasP s o = false := by
  unfold hasP
  rw [all_yes (q := fun c => !badC o c) (fun j hj => by rw [h j hj]; rfl)]
  rfl
set_option maxHeartbeats 3200000 in
set_option maxRecDepth 100000 in
theorem rcooked_any (name path : ByteArray) (hn : name.size ≤ 140737488351232) (hp : path.size ≤ 140737488351232) (w : World) : Calls Tryd.prog 67 #[.string name, .string path] w fun e w' => e = .returned (.bool (cookP name path)) ∧ w = w' := by
  obtain ⟨r, hr⟩ : ∃ r, r = cookP name path := ⟨_, rfl⟩
  rw [← hr]
  have HR := Lib.hid hr
  have HN := Lib.hid hn
  have HP := Lib.hid hp
  clear hr hn hp
  go_enter Tryd.func67, Tryd.ntmps67
  go_wp2_with fail
  go_loopw [5, 6] (fun kv _ wr => ∃ k : Nat, k ≤ name.size ∧ kv = .int .i64 k ∧ Hid (∀ j (h : j < name.size), j < k → badC ckB name[j] = false) ∧ w = wr) (fun kv _ _ => name.size - (intOf kv).toNat)
  case atStart => exact ⟨0, Nat.zero_le _, rfl, fun j _ h => absurd h (Nat.not_lt_zero j), rfl⟩
  case round =>
    obtain ⟨k, hk, rfl, HA, rfl⟩ := hrel
    by_cases hlt : k < name.size
    · have hi : (k : Int) < (name.size : Int) := by omega
      obtain ⟨hw', hw⟩ : wrap64 ((k : Int) + 1) = (k : Int) + 1 ∧ IntKind.i64.wrap ((k : Int) + 1) = (k : Int) + 1 := wr_in HN.out (by omega) (by omega)
      obtain ⟨x, hx⟩ : ∃ x : Int, (name[k].toNat : Int) = x := ⟨_, rfl⟩
      rcases bad1_ways name[k] hx with ⟨hb, hk'⟩ | ⟨hb, d1, d2, d3, d4, d5⟩
      · have HF : Hid (r = false) := Lib.hid (by rw [HR.out]; unfold cookP; rw [hasP_bad hlt hb]; simp)
        clear hb
        rcases hk' with d1 | ⟨d1, d2⟩ | ⟨d1, d2, d3⟩ | ⟨d1, d2, d3, d4⟩ | ⟨d1, d2, d3, d4, d5⟩
        all_goals
          go_wp2_with fail
          go_ret
          exact ⟨by rw [HF.out]; rfl, rfl⟩
      · have HA2 : Hid (∀ j (h : j < name.size), j < k + 1 → badC ckB name[j] = false) := Lib.hid (fun j h hj => by
          rcases Nat.lt_succ_iff_lt_or_eq.1 hj with h' | rfl
          · exact HA.out j h h'
          · exact hb)
        clear hb
        go_wp2_with fail
        go_roundw
        case rel => exact ⟨k + 1, hlt, by go_num, HA2, trivial⟩
        case measure => simp [intOf]; omega
    · obtain rfl : k = name.size := by omega
      have HG : Hid (hasP name ckB = false) := Lib.hid (hasP_good (fun j h => HA.out j h h))
      clear HA
      go_wp2_with fail
      go_loopw [7] (fun kv wr => ∃ k : Nat, k ≤ path.size ∧ kv = .int .i64 k ∧ Hid (∀ j (h : j < path.size), j < k → badC ⟨#[59]⟩ path[j] = false) ∧ w = wr) (fun kv _ => path.size - (intOf kv).toNat)
      case atStart => exact ⟨0, Nat.zero_le _, rfl, fun j _ h => absurd h (Nat.not_lt_zero j), rfl⟩
      case round =>
        obtain ⟨k, hk, rfl, HA, rfl⟩ := hrel
        by_cases hlt2 : k < path.size
        · have hi : (k : Int) < (path.size : Int) := by omega
          obtain ⟨hw', hw⟩ : wrap64 ((k : Int) + 1) = (k : Int) + 1 ∧ IntKind.i64.wrap ((k : Int) + 1) = (k : Int) + 1 := wr_in HP.out (by omega) (by omega)
          obtain ⟨x, hx⟩ : ∃ x : Int, (path[k].toNat : Int) = x := ⟨_, rfl⟩
          rcases bad2_ways path[k] hx with ⟨hb, hk'⟩ | ⟨hb, d1, d2, d3⟩
          · have HF : Hid (r = false) := Lib.hid (by rw [HR.out]; unfold cookP; rw [hasP_bad hlt2 hb]; simp)
            clear hb
            rcases hk' with d1 | ⟨d1, d2⟩ | ⟨d1, d2, d3⟩
            all_goals
              go_wp2_with fail
              go_ret
              exact ⟨by rw [HF.out]; rfl, rfl⟩
          · have HA2 : Hid (∀ j (h : j < path.size), j < k + 1 → badC ⟨#[59]⟩ path[j] = false) := Lib.hid (fun j h hj => by
              rcases Nat.lt_succ_iff_lt_or_eq.1 hj with h' | rfl
              · exact HA.out j h h'
              · exact hb)
            clear hb
            go_wp2_with fail
            go_roundw
            case rel => exact ⟨k + 1, hlt2, by go_num, HA2, trivial⟩
            case measure => simp [intOf]; omega
        · obtain rfl : k = path.size := by omega
          have HF : Hid (r = !name.toList.isEmpty) := Lib.hid (by
            rw [HR.out]; unfold cookP
            rw [HG.out, hasP_good (fun j h => HA.out j h h)]
            simp)
          cases he : name.toList.isEmpty with
          | true =>
            go_wp2_with fail
            go_ret
            exact ⟨by rw [HF.out, he]; rfl, rfl⟩
          | false =>
            go_wp2_with fail
            go_ret
            exact ⟨by rw [HF.out, he]; rfl, rfl⟩
theorem plain_ways (c : UInt8) {x : Int} (hx : (c.toNat : Int) = x) :
    (keepC c = true ∧ ((decide (97 ≤ x) = true ∧ decide (x ≤ 122) = true) ∨ (decide (97 ≤ x) = false ∧ decide (65 ≤ x) = true ∧ decide (x ≤ 90) = true) ∨
      (decide (97 ≤ x) = false ∧ decide (65 ≤ x) = false ∧ decide (48 ≤ x) = true ∧ decide (x ≤ 57) = true) ∨ x = 45 ∨ x = 95 ∨ x = 46)) ∨
    (keepC c = false ∧ (x == 45) = false ∧ (x == 95) = false ∧ (x == 46) = false ∧
      ((decide (97 ≤ x) = false ∧ decide (65 ≤ x) = false ∧ decide (48 ≤ x) = false) ∨
       (decide (97 ≤ x) = false ∧ decide (65 ≤ x) = false ∧ decide (48 ≤ x) = true ∧ decide (x ≤ 57) = false) ∨
       (decide (97 ≤ x) = false ∧ decide (65 ≤ x) = true ∧ decide (x ≤ 90) = false ∧ decide (48 ≤ x) = true ∧ decide (x ≤ 57) = false) ∨
       (decide (97 ≤ x) = true ∧ decide (x ≤ 122) = false ∧ decide (65 ≤ x) = true ∧ decide (x ≤ 90) = false ∧ decide (48 ≤ x) = true ∧ decide (x ≤ 57) = false))) := by
  have hk : keepC c = true ↔ (97 ≤ c.toNat ∧ c.toNat ≤ 122) ∨ (65 ≤ c.toNat ∧ c.toNat ≤ 90) ∨ (48 ≤ c.toNat ∧ c.toNat ≤ 57) ∨ c.toNat = 45 ∨ c.toNat = 95 ∨ c.toNat = 46 := by
    unfold keepC; simp [or_assoc]
  simp only [decide_eq_true_eq, decide_eq_false_iff_not, beq_eq_false_iff_ne, ne_eq]
  cases h : keepC c with
  | true => have := hk.1 h; refine .inl ⟨rfl, ?_⟩; omega
  | false =>
    have h2 : ¬ keepC c = true := by rw [h]; simp
    rw [hk] at h2
    refine .inr ⟨rfl, ?_⟩
    omega
set_option maxRecDepth 100000 in
theorem rplain_any (c : UInt8) (w : World) : Calls Tryd.prog 81 #[.int .u8 c.toNat] w fun e w' => e = .returned (.bool (keepC c)) ∧ w = w' := by
  obtain ⟨x, hx⟩ : ∃ x : Int, (c.toNat : Int) = x := ⟨_, rfl⟩
  rcases plain_ways c hx with ⟨hv, hk⟩ | ⟨hv, e1, e2, e3, hk⟩
  · rw [hx, hv]
    clear hv hx
    rcases hk with ⟨d1, d2⟩ | ⟨d1, d2, d3⟩ | ⟨d1, d2, d3, d4⟩ | rfl | rfl | rfl
    all_goals
      go_enter Tryd.func81, Tryd.ntmps81
      go_wp2_with fail
      go_ret
      exact ⟨rfl, rfl⟩
  · rw [hx, hv]
    clear hv hx
    rcases hk with ⟨d1, d2, d3⟩ | ⟨d1, d2, d3, d4⟩ | ⟨d1, d2, d3, d4, d5⟩ | ⟨d1, d2, d3, d4, d5, d6⟩
    all_goals
      go_enter Tryd.func81, Tryd.ntmps81
      go_wp2_with fail
      go_ret
      exact ⟨rfl, rfl⟩
set_option maxRecDepth 100000 in
theorem rdigit_any (n : Nat) (hn : n < 16) (w : World) : Calls Tryd.prog 82 #[.int .i64 n] w fun e w' => e = .returned (.int .u8 (hexD n).toNat) ∧ w = w' := by
  by_cases h : n < 10
  · have d1 : decide ((n : Int) < 10) = true := by simp; omega
    have hv : ((hexD n).toNat : Int) = 48 + n := by unfold hexD; rw [if_pos h, ofNat_toNat (by omega)]; omega
    have hw : IntKind.i64.wrap (48 + (n : Int)) = 48 + n := by rw [IntKind.wrap_i64]; omega
    have hw' : wrap64 (48 + (n : Int)) = 48 + n := wr64 (by omega) (by omega)
    have hu : IntKind.u8.wrap (48 + (n : Int)) = 48 + n := by unfold IntKind.wrap; simp [IntKind.bits]; omega
    rw [hv]
    clear hv h
    go_enter Tryd.func82, Tryd.ntmps82
    go_wp2_with fail
    go_ret
    exact ⟨rfl, rfl⟩
  · have d1 : decide ((n : Int) < 10) = false := by simp; omega
    have hv : ((hexD n).toNat : Int) = 65 + n - 10 := by unfold hexD; rw [if_neg h, ofNat_toNat (by omega)]; omega
    have hw : IntKind.i64.wrap (65 + (n : Int)) = 65 + n := by rw [IntKind.wrap_i64]; omega
    have hw' : wrap64 (65 + (n : Int)) = 65 + n := wr64 (by omega) (by omega)
    have hw2 : wrap64 (65 + (n : Int) - 10) = 65 + n - 10 := wr64 (by omega) (by omega)
    have hu : IntKind.u8.wrap (65 + (n : Int) - 10) = 65 + n - 10 := by unfold IntKind.wrap; simp [IntKind.bits]; omega
    rw [hv]
    clear hv h
    go_enter Tryd.func82, Tryd.ntmps82
    go_wp2_with fail
    go_ret
    exact ⟨rfl, rfl⟩
end Go.Proofs.YthnhpnmopjbaoaaDoor
