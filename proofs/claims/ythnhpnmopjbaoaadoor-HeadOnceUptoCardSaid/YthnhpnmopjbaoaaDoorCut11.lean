/-
  The walk of strings.Cut at a separator of one byte.
-/
import Derived.Test.YthnhpnmopjbaoaaDoorBuild11
import Derived.BigQuiet
namespace Go.Proofs.YthnhpnmopjbaoaaDoor
open Go.RowKit

/-- The parts before and behind the first c. -/
def cutP (s : ByteArray) (c : UInt8) : ByteArray × ByteArray × Bool :=
  if 0 ≤ Lib.indexByte s.data.toList c then (s.extract 0 (Lib.indexByte s.data.toList c).toNat, s.extract ((Lib.indexByte s.data.toList c).toNat + 1) s.size, true) else (s, ⟨#[]⟩, false)
def cutV (s : ByteArray) (c : UInt8) : Value := .tuple #[.string (cutP s c).1, .string (cutP s c).2.1, .bool (cutP s c).2.2]
set_option maxHeartbeats 1600000 in
set_option maxRecDepth 100000 in
theorem cutL_any (s : ByteArray) (hs : s.size ≤ 140737488351232) (c : UInt8) (w : World) : Calls Tryd.prog 83 #[.string s, .string ⟨#[c]⟩] w fun e w' => e = .returned (cutV s c) ∧ ∃ n, w' = w.drewN n := by
  have HI := Tryd.stringslite_Index_one s c w
  have h1 := Lib.indexByte_ge s.data.toList c
  unfold cutV cutP
  rcases Int.lt_or_le (Lib.indexByte s.data.toList c) 0 with h | h
  · have e : Lib.indexByte s.data.toList c = -1 := by omega
    rw [e] at HI
    rw [if_neg (by omega)]
    clear h h1 e
    go_enter Tryd.func83, Tryd.ntmps83
    go_wp2_with fail
    refine HI.mono ?_
    rintro e w1 ⟨rfl, rfl⟩
    clear HI
    go_wp2_with fail
    go_ret3
    exact ⟨rfl, 0, rfl⟩
  · obtain ⟨k, hk⟩ : ∃ k : Nat, Lib.indexByte s.data.toList c = k := ⟨_, (Int.toNat_of_nonneg h).symm⟩
    have hlt : k < s.size := by
      have := (Lib.indexByte_some hk).1
      have h2 := (List.getElem?_eq_some_iff.1 this).1
      have e2 : s.data.toList.length = s.size := Array.length_toList
      omega
    rw [hk] at HI
    rw [hk, if_pos (by omega)]
    have d1 : decide ((0 : Int) ≤ (k : Int)) = true := by simp
    have g1 : (k : Int) ≤ (s.size : Int) := by omega
    have g0 : (0 : Int) ≤ (k : Int) := by omega
    have g2 : (k : Int) + 1 ≤ (s.size : Int) := by omega
    have hw : IntKind.i64.wrap ((k : Int) + 1) = (k : Int) + 1 := by rw [IntKind.wrap_i64]; omega
    have hw' : wrap64 ((k : Int) + 1) = (k : Int) + 1 := wr64 (by omega) (by omega)
    clear h h1 hk hlt
    go_enter Tryd.func83, Tryd.ntmps83
    go_wp2_with fail
    refine HI.mono ?_
    rintro e w1 ⟨rfl, rfl⟩
    clear HI
    go_wp2_with fail
    go_quiet (fail)
    go_wp2_with fail
    go_ret3
    exact ⟨rfl, _, rfl⟩
theorem cut_any (s : ByteArray) (hs : s.size ≤ 140737488351232) (c : UInt8) (w : World) : Calls Tryd.prog 70 #[.string s, .string ⟨#[c]⟩] w fun e w' => e = .returned (cutV s c) ∧ ∃ n, w' = w.drewN n := by
  have HL := cutL_any s hs c w
  unfold cutV at HL ⊢
  generalize (cutP s c).1 = a at HL ⊢
  generalize (cutP s c).2.1 = b at HL ⊢
  generalize (cutP s c).2.2 = d at HL ⊢
  go_enter Tryd.func70, Tryd.ntmps70
  go_wp2_with fail
  refine HL.mono ?_
  rintro e w1 ⟨rfl, n, rfl⟩
  clear HL
  go_wp2_with fail
  go_ret3
  exact ⟨rfl, n, rfl⟩
end Go.Proofs.YthnhpnmopjbaoaaDoor
