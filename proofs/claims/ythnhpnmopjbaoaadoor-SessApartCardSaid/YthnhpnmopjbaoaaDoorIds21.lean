/-
  SessIds, SessApart: the walks.
-/
import Derived.Test.YthnhpnmopjbaoaaDoorAlive21
namespace Go.Proofs.YthnhpnmopjbaoaaDoor
open Go.RowKit

theorem nthL (n : Int) : nthP n = 115 :: Lib.decDigits (max n 0).toNat := by
  unfold nthP
  obtain ⟨u, hu⟩ : ∃ u : Nat, max n 0 = (u : Int) := ⟨(max n 0).toNat, by omega⟩
  rw [hu, Lib.itoa_nonneg]
  rfl
theorem right_nth (n : Int) (h : n ≤ 9223372036854775807) : rightP (str (nthP n)) = true := by
  have hz := itoa_short (n := max n 0) (by omega) (by omega)
  rw [str_size] at hz
  have hlen : (nthP n).length ≤ 22 := by unfold nthP; simp; omega
  unfold rightP
  rw [str_toList, str_size]
  have h1 : (nthP n).all rightC = true := by
    rw [nthL, List.all_eq_true]
    intro x hx
    rcases List.mem_cons.1 hx with rfl | hx
    · decide
    · have := (isDig_iff _).1 (decDigits_dig _ x hx)
      unfold rightC
      simp
      omega
  have h2 : 1 ≤ (nthP n).length := by unfold nthP; simp
  rw [h1, decide_eq_true h2, decide_eq_true (by omega : (nthP n).length ≤ 32)]
  rfl
theorem nth_eq (a b : Int) : ((str (nthP a)).toList == (str (nthP b)).toList) = (max a 0 == max b 0) := by
  rw [str_toList, str_toList, Bool.eq_iff_iff, beq_iff_eq, beq_iff_eq]
  constructor
  · intro h
    rw [nthL, nthL] at h
    injection h with _ h
    have h2 := congrArg (dec 0) h
    rw [decDigits_dec, decDigits_dec] at h2
    omega
  · intro h
    unfold nthP
    rw [h]
set_option maxHeartbeats 3200000 in
set_option maxRecDepth 100000 in
theorem ids_any (s : ByteArray) (hs : s.size ≤ 140737488351232) (n : Int) (hn : n ≤ 9223372036854775807) (w : World) (ht : Tabs w) : Calls Tryd.prog 3 #[.string s, .int .i64 n] w (BoolPost w true) := by
  have HTS := Lib.hid ht
  have R1 := right_any s hs w
  have R2 := rright_any s hs w
  have N1 : ∀ W, Tabs W → Calls Tryd.prog 14 #[.int .i64 n] W (fun e w' => e = .returned (.string (str (nthP n))) ∧ Below W.heap.size W w') := fun W hT => nth_any n hn W hT
  have N2 : ∀ W, Calls Tryd.prog 15 #[.int .i64 n] W (fun e w' => e = .returned (.string (str (nthP n))) ∧ Below W.heap.size W w') := fun W => rnth_any n hn W
  have R3 : ∀ W, Calls Tryd.prog 12 #[.string (str (nthP n))] W fun e w' => e = .returned (.bool true) ∧ W = w' := fun W => by
    have h := right_any (str (nthP n)) (by have := itoa_short (n := max n 0) (by omega) (by omega); rw [str_size] at this ⊢; unfold nthP; simp; omega) W
    rw [right_nth n hn] at h
    exact h
  generalize rightP s = r at R1 R2
  generalize str (nthP n) = q at N1 N2 R3
  have e0 : (r == r) = true := by simp
  have e1 : (q.toList == q.toList) = true := by simp
  clear ht hs hn
  go_enter Tryd.func3, Tryd.ntmps3
  go_wp2_with fail
  refine R1.mono ?_
  rintro e w1 ⟨rfl, rfl⟩
  clear R1
  go_wp2_with fail
  refine R2.mono ?_
  rintro e w1 ⟨rfl, rfl⟩
  clear R2
  go_wp2_with fail
  refine (N1 _ HTS.out).mono ?_
  rintro e w2 ⟨rfl, hb⟩
  have B2 := Lib.hid hb
  clear hb
  go_wp2_with fail
  refine (N2 _).mono ?_
  rintro e w3 ⟨rfl, hb⟩
  have B3 := Lib.hid (B2.out.trans (hb.mono B2.out.size))
  clear hb B2 N2
  go_wp2_with fail
  refine (N1 _ (HTS.out.mono B3.out)).mono ?_
  rintro e w4 ⟨rfl, hb⟩
  have B4 := Lib.hid (B3.out.trans (hb.mono B3.out.size))
  clear hb B3 N1
  go_wp2_with fail
  refine (R3 _).mono ?_
  rintro e w5 ⟨rfl, rfl⟩
  clear R3
  go_wp2_with fail
  refine (salive_any _ (HTS.out.mono B4.out)).mono ?_
  rintro e w6 ⟨rfl, hb⟩
  have B5 := Lib.hid (B4.out.trans (hb.mono B4.out.size))
  clear hb B4
  go_wp2_with fail
  go_ret
  exact ⟨rfl, B5.out⟩
set_option maxHeartbeats 3200000 in
set_option maxRecDepth 100000 in
theorem apart_any (a b : Int) (ha : a ≤ 9223372036854775807) (hb : b ≤ 9223372036854775807) (w : World) (ht : Tabs w) : Calls Tryd.prog 6 #[.int .i64 a, .int .i64 b] w (BoolPost w true) := by
  have HTS := Lib.hid ht
  have N1 : Calls Tryd.prog 14 #[.int .i64 a] w (fun e w' => e = .returned (.string (str (nthP a))) ∧ Below w.heap.size w w') := nth_any a ha w ht
  have N2 : ∀ W, Tabs W → Calls Tryd.prog 14 #[.int .i64 b] W (fun e w' => e = .returned (.string (str (nthP b))) ∧ Below W.heap.size W w') := fun W hT => nth_any b hb W hT
  have e1 := nth_eq a b
  generalize str (nthP a) = p at N1 e1
  generalize str (nthP b) = q at N2 e1
  have e0 : ((max a 0 == max b 0) == (max a 0 == max b 0)) = true := by simp
  clear ht ha hb
  go_enter Tryd.func6, Tryd.ntmps6
  go_wp2_with fail
  refine N1.mono ?_
  rintro e w2 ⟨rfl, hb⟩
  have B2 := Lib.hid hb
  clear hb N1
  go_wp2_with fail
  refine (N2 _ (HTS.out.mono B2.out)).mono ?_
  rintro e w3 ⟨rfl, hb⟩
  have B3 := Lib.hid (B2.out.trans (hb.mono B2.out.size))
  clear hb B2 N2
  go_wp2_with fail
  refine (salive_any _ (HTS.out.mono B3.out)).mono ?_
  rintro e w6 ⟨rfl, hb⟩
  have B5 := Lib.hid (B3.out.trans (hb.mono B3.out.size))
  clear hb B3
  go_wp2_with fail
  go_ret
  exact ⟨rfl, B5.out⟩
end Go.Proofs.YthnhpnmopjbaoaaDoor
