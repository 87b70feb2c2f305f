/-
  The walk of name at any line.
-/
import Derived.Test.YthnhpnmopjbaoaaDoorName11
import Derived.Test.YthnhpnmopjbaoaaDoorValued11
namespace Go.Proofs.YthnhpnmopjbaoaaDoor
open Go.RowKit

/-- A line's name in small letters. -/
def nameP (s : ByteArray) : Option Bs :=
  if (cutP s 58).2.2 = true ∧ 1 ≤ (cutP s 58).1.size ∧ (cutP s 58).1.size ≤ 64 ∧ (cutP s 58).1.toList.all nameC = true then some ((cutP s 58).1.toList.map lowC) else none
theorem classesB {x : Int} (h : ¬ ((97 ≤ x ∧ x ≤ 122) ∨ (65 ≤ x ∧ x ≤ 90) ∨ (48 ≤ x ∧ x ≤ 57) ∨ x = 45)) :
    (decide (x < 97) = true ∧ decide (x < 65) = true ∧ decide (x < 48) = true ∧ (x != 45) = true) ∨
    (decide (x < 97) = true ∧ decide (x < 65) = true ∧ decide (x < 48) = false ∧ decide (57 < x) = true ∧ (x != 45) = true) ∨
    (decide (x < 97) = true ∧ decide (x < 65) = false ∧ decide (90 < x) = true ∧ decide (x < 48) = false ∧ decide (57 < x) = true ∧ (x != 45) = true) ∨
    (decide (x < 97) = false ∧ decide (122 < x) = true ∧ decide (x < 65) = false ∧ decide (90 < x) = true ∧ decide (x < 48) = false ∧ decide (57 < x) = true ∧ (x != 45) = true) := by
  simp only [decide_eq_true_eq, decide_eq_false_iff_not, bne_iff_ne, ne_eq]
  omega
theorem nameC_not {c : UInt8} (h : ¬ nameC c = true) : ¬ ((97 ≤ (c.toNat : Int) ∧ (c.toNat : Int) ≤ 122) ∨ (65 ≤ (c.toNat : Int) ∧ (c.toNat : Int) ≤ 90) ∨ (48 ≤ (c.toNat : Int) ∧ (c.toNat : Int) ≤ 57) ∨ (c.toNat : Int) = 45) := by
  unfold nameC at h
  simp at h
  omega
set_option maxHeartbeats 3200000 in
set_option maxRecDepth 100000 in
/-- A text ahead of the colon with a byte that may not stand. -/
theorem name_bad {s n : ByteArray} (hs : s.size ≤ 140737488351232) (hc : cutP s 58 = (n, (cutP s 58).2.1, true)) (hlo : 1 ≤ n.size) (hhi : n.size ≤ 64) (ha : ¬ n.toList.all nameC = true) (w : World) :
    Calls Tryd.prog 51 #[.string s] w fun e w' => e = .returned (.tuple #[.string ⟨#[]⟩, .bool false]) ∧ Below w.heap.size w w' := by
  have HC := cut_any s hs 58 w
  have H := Lib.hid ha
  unfold cutV at HC
  rw [hc] at HC
  generalize (cutP s 58).2.1 = rest at HC
  have hn0 : n.toList.isEmpty = false := by
    have e1 := size_toList n
    cases hl : n.toList with
    | nil => rw [hl] at e1; simp at e1; omega
    | cons a r => rfl
  have hz : decide (64 < (n.size : Int)) = false := by simp; omega
  clear hc hlo hhi ha
  go_enter Tryd.func51, Tryd.ntmps51
  go_wp2_with fail
  refine HC.mono ?_
  rintro e w1 ⟨rfl, nr, rfl⟩
  have B1 := Lib.hid (belowN (Below.refl w.heap.size w) nr)
  generalize w.drewN nr = w1 at B1 ⊢
  clear HC
  go_wp2_with fail
  have K0 := Lib.hid (World.iter_heap w1 n 0)
  have B0 : Hid (Below w.heap.size w (w1.iter n 0)) := Lib.hid (B1.out.alloc B1.out.size _)
  have HSZ : Hid (w.heap.size ≤ w1.heap.size) := Lib.hid B1.out.size
  generalize w1.iter n 0 = W0 at K0 B0 ⊢
  go_loopw [8] (fun _ wr => ∃ p : Nat, p ≤ n.size ∧ Hid (wr.heap[w1.heap.size]? = some (.stringIter n p)) ∧ Hid (Below w.heap.size w wr) ∧ Hid (∀ j (h : j < n.size), j < p → nameC n[j] = true)) (fun _ wr => n.size - wr.iterPos w1.heap.size)
  case atStart => exact ⟨0, Nat.zero_le _, K0, B0, fun j _ h => absurd h (Nat.not_lt_zero j)⟩
  case round =>
    obtain ⟨p, hp, HIT, HBW, HAL⟩ := hrel
    clear K0 B0
    have HMU : Hid (wr.iterPos w1.heap.size = p) := Lib.hid (by simp [World.iterPos, HIT.out])
    by_cases hlt : p < n.size
    · by_cases hc : nameC n[p] = true
      · have h128 := nameC_ascii hc
        obtain ⟨x, hx⟩ : ∃ x : Int, (n[p].toNat : Int) = x := ⟨_, rfl⟩
        have hnext : ∀ ty, (Instr.next (.pointer (some ⟨w1.heap.size, 0, none⟩)) true ty).run Tryd.prog wr = _ := fun ty => next_lit wr w1.heap.size n p x p HIT.out hlt h128 hx rfl ty
        have HK := Lib.hid (Lib.iterAt_heap wr w1.heap.size n p (p + 1) HIT.out)
        have HB2 := Lib.hid (Lib.below_iterAt HBW.out HSZ.out n (p + 1))
        have HN2 : Hid (∀ j (h : j < n.size), j < p + 1 → nameC n[j] = true) := Lib.hid (fun j h hj => by
          rcases Nat.lt_succ_iff_lt_or_eq.1 hj with h' | rfl
          · exact HAL.out j h h'
          · exact hc)
        have HLT := Lib.hid hlt
        have hcl := classesN hc hx
        generalize wr.iterAt w1.heap.size n (p + 1) = W1 at hnext HK HB2
        clear hc h128 hx hlt
        rcases hcl with ⟨d1, d2⟩ | ⟨d1, d2, d3⟩ | ⟨d1, d2, d3, d4⟩ | ⟨d1, d2, d3, d4⟩
        all_goals
          go_wp2_with fail
          go_roundw
          case rel => exact ⟨p + 1, HLT.out, HK, HB2, HN2⟩
          case measure => rw [HMU.out]; have := HLT.out; simp [World.iterPos, HK.out]; omega
      · obtain ⟨x, q, hnext', hcl⟩ : ∃ (x : Int) (q : Nat), (∀ ty, (Instr.next (.pointer (some ⟨w1.heap.size, 0, none⟩)) true ty).run Tryd.prog wr = .ok (.tuple #[.bool true, .int .i64 p, .int .i32 x]) (wr.iterAt w1.heap.size n q)) ∧ ¬ ((97 ≤ x ∧ x ≤ 122) ∨ (65 ≤ x ∧ x ≤ 90) ∨ (48 ≤ x ∧ x ≤ 57) ∨ x = 45) := by
          by_cases h128 : n[p].toNat < 128
          · exact ⟨_, _, fun ty => next_lit wr w1.heap.size n p _ p HIT.out hlt h128 rfl rfl ty, nameC_not hc⟩
          · have hge := (decode_high n p hlt (by omega)).1
            exact ⟨_, _, fun ty => next_high wr w1.heap.size n p _ p HIT.out hlt rfl rfl ty, by omega⟩
        have hnext := hnext'
        have HB2 := Lib.hid (Lib.below_iterAt HBW.out HSZ.out n q)
        have hcl := classesB hcl
        generalize wr.iterAt w1.heap.size n q = W1 at hnext HB2
        clear hc hlt hnext'
        rcases hcl with ⟨d1, d2, d3, d4⟩ | ⟨d1, d2, d3, d4, d5⟩ | ⟨d1, d2, d3, d4, d5, d6⟩ | ⟨d1, d2, d3, d4, d5, d6, d7⟩
        all_goals
          go_wp2_with fail
          go_ret2
          exact ⟨rfl, HB2.out⟩
    · obtain rfl : p = n.size := by omega
      exact absurd (all_yes (q := nameC) (s := n) (fun j h => HAL.out j h h)) H.out
set_option maxHeartbeats 3200000 in
set_option maxRecDepth 100000 in
/-- No colon; nothing ahead of it; too much ahead of it. -/
theorem name_no {s : ByteArray} (hs : s.size ≤ 140737488351232) (h : (cutP s 58).2.2 = false ∨ ((cutP s 58).2.2 = true ∧ (cutP s 58).1.size = 0) ∨ ((cutP s 58).2.2 = true ∧ 64 < (cutP s 58).1.size)) (w : World) :
    Calls Tryd.prog 51 #[.string s] w fun e w' => e = .returned (.tuple #[.string ⟨#[]⟩, .bool false]) ∧ Below w.heap.size w w' := by
  have HC := cut_any s hs 58 w
  unfold cutV at HC
  obtain ⟨n, hn⟩ : ∃ n, n = (cutP s 58).1 := ⟨_, rfl⟩
  rw [← hn] at HC h
  generalize (cutP s 58).2.1 = rest at HC
  rcases h with h | ⟨h, h0⟩ | ⟨h, h0⟩
  · rw [h] at HC
    clear h hn
    go_enter Tryd.func51, Tryd.ntmps51
    go_wp2_with fail
    refine HC.mono ?_
    rintro e w1 ⟨rfl, nr, rfl⟩
    clear HC
    go_wp2_with fail
    go_ret2
    exact ⟨rfl, belowN (Below.refl _ _) _⟩
  · rw [h] at HC
    have hn0 : n.toList.isEmpty = true := by
      have e1 := size_toList n
      rw [List.isEmpty_iff]
      exact List.eq_nil_of_length_eq_zero (by omega)
    clear h hn h0
    go_enter Tryd.func51, Tryd.ntmps51
    go_wp2_with fail
    refine HC.mono ?_
    rintro e w1 ⟨rfl, nr, rfl⟩
    clear HC
    go_wp2_with fail
    go_ret2
    exact ⟨rfl, belowN (Below.refl _ _) _⟩
  · rw [h] at HC
    have hn0 : n.toList.isEmpty = false := by
      have e1 := size_toList n
      cases hl : n.toList with
      | nil => rw [hl] at e1; simp at e1; omega
      | cons a r => rfl
    have hz : decide (64 < (n.size : Int)) = true := by simp; omega
    clear h hn h0
    go_enter Tryd.func51, Tryd.ntmps51
    go_wp2_with fail
    refine HC.mono ?_
    rintro e w1 ⟨rfl, nr, rfl⟩
    clear HC
    go_wp2_with fail
    go_ret2
    exact ⟨rfl, belowN (Below.refl _ _) _⟩
/-- What name answers. -/
def nameV (s : ByteArray) : Bs := (nameP s).getD []
theorem name_any {s : ByteArray} (hs : s.size ≤ 140737488351232) (w : World) : Calls Tryd.prog 51 #[.string s] w fun e w' => e = .returned (.tuple #[.string (str (nameV s)), .bool (nameP s).isSome]) ∧ Below w.heap.size w w' := by
  by_cases h : (cutP s 58).2.2 = true ∧ 1 ≤ (cutP s 58).1.size ∧ (cutP s 58).1.size ≤ 64 ∧ (cutP s 58).1.toList.all nameC = true
  · have e : nameP s = some ((cutP s 58).1.toList.map lowC) := if_pos h
    unfold nameV
    rw [e]
    exact name_ok hs ⟨by rw [← h.1], h.2.1, h.2.2.1, fun j hj => by
      have := List.all_eq_true.1 h.2.2.2 _ (List.getElem_mem (l := (cutP s 58).1.toList) (n := j) (by rw [size_toList]; exact hj))
      rw [toList_at hj] at this
      exact this⟩ w
  · have e : nameP s = none := if_neg h
    unfold nameV
    rw [e]
    by_cases h1 : (cutP s 58).2.2 = true
    · by_cases h2 : 1 ≤ (cutP s 58).1.size
      · by_cases h3 : (cutP s 58).1.size ≤ 64
        · exact name_bad hs (by rw [← h1]) h2 h3 (fun h4 => h ⟨h1, h2, h3, h4⟩) w
        · exact name_no hs (.inr (.inr ⟨h1, by omega⟩)) w
      · exact name_no hs (.inr (.inl ⟨h1, by omega⟩)) w
    · exact name_no hs (.inl (by simpa using h1)) w
end Go.Proofs.YthnhpnmopjbaoaaDoor
