/-
  The walk of name at a line that has one.
-/
import Derived.Test.YthnhpnmopjbaoaaDoorSmall11
namespace Go.Proofs.YthnhpnmopjbaoaaDoor
open Go.RowKit

def nameC (c : UInt8) : Bool := (decide (97 ≤ c.toNat) && decide (c.toNat ≤ 122)) || (decide (65 ≤ c.toNat) && decide (c.toNat ≤ 90)) || (decide (48 ≤ c.toNat) && decide (c.toNat ≤ 57)) || c.toNat == 45
theorem nameC_ascii {c : UInt8} (h : nameC c = true) : c.toNat < 128 := by unfold nameC at h; simp at h; omega
/-- The text ahead of the colon. -/
structure Named (s n : ByteArray) : Prop where
  cut : cutP s 58 = (n, (cutP s 58).2.1, true)
  lo : 1 ≤ n.size
  hi : n.size ≤ 64
  all : ∀ j (h : j < n.size), nameC n[j] = true
theorem classesN {c : UInt8} (h : nameC c = true) {x : Int} (hx : (c.toNat : Int) = x) :
    (decide (x < 97) = false ∧ decide (122 < x) = false) ∨
    (decide (x < 97) = true ∧ decide (x < 65) = false ∧ decide (90 < x) = false) ∨
    (decide (x < 97) = true ∧ decide (x < 65) = true ∧ decide (x < 48) = false ∧ decide (57 < x) = false) ∨
    (decide (x < 97) = true ∧ decide (x < 65) = true ∧ decide (x < 48) = true ∧ (x != 45) = false) := by
  have h' : (97 ≤ c.toNat ∧ c.toNat ≤ 122) ∨ (65 ≤ c.toNat ∧ c.toNat ≤ 90) ∨ (48 ≤ c.toNat ∧ c.toNat ≤ 57) ∨ c.toNat = 45 := by
    unfold nameC at h; simp at h; omega
  simp only [decide_eq_true_eq, decide_eq_false_iff_not, bne_eq_false_iff_eq]
  omega
set_option maxHeartbeats 3200000 in
set_option maxRecDepth 100000 in
theorem name_ok {s n : ByteArray} (hs : s.size ≤ 140737488351232) (h : Named s n) (w : World) : Calls Tryd.prog 51 #[.string s] w fun e w' => e = .returned (.tuple #[.string (str (n.toList.map lowC)), .bool true]) ∧ Below w.heap.size w w' := by
  have HC := cut_any s hs 58 w
  have H := Lib.hid h
  unfold cutV at HC
  rw [h.cut] at HC
  generalize (cutP s 58).2.1 = rest at HC
  have hn0 : n.toList.isEmpty = false := by
    have e1 := size_toList n
    have e2 := h.lo
    cases hl : n.toList with
    | nil => rw [hl] at e1; simp at e1; omega
    | cons a r => rfl
  have hz : decide (64 < (n.size : Int)) = false := by have := h.hi; simp; omega
  clear h
  go_enter Tryd.func51, Tryd.ntmps51
  go_wp2_with fail
  refine HC.mono ?_
  rintro e w1 ⟨rfl, nr, rfl⟩
  have B1 := Lib.hid (belowN (Below.refl w.heap.size w) nr)
  generalize w.drewN nr = w1 at B1 ⊢
  clear HC
  have HN : ∀ ty (wr : World) (p : Nat), wr.heap[w1.heap.size]? = some (.stringIter n p) → ¬ p < n.size → (Instr.next (.pointer (some ⟨w1.heap.size, 0, none⟩)) true ty).run Tryd.prog wr = .ok (.tuple #[.bool false]) wr := fun ty wr p hk h => Lib.run_next_end_at wr _ n p ty hk h
  go_wp2_with fail
  have K0 := Lib.hid (World.iter_heap w1 n 0)
  have B0 : Hid (Below w.heap.size w (w1.iter n 0)) := Lib.hid (B1.out.alloc B1.out.size _)
  have HSZ : Hid (w.heap.size ≤ w1.heap.size) := Lib.hid B1.out.size
  generalize w1.iter n 0 = W0 at K0 B0 ⊢
  go_loopw [8] (fun _ wr => ∃ p : Nat, p ≤ n.size ∧ Hid (wr.heap[w1.heap.size]? = some (.stringIter n p)) ∧ Hid (Below w.heap.size w wr)) (fun _ wr => n.size - wr.iterPos w1.heap.size)
  case atStart => exact ⟨0, Nat.zero_le _, K0, B0⟩
  case round =>
    obtain ⟨p, hp, HIT, HBW⟩ := hrel
    clear K0 B0
    have HMU : Hid (wr.iterPos w1.heap.size = p) := Lib.hid (by simp [World.iterPos, HIT.out])
    by_cases hlt : p < n.size
    · have hc := H.out.all p hlt
      have h128 := nameC_ascii hc
      obtain ⟨x, hx⟩ : ∃ x : Int, (n[p].toNat : Int) = x := ⟨_, rfl⟩
      have hnext : ∀ ty, (Instr.next (.pointer (some ⟨w1.heap.size, 0, none⟩)) true ty).run Tryd.prog wr = _ := fun ty => next_lit wr w1.heap.size n p x p HIT.out hlt h128 hx rfl ty
      have HK := Lib.hid (Lib.iterAt_heap wr w1.heap.size n p (p + 1) HIT.out)
      have HB2 := Lib.hid (Lib.below_iterAt HBW.out HSZ.out n (p + 1))
      have HLT := Lib.hid hlt
      have hcl := classesN hc hx
      generalize wr.iterAt w1.heap.size n (p + 1) = W1 at hnext HK HB2
      clear hc h128 hx hlt
      rcases hcl with ⟨d1, d2⟩ | ⟨d1, d2, d3⟩ | ⟨d1, d2, d3, d4⟩ | ⟨d1, d2, d3, d4⟩
      all_goals
        go_wp2_with fail
        go_roundw
        case rel => exact ⟨p + 1, HLT.out, HK, HB2⟩
        case measure => rw [HMU.out]; have := HLT.out; simp [World.iterPos, HK.out]; omega
    · obtain rfl : p = n.size := by omega
      have hend := fun ty => HN ty wr _ HIT.out hlt
      have HS := small_ascii n (by have := H.out.hi; omega) (fun j h => nameC_ascii (H.out.all j h)) wr
      clear HN
      go_wp2_with fail
      refine HS.mono ?_
      rintro e W2 ⟨rfl, hb⟩
      have B2 := Lib.hid (HBW.out.trans (hb.mono HBW.out.size))
      clear hb HS hend
      go_wp2_with fail
      go_ret2
      exact ⟨rfl, B2.out⟩
end Go.Proofs.YthnhpnmopjbaoaaDoor
