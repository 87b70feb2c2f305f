/-
  The walk of the document's SameTexts.
-/
import Derived.Test.YthnhpnmopjbaoaaDoorClone11
import Derived.BigQuiet
namespace Go.Proofs.YthnhpnmopjbaoaaDoor
open Go.RowKit

theorem belowN' {B : Nat} {a w : World} (h : Below B a w) (n : Nat) : Below B a (w.drewN n) := ⟨h.os, h.tape, h.output, h.size, h.block⟩
theorem line_at {w : World} {ao : Option Addr} {ls : List ByteArray} (h : Lies w 1 ao (ls.map sR)) {k : Nat} (hk : k < ls.length) : ∃ g off, ao = some ⟨g, off, none⟩ ∧ g < w.heap.size ∧ w.cell? ⟨g, off + k, none⟩ = some (.string ls[k]) := by
  obtain ⟨g, off, e, hg, _, hc⟩ := h k (sR ls[k]) (by simp [hk])
  refine ⟨g, off, e, hg, ?_⟩
  have := hc 0 (.string ls[k]) rfl
  simpa using this
set_option maxHeartbeats 1600000 in
set_option maxRecDepth 100000 in
theorem same_any {w : World} {a b : Option Addr} {ca cb : Nat} {la lb : List ByteArray} (ha : Lies w 1 a (la.map sR)) (hb : Lies w 1 b (lb.map sR)) (hl : la.length ≤ 4096) (hl2 : lb.length ≤ 4096) :
    Calls Tryd.prog 28 #[.slice a la.length ca, .slice b lb.length cb] w fun e w' => e = .returned (.bool (decide (la = lb))) ∧ Below w.heap.size w w' := by
  obtain ⟨r, hr⟩ : ∃ r, r = decide (la = lb) := ⟨_, rfl⟩
  rw [← hr]
  have HR := Lib.hid hr
  have HA := Lib.hid ha
  have HB := Lib.hid hb
  clear hr ha hb
  by_cases hlen : la.length = lb.length
  · have d0 : ((la.length : Int) != (lb.length : Int)) = false := by simp [hlen]
    have HLE := Lib.hid hlen
    clear hlen
    go_enter Tryd.func28, Tryd.ntmps28
    go_wp2_with fail
    go_loopw [5] (fun kv wr => ∃ k : Nat, k ≤ la.length ∧ kv = .int .i64 k ∧ Hid (Below w.heap.size w wr) ∧ Hid (∀ j (h1 : j < la.length) (h2 : j < lb.length), j < k → la[j] = lb[j])) (fun kv _ => la.length - (intOf kv).toNat)
    case atStart => exact ⟨0, Nat.zero_le _, rfl, Below.refl _ _, fun j _ _ h => absurd h (Nat.not_lt_zero j)⟩
    case round =>
      obtain ⟨k, hk, rfl, HW, HE⟩ := hrel
      by_cases hlt : k < la.length
      · have hi : (k : Int) < (la.length : Int) := by omega
        have hlt2 : k < lb.length := by have := HLE.out; omega
        have hi2 : (k : Int) < (lb.length : Int) := by omega
        have hw : IntKind.i64.wrap ((k : Int) + 1) = (k : Int) + 1 := by rw [IntKind.wrap_i64]; omega
        have hw' : wrap64 ((k : Int) + 1) = (k : Int) + 1 := wr64 (by omega) (by omega)
        obtain ⟨g1, o1, rfl, hg1, hc1⟩ := line_at HA.out hlt
        obtain ⟨g2, o2, rfl, hg2, hc2⟩ := line_at HB.out hlt2
        have hw1 := (HW.out.cell (p := ⟨g1, o1 + k, none⟩) hg1).trans hc1
        have hw2 := (HW.out.cell (p := ⟨g2, o2 + k, none⟩) hg2).trans hc2
        by_cases he : la[k] = lb[k]
        · have HE2 : Hid (∀ j (h1 : j < la.length) (h2 : j < lb.length), j < k + 1 → la[j] = lb[j]) := Lib.hid (fun j h1 h2 hj => by
            rcases Nat.lt_succ_iff_lt_or_eq.1 hj with h' | rfl
            · exact HE.out j h1 h2 h'
            · exact he)
          have deq : (la[k].toList == lb[k].toList) = true := by simp [he]
          have HLT := Lib.hid hlt
          clear he hc1 hc2 hg1 hg2
          generalize la[k] = x at hw1 deq
          generalize lb[k] = y at hw2 deq
          clear hlt hlt2
          go_wp2_with fail
          go_quiet (fail)
          go_wp2_with fail
          go_roundw
          case rel => exact ⟨k + 1, HLT.out, by go_num, belowN' HW.out _, HE2⟩
          case measure => have := HLT.out; simp [intOf]; omega
        · have HF : Hid (r = false) := Lib.hid (by rw [HR.out]; exact decide_eq_false (fun e => he (by subst e; rfl)))
          have deq : (la[k].toList == lb[k].toList) = false := by
            rw [beq_eq_false_iff_ne]
            intro e
            exact he (by rw [← str_of la[k], ← str_of lb[k], e])
          clear he hc1 hc2 hg1 hg2
          generalize la[k] = x at hw1 deq
          generalize lb[k] = y at hw2 deq
          clear hlt hlt2
          go_wp2_with fail
          go_quiet (fail)
          go_wp2_with fail
          go_ret
          exact ⟨by rw [HF.out]; rfl, belowN' HW.out _⟩
      · obtain rfl : k = la.length := by omega
        have HF : Hid (r = true) := Lib.hid (by
          rw [HR.out]
          exact decide_eq_true (List.ext_getElem HLE.out (fun j h1 h2 => HE.out j h1 h2 h1)))
        go_wp2_with fail
        go_ret
        exact ⟨by rw [HF.out]; rfl, HW.out⟩
  · have d0 : ((la.length : Int) != (lb.length : Int)) = true := by simp; omega
    have HF : Hid (r = false) := Lib.hid (by rw [HR.out]; exact decide_eq_false (fun e => hlen (by rw [e])))
    clear hlen
    go_enter Tryd.func28, Tryd.ntmps28
    go_wp2_with fail
    go_ret
    exact ⟨by rw [HF.out]; rfl, Below.refl _ _⟩
end Go.Proofs.YthnhpnmopjbaoaaDoor
