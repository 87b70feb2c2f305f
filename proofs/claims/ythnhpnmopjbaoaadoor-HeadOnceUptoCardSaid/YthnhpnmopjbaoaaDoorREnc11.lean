/-
  The walk of the document's Enc (layer 9).
-/
import Derived.Test.YthnhpnmopjbaoaaDoorRCook11
import Derived.Deep.RegionLaw
namespace Go.Proofs.YthnhpnmopjbaoaaDoor
open Go.RowKit

/-- While the text is gone over. -/
structure REncI (w wr : World) (t : ByteArray) (p : Nat) (v : Value) : Prop where
  own : OwnsB wr 5 v (encP (t.toList.take p))
  below : Below w.heap.size w wr
  fresh : ∀ g, v.ownBlock = some g → w.heap.size ≤ g
theorem bRows_one' (x : Int) (c : UInt8) (h : (c.toNat : Int) = x) : bRows [c] = [[.int .u8 x]] := by rw [← h]; rfl
theorem bRows_three (a b : UInt8) (ya yb : Int) (ha : (a.toNat : Int) = ya) (hb : (b.toNat : Int) = yb) : bRows [37, a, b] = [[.int .u8 37], [.int .u8 ya], [.int .u8 yb]] := by
  unfold bRows bts
  simp only [List.map_cons, List.map_nil, ha, hb]
  rfl
theorem REncI.next {w wr w1 w3 : World} {t : ByteArray} {p : Nat} {v v3 : Value} {q : Bs} (hlt : p < t.size) (hq : q = encB t[p]) (i : REncI w wr t p v) (m1 : Below wr.heap.size wr w1)
    (o3 : Owns w3 5 1 v3 (bRows (encP (t.toList.take p)) ++ bRows q)) (g3 : w1.grownBy w3 v.ownBlock) (n3 : v3.ownBlock = v.ownBlock ∨ ∃ g, v3.ownBlock = some g ∧ w1.heap.size ≤ g) : REncI w w3 t (p + 1) v3 := by
  have hs := i.below.size
  have hb1 := i.below.trans (m1.mono hs)
  refine ⟨?_, hb1.trans ?_, fun g e => ?_⟩
  · rw [take_encP hlt, ← hq]
    unfold OwnsB
    rw [bRows_append]
    exact o3
  · exact ⟨g3.os, g3.tape, g3.output, g3.size, fun k hk => g3.block k (Nat.lt_of_lt_of_le hk hb1.size) (fun e => by have := i.fresh k e.symm; omega)⟩
  · rcases n3 with h | ⟨g', h, hg⟩
    · exact i.fresh g (h ▸ e)
    · rw [h] at e; cases e
      have := hb1.size
      omega
set_option maxHeartbeats 6400000 in
set_option maxRecDepth 100000 in
theorem renc_any (t : ByteArray) (hs : t.size ≤ 40000000000000) (w : World) : Calls Tryd.prog 68 #[.string t] w fun e w' => e = .returned (.string (str (encP t.toList))) ∧ Below w.heap.size w w' := by
  have HN := fun c w => rplain_any c w
  have S0 : Hid (REncI w w t 0 (.slice none 0 0)) := Lib.hid ⟨Owns.empty _ _ _, Below.refl _ _, fun g e => by cases e⟩
  have HS := Lib.hid hs
  clear hs
  go_enter Tryd.func68, Tryd.ntmps68
  go_wp2_with fail
  go_loopw [3, 4, 26, 37] (fun v kv _ _ wr => ∃ (p : Nat) (ao : Option Addr) (L cap : Nat), p ≤ t.size ∧ v = .slice ao L cap ∧ kv = .int .i64 p ∧ Hid (L = (encP (t.toList.take p)).length) ∧ Hid (REncI w wr t p (.slice ao L cap))) (fun _ kv _ _ _ => t.size - (intOf kv).toNat)
  case atStart => exact ⟨0, none, 0, 0, Nat.zero_le _, rfl, rfl, rfl, S0⟩
  case round =>
    obtain ⟨p, ao, L, cap, hp, rfl, rfl, HLL, HI⟩ := hrel
    clear S0
    by_cases hlt : p < t.size
    · have hi : (p : Int) < (t.size : Int) := by omega
      obtain ⟨hw', hw⟩ : wrap64 ((p : Int) + 1) = (p : Int) + 1 ∧ IntKind.i64.wrap ((p : Int) + 1) = (p : Int) + 1 := wr_in (n := t.size) (by have := HS.out; omega) (by omega) (by omega)
      obtain ⟨c, hc⟩ : ∃ c, c = t[p] := ⟨_, rfl⟩
      obtain ⟨x, hx⟩ : ∃ x : Int, (t[p].toNat : Int) = x := ⟨_, rfl⟩
      have hcx : (c.toNat : Int) = x := by rw [hc]; exact hx
      have h256 := c.toNat_lt
      obtain ⟨q, hq⟩ : ∃ q, q = encB c := ⟨_, rfl⟩
      have HLE : Hid (L ≤ 120000000000000) := Lib.hid (by
        have := encP_len (t.toList.take p)
        rw [List.length_take, size_toList] at this
        have := HLL.out
        have := HS.out
        omega)
      have HSW : Hid (∀ w1 w3 v3, Below wr.heap.size wr w1 → Owns w3 5 1 v3 (bRows (encP (t.toList.take p)) ++ bRows q) → w1.grownBy w3 (Value.slice ao L cap).ownBlock → (v3.ownBlock = (Value.slice ao L cap).ownBlock ∨ ∃ g, v3.ownBlock = some g ∧ w1.heap.size ≤ g) →
          ∃ ao3 L3 cap3, v3 = .slice ao3 L3 cap3 ∧ L3 = (encP (t.toList.take (p + 1))).length ∧ REncI w w3 t (p + 1) v3) := Lib.hid (fun w1 w3 v3 m1 o3 g3 n3 => by
        have := HI.out.next hlt (by rw [hq, hc]) m1 o3 g3 n3
        obtain ⟨a, cp, hv, _⟩ := OwnsB.any this.own
        exact ⟨a, _, cp, hv, rfl, this⟩)
      have HO : ∀ w1, Below wr.heap.size wr w1 → Owns w1 5 1 (.slice ao L cap) (bRows (encP (t.toList.take p))) := fun w1 hb => Owns.mod HI.out.own (Mod.of_below (F := fun _ => False) hb) (fun _ _ x => x)
      have HNc := HN c wr
      rw [hcx] at HNc
      rcases enc_ways c hcx with ⟨hv, hk⟩ | ⟨hv, rfl⟩ | ⟨hv, e1, e2, e3, e4, hk⟩
      · have hkc : keepC c = true := by
          cases hh : keepC c with
          | true => rfl
          | false =>
            exfalso
            unfold encB at hv
            rw [hh, if_neg (by simp)] at hv
            by_cases h32 : c.toNat = 32
            · rw [if_pos h32] at hv
              have h43 := (List.cons.inj hv).1
              rw [← h43] at h32
              exact absurd h32 (by decide)
            · rw [if_neg h32] at hv
              simp at hv
        rw [hkc] at HNc
        have hq1 : bRows q = [[.int .u8 x]] := by rw [hq, hv]; exact bRows_one' x c hcx
        have HQ1 := Lib.hid hq1
        have hO : Hid (Owns (wr.alloc (.cells #[.int .u8 x] 5)) 5 1 (.slice ao L cap) (bRows (encP (t.toList.take p)))) := Lib.hid (HO _ (below_alloc1 wr _))
        have hL := Lib.hid (lies_new wr [.int .u8 x] 5 rfl)
        have HB1 := Lib.hid (below_alloc1 wr (.cells #[.int .u8 x] 5))
        have hr1 : Hid ((bRows (encP (t.toList.take p))).length + ([[Value.int .u8 x]] : List (List Value)).length ≤ maxLen) := by show _ ≤ _; rw [bRows_len, ← HLL.out]; have := HLE.out; unfold maxLen; simp; omega
        have hr2 : Hid (((bRows (encP (t.toList.take p))).length + ([[Value.int .u8 x]] : List (List Value)).length) * 1 ≤ 140737488355328) := by show _ ≤ _; rw [bRows_len, ← HLL.out]; have := HLE.out; simp; omega
        have HLT := Lib.hid hlt
        clear hv hk hcx h256 hq hc HO hkc hq1
        go_wp2_with fail
        refine HNc.mono ?_
        rintro e w1 ⟨rfl, rfl⟩
        clear HNc
        go_wp2_with (at_builtin; refine wpList_append_rows rfl (.tmp 31) (.tmp 35) 95 rfl 5 _ 1 1 Tryd.underlying95 info5 rfl (by decide) (.slice ao L cap) (bRows (encP (t.toList.take p))) (by rfl) hO.out (some ⟨wr.heap.size, 0, none⟩) 1 1 [[.int .u8 x]] (by rfl) rfl (fun e => by cases e) hL.out (by simp [Value.oneCell']) (by simp) hr1.out (by have h := hr2.out; omega) ?_; intro v3 w3 o3 g3 n3; obtain ⟨a7, L7, c7, hv7, hl7, R7⟩ := HSW.out _ _ _ HB1.out (by rw [HQ1.out]; exact o3) g3 n3; subst hv7; have R3 := Lib.hid R7; have HL7 := Lib.hid hl7; clear o3 g3 n3 R7 hl7)
        go_roundw
        case rel => exact ⟨p + 1, _, _, _, HLT.out, rfl, by go_num, HL7, R3⟩
        case measure => have := HLT.out; simp [intOf]; omega
      · have hkc : keepC c = false := by
          cases hh : keepC c with
          | false => rfl
          | true => unfold encB at hv; rw [if_pos hh] at hv; have h43 := (List.cons.inj hv).1; rw [h43] at hcx; exact absurd hcx (by decide)
        rw [hkc] at HNc
        have hq1 : bRows q = [[.int .u8 43]] := by rw [hq, hv]; rfl
        have HQ1 := Lib.hid hq1
        have hO : Hid (Owns (wr.alloc (.cells #[.int .u8 43] 5)) 5 1 (.slice ao L cap) (bRows (encP (t.toList.take p)))) := Lib.hid (HO _ (below_alloc1 wr _))
        have hL := Lib.hid (lies_new wr [.int .u8 43] 5 rfl)
        have HB1 := Lib.hid (below_alloc1 wr (.cells #[.int .u8 43] 5))
        have hr1 : Hid ((bRows (encP (t.toList.take p))).length + ([[Value.int .u8 43]] : List (List Value)).length ≤ maxLen) := by show _ ≤ _; rw [bRows_len, ← HLL.out]; have := HLE.out; unfold maxLen; simp; omega
        have hr2 : Hid (((bRows (encP (t.toList.take p))).length + ([[Value.int .u8 43]] : List (List Value)).length) * 1 ≤ 140737488355328) := by show _ ≤ _; rw [bRows_len, ← HLL.out]; have := HLE.out; simp; omega
        have HLT := Lib.hid hlt
        clear hv hcx h256 hq hc HO hkc hq1
        go_wp2_with fail
        refine HNc.mono ?_
        rintro e w1 ⟨rfl, rfl⟩
        clear HNc
        go_wp2_with (at_builtin; refine wpList_append_rows rfl (.tmp 42) (.tmp 43) 95 rfl 5 _ 1 1 Tryd.underlying95 info5 rfl (by decide) (.slice ao L cap) (bRows (encP (t.toList.take p))) (by rfl) hO.out (some ⟨wr.heap.size, 0, none⟩) 1 1 [[.int .u8 43]] (by rfl) rfl (fun e => by cases e) hL.out (by simp [Value.oneCell']) (by simp) hr1.out (by have h := hr2.out; omega) ?_; intro v3 w3 o3 g3 n3; obtain ⟨a7, L7, c7, hv7, hl7, R7⟩ := HSW.out _ _ _ HB1.out (by rw [HQ1.out]; exact o3) g3 n3; subst hv7; have R3 := Lib.hid R7; have HL7 := Lib.hid hl7; clear o3 g3 n3 R7 hl7)
        go_roundw
        case rel => exact ⟨p + 1, _, _, _, HLT.out, rfl, by go_num, HL7, R3⟩
        case measure => have := HLT.out; simp [intOf]; omega
      · have hkc : keepC c = false := by
          cases hh : keepC c with
          | false => rfl
          | true => unfold encB at hv; rw [if_pos hh] at hv; simp at hv
        rw [hkc] at HNc
        obtain ⟨a, ha⟩ : ∃ a, a = c.toNat / 16 := ⟨_, rfl⟩
        obtain ⟨b, hb⟩ : ∃ b, b = c.toNat % 16 := ⟨_, rfl⟩
        have hd0 : x.tdiv 16 = (a : Int) := by rw [Int.tdiv_eq_ediv_of_nonneg (by omega)]; omega
        have hm0 : x.tmod 16 = (b : Int) := by rw [Int.tmod_eq_emod_of_nonneg (by omega)]; omega
        have ha16 : a < 16 := by omega
        have hb16 : b < 16 := by omega
        have hx0 : 0 ≤ x := by omega
        have hx1 : x ≤ 255 := by omega
        clear e1 e2 e3 hk h256 hcx
        obtain ⟨hd1, hd2⟩ := wr_sm (x := (a : Int)) (by omega) (by omega)
        obtain ⟨hcv', hcv⟩ := wr_sm (x := x) (by omega) (by omega)
        have HDn : ∀ (n : Nat) (y : Int), ((hexD n).toNat : Int) = y → n < 16 → ∀ w, Calls Tryd.prog 82 #[.int .i64 n] w fun e w' => e = .returned (.int .u8 y) ∧ w = w' := fun n y hy hn w => by
          rw [← hy]
          exact rdigit_any n hn w
        obtain ⟨ya, hya⟩ : ∃ ya : Int, ((hexD a).toNat : Int) = ya := ⟨_, rfl⟩
        obtain ⟨yb, hyb⟩ : ∃ yb : Int, ((hexD b).toNat : Int) = yb := ⟨_, rfl⟩
        have hq1 : bRows q = [[.int .u8 37], [.int .u8 ya], [.int .u8 yb]] := by rw [hq, hv, ← ha, ← hb]; exact bRows_three _ _ _ _ hya hyb
        have HQ1 := Lib.hid hq1
        have HB1 : Hid (Below wr.heap.size wr (wr.drew.alloc (.cells #[.int .u8 37, .int .u8 ya, .int .u8 yb] 5))) := Lib.hid ((belowD (Below.refl _ wr)).alloc (Nat.le_refl _) _)
        have hO : Hid (Owns (wr.drew.alloc (.cells #[.int .u8 37, .int .u8 ya, .int .u8 yb] 5)) 5 1 (.slice ao L cap) (bRows (encP (t.toList.take p)))) := Lib.hid (HO _ HB1.out)
        have hL : Hid (Lies (wr.drew.alloc (.cells #[.int .u8 37, .int .u8 ya, .int .u8 yb] 5)) 1 (some ⟨wr.heap.size, 0, none⟩) [[.int .u8 37], [.int .u8 ya], [.int .u8 yb]]) := Lib.hid (by
          have hbk : (wr.drew.alloc (.cells #[.int .u8 37, .int .u8 ya, .int .u8 yb] 5)).heap[wr.heap.size]? = some (.cells #[.int .u8 37, .int .u8 ya, .int .u8 yb] 5 (0, 0)) := heap_alloc_new wr.drew _
          have hlt : wr.heap.size < (wr.drew.alloc (.cells #[.int .u8 37, .int .u8 ya, .int .u8 yb] 5)).heap.size := lt_of_block hbk
          intro i r hi
          match i, hi with
          | 0, hi => cases hi; exact ⟨_, _, rfl, hlt, rfl, fun j u hj => by match j, hj with | 0, hj => cases hj; exact cell_blk hbk 0⟩
          | 1, hi => cases hi; exact ⟨_, _, rfl, hlt, rfl, fun j u hj => by match j, hj with | 0, hj => cases hj; exact cell_blk hbk 1⟩
          | 2, hi => cases hi; exact ⟨_, _, rfl, hlt, rfl, fun j u hj => by match j, hj with | 0, hj => cases hj; exact cell_blk hbk 2⟩)
        have hr1 : Hid ((bRows (encP (t.toList.take p))).length + ([[Value.int .u8 37], [.int .u8 ya], [.int .u8 yb]] : List (List Value)).length ≤ maxLen) := by show _ ≤ _; rw [bRows_len, ← HLL.out]; have := HLE.out; unfold maxLen; simp; omega
        have hr2 : Hid (((bRows (encP (t.toList.take p))).length + ([[Value.int .u8 37], [.int .u8 ya], [.int .u8 yb]] : List (List Value)).length) * 1 ≤ 140737488355328) := by show _ ≤ _; rw [bRows_len, ← HLL.out]; have := HLE.out; simp; omega
        have HLT := Lib.hid hlt
        clear hv hq hc HO hkc hq1 ha hb
        go_wp2_with fail
        refine HNc.mono ?_
        rintro e w1 ⟨rfl, rfl⟩
        clear HNc
        go_wp2_with fail
        go_region_law (first
          | (refine step_append_rows rfl (.tmp 11) (.tmp 24) 95 rfl 5 _ 1 1 Tryd.underlying95 info5 rfl (by decide) (.slice ao L cap) (bRows (encP (t.toList.take p))) (by rfl) hO.out (some ⟨wr.heap.size, 0, none⟩) 3 3 [[.int .u8 37], [.int .u8 ya], [.int .u8 yb]] (by rfl) rfl (fun e => by cases e) hL.out (by simp [Value.oneCell']) (by simp) hr1.out (by have h := hr2.out; omega) ?_; intro v3 w3 o3 g3 n3; obtain ⟨a7, L7, c7, hv7, hl7, R7⟩ := HSW.out _ _ _ HB1.out (by rw [HQ1.out]; exact o3) g3 n3; subst hv7; have R3 := Lib.hid R7; have HL7 := Lib.hid hl7; clear o3 g3 n3 R7 hl7)
          | (go_simp; go_at_call 82; refine (HDn _ _ (by assumption) (by assumption) _).mono ?_; rintro e w1 ⟨rfl, rfl⟩))
        all_goals
          go_wp2_with fail
          go_roundw
          case rel => exact ⟨p + 1, _, _, _, HLT.out, rfl, by go_num, HL7, R3⟩
          case measure => have := HLT.out; simp [intOf]; omega
    · obtain rfl : p = t.size := by omega
      have hown := HI.out.own
      rw [List.take_of_length_le (by rw [size_toList]; exact Nat.le_refl _)] at hown
      have hl := HLL.out
      rw [List.take_of_length_le (by rw [size_toList]; exact Nat.le_refl _)] at hl
      subst hl
      have hconv := run_back (P := Tryd.prog) (src := 95) (dst := 9) hown Tryd.underlying95 Tryd.underlying5 Tryd.underlying9
      clear hown
      go_wp2
      go_ret
      exact ⟨rfl, HI.out.below⟩
end Go.Proofs.YthnhpnmopjbaoaaDoor
