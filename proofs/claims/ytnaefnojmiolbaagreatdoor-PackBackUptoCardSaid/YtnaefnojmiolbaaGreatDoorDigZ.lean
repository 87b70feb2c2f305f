/-
  The walk of the document's Digits. Printed by genDig21.py.
-/
import Derived.Test.YtnaefnojmiolbaaGreatDoorNum
import Derived.Test.YtnaefnojmiolbaaGreatDoorRows
import Derived.Lib.ItoaLen
namespace Go.Proofs.YtnaefnojmiolbaaGreatDoor
open Go.RowKit

theorem wrap_in {x : Int} (h0 : -9223372036854775808 ≤ x) (h1 : x ≤ 9223372036854775807) : IntKind.i64.wrap x = x := by rw [IntKind.wrap_i64]; omega
theorem ret_int {k : IntKind} {a b : Int} (h : a = b) : Ending.returned (.int k a) = .returned (.int k b) := by rw [h]

theorem info5 : (Tryz.prog.info? 5).map (fun i => (i.zero, i.size, i.bytes)) = some (some (.int .u8 0), 1, 1) := by kernel_rfl
theorem digitsP_len (u : Nat) : (digitsP u).length ≤ Lib.nDigits u := by
  unfold digitsP
  split
  · simp
  · rw [Lib.decDigits_length]; exact Nat.le_refl _

theorem owns_one (w : World) (x : Value) (t : TypeId) (hx : x.oneCell' = true) : Owns (w.alloc (.cells #[x] t)) t 1 (.slice (some ⟨w.heap.size, 0, none⟩) 1 1) [[x]] :=
  ⟨⟨rfl, .inr ⟨w.heap.size, 1, #[x], rfl, Nat.zero_le _, heap_alloc_new w _, Nat.le_refl _, by decide, rfl, rfl⟩⟩, fun r hr => by rw [List.mem_singleton.1 hr]; rfl, fun r hr u hu => by rw [List.mem_singleton.1 hr] at hu; rw [List.mem_singleton.1 hu]; exact hx⟩
theorem digits_short {n : Int} (h0 : -9223372036854775808 ≤ n) (h1 : n ≤ 9223372036854775807) : (digitsP n.natAbs).length ≤ 21 := by
  have h := Lib.itoa_length_le n h0 h1
  unfold Lib.itoa at h
  unfold digitsP
  split
  · simp
  · split at h
    · simp only [List.length_cons] at h; omega
    · rename_i hn; rw [show n.natAbs = n.toNat by omega]; exact h
theorem bRows_cons (x : UInt8) (b : Bs) : bRows (x :: b) = [.int .u8 x.toNat] :: bRows b := rfl
theorem bRows_nil : bRows [] = [] := rfl

/-- The digits that are still to come, and those that have come. -/
def DigRel (W wr : World) (u v : Nat) (bv : Value) : Prop := ∃ b : Bs, digitsP u = digitsP v ++ b ∧ OwnsB wr 5 bv b ∧ Below W.heap.size W wr

/-- A text that is told; nothing that was there has turned. -/
def TextPost (W : World) (l : Bs) (e : Ending) (w' : World) : Prop := e = .returned (.string (str l)) ∧ Below W.heap.size W w'

set_option maxHeartbeats 3200000 in
theorem rdigits_pos (n : Int) (h1 : n ≤ 9223372036854775807) (hu : 0 < n) (w : World) :
    Calls Tryz.prog 61 #[.int .i64 n] w (TextPost w (Lib.itoa n)) := by
  generalize hres : Lib.itoa n = res
  have HRES := Lib.hid hres
  clear hres
  have hz : (n == 0) = false := by simp; omega
  obtain ⟨u, hun⟩ : ∃ u : Nat, n = (u : Int) := ⟨n.toNat, by omega⟩
  have HUN := Lib.hid hun
  have hlen := Lib.hid (digits_short (n := n) (by omega) h1)
  have hnn : decide (n < 0) = false := by simp; omega
  clear hun
  go_enter Tryz.func61, Tryz.ntmps61
  go_wp2_with fail
  go_loopw [3, 4] (fun bv mv wr => ∃ (m : Int) (v : Nat), 0 ≤ m ∧ m ≤ 9223372036854775807 ∧ mv = .int .i64 m ∧ Hid (m = (v : Int)) ∧ DigRel w wr u v bv) (fun _ mv _ => (intOf mv).toNat)
  case atStart => exact ⟨n, u, by omega, h1, rfl, HUN, [], by simp, Owns.empty _ _ _, Below.refl _ _⟩
  case round =>
    obtain ⟨m, v, hm0, hv, rfl, hmv, b, hb, ho, bl⟩ := hrel
    have HB := Lib.hid hb
    have HO := Lib.hid ho
    have BL := Lib.hid bl
    obtain ⟨ao, cap, rfl, hlc, hcm, hno, -⟩ := ho.any
    by_cases h0 : m = 0
    · have hv1 : (m != 0) = false := by simp [h0]
      have hconv := run_back (P := Tryz.prog) (src := 54) (dst := 9) ho Tryz.underlying54 Tryz.underlying5 Tryz.underlying9
      have HS : Hid (str b = str res) := by
        show _ = _
        have hv0 : v = 0 := by have := hmv.out; omega
        have hun := HUN.out
        have : b = res := by
          have e : digitsP v = [] := by rw [hv0]; rfl
          rw [e, List.nil_append] at hb
          rw [← hb, ← HRES.out, hun, Lib.itoa_nonneg]
          unfold digitsP
          rw [if_neg (by omega)]
        rw [this]
      clear ho hb hno bl hv h1 hlc hcm h0
      go_wp2
      go_ret
      exact ⟨by rw [← HS.out]; rfl, BL.out⟩
    · have hv0 : (m != 0) = true := by simp [h0]
      have hmv' := hmv.out
      have hd := digitsP_step (u := v) (by omega)
      have hm1 : (0 : Int) ≤ m % 10 := by omega
      have hm2 : m % 10 ≤ 9 := by omega
      have hu8 : IntKind.u8.wrap (48 + m % 10) = 48 + m % 10 := by unfold IntKind.wrap; simp [IntKind.bits]; omega
      obtain ⟨x, hx⟩ : ∃ x : UInt8, x = UInt8.ofNat (48 + v % 10) := ⟨_, rfl⟩
      have hxn : (x.toNat : Int) = 48 + m % 10 := by rw [hx, ofNat_toNat (by omega)]; omega
      have HX := Lib.hid hxn
      have HD : Hid (digitsP u = digitsP (v / 10) ++ (x :: b)) := by show _ = _; rw [hb, hd, hx, List.append_assoc]; rfl
      have HQ : Hid (m / 10 = ((v / 10 : Nat) : Int)) := by show _ = _; omega
      have hbl : b.length ≤ 21 := by
        have := hlen.out
        rw [show n.natAbs = u by have := HUN.out; omega, hb, List.length_append] at this
        omega
      have hOn : Hid (Owns (wr.alloc (.cells #[.int .u8 (48 + m % 10)] 5)) 5 1 (.slice (some ⟨wr.heap.size, 0, none⟩) 1 1) [[.int .u8 (48 + m % 10)]]) := owns_one wr _ 5 rfl
      have hL : Hid (Lies (wr.alloc (.cells #[.int .u8 (48 + m % 10)] 5)) 1 ao (bRows b)) := by
        obtain ⟨ao', cap', hv', _, _, hl, _, _⟩ := Owns.any ho
        simp only [Value.slice.injEq] at hv'
        obtain ⟨rfl, -, -⟩ := hv'
        exact hl.kept fun g off e hg => ⟨Below.heap_alloc _ _ _ hg, by simp; omega⟩
      have n1 : Hid (b.length = (bRows b).length) := (bRows_len b).symm
      have hN : Hid (ao = none → bRows b = [] ∧ cap = 0) := fun e => by obtain ⟨a, c⟩ := hno e; rw [a]; exact ⟨rfl, c⟩
      have r1 : Hid (([[Value.int .u8 (48 + m % 10)]] : List (List Value)).length + (bRows b).length ≤ maxLen) := by show _ ≤ _; unfold maxLen; rw [bRows_len]; simp; omega
      have r2 : Hid ((([[Value.int .u8 (48 + m % 10)]] : List (List Value)).length + (bRows b).length) * 1 ≤ 140737488355328) := by show _ ≤ _; rw [bRows_len]; simp; omega
      clear ho hb hno bl hd hx hxn hlc hcm hmv'
      go_wp2_with (at_builtin; refine wpList_append_rows rfl (.tmp 22) (.tmp 23) 54 rfl 5 _ 1 1 Tryz.underlying54 info5 rfl (by decide) (.slice (some ⟨wr.heap.size, 0, none⟩) 1 1) [[.int .u8 (48 + m % 10)]] rfl hOn.out ao b.length cap (bRows b) rfl n1.out hN.out hL.out (bRows_one _) (bRows_size _) r1.out r2.out ?_; intro v3 w3 o3 g3 b3; have O3 := Lib.hid o3; have G3 := Lib.hid g3; clear o3 g3 b3)
      go_roundw
      case rel =>
        refine ⟨m / 10, v / 10, by omega, by omega, rfl, HQ, x :: b, HD.out, ?_, ?_⟩
        · have := O3.out
          rw [← HX.out] at this
          exact this
        · exact (BL.out.alloc BL.out.size _).grown G3.out (by have := BL.out.size; simp; omega) (fun k e => by cases e; exact BL.out.size)
      case measure => simp [intOf]; omega
set_option maxHeartbeats 3200000 in
theorem rdigits_neg (n : Int) (h1 : -9223372036854775808 ≤ n) (hu : n < 0) (w : World) :
    Calls Tryz.prog 61 #[.int .i64 n] w (TextPost w (Lib.itoa n)) := by
  generalize hres : Lib.itoa n = res
  have HRES := Lib.hid hres
  clear hres
  have hz : (n == 0) = false := by simp; omega
  obtain ⟨u, hun⟩ : ∃ u : Nat, n = -(u : Int) := ⟨n.natAbs, by omega⟩
  have HUN := Lib.hid hun
  have hlen := Lib.hid (digits_short (n := n) h1 (by omega))
  have hnn : decide (n < 0) = true := by simp; omega
  clear hun
  go_enter Tryz.func61, Tryz.ntmps61
  go_wp2_with fail
  go_loopw [3, 4] (fun bv mv wr => ∃ (m : Int) (v : Nat), m ≤ 0 ∧ -9223372036854775808 ≤ m ∧ mv = .int .i64 m ∧ Hid (m = -(v : Int)) ∧ DigRel w wr u v bv) (fun _ mv _ => (-intOf mv).toNat)
  case atStart => exact ⟨n, u, by omega, h1, rfl, HUN, [], by simp, Owns.empty _ _ _, Below.refl _ _⟩
  case round =>
    obtain ⟨m, v, hm0, hv, rfl, hmv, b, hb, ho, bl⟩ := hrel
    have HB := Lib.hid hb
    have HO := Lib.hid ho
    have BL := Lib.hid bl
    obtain ⟨ao, cap, rfl, hlc, hcm, hno, -⟩ := ho.any
    by_cases h0 : m = 0
    · have hv1 : (m != 0) = false := by simp [h0]
      have hconv := run_back (P := Tryz.prog) (src := 54) (dst := 9) ho Tryz.underlying54 Tryz.underlying5 Tryz.underlying9
      have HS : Hid (str [45] ++ str b = str res) := by
        show _ = _
        have hv0 : v = 0 := by have := hmv.out; omega
        have hun := HUN.out
        have : 45 :: b = res := by
          have e : digitsP v = [] := by rw [hv0]; rfl
          rw [e, List.nil_append] at hb
          rw [← hb, ← HRES.out, hun, Lib.itoa_neg u (by omega)]
          unfold digitsP
          rw [if_neg (by omega)]
        rw [str_append, ← this]; rfl
      have hbsz : (str b).size ≤ 21 := by
        have := hlen.out
        rw [show n.natAbs = u by have := HUN.out; omega, hb, List.length_append] at this
        rw [str_size]; omega
      clear ho hb hno bl hv h1 hlc hcm h0
      go_wp2
      go_ret
      exact ⟨by rw [← HS.out]; rfl, BL.out⟩
    · have hv0 : (m != 0) = true := by simp [h0]
      have hmv' := hmv.out
      have hd := digitsP_step (u := v) (by omega)
      obtain ⟨q, hq⟩ : ∃ q : Int, q = (v % 10 : Nat) := ⟨_, rfl⟩
      have ht : m.tmod 10 = -q := by rw [hmv', Int.neg_tmod, Int.tmod_eq_emod_of_nonneg (by omega)]; omega
      have hdv : m.tdiv 10 = -((v / 10 : Nat) : Int) := by rw [hmv', Int.neg_tdiv, Int.tdiv_eq_ediv_of_nonneg (by omega)]; omega
      obtain ⟨m', hm'⟩ : ∃ m' : Int, m' = m.tdiv 10 := ⟨_, rfl⟩
      have HQ : Hid (m' = -((v / 10 : Nat) : Int)) := by show _ = _; rw [hm', hdv]
      have hm1 : m' ≤ 0 := by rw [hm', hdv]; omega
      have hm2 : -9223372036854775808 ≤ m' := by rw [hm', hdv]; omega
      have hm3 : -m' < -m := by rw [hm', hdv, hmv']; omega
      have hq0 : 0 ≤ q := by omega
      have hq9 : q ≤ 9 := by omega
      have hwn : IntKind.i64.wrap (-(-q)) = q := by rw [Int.neg_neg]; exact wrap_in (by omega) (by omega)
      have hu8 : IntKind.u8.wrap (48 + q) = 48 + q := by unfold IntKind.wrap; simp [IntKind.bits]; omega
      obtain ⟨x, hx⟩ : ∃ x : UInt8, x = UInt8.ofNat (48 + v % 10) := ⟨_, rfl⟩
      have hxn : (x.toNat : Int) = 48 + q := by rw [hx, ofNat_toNat (by omega)]; omega
      have HX := Lib.hid hxn
      have HD : Hid (digitsP u = digitsP (v / 10) ++ (x :: b)) := by show _ = _; rw [hb, hd, hx, List.append_assoc]; rfl
      have hbl : b.length ≤ 21 := by
        have := hlen.out
        rw [show n.natAbs = u by have := HUN.out; omega, hb, List.length_append] at this
        omega
      have hOn : Hid (Owns (wr.alloc (.cells #[.int .u8 (48 + q)] 5)) 5 1 (.slice (some ⟨wr.heap.size, 0, none⟩) 1 1) [[.int .u8 (48 + q)]]) := owns_one wr _ 5 rfl
      have hL : Hid (Lies (wr.alloc (.cells #[.int .u8 (48 + q)] 5)) 1 ao (bRows b)) := by
        obtain ⟨ao', cap', hv', _, _, hl, _, _⟩ := Owns.any ho
        simp only [Value.slice.injEq] at hv'
        obtain ⟨rfl, -, -⟩ := hv'
        exact hl.kept fun g off e hg => ⟨Below.heap_alloc _ _ _ hg, by simp; omega⟩
      have n1 : Hid (b.length = (bRows b).length) := (bRows_len b).symm
      have hN : Hid (ao = none → bRows b = [] ∧ cap = 0) := fun e => by obtain ⟨a, c⟩ := hno e; rw [a]; exact ⟨rfl, c⟩
      have r1 : Hid (([[Value.int .u8 (48 + q)]] : List (List Value)).length + (bRows b).length ≤ maxLen) := by show _ ≤ _; unfold maxLen; rw [bRows_len]; simp; omega
      have r2 : Hid ((([[Value.int .u8 (48 + q)]] : List (List Value)).length + (bRows b).length) * 1 ≤ 140737488355328) := by show _ ≤ _; rw [bRows_len]; simp; omega
      have HM' := Lib.hid hm'
      have hm0' : m < 0 := by omega
      clear ho hb hno bl hd hx hxn hlc hcm hmv' hq hdv hm'
      by_cases hqz : q = 0
      · have hn0 : decide (-q < 0) = false := by simp; omega
        have hn1 : -q = q := by omega
        rw [hn1] at ht hn0
        clear hn1 hwn hqz
        go_wp2_with (at_builtin; refine wpList_append_rows rfl (.tmp 22) (.tmp 23) 54 rfl 5 _ 1 1 Tryz.underlying54 info5 rfl (by decide) (.slice (some ⟨wr.heap.size, 0, none⟩) 1 1) [[.int .u8 (48 + q)]] rfl hOn.out ao b.length cap (bRows b) rfl n1.out hN.out hL.out (bRows_one _) (bRows_size _) r1.out r2.out ?_; intro v3 w3 o3 g3 b3; have O3 := Lib.hid o3; have G3 := Lib.hid g3; clear o3 g3 b3)
        go_roundw
        case rel =>
          refine ⟨m', v / 10, hm1, hm2, by rw [HM'.out], HQ, x :: b, HD.out, ?_, ?_⟩
          · have := O3.out
            rw [← HX.out] at this
            exact this
          · exact (BL.out.alloc BL.out.size _).grown G3.out (by have := BL.out.size; simp; omega) (fun k e => by cases e; exact BL.out.size)
        case measure => simp [intOf]; rw [← HM'.out]; omega
      · have hn0 : decide (0 < q) = true := by simp; omega
        have hnn2 : -(-q) = q := Int.neg_neg q
        clear hqz
        go_wp2_with (at_builtin; refine wpList_append_rows rfl (.tmp 22) (.tmp 23) 54 rfl 5 _ 1 1 Tryz.underlying54 info5 rfl (by decide) (.slice (some ⟨wr.heap.size, 0, none⟩) 1 1) [[.int .u8 (48 + q)]] rfl hOn.out ao b.length cap (bRows b) rfl n1.out hN.out hL.out (bRows_one _) (bRows_size _) r1.out r2.out ?_; intro v3 w3 o3 g3 b3; have O3 := Lib.hid o3; have G3 := Lib.hid g3; clear o3 g3 b3)
        go_roundw
        case rel =>
          refine ⟨m', v / 10, hm1, hm2, by rw [HM'.out], HQ, x :: b, HD.out, ?_, ?_⟩
          · have := O3.out
            rw [← HX.out] at this
            exact this
          · exact (BL.out.alloc BL.out.size _).grown G3.out (by have := BL.out.size; simp; omega) (fun k e => by cases e; exact BL.out.size)
        case measure => simp [intOf]; rw [← HM'.out]; omega
theorem itoa_zero : Lib.itoa 0 = [48] := by
  show (if (0 : Int) < 0 then _ else Lib.decDigits 0) = _
  rw [if_neg (by decide), Lib.decDigits_one (by decide)]; rfl
theorem rdigits_zero (w : World) : Calls Tryz.prog 61 #[.int .i64 0] w (TextPost w [48]) := by
  go_enter Tryz.func61, Tryz.ntmps61
  go_wp2
  go_ret
  exact ⟨rfl, Below.refl _ _⟩
/-- The document's digits are the library's. -/
theorem rdigits_any (n : Int) (h0 : -9223372036854775808 ≤ n) (h1 : n ≤ 9223372036854775807) (w : World) : Calls Tryz.prog 61 #[.int .i64 n] w (TextPost w (Lib.itoa n)) := by
  by_cases hn : n < 0
  · exact rdigits_neg n h0 hn w
  · by_cases hz : n = 0
    · subst hz; rw [itoa_zero]; exact rdigits_zero w
    · exact rdigits_pos n h1 (by omega) w
end Go.Proofs.YtnaefnojmiolbaaGreatDoor
