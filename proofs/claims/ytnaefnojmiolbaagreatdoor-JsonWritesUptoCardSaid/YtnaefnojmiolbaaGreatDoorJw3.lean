/-
  The walk of the document's Digits. Printed by genDig21.py.
  The digits of a number, with blanks around: the plain law.
  Keys, trees of values, and lists of values as plain data: what each call on a list does. Of no program.
  From a walk that answers true and turns nothing that was there to the statement's own form; and arguments opened by their types.
  What the listed variables give; Itoa, Atoi and Norm.
-/
import Derived.Test.YtnaefnojmiolbaaGreatDoorJw2
import Derived.Test.YtnaefnojmiolbaaGreatDoorRows
import Derived.Lib.ItoaLen
import Derived.Test.YtnaefnojmiolbaaGreatDoorJw1
import Derived.ProofKit
import Derived.OpenShut
import Derived.SizedLaws
import Derived.Deep.CondSized
import Derived.Deep.Slices
import Derived.Test.YtnaefnojmiolbaaGreatDoorShelf
import Derived.Shelf.Unicode.DecodeSlow
import Derived.Lib.AtoiErrMem
import Derived.Lib.AppendIntMem
import Derived.Deep.RegionHeld3
import Derived.Deep.QuietTactic
import Derived.BigQuiet
namespace Go.Proofs.YtnaefnojmiolbaaGreatDoor
open Go.RowKit

theorem wrap_in {x : Int} (h0 : -9223372036854775808 ≤ x) (h1 : x ≤ 9223372036854775807) : IntKind.i64.wrap x = x := by rw [IntKind.wrap_i64]; omega
theorem info5 : (Tryz.prog.info? 5).map (fun i => (i.zero, i.size, i.bytes)) = some (some (.int .u8 0), 1, 1) := by kernel_rfl
theorem owns_one (w : World) (x : Value) (t : TypeId) (hx : x.oneCell' = true) : Owns (w.alloc (.cells #[x] t)) t 1 (.slice (some ⟨w.heap.size, 0, none⟩) 1 1) [[x]] :=
  ⟨⟨rfl, .inr ⟨w.heap.size, 1, #[x], rfl, Nat.zero_le _, heap_alloc_new w _, Nat.le_refl _, by decide, rfl, rfl⟩⟩, fun r hr => by rw [List.mem_singleton.1 hr]; rfl, fun r hr u hu => by rw [List.mem_singleton.1 hr] at hu; rw [List.mem_singleton.1 hu]; exact hx⟩
theorem digits_short {n : Int} (h0 : -9223372036854775808 ≤ n) (h1 : n ≤ 9223372036854775807) : (digitsP n.natAbs).length ≤ 21 := by
  have h := Lib.itoa_length_le n h0 h1
  unfold Lib.itoa at h
  unfold digitsP
  split
  · simp
  · split at h
    · simp only [List.length_cons] at h; omega
    · rename_i hn; rw [show n.natAbs = n.toNat by omega]; exact h
/-- The digits that are still to come, and those that have come. -/
def DigRel (W wr : World) (u v : Nat) (bv : Value) : Prop := ∃ b : Bs, digitsP u = digitsP v ++ b ∧ OwnsB wr 5 bv b ∧ Below W.heap.size W wr

/-- A text that is told; nothing that was there has turned. -/
def TextPost (W : World) (l : Bs) (e : Ending) (w' : World) : Prop := e = .returned (.string (str l)) ∧ Below W.heap.size W w'

set_option maxHeartbeats 3200000 in
theorem rdigits_pos (n : Int) (h1 : n ≤ 9223372036854775807) (hu : 0 < n) (w : World) :
    Calls Tryz.prog 61 #[.int .i64 n] w (TextPost w (Lib.itoa n)) := by
  generalize hres : Lib.itoa n = res
  have HRES := Lib.hid hres
  clear hres
  have hz : (n == 0) = false := by simp; omega
  obtain ⟨u, hun⟩ : ∃ u : Nat, n = (u : Int) := ⟨n.toNat, by omega⟩
  have HUN := Lib.hid hun
  have hlen := Lib.hid (digits_short (n := n) (by omega) h1)
  have hnn : decide (n < 0) = false := by simp; omega
  clear hun
  go_enter Tryz.func61, Tryz.ntmps61
  go_wp2_with fail
  go_loopw [3, 4] (fun bv mv wr => ∃ (m : Int) (v : Nat), 0 ≤ m ∧ m ≤ 9223372036854775807 ∧ mv = .int .i64 m ∧ Hid (m = (v : Int)) ∧ DigRel w wr u v bv) (fun _ mv _ => (intOf mv).toNat)
  case atStart => exact ⟨n, u, by omega, h1, rfl, HUN, [], by simp, Owns.empty _ _ _, Below.refl _ _⟩
  case round =>
    obtain ⟨m, v, hm0, hv, rfl, hmv, b, hb, ho, bl⟩ := hrel
    have HB := Lib.hid hb
    have HO := Lib.hid ho
    have BL := Lib.hid bl
    obtain ⟨ao, cap, rfl, hlc, hcm, hno, -⟩ := ho.any
    by_cases h0 : m = 0
    · have hv1 : (m != 0) = false := by simp [h0]
      have hconv := run_back (P := Tryz.prog) (src := 54) (dst := 9) ho Tryz.underlying54 Tryz.underlying5 Tryz.underlying9
      have HS : Hid (str b = str res) := by
        show _ = _
        have hv0 : v = 0 := by have := hmv.out; omega
        have hun := HUN.out
        have : b = res := by
          have e : digitsP v = [] := by rw [hv0]; rfl
          rw [e, List.nil_append] at hb
          rw [← hb, ← HRES.out, hun, Lib.itoa_nonneg]
          unfold digitsP
          rw [if_neg (by omega)]
        rw [this]
      clear ho hb hno bl hv h1 hlc hcm h0
      go_wp2
      go_ret
      exact ⟨by rw [← HS.out]; rfl, BL.out⟩
    · have hv0 : (m != 0) = true := by simp [h0]
      have hmv' := hmv.out
      have hd := digitsP_step (u := v) (by omega)
      have hm1 : (0 : Int) ≤ m % 10 := by omega
      have hm2 : m % 10 ≤ 9 := by omega
      have hu8 : IntKind.u8.wrap (48 + m % 10) = 48 + m % 10 := by unfold IntKind.wrap; simp [IntKind.bits]; omega
      obtain ⟨x, hx⟩ : ∃ x : UInt8, x = UInt8.ofNat (48 + v % 10) := ⟨_, rfl⟩
      have hxn : (x.toNat : Int) = 48 + m % 10 := by rw [hx, ofNat_toNat (by omega)]; omega
      have HX := Lib.hid hxn
      have HD : Hid (digitsP u = digitsP (v / 10) ++ (x :: b)) := by show _ = _; rw [hb, hd, hx, List.append_assoc]; rfl
      have HQ : Hid (m / 10 = ((v / 10 : Nat) : Int)) := by show _ = _; omega
      have hbl : b.length ≤ 21 := by
        have := hlen.out
        rw [show n.natAbs = u by have := HUN.out; omega, hb, List.length_append] at this
        omega
      have hOn : Hid (Owns (wr.alloc (.cells #[.int .u8 (48 + m % 10)] 5)) 5 1 (.slice (some ⟨wr.heap.size, 0, none⟩) 1 1) [[.int .u8 (48 + m % 10)]]) := owns_one wr _ 5 rfl
      have hL : Hid (Lies (wr.alloc (.cells #[.int .u8 (48 + m % 10)] 5)) 1 ao (bRows b)) := by
        obtain ⟨ao', cap', hv', _, _, hl, _, _⟩ := Owns.any ho
        simp only [Value.slice.injEq] at hv'
        obtain ⟨rfl, -, -⟩ := hv'
        exact hl.kept fun g off e hg => ⟨Below.heap_alloc _ _ _ hg, by simp; omega⟩
      have n1 : Hid (b.length = (bRows b).length) := (bRows_len b).symm
      have hN : Hid (ao = none → bRows b = [] ∧ cap = 0) := fun e => by obtain ⟨a, c⟩ := hno e; rw [a]; exact ⟨rfl, c⟩
      have r1 : Hid (([[Value.int .u8 (48 + m % 10)]] : List (List Value)).length + (bRows b).length ≤ maxLen) := by show _ ≤ _; unfold maxLen; rw [bRows_len]; simp; omega
      have r2 : Hid ((([[Value.int .u8 (48 + m % 10)]] : List (List Value)).length + (bRows b).length) * 1 ≤ 140737488355328) := by show _ ≤ _; rw [bRows_len]; simp; omega
      clear ho hb hno bl hd hx hxn hlc hcm hmv'
      go_wp2_with (at_builtin; refine wpList_append_rows rfl (.tmp 22) (.tmp 23) 54 rfl 5 _ 1 1 Tryz.underlying54 info5 rfl (by decide) (.slice (some ⟨wr.heap.size, 0, none⟩) 1 1) [[.int .u8 (48 + m % 10)]] rfl hOn.out ao b.length cap (bRows b) rfl n1.out hN.out hL.out (bRows_one _) (bRows_size _) r1.out r2.out ?_; intro v3 w3 o3 g3 b3; have O3 := Lib.hid o3; have G3 := Lib.hid g3; clear o3 g3 b3)
      go_roundw
      case rel =>
        refine ⟨m / 10, v / 10, by omega, by omega, rfl, HQ, x :: b, HD.out, ?_, ?_⟩
        · have := O3.out
          rw [← HX.out] at this
          exact this
        · exact (BL.out.alloc BL.out.size _).grown G3.out (by have := BL.out.size; simp; omega) (fun k e => by cases e; exact BL.out.size)
      case measure => simp [intOf]; omega
set_option maxHeartbeats 3200000 in
theorem rdigits_neg (n : Int) (h1 : -9223372036854775808 ≤ n) (hu : n < 0) (w : World) :
    Calls Tryz.prog 61 #[.int .i64 n] w (TextPost w (Lib.itoa n)) := by
  generalize hres : Lib.itoa n = res
  have HRES := Lib.hid hres
  clear hres
  have hz : (n == 0) = false := by simp; omega
  obtain ⟨u, hun⟩ : ∃ u : Nat, n = -(u : Int) := ⟨n.natAbs, by omega⟩
  have HUN := Lib.hid hun
  have hlen := Lib.hid (digits_short (n := n) h1 (by omega))
  have hnn : decide (n < 0) = true := by simp; omega
  clear hun
  go_enter Tryz.func61, Tryz.ntmps61
  go_wp2_with fail
  go_loopw [3, 4] (fun bv mv wr => ∃ (m : Int) (v : Nat), m ≤ 0 ∧ -9223372036854775808 ≤ m ∧ mv = .int .i64 m ∧ Hid (m = -(v : Int)) ∧ DigRel w wr u v bv) (fun _ mv _ => (-intOf mv).toNat)
  case atStart => exact ⟨n, u, by omega, h1, rfl, HUN, [], by simp, Owns.empty _ _ _, Below.refl _ _⟩
  case round =>
    obtain ⟨m, v, hm0, hv, rfl, hmv, b, hb, ho, bl⟩ := hrel
    have HB := Lib.hid hb
    have HO := Lib.hid ho
    have BL := Lib.hid bl
    obtain ⟨ao, cap, rfl, hlc, hcm, hno, -⟩ := ho.any
    by_cases h0 : m = 0
    · have hv1 : (m != 0) = false := by simp [h0]
      have hconv := run_back (P := Tryz.prog) (src := 54) (dst := 9) ho Tryz.underlying54 Tryz.underlying5 Tryz.underlying9
      have HS : Hid (str [45] ++ str b = str res) := by
        show _ = _
        have hv0 : v = 0 := by have := hmv.out; omega
        have hun := HUN.out
        have : 45 :: b = res := by
          have e : digitsP v = [] := by rw [hv0]; rfl
          rw [e, List.nil_append] at hb
          rw [← hb, ← HRES.out, hun, Lib.itoa_neg u (by omega)]
          unfold digitsP
          rw [if_neg (by omega)]
        rw [str_append, ← this]; rfl
      have hbsz : (str b).size ≤ 21 := by
        have := hlen.out
        rw [show n.natAbs = u by have := HUN.out; omega, hb, List.length_append] at this
        rw [str_size]; omega
      clear ho hb hno bl hv h1 hlc hcm h0
      go_wp2
      go_ret
      exact ⟨by rw [← HS.out]; rfl, BL.out⟩
    · have hv0 : (m != 0) = true := by simp [h0]
      have hmv' := hmv.out
      have hd := digitsP_step (u := v) (by omega)
      obtain ⟨q, hq⟩ : ∃ q : Int, q = (v % 10 : Nat) := ⟨_, rfl⟩
      have ht : m.tmod 10 = -q := by rw [hmv', Int.neg_tmod, Int.tmod_eq_emod_of_nonneg (by omega)]; omega
      have hdv : m.tdiv 10 = -((v / 10 : Nat) : Int) := by rw [hmv', Int.neg_tdiv, Int.tdiv_eq_ediv_of_nonneg (by omega)]; omega
      obtain ⟨m', hm'⟩ : ∃ m' : Int, m' = m.tdiv 10 := ⟨_, rfl⟩
      have HQ : Hid (m' = -((v / 10 : Nat) : Int)) := by show _ = _; rw [hm', hdv]
      have hm1 : m' ≤ 0 := by rw [hm', hdv]; omega
      have hm2 : -9223372036854775808 ≤ m' := by rw [hm', hdv]; omega
      have hm3 : -m' < -m := by rw [hm', hdv, hmv']; omega
      have hq0 : 0 ≤ q := by omega
      have hq9 : q ≤ 9 := by omega
      have hwn : IntKind.i64.wrap (-(-q)) = q := by rw [Int.neg_neg]; exact wrap_in (by omega) (by omega)
      have hu8 : IntKind.u8.wrap (48 + q) = 48 + q := by unfold IntKind.wrap; simp [IntKind.bits]; omega
      obtain ⟨x, hx⟩ : ∃ x : UInt8, x = UInt8.ofNat (48 + v % 10) := ⟨_, rfl⟩
      have hxn : (x.toNat : Int) = 48 + q := by rw [hx, ofNat_toNat (by omega)]; omega
      have HX := Lib.hid hxn
      have HD : Hid (digitsP u = digitsP (v / 10) ++ (x :: b)) := by show _ = _; rw [hb, hd, hx, List.append_assoc]; rfl
      have hbl : b.length ≤ 21 := by
        have := hlen.out
        rw [show n.natAbs = u by have := HUN.out; omega, hb, List.length_append] at this
        omega
      have hOn : Hid (Owns (wr.alloc (.cells #[.int .u8 (48 + q)] 5)) 5 1 (.slice (some ⟨wr.heap.size, 0, none⟩) 1 1) [[.int .u8 (48 + q)]]) := owns_one wr _ 5 rfl
      have hL : Hid (Lies (wr.alloc (.cells #[.int .u8 (48 + q)] 5)) 1 ao (bRows b)) := by
        obtain ⟨ao', cap', hv', _, _, hl, _, _⟩ := Owns.any ho
        simp only [Value.slice.injEq] at hv'
        obtain ⟨rfl, -, -⟩ := hv'
        exact hl.kept fun g off e hg => ⟨Below.heap_alloc _ _ _ hg, by simp; omega⟩
      have n1 : Hid (b.length = (bRows b).length) := (bRows_len b).symm
      have hN : Hid (ao = none → bRows b = [] ∧ cap = 0) := fun e => by obtain ⟨a, c⟩ := hno e; rw [a]; exact ⟨rfl, c⟩
      have r1 : Hid (([[Value.int .u8 (48 + q)]] : List (List Value)).length + (bRows b).length ≤ maxLen) := by show _ ≤ _; unfold maxLen; rw [bRows_len]; simp; omega
      have r2 : Hid ((([[Value.int .u8 (48 + q)]] : List (List Value)).length + (bRows b).length) * 1 ≤ 140737488355328) := by show _ ≤ _; rw [bRows_len]; simp; omega
      have HM' := Lib.hid hm'
      have hm0' : m < 0 := by omega
      clear ho hb hno bl hd hx hxn hlc hcm hmv' hq hdv hm'
      by_cases hqz : q = 0
      · have hn0 : decide (-q < 0) = false := by simp; omega
        have hn1 : -q = q := by omega
        rw [hn1] at ht hn0
        clear hn1 hwn hqz
        go_wp2_with (at_builtin; refine wpList_append_rows rfl (.tmp 22) (.tmp 23) 54 rfl 5 _ 1 1 Tryz.underlying54 info5 rfl (by decide) (.slice (some ⟨wr.heap.size, 0, none⟩) 1 1) [[.int .u8 (48 + q)]] rfl hOn.out ao b.length cap (bRows b) rfl n1.out hN.out hL.out (bRows_one _) (bRows_size _) r1.out r2.out ?_; intro v3 w3 o3 g3 b3; have O3 := Lib.hid o3; have G3 := Lib.hid g3; clear o3 g3 b3)
        go_roundw
        case rel =>
          refine ⟨m', v / 10, hm1, hm2, by rw [HM'.out], HQ, x :: b, HD.out, ?_, ?_⟩
          · have := O3.out
            rw [← HX.out] at this
            exact this
          · exact (BL.out.alloc BL.out.size _).grown G3.out (by have := BL.out.size; simp; omega) (fun k e => by cases e; exact BL.out.size)
        case measure => simp [intOf]; rw [← HM'.out]; omega
      · have hn0 : decide (0 < q) = true := by simp; omega
        have hnn2 : -(-q) = q := Int.neg_neg q
        clear hqz
        go_wp2_with (at_builtin; refine wpList_append_rows rfl (.tmp 22) (.tmp 23) 54 rfl 5 _ 1 1 Tryz.underlying54 info5 rfl (by decide) (.slice (some ⟨wr.heap.size, 0, none⟩) 1 1) [[.int .u8 (48 + q)]] rfl hOn.out ao b.length cap (bRows b) rfl n1.out hN.out hL.out (bRows_one _) (bRows_size _) r1.out r2.out ?_; intro v3 w3 o3 g3 b3; have O3 := Lib.hid o3; have G3 := Lib.hid g3; clear o3 g3 b3)
        go_roundw
        case rel =>
          refine ⟨m', v / 10, hm1, hm2, by rw [HM'.out], HQ, x :: b, HD.out, ?_, ?_⟩
          · have := O3.out
            rw [← HX.out] at this
            exact this
          · exact (BL.out.alloc BL.out.size _).grown G3.out (by have := BL.out.size; simp; omega) (fun k e => by cases e; exact BL.out.size)
        case measure => simp [intOf]; rw [← HM'.out]; omega
theorem itoa_zero : Lib.itoa 0 = [48] := by
  show (if (0 : Int) < 0 then _ else Lib.decDigits 0) = _
  rw [if_neg (by decide), Lib.decDigits_one (by decide)]; rfl
theorem rdigits_zero (w : World) : Calls Tryz.prog 61 #[.int .i64 0] w (TextPost w [48]) := by
  go_enter Tryz.func61, Tryz.ntmps61
  go_wp2
  go_ret
  exact ⟨rfl, Below.refl _ _⟩
/-- The document's digits are the library's. -/
theorem rdigits_any (n : Int) (h0 : -9223372036854775808 ≤ n) (h1 : n ≤ 9223372036854775807) (w : World) : Calls Tryz.prog 61 #[.int .i64 n] w (TextPost w (Lib.itoa n)) := by
  by_cases hn : n < 0
  · exact rdigits_neg n h0 hn w
  · by_cases hz : n = 0
    · subst hz; rw [itoa_zero]; exact rdigits_zero w
    · exact rdigits_pos n h1 (by omega) w
end Go.Proofs.YtnaefnojmiolbaaGreatDoor

namespace Go.Proofs.YtnaefnojmiolbaaGreatDoor

theorem isDig_notBlank {c : UInt8} (h : isDig c = true) : isBlank c = false := by
  have := (isDig_iff c).1 h
  apply Bool.eq_false_iff.2
  intro hb
  have := (isBlank_iff c).1 hb
  omega
theorem dropWhile_allT {p : UInt8 → Bool} : ∀ {a : Bs} (b : Bs), (∀ c ∈ a, p c = true) → (a ++ b).dropWhile p = b.dropWhile p
  | [], _, _ => rfl
  | x :: a, b, h => by
    rw [List.cons_append, List.dropWhile_cons, if_pos (h x (by simp))]
    exact dropWhile_allT b (fun c hc => h c (by simp [hc]))
theorem takeWhile_allT {p : UInt8 → Bool} : ∀ {a : Bs} (b : Bs), (∀ c ∈ a, p c = true) → (a ++ b).takeWhile p = a ++ b.takeWhile p
  | [], _, _ => rfl
  | x :: a, b, h => by
    rw [List.cons_append, List.takeWhile_cons, if_pos (h x (by simp)), List.cons_append, takeWhile_allT b (fun c hc => h c (by simp [hc]))]
/-- No digit at the head. -/
def NoDig (l : Bs) : Prop := l.takeWhile isDig = []
/-- A number's text, blanks ahead, and what no digit begins behind. -/
theorem numOf_text (neg : Bool) (u : Nat) (a b : Bs) (ha : ∀ c ∈ a, isBlank c = true) (hb : NoDig b) :
    numOf (a ++ ((if neg then [45] else []) ++ Lib.decDigits u) ++ b) = some (sat neg u, trimB b) := by
  have hd := decDigits_dig u
  have hne := decDigits_ne u
  obtain ⟨x, r, hx⟩ := List.exists_cons_of_ne_nil hne
  have hx' : isDig x = true := hd x (by rw [hx]; simp)
  have hxi := (isDig_iff x).1 hx'
  have ht : trimB (a ++ ((if neg then [45] else []) ++ Lib.decDigits u) ++ b) = ((if neg then [45] else []) ++ Lib.decDigits u) ++ b := by
    unfold trimB
    rw [List.append_assoc, dropWhile_allT _ ha]
    cases neg
    · simp only [Bool.false_eq_true, if_false, List.nil_append]
      rw [hx, List.cons_append, List.dropWhile_cons, if_neg (by rw [isDig_notBlank hx']; decide)]
    · simp only [if_true]
      rw [List.cons_append, List.cons_append, List.dropWhile_cons, if_neg (by decide)]
  have hs : signLen (((if neg then [45] else []) ++ Lib.decDigits u) ++ b) = (if neg then 1 else 0) := by
    cases neg
    · simp only [Bool.false_eq_true, if_false, List.nil_append]
      rw [hx, List.cons_append]
      show (if x.toNat = 45 ∨ x.toNat = 43 then 1 else 0) = 0
      rw [if_neg (by omega)]
    · rfl
  have hn : isNeg (((if neg then [45] else []) ++ Lib.decDigits u) ++ b) = neg := by
    cases neg
    · simp only [Bool.false_eq_true, if_false, List.nil_append]
      rw [hx, List.cons_append]
      unfold isNeg
      simp; omega
    · rfl
  have hg : digs (((if neg then [45] else []) ++ Lib.decDigits u) ++ b) = Lib.decDigits u := by
    unfold digs
    rw [hs]
    have e : (((if neg then [45] else []) ++ Lib.decDigits u) ++ b).drop (if neg then 1 else 0) = Lib.decDigits u ++ b := by cases neg <;> rfl
    rw [e, takeWhile_allT _ hd, show b.takeWhile isDig = [] from hb, List.append_nil]
  unfold numOf
  rw [ht, hs, hn, hg, if_neg hne, decDigits_dec]
  congr 1
  congr 1
  congr 1
  rw [List.drop_append_of_le_length (by cases neg <;> simp <;> omega)]
  rw [List.drop_of_length_le (by cases neg <;> simp <;> omega)]
  rfl
theorem itoa_form (n : Int) : Lib.itoa n = (if decide (n < 0) then [45] else []) ++ Lib.decDigits n.natAbs := by
  unfold Lib.itoa
  by_cases h : n < 0
  · simp [h]
  · have e : n.toNat = n.natAbs := by omega
    simp [h, e]
theorem sat_natAbs {n : Int} (h0 : -9223372036854775808 ≤ n) (h1 : n ≤ 9223372036854775807) : sat (decide (n < 0)) n.natAbs = n := by
  unfold sat
  by_cases h : n < 0
  · rw [if_pos (by simp [h]), if_neg (by omega)]; omega
  · rw [if_neg (by simp [h]), if_neg (by omega)]; omega
theorem numOf_itoa {n : Int} (h0 : -9223372036854775808 ≤ n) (h1 : n ≤ 9223372036854775807) (a b : Bs) (ha : ∀ c ∈ a, isBlank c = true) (hb : NoDig b) :
    numOf (a ++ Lib.itoa n ++ b) = some (n, trimB b) := by
  rw [itoa_form, numOf_text _ _ a b ha hb, sat_natAbs h0 h1]
theorem trimB_all {b : Bs} (hb : ∀ c ∈ b, isBlank c = true) : trimB b = [] := by
  have := dropWhile_allT (p := isBlank) (a := b) [] hb
  rw [List.append_nil] at this
  exact this
theorem blank_noDig {b : Bs} (hb : ∀ c ∈ b, isBlank c = true) : NoDig b := by
  cases b with
  | nil => rfl
  | cons c r =>
    unfold NoDig
    have h := hb c (by simp)
    have : isDig c = false := by
      apply Bool.eq_false_iff.2
      intro hd
      rw [isDig_notBlank hd] at h
      cases h
    rw [List.takeWhile_cons, if_neg (by rw [this]; decide)]
theorem numeric_itoa {n : Int} (h0 : -9223372036854775808 ≤ n) (h1 : n ≤ 9223372036854775807) (a b : Bs) (ha : ∀ c ∈ a, isBlank c = true) (hb : ∀ c ∈ b, isBlank c = true) :
    numericP (a ++ Lib.itoa n ++ b) = (n, true) := by
  unfold numericP
  rw [numOf_itoa h0 h1 a b ha (blank_noDig hb), trimB_all hb]
theorem numeric_itoa0 {n : Int} (h0 : -9223372036854775808 ≤ n) (h1 : n ≤ 9223372036854775807) : numericP (Lib.itoa n) = (n, true) := by
  have := numeric_itoa h0 h1 [] [] (by simp) (by simp)
  simpa using this
end Go.Proofs.YtnaefnojmiolbaaGreatDoor

namespace Go.Proofs.YtnaefnojmiolbaaGreatDoor

/-- A key: a text, or a number. -/
structure K where
  b : Bool
  n : Int
  t : ByteArray

def K.v (k : K) : Value := .agg #[.bool k.b, .int .i64 k.n, .string k.t]
def K.cells (k : K) : List Value := [.bool k.b, .int .i64 k.n, .string k.t]
def K.same (x y : K) : Bool := x.b == y.b && (x.n == y.n && x.t.toList == y.t.toList)
theorem ba_ext {x y : ByteArray} (h : x.toList = y.toList) : x = y := by
  rw [← str_of x, ← str_of y, h]
theorem K.same_iff {x y : K} : K.same x y = true ↔ x = y := by
  cases x; cases y
  unfold K.same
  simp only [Bool.and_eq_true, beq_iff_eq, K.mk.injEq]
  exact ⟨fun ⟨a, b, c⟩ => ⟨a, b, ba_ext c⟩, fun ⟨a, b, c⟩ => ⟨a, b, by rw [c]⟩⟩
instance : DecidableEq K := fun a b => decidable_of_iff (K.same a b = true) K.same_iff
theorem K.same_self (x : K) : K.same x x = true := K.same_iff.2 rfl
theorem K.same_ne {x y : K} : K.same x y = false ↔ x ≠ y := by
  rw [← Bool.not_eq_true, Ne, K.same_iff]
theorem K.same_comm (x y : K) : K.same x y = K.same y x := by
  rw [Bool.eq_iff_iff, K.same_iff, K.same_iff]
  exact eq_comm
theorem K.v_inj {x y : K} (h : x.v = y.v) : x = y := by
  cases x; cases y
  simp [K.v] at h
  simp [h]

def k0 : K := ⟨false, 0, ⟨#[]⟩⟩
/-- The number that a text of a number's own digits is. -/
def canonP (l : Bs) : Option Int := if (numericP l).2 && (Lib.itoa (numericP l).1 == l) then some (numericP l).1 else none
def K.norm (k : K) : K := if k.b then (match canonP k.t.toList with | some n => ⟨false, n, ⟨#[]⟩⟩ | none => ⟨true, 0, k.t⟩) else ⟨false, k.n, ⟨#[]⟩⟩
/-- Within what a key can be. -/
structure K.Good (k : K) : Prop where
  lo : -9223372036854775808 ≤ k.n
  hi : k.n ≤ 9223372036854775807
  sz : k.t.size ≤ 140737488351232
/-- In its one form. -/
structure K.Norm (k : K) : Prop extends K.Good k where
  same : k.norm = k

theorem sat_bounds (n : Bool) (u : Nat) : -9223372036854775808 ≤ sat n u ∧ sat n u ≤ 9223372036854775807 := by
  unfold sat
  split <;> split <;> omega
theorem numericP_bounds (l : Bs) : -9223372036854775808 ≤ (numericP l).1 ∧ (numericP l).1 ≤ 9223372036854775807 := by
  unfold numericP numOf
  split
  · rename_i n h
    split at h
    · cases h
    · injection h with h
      injection h with h1 h2
      subst h1
      exact sat_bounds _ _
  · exact ⟨by decide, by decide⟩
theorem canonP_some {l : Bs} {n : Int} (h : canonP l = some n) : (-9223372036854775808 ≤ n ∧ n ≤ 9223372036854775807) ∧ Lib.itoa n = l := by
  unfold canonP at h
  split at h
  · rename_i hc
    simp only [Bool.and_eq_true, beq_iff_eq] at hc
    cases h
    exact ⟨numericP_bounds l, hc.2⟩
  · cases h
theorem canonP_itoa {n : Int} (h0 : -9223372036854775808 ≤ n) (h1 : n ≤ 9223372036854775807) : canonP (Lib.itoa n) = some n := by
  unfold canonP
  rw [numeric_itoa0 h0 h1]
  simp
theorem K.norm_good {k : K} (h : k.Good) : k.norm.Good := by
  unfold K.norm
  split
  · split
    · rename_i n hn
      have := canonP_some hn
      exact ⟨this.1.1, this.1.2, by show (⟨#[]⟩ : ByteArray).size ≤ _; decide⟩
    · exact ⟨by show _ ≤ (0 : Int); decide, by show (0 : Int) ≤ _; decide, h.sz⟩
  · exact ⟨h.lo, h.hi, by show (⟨#[]⟩ : ByteArray).size ≤ _; decide⟩
theorem K.norm_norm (k : K) : k.norm.norm = k.norm := by
  unfold K.norm
  cases hb : k.b
  · simp
  · cases hc : canonP k.t.toList
    · simp [hc]
    · simp
theorem K.norm_is {k : K} (h : k.Good) : k.norm.Norm := ⟨K.norm_good h, K.norm_norm k⟩
/-- A value: its kind, its number, its text, its items. -/
inductive VT where
  | mk (k n : Int) (t : ByteArray) (xs : List (K × VT))
def VT.k : VT → Int | .mk k _ _ _ => k
def VT.n : VT → Int | .mk _ n _ _ => n
def VT.t : VT → ByteArray | .mk _ _ t _ => t
def VT.xs : VT → List (K × VT) | .mk _ _ _ l => l
theorem VT.ind {P : VT → Prop} (h : ∀ k n t l, (∀ x ∈ l, P x.2) → P (.mk k n t l)) : ∀ v, P v
  | .mk k n t l => h k n t l (fun x _ => VT.ind h x.2)
termination_by v => SizeOf.sizeOf v
decreasing_by
  rename_i hx
  have := List.sizeOf_lt_of_mem hx
  cases x
  simp at *
  omega
/-- A value's cells, its items behind c. -/
def VT.cells (v : VT) (c : Value) : List Value := [.int .i64 v.k, .int .i64 v.n, .string v.t, c]
def VT.v (v : VT) (c : Value) : Value := .agg #[.int .i64 v.k, .int .i64 v.n, .string v.t, c]
abbrev It := K × VT
def findK (k : K) (xs : List It) : Option Nat := xs.findIdx? fun x => x.1.same k

theorem findK_lt {k : K} {xs : List It} {i : Nat} (h : findK k xs = some i) : i < xs.length := (List.findIdx?_eq_some_iff_getElem.1 h).1
theorem findK_at {k : K} {xs : List It} {i : Nat} (h : findK k xs = some i) : (xs[i]'(findK_lt h)).1 = k := by
  obtain ⟨_, h2, _⟩ := List.findIdx?_eq_some_iff_getElem.1 h
  exact K.same_iff.1 h2
theorem findK_none {k : K} {xs : List It} : findK k xs = none ↔ ∀ x ∈ xs, x.1 ≠ k := by
  unfold findK
  rw [List.findIdx?_eq_none_iff]
  exact ⟨fun h x hx => K.same_ne.1 (h x hx), fun h x hx => K.same_ne.2 (h x hx)⟩
theorem findK_append (k : K) (xs ys : List It) : findK k (xs ++ ys) = match findK k xs with | some i => some i | none => (findK k ys).map (· + xs.length) := by
  unfold findK
  rw [List.findIdx?_append]
  cases List.findIdx? (fun x => x.1.same k) xs <;> rfl
theorem findK_snoc {k k' : K} {v : VT} {xs : List It} (h : findK k xs = none) : findK k' (xs ++ [(k, v)]) = if k' = k then some xs.length else findK k' xs := by
  rw [findK_append]
  by_cases e : k' = k
  · subst e
    rw [h, if_pos rfl]
    show (List.findIdx? _ [(k', v)]).map _ = _
    simp [List.findIdx?_singleton, K.same_self]
  · rw [if_neg e]
    cases findK k' xs with
    | some i => rfl
    | none =>
      show (List.findIdx? _ [(k, v)]).map _ = _
      simp [List.findIdx?_singleton, K.same_ne.2 (fun x => e x.symm)]
/-- Keys that stand once. -/
def Once (xs : List It) : Prop := xs.Pairwise fun x y => x.1 ≠ y.1
theorem findK_set {xs : List It} {i : Nat} {v : VT} (k : K) (hi : i < xs.length) : findK k (xs.set i (xs[i].1, v)) = findK k xs := by
  unfold findK
  induction xs generalizing i with
  | nil => simp at hi
  | cons x r ih =>
    cases i with
    | zero => simp [List.findIdx?_cons]
    | succ i =>
      simp only [List.set_cons_succ, List.getElem_cons_succ, List.findIdx?_cons]
      rw [ih]
theorem once_set {xs : List It} {i : Nat} {v : VT} (h : Once xs) (hi : i < xs.length) : Once (xs.set i (xs[i].1, v)) := by
  unfold Once at *
  rw [List.pairwise_iff_getElem] at *
  intro a b ha hb hab
  have h' := h a b (by simpa using ha) (by simpa using hb) hab
  simp only [List.getElem_set]
  split
  · rename_i e
    subst e
    split
    · omega
    · exact h'
  · split
    · rename_i e; subst e; exact h'
    · exact h'
theorem once_snoc {xs : List It} {k : K} {v : VT} (h : Once xs) (hf : findK k xs = none) : Once (xs ++ [(k, v)]) := by
  unfold Once at *
  rw [List.pairwise_append]
  refine ⟨h, by simp, fun a ha b hb => ?_⟩
  rw [List.mem_singleton.1 hb]
  exact findK_none.1 hf a ha
/-- A list's items, and its next number. -/
structure LS where
  xs : List It
  nx : Int
def LS.new : LS := ⟨[], 0⟩
def nextP (k : K) (nx : Int) : Int := if k.b = false ∧ 0 ≤ nx ∧ nx ≤ k.n then (if k.n = 9223372036854775807 then -1 else k.n + 1) else nx
/-- Set at a key in its one form. -/
def setN (k : K) (v : VT) (l : LS) : Int × LS := match findK k l.xs with
  | some i => (0, ⟨l.xs.set i (k, v), l.nx⟩)
  | none => if 2048 ≤ l.xs.length then (8, l) else (0, ⟨l.xs ++ [(k, v)], nextP k l.nx⟩)
def setP (k : K) (v : VT) (l : LS) : Int × LS := setN k.norm v l
def appendP (v : VT) (l : LS) : (K × Int) × LS := if l.nx < 0 then ((k0, 8), l) else
  if (setP ⟨false, l.nx, ⟨#[]⟩⟩ v l).1 = 0 then ((⟨false, l.nx, ⟨#[]⟩⟩, 0), (setP ⟨false, l.nx, ⟨#[]⟩⟩ v l).2) else ((k0, (setP ⟨false, l.nx, ⟨#[]⟩⟩ v l).1), (setP ⟨false, l.nx, ⟨#[]⟩⟩ v l).2)
def getP (k : K) (l : LS) : Option VT := match findK k.norm l.xs with
  | some i => (l.xs[i]?).map (·.2)
  | none => none

/-- What holds of every list that calls can make. -/
structure LS.Ok (l : LS) : Prop where
  once : Once l.xs
  norm : ∀ x ∈ l.xs, x.1.Norm
  len : l.xs.length ≤ 2048
  lo : -1 ≤ l.nx
  hi : l.nx ≤ 9223372036854775807
theorem LS.new_ok : LS.new.Ok := ⟨List.Pairwise.nil, by simp [LS.new], by simp [LS.new], by simp [LS.new], by simp [LS.new]⟩
theorem nextP_bounds {k : K} {nx : Int} (hk : k.Good) (h0 : -1 ≤ nx) (h1 : nx ≤ 9223372036854775807) : -1 ≤ nextP k nx ∧ nextP k nx ≤ 9223372036854775807 := by
  have := hk.hi
  unfold nextP
  split
  · split <;> omega
  · exact ⟨h0, h1⟩
theorem set_same {xs : List It} {i : Nat} {k : K} {v : VT} (hi : i < xs.length) (hk : xs[i].1 = k) : xs.set i (k, v) = xs.set i (xs[i].1, v) := by rw [hk]
theorem setN_ok {k : K} {v : VT} {l : LS} (hk : k.Norm) (h : l.Ok) : (setN k v l).2.Ok := by
  unfold setN
  cases hf : findK k l.xs with
  | some i =>
    have hi := findK_lt hf
    have hat := findK_at hf
    simp only
    refine ⟨?_, fun x hx => ?_, by simpa using h.len, h.lo, h.hi⟩
    · show Once (l.xs.set i (k, v))
      rw [set_same hi hat]; exact once_set h.once hi
    · rcases List.mem_or_eq_of_mem_set hx with hx | rfl
      · exact h.norm x hx
      · exact hk
  | none =>
    simp only
    split
    · exact h
    · have hb := nextP_bounds hk.toGood h.lo h.hi
      refine ⟨once_snoc h.once hf, fun x hx => ?_, by simp; omega, hb.1, hb.2⟩
      rcases List.mem_append.1 hx with hx | hx
      · exact h.norm x hx
      · rw [List.mem_singleton.1 hx]; exact hk
theorem setP_ok {k : K} {v : VT} {l : LS} (hk : k.Good) (h : l.Ok) : (setP k v l).2.Ok := setN_ok (K.norm_is hk) h
theorem appendP_ok {v : VT} {l : LS} (h : l.Ok) : (appendP v l).2.Ok := by
  unfold appendP
  split
  · exact h
  · have hg : (K.mk false l.nx ⟨#[]⟩).Good := ⟨by have := h.lo; show _ ≤ l.nx; omega, h.hi, by show (⟨#[]⟩ : ByteArray).size ≤ _; decide⟩
    split
    · exact setP_ok hg h
    · exact setP_ok hg h
end Go.Proofs.YtnaefnojmiolbaaGreatDoor

namespace Go.Proofs.YtnaefnojmiolbaaGreatDoor
open Go.RowKit Go.ChangeShapes Go.WideShapes Go.ChangeAt

section
variable {H : Type} {enc : TypeId × Value → H} {P : Program}

/-- All arguments read behind the call as they did. -/
theorem trodAll_below (hl : laidOutB P = true) {W W' : World} (hb : Below W.heap.size W W') : ∀ (ts : List TypeId) (vs : List Value) (ds : List (DataW H)) (ps : List MemPlace),
    (∀ t ∈ ts, P.readableRec t = true ∧ t < P.types.size) → DataW.TrodAll enc P W 0 (fun _ => true) true ts vs ds ps → (∀ x ∈ ps, x.block < W.heap.size) →
    DataW.TrodAll enc P W' 0 (fun b => decide (b < W.heap.size)) true ts vs ds ps
  | [], vs, ds, ps, _, h, _ => by
    obtain ⟨rfl, rfl, rfl⟩ := trodAll_nil h
    exact trodAll_mk0
  | t :: ts, vs, ds, ps, hr, h, hlt => by
    obtain ⟨v, vs', d, ds', p, q, rfl, rfl, rfl, h1, h2⟩ := trodAll_cons h
    exact trodAll_cons_mk (Below.trod hl (hr t (by simp)).1 (hr t (by simp)).2 h1 hb (fun x hx => hlt x (by simp [hx]))) (trodAll_below hl hb ts vs' ds' q (fun t ht => hr t (by simp [ht])) h2 (fun x hx => hlt x (by simp [hx])))

theorem law_post {f : Func} {s : ChangeSpec} {tb : TypeId} {W W' : World} {args : Array Value} {ds gs : List (DataW H)} {before : List MemPlace}
    (hl : laidOutB P = true) (hr : f.params.toList.all (fun t => P.readableRec t && decide (t < P.types.size)) = true) (hres : f.resultTypes = #[tb]) (htb : P.underlying tb = some .bool) (hv : s.vars = [])
    (hs : s.fn H (ds ++ gs) = { results := [.lit (.bool true)], args := ds })
    (hW : DataW.Whole enc P f.params.toList s.vars false W args.toList ds gs before) (hb : Below W.heap.size W W') :
    s.post enc P f false true false false W args (.bool true) W' := by
  have hW' := hW
  obtain ⟨p, q, hA, hV, rfl, _, _⟩ := hW
  have hq : q = [] := by rw [hv] at hV; exact (trodVars_none hV).2
  subst hq
  have hlt : ∀ x ∈ p, x.block < W.heap.size := fun x hx => hW'.lt x (by simp [hx])
  refine ⟨ds, gs, p ++ [], [], p, [], hW', ?_, ?_, ?_, hb.frame _, fun h => by cases h⟩
  · rw [hres, hs]
    exact trodAll_mk1 (shut_bool htb true)
  · rw [hs]
    refine trodAll_below hl hb _ _ _ _ (fun t ht => ?_) hA hlt
    have := List.all_eq_true.1 hr t ht
    simpa using this
  · rw [hs, hv]
    rfl

end
end Go.Proofs.YtnaefnojmiolbaaGreatDoor

namespace Go.Proofs.YtnaefnojmiolbaaGreatDoor
open Go.RowKit

/-- What the listed variables read as. -/
structure Tabs (w : World) : Prop where
  pow : Lib.TabIs Tryz.prog w "internal/strconv.uint64pow10" .u64 Lib.pow10Tab
  rng : ∃ tp p, w.var? Tryz.prog "strconv.ErrRange" = some #[.iface tp p]
  syn : ∃ tp p, w.var? Tryz.prog "strconv.ErrSyntax" = some #[.iface tp p]
  len : ∃ m, w.cell? ⟨2, 0, none⟩ = some (.int .i64 m)
  utf : Lib.Utf8Tabs 0 1 w
theorem var_keep {P : Program} {w w' : World} {n : String} {cs : Array Value} (h : w.var? P n = some cs) (hb : Below w.heap.size w w') : w'.var? P n = some cs := by
  cases hg : P.globalNamed n with
  | none => unfold World.var? at h; rw [hg] at h; cases h
  | some g =>
    have hlt : g < w.heap.size := by
      rcases Nat.lt_or_ge g w.heap.size with hl | hl
      · exact hl
      · unfold World.var? at h
        rw [hg] at h
        simp only [Option.bind_some] at h
        rw [Array.getElem?_eq_none hl] at h
        cases h
    exact var?_below hb hg hlt h
theorem cell_lt {w : World} {p : Addr} {v : Value} (h : w.cell? p = some v) : p.block < w.heap.size := by
  rcases Nat.lt_or_ge p.block w.heap.size with hl | hl
  · exact hl
  · simp [World.cell?, Array.getElem?_eq_none hl] at h
theorem utf_keep {w w' : World} (h : Lib.Utf8Tabs 0 1 w) (hb : Below w.heap.size w w') : Lib.Utf8Tabs 0 1 w' :=
  ⟨fun c hc => (hb.cell (cell_lt (h.1 c hc))).trans (h.1 c hc), fun i hi => ⟨(hb.cell (cell_lt (h.2 i hi).1)).trans (h.2 i hi).1, (hb.cell (cell_lt (h.2 i hi).2)).trans (h.2 i hi).2⟩⟩
theorem Tabs.mono {w w' : World} (h : Tabs w) (hb : Below w.heap.size w w') : Tabs w' :=
  ⟨var_keep h.pow hb, let ⟨a, b, e⟩ := h.rng; ⟨a, b, var_keep e hb⟩, let ⟨a, b, e⟩ := h.syn; ⟨a, b, var_keep e hb⟩, let ⟨m, e⟩ := h.len; ⟨m, (hb.cell (cell_lt e)).trans e⟩, utf_keep h.utf hb⟩
def BoolPost (w : World) (b : Bool) (e : Ending) (w' : World) : Prop := e = .returned (.bool b) ∧ Below w.heap.size w w'
def IntPost (w : World) (x : Int) (e : Ending) (w' : World) : Prop := e = .returned (.int .i64 x) ∧ Below w.heap.size w w'
theorem below_alloc1 (w : World) (o : Obj) : Below w.heap.size w (w.alloc o) := (Below.refl _ w).alloc (Nat.le_refl _) o
theorem belowN {B : Nat} {a w : World} (h : Below B a w) (n : Nat) : Below B a (w.drewN n) := ⟨h.os, h.tape, h.output, h.size, h.block⟩
theorem belowD {B : Nat} {a w : World} (h : Below B a w) : Below B a w.drew := ⟨h.os, h.tape, h.output, h.size, h.block⟩
theorem bl_eq (s : ByteArray) : s.toList = s.data.toList := ByteArray.toList_eq s
theorem wr64 {x : Int} (h0 : -9223372036854775808 ≤ x) (h1 : x ≤ 9223372036854775807) : wrap64 x = x := by unfold wrap64; omega
theorem wr_sm {x : Int} (h0 : -9223372036854775808 ≤ x) (h1 : x ≤ 9223372036854775807) : wrap64 x = x ∧ IntKind.i64.wrap x = x := ⟨wr64 h0 h1, wrap_in h0 h1⟩
theorem itoa_short {n : Int} (h0 : -9223372036854775808 ≤ n) (h1 : n ≤ 9223372036854775807) : (str (Lib.itoa n)).size ≤ 21 := by
  have h := Lib.itoa_length_le n h0 h1
  rw [str_size]
  omega
/-- A value lies in a block of the call's own. -/
structure At1 (w W : World) (B : Nat) (oa : Obj) : Prop where
  a : W.heap[B]? = some oa
  below : Below w.heap.size w W
theorem At1.mono {w W W' : World} {B : Nat} {oa : Obj} (h : At1 w W B oa) (hb : Below W.heap.size W W') : At1 w W' B oa :=
  ⟨(hb.block _ (lt_of_block h.a)).trans h.a, h.below.trans (hb.mono h.below.size)⟩
theorem At1.drew {w W : World} {B : Nat} {oa : Obj} (h : At1 w W B oa) : At1 w W.drew B oa := ⟨h.a, h.below.drew⟩
theorem at1_start (w : World) (oa : Obj) : At1 w (w.alloc oa) w.heap.size oa := ⟨heap_alloc_new w oa, below_alloc1 w oa⟩
/-- Two values lie in blocks of the call's own. -/
structure At2 (w W : World) (B : Nat) (oa ob : Obj) : Prop where
  a : W.heap[B]? = some oa
  b : W.heap[B + 1]? = some ob
  below : Below w.heap.size w W
theorem At2.mono {w W W' : World} {B : Nat} {oa ob : Obj} (h : At2 w W B oa ob) (hb : Below W.heap.size W W') : At2 w W' B oa ob :=
  ⟨(hb.block _ (lt_of_block h.a)).trans h.a, (hb.block _ (lt_of_block h.b)).trans h.b, h.below.trans (hb.mono h.below.size)⟩
theorem At2.drew {w W : World} {B : Nat} {oa ob : Obj} (h : At2 w W B oa ob) : At2 w W.drew B oa ob := ⟨h.a, h.b, h.below.drew⟩
theorem at2_start (w : World) (oa ob : Obj) : At2 w ((w.alloc oa).alloc ob) w.heap.size oa ob :=
  ⟨(Below.heap_alloc _ _ _ (by simp)).trans (heap_alloc_new w oa), by have h := heap_alloc_new (w.alloc oa) ob; simpa using h, (below_alloc1 w oa).alloc (by simp) ob⟩
/-- What the region of one value keeps. -/
def S1 (w : World) (B : Nat) (oa : Obj) (W : World) : Prop := Tabs w ∧ At1 w W B oa
theorem S1.tabs {w W : World} {B : Nat} {oa : Obj} (h : S1 w B oa W) : Tabs W := h.1.mono h.2.below
theorem S1.below {w W : World} {B : Nat} {oa : Obj} (h : S1 w B oa W) : Below w.heap.size w W := h.2.below
theorem S1.mono {w W W' : World} {B : Nat} {oa : Obj} (h : S1 w B oa W) (hb : Below W.heap.size W W') : S1 w B oa W' := ⟨h.1, h.2.mono hb⟩
theorem S1.drew {w W : World} {B : Nat} {oa : Obj} (h : S1 w B oa W) : S1 w B oa W.drew := ⟨h.1, h.2.drew⟩
/-- What the region of two values keeps. -/
def S2 (w : World) (B : Nat) (oa ob : Obj) (W : World) : Prop := Tabs w ∧ At2 w W B oa ob
theorem S2.tabs {w W : World} {B : Nat} {oa ob : Obj} (h : S2 w B oa ob W) : Tabs W := h.1.mono h.2.below
theorem S2.below {w W : World} {B : Nat} {oa ob : Obj} (h : S2 w B oa ob W) : Below w.heap.size w W := h.2.below
theorem S2.mono {w W W' : World} {B : Nat} {oa ob : Obj} (h : S2 w B oa ob W) (hb : Below W.heap.size W W') : S2 w B oa ob W' := ⟨h.1, h.2.mono hb⟩
theorem S2.drew {w W : World} {B : Nat} {oa ob : Obj} (h : S2 w B oa ob W) : S2 w B oa ob W.drew := ⟨h.1, h.2.drew⟩
/-- A guard whose own operation was passed over. -/
theorem gA {α : Type} {l : List α} {i : Nat} : l.toArray[i]? = l[i]? := List.getElem?_toArray
theorem gS {α : Type} {a : α} {l : List α} {i : Nat} : (a :: l)[i + 1]? = l[i]? := List.getElem?_cons_succ
theorem gZ {α : Type} {a : α} {l : List α} : (a :: l)[0]? = some a := List.getElem?_cons_zero
theorem pA {α : Type} {l : List α} {i : Nat} {a : α} : l.toArray.setIfInBounds i a = (l.set i a).toArray := List.setIfInBounds_toArray ..
theorem pZ {α : Type} {a b : α} {l : List α} : (a :: l).set 0 b = b :: l := List.set_cons_zero
theorem pS {α : Type} {a b : α} {l : List α} {i : Nat} : (a :: l).set (i + 1) b = a :: l.set i b := List.set_cons_succ
theorem yld_undef : Go.yielded.match_1 (fun _ => Option Bool) (some undef) (fun b => some b) (fun _ => none) = none := rfl
end Go.Proofs.YtnaefnojmiolbaaGreatDoor
