/-
  The walk of the statement MemoCounts.
-/
import Derived.Test.YtchiedlagdecoaaLone19
namespace Go.Proofs.Ytchiedlagdecoaa
open Go.RowKit

/-- The loop's relation: how many Gets, how many hits. -/
def CountsRel (W wr : World) (most : Int) (acts : List Cl) (k : Nat) (g h : Value) : Prop :=
  ∃ v, Lone wr W.heap.size W.heap.size v most (runS most (acts.take k)) ∧ Below W.heap.size W wr ∧ h = .int .i64 (runS most (acts.take k)).h ∧ g = .int .i64 ((runS most (acts.take k)).h + (runS most (acts.take k)).m)

set_option maxHeartbeats 3200000 in
theorem counts_at (most mx : Int) (cap : Nat) (ao : Option Addr) (acts : List Cl) (W : World) (hl : Lies W 4 ao (acts.map Cl.cells)) (hn : acts.length ≤ 4398046511000) (hmx : max most 0 = mx) :
    Calls Try.prog 6 #[.int .i64 most, .slice ao acts.length cap] W (AlivePost W) := by
  have HL := Lib.hid hl
  have HX := Lib.hid hmx
  clear hl hmx
  go_enter Try.func6, Try.ntmps6
  go_wp2_with fail
  refine (new_any most _).mono ?_
  rintro e w1 ⟨rfl, i1, b1⟩
  rw [HX.out] at i1
  have I1 := Lib.hid (new_lone i1 b1)
  have L1 := Lib.hid b1
  clear i1 b1
  go_wp2_with fail
  refine (alive_any _).mono ?_
  rintro e w3 ⟨rfl, b3⟩
  have I4 := Lib.hid (I1.out.stayB b3)
  have L4 := Lib.hid (L1.out.trans (b3.mono I1.out.size))
  clear b3
  go_wp2_with fail
  go_loopw [6, 7, 23] (fun g h i wr => ∃ k : Nat, k ≤ acts.length ∧ i = .int .i64 k ∧ CountsRel W wr mx acts k g h) (fun _ _ i _ => acts.length - (intOf i).toNat)
  case atStart => exact ⟨0, Nat.zero_le _, rfl, _, I4.out, L4.out, rfl, rfl⟩
  case round =>
    obtain ⟨k, hk, rfl, v, ln, bl, rfl, rfl⟩ := hrel
    have bd := runS_bd mx acts k hk
    by_cases hlt : k < acts.length
    · obtain ⟨g, off, rfl, hg, c0, c1, c2, c3⟩ := act_cells HL.out hlt bl rfl
      have ln1 := ln.stay ((Mod.refl (fun _ => False) wr).alloc (.cells #[.int .i64 acts[k].kind, .string acts[k].path, .int .i64 acts[k].stamp, .int .i64 acts[k].u] 32))
      have bl1 := bl.alloc bl.size (.cells #[.int .i64 acts[k].kind, .string acts[k].path, .int .i64 acts[k].stamp, .int .i64 acts[k].u] 32)
      have bb := ln1.both 1
      rw [size_alloc1 wr] at bb
      have bl2 := bl1.alloc bl1.size (.cells #[.int .i64 1, .slice none 0 0, .int .i64 0, .int .i64 0] 27)
      have BB := Lib.hid bb
      have BL := Lib.hid bl2
      have BD := Lib.hid bd
      have hw := kind_facts (kind := acts[k].kind)
      have hs := runS_succ mx acts k hlt
      have h1 := bd.h
      have h2 := bd.m
      have hw1 : IntKind.i64.wrap ((runS mx (acts.take k)).h + (runS mx (acts.take k)).m + 1) = (runS mx (acts.take k)).h + (runS mx (acts.take k)).m + 1 := wrap_in (by omega) (by omega)
      have hw2 : IntKind.i64.wrap ((runS mx (acts.take k)).h + 1) = (runS mx (acts.take k)).h + 1 := wrap_in (by omega) (by omega)
      have HS := Lib.hid hs
      clear bb bl2 bl1 ln1 ln bl bd hs h1 h2
      by_cases k0 : kindOf acts[k].kind = 0
      · have K0 := Lib.hid k0
        unfold kindOf at k0
        go_wp2_with fail
        refine (get_at hlt hn BB.out.lone BL.out K0.out).mono ?_
        rintro e w5 ⟨rfl, ⟨v5, l5, b5⟩, -⟩
        have L5 := Lib.hid l5
        have B5 := Lib.hid b5
        have hh := HS.out
        rw [step_0 K0.out] at hh
        clear l5 b5 c0 c1 c2 c3 k0
        cases hit : (hitU acts[k].path acts[k].stamp (runS mx (acts.take k)).us).isSome with
        | true =>
          rw [hit] at hh
          simp only [if_true] at hh
          have HH := Lib.hid hh
          clear hh
          go_wp2_with fail
          go_roundw
          case rel =>
            refine ⟨k + 1, by omega, by go_num, v5, L5.out, B5.out, ?_, ?_⟩
            · rw [HH.out]
            · rw [HH.out]; simp only; congr 1; omega
          case measure => simp [intOf]; omega
        | false =>
          rw [hit] at hh
          simp only [if_false, Bool.false_eq_true] at hh
          have HH := Lib.hid hh
          clear hh
          go_wp2_with fail
          go_roundw
          case rel =>
            refine ⟨k + 1, by omega, by go_num, v5, L5.out, B5.out, ?_, ?_⟩
            · rw [HH.out]
            · rw [HH.out]; simp only; congr 1; omega
          case measure => simp [intOf]; omega
      · have K0 := Lib.hid k0
        have k0' : ((acts[k].kind.tmod 4 + 4).tmod 4 == 0) = false := by simpa [kindOf] using k0
        clear k0
        go_wp2_with fail
        refine (does_at hlt hn BB.out BL.out).mono ?_
        rintro e w5 ⟨⟨ok, rfl⟩, v5, l5, b5⟩
        have L5 := Lib.hid l5
        have B5 := Lib.hid b5
        have hh : Hid ((runS mx (acts.take (k + 1))).h = (runS mx (acts.take k)).h ∧ (runS mx (acts.take (k + 1))).m = (runS mx (acts.take k)).m) := by
          show _ ∧ _; rw [HS.out]; unfold step; simp only [if_neg K0.out]; exact ⟨trivial, trivial⟩
        clear l5 b5 c0 c1 c2 c3 k0'
        go_wp2_with fail
        go_roundw
        case rel =>
          refine ⟨k + 1, by omega, by go_num, v5, L5.out, B5.out, ?_, ?_⟩
          · rw [hh.out.1]
          · rw [hh.out.1, hh.out.2]
        case measure => simp [intOf]; omega
    · obtain rfl : k = acts.length := by omega
      have BL := Lib.hid bl
      have LN := Lib.hid ln
      rw [List.take_length] at bd
      obtain ⟨h1, h2⟩ := bd.h
      obtain ⟨h3, h4⟩ := bd.m
      clear bl ln bd
      go_wp2_with (first
        | (go_at_call 15; refine (hits_any _ _ _ _ _ _ _ LN.out.memo).mono ?_; rintro e w' ⟨rfl, rfl⟩)
        | (go_at_call 16; refine (misses_any _ _ _ _ _ _ _ LN.out.memo).mono ?_; rintro e w' ⟨rfl, rfl⟩))
      go_ret
      refine ⟨?_, BL.out⟩
      simp

theorem counts_any (most : Int) (cap : Nat) (ao : Option Addr) (acts : List Cl) (W : World) (hl : Lies W 4 ao (acts.map Cl.cells)) (hn : acts.length ≤ 4398046511000) :
    Calls Try.prog 6 #[.int .i64 most, .slice ao acts.length cap] W (AlivePost W) :=
  counts_at most (max most 0) cap ao acts W hl hn rfl
end Go.Proofs.Ytchiedlagdecoaa
