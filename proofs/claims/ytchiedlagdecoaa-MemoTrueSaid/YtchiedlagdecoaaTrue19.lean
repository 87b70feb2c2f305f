/-
  The walk of the statement MemoTrue.
-/
import Derived.Test.YtchiedlagdecoaaHist19
namespace Go.Proofs.Ytchiedlagdecoaa
open Go.RowKit

/-- The comparison of two paths, as the walk spells it. -/
theorem path_dec (a b : ByteArray) : (a.toList == b.toList) = decide (a.toList = b.toList) := by
  cases h : (a.toList == b.toList) <;> simp_all

set_option maxHeartbeats 6400000 in
set_option maxRecDepth 100000 in
theorem true_at (most mx : Int) (cap : Nat) (ao : Option Addr) (acts : List Cl) (W : World) (hl : Lies W 4 ao (acts.map Cl.cells)) (hn : acts.length ≤ 4398046511000) (hmx : (0 ≤ most ∧ mx = most) ∨ (most < 0 ∧ mx = 0)) :
    Calls Try.prog 4 #[.int .i64 most, .slice ao acts.length cap] W (AlivePost W) := by
  have HL := Lib.hid hl
  clear hl
  have hmax : Hid (max most 0 = mx) := by show max most 0 = mx; omega
  have hmx0 : Hid (0 ≤ mx) := by show 0 ≤ mx; omega
  rcases hmx with ⟨hm, hx⟩ | ⟨hm, hx⟩
  all_goals
    have HX := Lib.hid hx
    clear hx
    go_enter Try.func4, Try.ntmps4
    go_wp2_with fail
    refine (new_any most _).mono ?_
    rintro e w1 ⟨rfl, i1, b1⟩
    rw [hmax.out] at i1
    have I1 := Lib.hid (new_lone i1 b1)
    have L1 := Lib.hid b1
    clear i1 b1
    go_wp2_with fail
    refine (alive_any _).mono ?_
    rintro e w3 ⟨rfl, b3⟩
    have I4 := Lib.hid (I1.out.stayB b3)
    have L4 := Lib.hid (L1.out.trans (b3.mono I1.out.size))
    clear b3
    go_wp2_with fail
    go_loopw [22] (fun i wr => ∃ k : Nat, k ≤ acts.length ∧ i = .int .i64 k ∧ At W wr mx acts k) (fun i _ => acts.length - (intOf i).toNat)
    case atStart => exact ⟨0, Nat.zero_le _, rfl, _, I4.out, L4.out⟩
    case round =>
      obtain ⟨k, hk, rfl, v, ln, bl⟩ := hrel
      by_cases hlt : k < acts.length
      · obtain ⟨g, off, rfl, hg, c0, c1, c2, c3⟩ := act_cells HL.out hlt bl rfl
        have ln1 := ln.stay ((Mod.refl (fun _ => False) wr).alloc (.cells #[.int .i64 acts[k].kind, .string acts[k].path, .int .i64 acts[k].stamp, .int .i64 acts[k].u] 32))
        have bl1 := bl.alloc bl.size (.cells #[.int .i64 acts[k].kind, .string acts[k].path, .int .i64 acts[k].stamp, .int .i64 acts[k].u] 32)
        have bb := ln1.both 1
        rw [size_alloc1 wr] at bb
        have bl2 := bl1.alloc bl1.size (.cells #[.int .i64 1, .slice none 0 0, .int .i64 0, .int .i64 0] 27)
        have BB := Lib.hid bb
        have BL := Lib.hid bl2
        have hw := kind_facts (kind := acts[k].kind)
        have hmost := Int.le_trans (hist mx hmx0.out acts (k + 1) hlt).2.1 (Int.le_of_eq HX.out)
        have HM := Lib.hid hmost
        have hWr := lt_of_block ln.memo.blk
        have hVr : Hid (∀ j, v.ownBlock = some j → j < wr.heap.size) := fun j e => ln.memo.own.lt e
        clear bb bl2 bl1 ln1 ln bl hmost
        by_cases k0 : kindOf acts[k].kind = 0
        · have K0 := Lib.hid k0
          unfold kindOf at k0
          go_wp2_with fail
          refine (get_at hlt hn BB.out.lone BL.out K0.out).mono ?_
          rintro e w5 ⟨rfl, ⟨v5, l5, b5⟩, m5⟩
          have hbox := m5.blk (alloc_blk (heap_alloc_new wr (.cells #[.int .i64 acts[k].kind, .string acts[k].path, .int .i64 acts[k].stamp, .int .i64 acts[k].u] 32)) _) (fun h => h.elim (fun h => by have := hWr; omega) (fun h => by have := hVr.out _ h; omega))
          have x1 := cell_blk hbox 1
          have x2 := cell_blk hbox 2
          simp at x1 x2
          clear m5 hbox
          clear c0 c1 c2 c3 k0
          cases hh : hitU acts[k].path acts[k].stamp (runS mx (acts.take k)).us with
          | none =>
            have e1 : (none : Option U).elim (0 : Int) U.u = 0 := rfl
            have e2 : (none : Option U).isSome = false := rfl
            clear hh
            go_wp2_with fail
            refine (paths_any _ _ _ _ _ _ _ l5.memo).mono ?_
            rintro e w6 ⟨lv, rfl, o6, -, b6⟩
            obtain ⟨lo, lcap, rfl, -⟩ := o6.any
            have hpl : (pathRows (runS mx (acts.take (k + 1))).us).length = (runS mx (acts.take (k + 1))).us.length := by simp [pathRows]
            rw [hpl]
            have L6 := Lib.hid (l5.stayB b6)
            have B6 := Lib.hid (b5.trans (b6.mono l5.size))
            have hle := HM.out
            clear o6 b6 hpl l5 b5
            go_wp2_with fail
            go_roundw
            case rel => exact ⟨k + 1, by omega, by go_num, v5, L6.out, B6.out⟩
            case measure => simp [intOf]; omega
          | some x =>
            obtain ⟨hq, hlen, hlast⟩ := hist mx hmx0.out acts k (by omega)
            obtain ⟨hx1, hx2, hx3⟩ := (hit_iff hq _ _ _).1 hh
            obtain ⟨jl, c, j1, j2, j3, j4, j5, j6, j7⟩ := hlast x hx1
            have e1 : (some x).elim (0 : Int) U.u = x.u := rfl
            have e2 : (some x).isSome = true := rfl
            have hcj : acts[jl]'(by omega) = c := by rw [List.getElem?_eq_getElem (by omega)] at j2; exact Option.some.inj j2
            have q1 : (c.path.toList == acts[k].path.toList) = true := by rw [j3, hx2]; simp
            have q2 : ((c.kind.tmod 4 + 4).tmod 4 == 1) = true := by unfold kindOf at j4; rw [j4]; rfl
            have q3 : (c.stamp != acts[k].stamp) = false := by rw [j5, hx3]; simp
            have q4 : (c.u != x.u) = false := by rw [j6]; simp
            obtain ⟨g', off', e', hg', f0, f1, f2, f3⟩ := act_cells HL.out (show jl < acts.length by omega) b5 rfl
            cases e'
            rw [hcj] at f0 f1 f2 f3
            have HJ7 := Lib.hid j7
            have HX2 := Lib.hid hx2
            have B5 := Lib.hid b5
            have L5 := Lib.hid l5
            have hwc := kind_facts (kind := c.kind)
            clear hh hq hlen hlast hx1 hx2 hx3 j2 j3 j4 j5 j6 j7 hcj b5 l5
            go_wp2_with fail
            obtain ⟨wo, rfl⟩ : ∃ wo : World, wo = wr := ⟨_, rfl⟩
            go_loopw [11] (fun i w7 => ∃ j n : Nat, jl ≤ j ∧ j < k ∧ i = .int .i64 j ∧ w7 = w5.drewN n) (fun i _ => (intOf i).toNat)
            case atStart => exact ⟨k - 1, 0, by omega, by omega, by congr 1; omega, rfl⟩
            case round =>
              obtain ⟨j, n, hj1, hj2, rfl, rfl⟩ := hrel
              by_cases hjj : j = jl
              · subst hjj
                have p1 : (0 : Int) ≤ (j : Int) := by omega
                have p2 : (j : Int) < (acts.length : Int) := by omega
                have p3 : decide ((0 : Int) ≤ (j : Int)) = true := by simp
                have p4 : decide ((j : Int) < 0) = false := by simp
                go_wp2_with fail
                go_quiet (fail)
                go_wp2_with fail
                go_quiet (fail)
                go_wp2_with fail
                have L5' := fun N => Lib.hid (L5.out.stay ((Mod.refl (fun _ => False) w5).drewN N))
                have B5' : ∀ N, Hid (Below W.heap.size W (w5.drewN N)) := fun N => ⟨B5.out.os, B5.out.tape, B5.out.output, B5.out.size, B5.out.block⟩
                refine (paths_any _ _ _ _ _ _ _ (L5' _).out.memo).mono ?_
                rintro e w6 ⟨lv, rfl, o6, -, b6⟩
                obtain ⟨lo, lcap, rfl, -⟩ := o6.any
                have hpl : (pathRows (runS mx (acts.take (k + 1))).us).length = (runS mx (acts.take (k + 1))).us.length := by simp [pathRows]
                rw [hpl]
                have L6 := Lib.hid ((L5' _).out.stayB b6)
                have B6 := Lib.hid ((B5' _).out.trans (b6.mono (L5' _).out.size))
                have hle := HM.out
                clear o6 b6 hpl
                go_wp2_with fail
                go_roundw
                case rel => exact ⟨k + 1, by omega, by go_num, v5, L6.out, B6.out⟩
                case measure => simp [intOf]; omega
              · have hjl : j < acts.length := by omega
                obtain ⟨g2, off2, e2', hg2, d0, d1, d2, d3⟩ := act_cells HL.out hjl B5.out rfl
                cases e2'
                have p1 : (0 : Int) ≤ (j : Int) := by omega
                have p2 : (j : Int) < (acts.length : Int) := by omega
                have p3 : (j : Int) ≤ 9223372036854775807 := by omega
                have hwj := kind_facts (kind := acts[j].kind)
                by_cases hp : acts[j].path.toList = acts[k].path.toList
                · have r1 : (acts[j].path.toList == acts[k].path.toList) = true := by simpa using hp
                  have r2 : ((acts[j].kind.tmod 4 + 4).tmod 4 == 1) = false := by
                    have := HJ7.out j acts[j] (by omega) hj2 (List.getElem?_eq_getElem hjl)
                    have hne : ¬ kindOf acts[j].kind = 1 := fun e => this ⟨by rw [hp, HX2.out], e⟩
                    simpa [kindOf] using hne
                  clear hp
                  go_wp2_with fail
                  go_quiet (fail)
                  go_wp2_with fail
                  go_roundw
                  case rel => exact ⟨j - 1, _, by omega, by omega, by congr 1; omega, rfl⟩
                  case measure => simp [intOf]; omega
                · have r1 : (acts[j].path.toList == acts[k].path.toList) = false := by simpa using hp
                  clear hp
                  go_wp2_with fail
                  go_quiet (fail)
                  go_wp2_with fail
                  go_roundw
                  case rel => exact ⟨j - 1, _, by omega, by omega, by congr 1; omega, rfl⟩
                  case measure => simp [intOf]; omega
        · have K0 := Lib.hid k0
          have k0' : ((acts[k].kind.tmod 4 + 4).tmod 4 != 0) = true := by simpa [kindOf] using k0
          have k0'' : ((acts[k].kind.tmod 4 + 4).tmod 4 == 0) = false := by simpa [kindOf] using k0
          clear k0
          go_wp2_with fail
          refine (does_at hlt hn BB.out BL.out).mono ?_
          rintro e w5 ⟨⟨ok, rfl⟩, v5, l5, b5⟩
          clear c0 c1 c2 c3 k0' k0''
          go_wp2_with fail
          refine (paths_any _ _ _ _ _ _ _ l5.memo).mono ?_
          rintro e w6 ⟨lv, rfl, o6, -, b6⟩
          obtain ⟨lo, lcap, rfl, -⟩ := o6.any
          have hpl : (pathRows (runS mx (acts.take (k + 1))).us).length = (runS mx (acts.take (k + 1))).us.length := by simp [pathRows]
          rw [hpl]
          have L6 := Lib.hid (l5.stayB b6)
          have B6 := Lib.hid (b5.trans (b6.mono l5.size))
          have hle := HM.out
          clear o6 b6 hpl l5 b5
          go_wp2_with fail
          go_roundw
          case rel => exact ⟨k + 1, by omega, by go_num, v5, L6.out, B6.out⟩
          case measure => simp [intOf]; omega
      · obtain rfl : k = acts.length := by omega
        have BL := Lib.hid bl
        clear bl ln
        go_wp2
        go_ret
        exact ⟨rfl, BL.out⟩

theorem true_any (most : Int) (cap : Nat) (ao : Option Addr) (acts : List Cl) (W : World) (hl : Lies W 4 ao (acts.map Cl.cells)) (hn : acts.length ≤ 4398046511000) :
    Calls Try.prog 4 #[.int .i64 most, .slice ao acts.length cap] W (AlivePost W) := by
  by_cases h : 0 ≤ most
  · exact true_at most most cap ao acts W hl hn (.inl ⟨h, rfl⟩)
  · exact true_at most 0 cap ao acts W hl hn (.inr ⟨by omega, rfl⟩)
end Go.Proofs.Ytchiedlagdecoaa
