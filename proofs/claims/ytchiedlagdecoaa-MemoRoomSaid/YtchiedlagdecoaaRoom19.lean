/-
  The walk of the statement MemoRoom.
-/
import Derived.Test.YtchiedlagdecoaaRoomLaw19
namespace Go.Proofs.Ytchiedlagdecoaa
open Go.RowKit

/-- What holds while the calls are looked through from the last one back: j calls are left. -/
def LookRel (w5 wr : World) (p : ByteArray) (st : Int) (acts : List Cl) (wv : Bool) (k j : Nat) : Prop :=
  j ≤ k ∧ wantR p st (acts.take j).reverse = wv ∧ Below w5.heap.size w5 wr

/-- One look: go on, or know it. -/
theorem look_on {p : ByteArray} {st : Int} {acts : List Cl} {j : Nat} (hj : j < acts.length) (h3 : ¬ (kindOf acts[j].kind = 3 ∧ acts[j].u.tmod 8 = 0))
    (h : (acts[j].path.toList ≠ p.toList ∨ kindOf acts[j].kind = 3) ∨ (kindOf acts[j].kind = 0 ∧ acts[j].stamp = st)) :
    wantR p st (acts.take (j + 1)).reverse = wantR p st (acts.take j).reverse := by
  rw [rev_take hj, wantR, if_neg h3]
  split
  · rfl
  · rename_i hn
    rw [if_pos (h.resolve_left hn)]
theorem look_end {p : ByteArray} {st : Int} {acts : List Cl} {j : Nat} (hj : j < acts.length) (h3 : ¬ kindOf acts[j].kind = 3) (hp : acts[j].path.toList = p.toList) (h0 : ¬ (kindOf acts[j].kind = 0 ∧ acts[j].stamp = st)) :
    wantR p st (acts.take (j + 1)).reverse = decide (kindOf acts[j].kind = 1 ∧ acts[j].stamp = st) := by
  rw [rev_take hj, wantR, if_neg (fun e => h3 e.1), if_neg (fun e => e.elim (fun e => e hp) h3), if_neg h0]
theorem look_clear {p : ByteArray} {st : Int} {acts : List Cl} {j : Nat} (hj : j < acts.length) (h3 : kindOf acts[j].kind = 3 ∧ acts[j].u.tmod 8 = 0) : wantR p st (acts.take (j + 1)).reverse = false := by
  rw [rev_take hj, wantR, if_pos h3]

set_option maxHeartbeats 6400000 in
set_option maxRecDepth 100000 in
theorem room_any (cap : Nat) (ao : Option Addr) (acts : List Cl) (W : World) (hl : Lies W 4 ao (acts.map Cl.cells)) (hn : acts.length ≤ 4398046511000) :
    Calls Try.prog 5 #[.slice ao acts.length cap] W (AlivePost W) := by
  have HL := Lib.hid hl
  have hmx : Hid (max ((acts.length : Int) + 1) 0 = (acts.length : Int) + 1) := by show _ = _; omega
  clear hl
  go_enter Try.func5, Try.ntmps5
  go_wp2_with fail
  refine (new_any _ _).mono ?_
  rintro e w1 ⟨rfl, i1, b1⟩
  rw [hmx.out] at i1
  have I1 := Lib.hid (new_lone i1 b1)
  have L1 := Lib.hid b1
  clear i1 b1
  go_wp2_with fail
  refine (alive_any _).mono ?_
  rintro e w3 ⟨rfl, b3⟩
  have I4 := Lib.hid (I1.out.stayB b3)
  have L4 := Lib.hid (L1.out.trans (b3.mono I1.out.size))
  clear b3
  obtain ⟨mx, hmx'⟩ : ∃ mx : Int, mx = (acts.length : Int) + 1 := ⟨_, rfl⟩
  rw [← hmx'] at I1 I4
  have HMX := Lib.hid hmx'
  clear hmx'
  go_wp2_with fail
  go_loopw [25] (fun i wr => ∃ k : Nat, k ≤ acts.length ∧ i = .int .i64 k ∧ At W wr mx acts k) (fun i _ => acts.length - (intOf i).toNat)
  case atStart => exact ⟨0, Nat.zero_le _, rfl, _, I4.out, L4.out⟩
  case round =>
    obtain ⟨k, hk, rfl, v, ln, bl⟩ := hrel
    by_cases hlt : k < acts.length
    · obtain ⟨g, off, rfl, hg, c0, c1, c2, c3⟩ := act_cells HL.out hlt bl rfl
      have ln1 := ln.stay ((Mod.refl (fun _ => False) wr).alloc (.cells #[.int .i64 acts[k].kind, .string acts[k].path, .int .i64 acts[k].stamp, .int .i64 acts[k].u] 32))
      have bl1 := bl.alloc bl.size (.cells #[.int .i64 acts[k].kind, .string acts[k].path, .int .i64 acts[k].stamp, .int .i64 acts[k].u] 32)
      have bb := ln1.both 1
      rw [size_alloc1 wr] at bb
      have bl2 := bl1.alloc bl1.size (.cells #[.int .i64 1, .slice none 0 0, .int .i64 0, .int .i64 0] 27)
      have BB := Lib.hid bb
      have BL := Lib.hid bl2
      have hw := kind_facts (kind := acts[k].kind)
      have hWr := lt_of_block ln.memo.blk
      have hVr : Hid (∀ j, v.ownBlock = some j → j < wr.heap.size) := fun j e => ln.memo.own.lt e
      clear bb bl2 bl1 ln1 ln bl
      by_cases k0 : kindOf acts[k].kind = 0
      · have K0 := Lib.hid k0
        unfold kindOf at k0
        go_wp2_with fail
        refine (get_at hlt hn BB.out.lone BL.out K0.out).mono ?_
        rintro e w5 ⟨rfl, ⟨v5, l5, b5⟩, m5⟩
        have hbox := m5.blk (alloc_blk (heap_alloc_new wr (.cells #[.int .i64 acts[k].kind, .string acts[k].path, .int .i64 acts[k].stamp, .int .i64 acts[k].u] 32)) _) (fun h => h.elim (fun h => by have := hWr; omega) (fun h => by have := hVr.out _ h; omega))
        have hroom := room_hist mx acts (by have := HMX.out; omega) k (by omega) acts[k].path acts[k].stamp
        rw [hroom]
        have B5 := Lib.hid b5
        have L5 := Lib.hid l5
        have HBX := Lib.hid hbox
        generalize hwv : wantR acts[k].path acts[k].stamp (acts.take k).reverse = wv at *
        have HWV := Lib.hid hwv
        generalize (hitU acts[k].path acts[k].stamp (runS mx (acts.take k)).us).elim 0 U.u = nn
        clear c0 c1 c2 c3 k0 m5 hbox hroom b5 l5 hwv
        go_wp2_with fail
        obtain ⟨wo, rfl⟩ : ∃ wo : World, wo = wr := ⟨_, rfl⟩
        go_loopw [9, 10] (fun q i w7 => ∃ j : Nat, q = .bool false ∧ i = .int .i64 ((j : Int) - 1) ∧ LookRel w5 w7 acts[k].path acts[k].stamp acts wv k j) (fun _ i _ => (intOf i + 1).toNat)
        case atStart => exact ⟨k, rfl, rfl, Nat.le_refl _, HWV.out, Below.refl _ _⟩
        case round =>
          obtain ⟨j, rfl, rfl, hjk, hwj, hb7⟩ := hrel
          cases j with
          | zero =>
            obtain rfl : wv = false := by rw [← hwj]; rfl
            have HB8 := Lib.hid hb7
            clear hwj hb7
            go_wp2_with fail
            go_roundw
            case rel => exact ⟨k + 1, by omega, by go_num, v5, L5.out.stayB HB8.out, B5.out.trans (HB8.out.mono L5.out.size)⟩
            case measure => simp [intOf] <;> omega
          | succ j =>
            have ej : ((j + 1 : Nat) : Int) - 1 = (j : Int) := by omega
            rw [ej]
            have hjl : j < acts.length := by omega
            obtain ⟨g2, off2, e2', hg2, d0, d1, d2, d3⟩ := act_cells HL.out hjl (B5.out.trans (hb7.mono L5.out.size)) rfl
            cases e2'
            have hbx := lt_of_block HBX.out
            have hbox := (hb7.block _ hbx).trans HBX.out
            have x1 := cell_blk hbox 1
            have x2 := cell_blk hbox 2
            simp at x1 x2
            have HB8 := Lib.hid (hb7.alloc hb7.size (.cells #[.int .i64 acts[j].kind, .string acts[j].path, .int .i64 acts[j].stamp, .int .i64 acts[j].u] 32))
            have hs7 : wo.heap.size < wr.heap.size := lt_of_block hbox
            have p1 : (0 : Int) ≤ (j : Int) := by omega
            have p2 : (j : Int) < (acts.length : Int) := by omega
            have p3 : (j : Int) ≤ 9223372036854775807 := by omega
            have hwj' := kind_facts (kind := acts[j].kind)
            have hr := kind_range acts[j].kind
            clear hb7 hbox hbx
            by_cases k3 : kindOf acts[j].kind = 3
            · have k3' := k3
              unfold kindOf at k3'
              by_cases u8 : acts[j].u.tmod 8 = 0
              · have u8' : (acts[j].u.tmod 8 == 0) = true := by simpa using u8
                obtain rfl : wv = false := by rw [← hwj, look_clear hjl ⟨k3, u8⟩]
                clear hwj u8 k3 hr
                go_wp2_with fail
                go_roundw
                case rel => exact ⟨k + 1, by omega, by go_num, v5, L5.out.stayB HB8.out, B5.out.trans (HB8.out.mono L5.out.size)⟩
                case measure => simp [intOf] <;> omega
              · have u8' : (acts[j].u.tmod 8 == 0) = false := by simpa using u8
                have HW := Lib.hid ((look_on hjl (fun e => u8 e.2) (.inl (.inr k3))).symm.trans hwj)
                clear hwj u8 k3 hr
                by_cases hp : acts[j].path.toList = acts[k].path.toList
                · have r1 : (acts[j].path.toList != acts[k].path.toList) = false := by simpa using hp
                  have r1' : (acts[j].path.toList == acts[k].path.toList) = true := by simpa using hp
                  clear hp
                  go_wp2_with fail
                  go_roundw
                  case rel => exact ⟨j, rfl, rfl, by omega, HW.out, HB8.out⟩
                  case measure => simp [intOf] <;> omega
                · have r1 : (acts[j].path.toList != acts[k].path.toList) = true := by simpa using hp
                  have r1' : (acts[j].path.toList == acts[k].path.toList) = false := by simpa using hp
                  clear hp
                  go_wp2_with fail
                  go_roundw
                  case rel => exact ⟨j, rfl, rfl, by omega, HW.out, HB8.out⟩
                  case measure => simp [intOf] <;> omega
            · have k3' : ((acts[j].kind.tmod 4 + 4).tmod 4 == 3) = false := by simpa [kindOf] using k3
              by_cases hp : acts[j].path.toList = acts[k].path.toList
              · have r1 : (acts[j].path.toList != acts[k].path.toList) = false := by simpa using hp
                have r1' : (acts[j].path.toList == acts[k].path.toList) = true := by simpa using hp
                by_cases k0x : kindOf acts[j].kind = 0
                · have k0y := k0x
                  unfold kindOf at k0y
                  by_cases hst : acts[j].stamp = acts[k].stamp
                  · have r2 : (acts[j].stamp == acts[k].stamp) = true := by simpa using hst
                    have HW := Lib.hid ((look_on hjl (fun e => k3 e.1) (.inr ⟨k0x, hst⟩)).symm.trans hwj)
                    clear hwj hst k0x hp k3 hr k3'
                    go_wp2_with fail
                    go_roundw
                    case rel => exact ⟨j, rfl, rfl, by omega, HW.out, HB8.out⟩
                    case measure => simp [intOf] <;> omega
                  · have r2 : (acts[j].stamp == acts[k].stamp) = false := by simpa using hst
                    obtain rfl : wv = false := by rw [← hwj, look_end hjl k3 hp (fun e => hst e.2), decide_eq_false (fun e => hst e.2)]
                    clear hwj hst k0x hp k3 hr k3'
                    go_wp2_with fail
                    go_roundw
                    case rel => exact ⟨k + 1, by omega, by go_num, v5, L5.out.stayB HB8.out, B5.out.trans (HB8.out.mono L5.out.size)⟩
                    case measure => simp [intOf] <;> omega
                · have k0y : ((acts[j].kind.tmod 4 + 4).tmod 4 == 0) = false := by simpa [kindOf] using k0x
                  by_cases k1x : kindOf acts[j].kind = 1
                  · have k1y := k1x
                    unfold kindOf at k1y
                    by_cases hst : acts[j].stamp = acts[k].stamp
                    · have r2 : (acts[j].stamp == acts[k].stamp) = true := by simpa using hst
                      obtain rfl : wv = true := by rw [← hwj, look_end hjl k3 hp (fun e => k0x e.1), decide_eq_true ⟨k1x, hst⟩]
                      clear hwj hst k0x k1x hp k3 hr k3' k0y
                      go_wp2_with fail
                      go_roundw
                      case rel => exact ⟨k + 1, by omega, by go_num, v5, L5.out.stayB HB8.out, B5.out.trans (HB8.out.mono L5.out.size)⟩
                      case measure => simp [intOf] <;> omega
                    · have r2 : (acts[j].stamp == acts[k].stamp) = false := by simpa using hst
                      obtain rfl : wv = false := by rw [← hwj, look_end hjl k3 hp (fun e => k0x e.1), decide_eq_false (fun e => hst e.2)]
                      clear hwj hst k0x k1x hp k3 hr k3' k0y
                      go_wp2_with fail
                      go_roundw
                      case rel => exact ⟨k + 1, by omega, by go_num, v5, L5.out.stayB HB8.out, B5.out.trans (HB8.out.mono L5.out.size)⟩
                      case measure => simp [intOf] <;> omega
                  · have k1y : ((acts[j].kind.tmod 4 + 4).tmod 4 == 1) = false := by simpa [kindOf] using k1x
                    obtain rfl : wv = false := by rw [← hwj, look_end hjl k3 hp (fun e => k0x e.1), decide_eq_false (fun e => k1x e.1)]
                    clear hwj k0x k1x hp k3 hr
                    go_wp2_with fail
                    go_roundw
                    case rel => exact ⟨k + 1, by omega, by go_num, v5, L5.out.stayB HB8.out, B5.out.trans (HB8.out.mono L5.out.size)⟩
                    case measure => simp [intOf] <;> omega
              · have r1 : (acts[j].path.toList != acts[k].path.toList) = true := by simpa using hp
                have r1' : (acts[j].path.toList == acts[k].path.toList) = false := by simpa using hp
                have HW := Lib.hid ((look_on hjl (fun e => k3 e.1) (.inl (.inl hp))).symm.trans hwj)
                clear hwj hp k3 hr
                go_wp2_with fail
                go_roundw
                case rel => exact ⟨j, rfl, rfl, by omega, HW.out, HB8.out⟩
                case measure => simp [intOf] <;> omega
      · have K0 := Lib.hid k0
        have k0' : ((acts[k].kind.tmod 4 + 4).tmod 4 != 0) = true := by simpa [kindOf] using k0
        have k0'' : ((acts[k].kind.tmod 4 + 4).tmod 4 == 0) = false := by simpa [kindOf] using k0
        clear k0
        go_wp2_with fail
        refine (does_at hlt hn BB.out BL.out).mono ?_
        rintro e w5 ⟨⟨ok, rfl⟩, v5, l5, b5⟩
        have L6 := Lib.hid l5
        have B6 := Lib.hid b5
        clear c0 c1 c2 c3 k0' k0'' l5 b5
        go_wp2_with fail
        go_roundw
        case rel => exact ⟨k + 1, by omega, by go_num, v5, L6.out, B6.out⟩
        case measure => simp [intOf] <;> omega
    · obtain rfl : k = acts.length := by omega
      have BL := Lib.hid bl
      clear bl ln
      go_wp2
      go_ret
      exact ⟨rfl, BL.out⟩
end Go.Proofs.Ytchiedlagdecoaa
