/-
  The walk of the statement BuffPieces.
-/
import Derived.Test.YtoomffplaopijaaPlainP12
import Derived.Test.YtoomffplaopijaaTwo12
import Derived.Test.YtoomffplaopijaaOpen12
namespace Go.Proofs.Ytoomffplaopijaa
open Go.RowKit

theorem text_cell {W wr : World} {ao : Option Addr} {xs : List ByteArray} {k : Nat} (hl : Lies W 1 ao (xs.map fun s => [.string s])) (hk : k < xs.length) (hb : Below W.heap.size W wr) :
    ∃ g off, ao = some ⟨g, off, none⟩ ∧ wr.cell? ⟨g, off + k, none⟩ = some (.string xs[k]) := by
  obtain ⟨g, off, e, hg, _, hc⟩ := hl k [.string xs[k]] (by simp [hk])
  have c0 := hc 0 _ rfl
  rw [Nat.add_zero, Nat.mul_one] at c0
  exact ⟨g, off, e, (hb.cell (p := ⟨g, _, none⟩) hg).trans c0⟩
theorem and_one (k : Nat) : ((k % 2 : Nat) = 0 ∨ (k % 2 : Nat) = 1) := by omega

set_option maxRecDepth 100000 in
set_option maxHeartbeats 6400000 in
theorem pieces_any (cap : Nat) (ao : Option Addr) (xs : List ByteArray) (t : Int) (W : World) (hl : Lies W 1 ao (xs.map fun s => [.string s])) (hn : xs.length ≤ 9223372036854775807) (hxs : ∀ x ∈ xs, x.size ≤ 140737488351232) (ht : 0 ≤ t ∧ t ≤ 255) :
    Calls Try.prog 5 #[.slice ao xs.length cap, .int .u8 t] W (AlivePost W) := by
  have HL := Lib.hid hl
  have HFN : Hid (FnIs (.func (.func 10) #[] #[]) true) := .inl ⟨rfl, rfl⟩
  obtain ⟨m, hm, hm1⟩ : ∃ m : Nat, t.tmod 5 = m ∧ m < 5 := by
    have h1 : 0 ≤ t.tmod 5 := Int.tmod_nonneg 5 ht.1
    have h2 := Int.tmod_lt_of_pos t (show (0 : Int) < 5 by omega)
    exact ⟨(t.tmod 5).toNat, by omega, by omega⟩
  have hu8 : IntKind.u8.wrap (m : Int) = m := by unfold IntKind.wrap; simp [IntKind.bits]; omega
  have hi64 : IntKind.i64.wrap (m : Int) = m := wrap_in (by omega) (by omega)
  clear hl
  go_enter Try.func5, Try.ntmps5
  go_wp2_with fail
  refine (live_new (fv := .func (.func 10) #[] #[]) (hf := true) HFN.out W W.heap.size (Nat.le_refl _)).mono ?_; rintro e w1 ⟨rfl, l, m1⟩
  have LL := Lib.hid l; have MM := Lib.hid m1; clear l m1
  go_wp2_with fail
  refine (two_new (fv := .func (.func 10) #[] #[]) (hf := true) HFN.out w1 W.heap.size W.heap.size LL.out).mono ?_; rintro e w2 ⟨rfl, l, m1⟩
  have m2 := MM.out.trans m1
  clear MM LL
  have LL := Lib.hid l; have MM := Lib.hid m2; clear l m1 m2
  generalize w1.heap.size = b2 at *
  go_wp2_with fail
  refine (alive_any _).mono ?_; rintro e w4 ⟨rfl, b4⟩
  have L4 := Lib.hid (LL.out.stay (Mod.of_below b4)); have M4 := Lib.hid (MM.out.trans (b4.mono MM.out.size)); clear b4 LL MM
  go_wp2_with fail
  go_loopw [25] (fun i wr => ∃ j : Nat, j ≤ m ∧ i = .int .i64 j ∧ Two W.heap.size wr W.heap.size b2 (.func (.func 10) #[] #[]) true (skN j) (skN j) ∧ Below W.heap.size W wr) (fun i _ => m - (intOf i).toNat)
  case atStart => exact ⟨0, Nat.zero_le _, rfl, L4.out, M4.out⟩
  case round =>
    obtain ⟨j, hj, rfl, l, bl⟩ := hrel
    have LL := Lib.hid l
    have BL := Lib.hid bl
    clear l bl
    by_cases hlj : j < m
    · have hp := Lib.hid (push_skN j (by omega))
      go_wp2_with fail
      refine (two_push LL.out ⟨#[117, 112]⟩).mono ?_; rw [tl2, hp.out]; rintro e w5 ⟨rfl, l, m⟩; have L5 := Lib.hid l.symm; have B5 := Lib.hid (BL.out.trans m); clear l m LL
      go_wp2_with fail
      refine (two_push L5.out ⟨#[117, 112]⟩).mono ?_; rw [tl2, hp.out]; rintro e w6 ⟨rfl, l, m⟩; have L6 := Lib.hid l.symm; have B6 := Lib.hid (B5.out.trans m); clear l m
      go_wp2_with fail
      go_roundw
      case rel => exact ⟨j + 1, by omega, by go_num, L6.out, B6.out⟩
      case measure => simp [intOf]; omega
    · obtain rfl : j = m := by omega
      have hf0 := Lib.hid (skN_fin j)
      obtain ⟨wo, rfl⟩ : ∃ wo : World, wo = wr := ⟨_, rfl⟩
      go_wp2_with fail
      go_loopw [7, 34] (fun av i wr => ∃ (k : Nat) (s : Sk) (all : Bs), k ≤ xs.length ∧ i = .int .i64 k ∧ av = .string (str all) ∧ all.length ≤ 32768 ∧ Fin12 (decide (j ≠ 0)) s all ∧ s.bufs.length = j ∧ Two W.heap.size wr W.heap.size b2 (.func (.func 10) #[] #[]) true s (skN j) ∧ Below W.heap.size W wr) (fun _ i _ => xs.length - (intOf i).toNat)
      case atStart => exact ⟨0, skN j, [], Nat.zero_le _, rfl, rfl, by simp, hf0.out, by simp [skN], LL.out, BL.out⟩
      case round =>
        clear LL BL
        obtain ⟨k, s, all, hk, rfl, rfl, hal, hfi, hsl, l, bl⟩ := hrel
        have LL := Lib.hid l
        have BL := Lib.hid bl
        have HF := Lib.hid hfi
        have HSL := Lib.hid hsl
        clear l hfi hsl
        have hsz : (str all).size ≤ 32768 := by rw [str_size]; exact hal
        by_cases hlt : k < xs.length
        · obtain ⟨g, off, rfl, c0⟩ := text_cell HL.out hlt bl
          have hxk := hxs xs[k] (List.getElem_mem hlt)
          clear bl
          by_cases hbig : 32768 < (str all).size + xs[k].size
          · have hbig' : (32768 : Int) < ((str all).size : Int) + (xs[k].size : Int) := by omega
            go_wp2_with fail
            go_ret
            exact ⟨rfl, BL.out⟩
          · have hbig' : ((str all).size : Int) + (xs[k].size : Int) ≤ 32768 := by omega
            have hW := Lib.hid (fin12_write HF.out (fun h => by have := HSL.out; rw [h] at this; simp at this; simp [← this]) xs[k].toList (by rw [size_toList]; rw [str_size] at hbig; omega))
            have hal' : (all ++ xs[k].toList).length ≤ 32768 := by rw [List.length_append, size_toList]; rw [str_size] at hbig; omega
            have HFl := Lib.hid (fin12_flush hW.out.2.1 (by omega))
            have hstr : Hid (str all ++ xs[k] = str (all ++ xs[k].toList)) := by show _ = _; rw [← str_append, str_of]
            go_wp2_with (go_at_call 17; rw [hstr.out]; refine (two_write LL.out xs[k]).mono ?_; rw [hW.out.1]; rintro e w5 ⟨rfl, l, m⟩; have L5 := Lib.hid l; have B5 := Lib.hid (BL.out.trans m); clear l m)
            · go_wp2_with (go_at_call 18; refine (two_flush L5.out).mono ?_; rintro e w6 ⟨rfl, l, m⟩; have L6 := Lib.hid l; have B6 := Lib.hid (B5.out.trans m); clear l m)
              go_roundw
              case rel => exact ⟨k + 1, _, _, by omega, by go_num, rfl, hal', HFl.out.1, by rw [HFl.out.2.1, hW.out.2.2, HSL.out], L6.out, B6.out⟩
              case measure => simp [intOf]; omega
            · go_roundw
              case rel => exact ⟨k + 1, _, _, by omega, by go_num, rfl, hal', hW.out.2.1, by rw [hW.out.2.2, HSL.out], L5.out, B5.out⟩
              case measure => simp [intOf]; omega
        · clear bl
          have hW := Lib.hid (fin12_write hf0.out (fun h => by have := congrArg List.length h; simp [skN] at this; simp [this]) all (by simp; omega))
          have HE := Lib.hid (fin12_endS _ rfl HF.out (by omega))
          have HG := Lib.hid (fin12_endS _ rfl hW.out.2.1 (by simp; omega))
          have hB : Hid (str (endS true s).2.bottom = str (Uc (decide (j ≠ 0)) all)) := by show _ = _; rw [fin12_bottom HE.out.2.1 HE.out.2.2]
          have hC : Hid (str (endS true (come (skN j) (skN j).bufs.length all)).2.bottom = str (Uc (decide (j ≠ 0)) all)) := by show _ = _; rw [fin12_bottom HG.out.2.1 HG.out.2.2]; rfl
          have hll : ((str (Uc (decide (j ≠ 0)) all)).toList == (str (Uc (decide (j ≠ 0)) all)).toList) = true := by simp
          go_wp2_with fail
          refine (two_write LL.out.symm (str all)).mono ?_; rw [toList_str, hW.out.1]; rintro e w5 ⟨rfl, l, m⟩; have L5 := Lib.hid l.symm; have B5 := Lib.hid (BL.out.trans m); clear l m
          go_wp2_with fail
          refine (two_end L5.out).mono ?_; rw [HE.out.1]; rintro e w6 ⟨rfl, l, m⟩; have L6 := Lib.hid l.symm; have B6 := Lib.hid (B5.out.trans m); clear l m L5
          go_wp2_with fail
          refine (two_end L6.out).mono ?_; rw [HG.out.1]; rintro e w7 ⟨rfl, l, m⟩; have L7 := Lib.hid l.symm; have B7 := Lib.hid (B6.out.trans m); clear l m
          go_wp2_with fail
          refine (two_bottom L7.out).mono ?_; rintro e w8 ⟨rfl, rfl⟩; rw [hB.out]
          go_wp2_with fail
          refine (two_bottom L7.out.symm).mono ?_; rintro e w8 ⟨rfl, rfl⟩; rw [hC.out]
          go_wp2_with fail
          go_ret
          exact ⟨rfl, B7.out⟩
end Go.Proofs.Ytoomffplaopijaa
