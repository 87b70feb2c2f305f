/-
  The walk of the statement BuffFull.
-/
import Derived.Test.YtoomffplaopijaaAll12
namespace Go.Proofs.Ytoomffplaopijaa
open Go.RowKit

theorem push_refuse {hf : Bool} {s t : Sk} {x : Bs} {r : Int} (hr : push hf s x = (r, t)) (h : r ≠ 0) : t = s := by
  unfold push at hr
  split at hr
  · split at hr
    · cases hr; rfl
    · cases hr; exact absurd rfl h
  · cases hr; rfl
theorem write_refuse {s t : Sk} {x : Bs} {r : Int} (hr : write s x = (r, t)) (h : r ≠ 0) : t = s := by
  unfold write at hr
  split at hr
  · cases hr; rfl
  · cases hr; exact absurd rfl h
theorem flush_refuse {hf : Bool} {s t : Sk} {r : Int} (hr : flush hf s = (r, t)) (h : r ≠ 0) : t = s := by
  unfold flush at hr
  cases e0 : s.bufs[s.bufs.length - 1]? with
  | none => rw [e0] at hr; cases hr; rfl
  | some f =>
    rw [e0] at hr
    simp only at hr
    split at hr
    · cases hr; rfl
    · split at hr
      · cases hr; rfl
      · cases hr; exact absurd rfl h
theorem pop_refuse {hf : Bool} {s t : Sk} {r : Int} (hr : pop hf s = (r, t)) (h : r ≠ 0) : t = s := by
  unfold pop at hr
  split at hr
  · cases hr; exact absurd rfl h
  · exact flush_refuse hr h

theorem bdrewN {B : Nat} {w w' : World} (m : Below B w w') (n : Nat) : Below B w (w'.drewN n) := ⟨m.os, m.tape, m.output, m.size, m.block⟩
theorem full_facts {hf : Bool} {s : Sk} (o : Ok hf s) : (s.bufs.length : Int) ≤ 32 ∧ ((str s.bottom).size : Int) ≤ 65536 := by
  have h1 := o.deep
  have h2 := o.total
  rw [str_size]
  unfold Sk.total at h2
  omega
theorem write_ok' {hf : Bool} {s t : Sk} {x : Bs} {r : Int} (o : Ok hf s) (hr : write s x = (r, t)) : Ok hf t := by
  unfold write at hr
  split at hr
  · cases hr; exact o
  · rename_i hn
    cases hr
    cases hl : s.bufs.length with
    | zero => exact come0_ok o x (by omega)
    | succ k => exact come_ok o (List.getElem?_eq_getElem (by omega)) x (by omega)
theorem push_ok' {hf : Bool} {s t : Sk} {x : Bs} {r : Int} (o : Ok hf s) (hr : push hf s x = (r, t)) : Ok hf t := by
  unfold push at hr
  split at hr
  · rename_i hm
    split at hr
    · cases hr; exact o
    · rename_i hd; cases hr; exact push_ok o x hm hd
  · cases hr; exact o
theorem flush_ok' {hf : Bool} {s t : Sk} {r : Int} (o : Ok hf s) (hr : flush hf s = (r, t)) : Ok hf t := by
  unfold flush at hr
  cases e0 : s.bufs[s.bufs.length - 1]? with
  | none => rw [e0] at hr; cases hr; exact o
  | some f =>
    rw [e0] at hr
    simp only at hr
    have hlt := (List.getElem?_eq_some_iff.1 e0).1
    obtain ⟨M, hM⟩ : ∃ M, s.bufs.length = M + 1 := ⟨s.bufs.length - 1, by omega⟩
    rw [hM] at e0 hr
    have e1 : s.bufs[M]? = some f := e0
    have hct := clean_total hM e1
    split at hr
    · cases hr; exact o
    · split at hr
      · cases hr; exact o
      · rename_i hn
        cases hr
        show Ok hf (come (clean s) M _)
        have co := clean_ok o hM e1
        cases M with
        | zero => exact come0_ok co _ (by omega)
        | succ k => exact come_ok co (List.getElem?_eq_getElem (by rw [clean_len, hM]; omega)) _ (by omega)
theorem pop_ok' {hf : Bool} {s t : Sk} {r : Int} (o : Ok hf s) (hr : pop hf s = (r, t)) : Ok hf t := by
  unfold pop at hr
  split at hr
  · rename_i h0
    cases hr
    obtain ⟨M, f, hM, hf, ht⟩ := flush_zero h0
    exact popB_ok (flush_ok' o rfl) hM hf ht
  · exact flush_ok' o hr

set_option maxRecDepth 100000 in
set_option maxHeartbeats 6400000 in
theorem full_any (cap : Nat) (ao : Option Addr) (acts : List Ac) (t : Int) (W : World) (hl : Lies W 3 ao (acts.map Ac.cells)) (hn : acts.length ≤ 9223372036854775807) (ht : 0 ≤ t ∧ t ≤ 255) :
    Calls Try.prog 3 #[.slice ao acts.length cap, .int .u8 t] W (AlivePost W) := by
  have HL := Lib.hid hl
  have HFN : Hid (FnIs (.func (.func 10) #[] #[]) true) := .inl ⟨rfl, rfl⟩
  obtain ⟨m, hm, hm1⟩ : ∃ m : Nat, t.tmod 40 = m ∧ m < 40 := by
    have h1 : 0 ≤ t.tmod 40 := Int.tmod_nonneg 40 ht.1
    have h2 := Int.tmod_lt_of_pos t (show (0 : Int) < 40 by omega)
    exact ⟨(t.tmod 40).toNat, by omega, by omega⟩
  have hu8 : IntKind.u8.wrap (m : Int) = m := by unfold IntKind.wrap; simp [IntKind.bits]; omega
  have hi64 : IntKind.i64.wrap (m : Int) = m := wrap_in (by omega) (by omega)
  have hi65 : IntKind.i64.wrap ((m : Int) + 1) = (m : Int) + 1 := wrap_in (by omega) (by omega)
  clear hl
  go_enter Try.func3, Try.ntmps3
  go_wp2_with (first
    | (go_at_call 9; refine (live_new (fv := .func (.func 10) #[] #[]) (hf := true) HFN.out W W.heap.size (Nat.le_refl _)).mono ?_; rintro e w1 ⟨rfl, l, m⟩; have LL := Lib.hid l; have MM := Lib.hid m; clear l m)
    | (go_at_call 11; refine (alive_any _).mono ?_; rintro e w4 ⟨rfl, b4⟩; have L4 := Lib.hid (LL.out.stay (Mod.of_below b4)); have M4 := Lib.hid (MM.out.trans (b4.mono MM.out.size)); clear b4))
  go_loopw [27] (fun i wr => ∃ (j : Nat) (s : Sk), j ≤ m + 1 ∧ i = .int .i64 j ∧ Live W.heap.size wr W.heap.size (.func (.func 10) #[] #[]) true s ∧ Below W.heap.size W wr) (fun i _ => m + 1 - (intOf i).toNat)
  case atStart => exact ⟨0, sk0, Nat.zero_le _, rfl, L4.out, M4.out⟩
  case round =>
    obtain ⟨j, s0, hj, rfl, lv0, bl0⟩ := hrel
    obtain ⟨wo, rfl⟩ : ∃ wo : World, wo = wr := ⟨_, rfl⟩
    by_cases hlj : j < m + 1
    · have hj1 : (j : Int) < (m : Int) + 1 := by omega
      have LV0 := Lib.hid lv0
      have BL0 := Lib.hid bl0
      clear lv0 bl0
      go_wp2_with fail
      go_loopw [31] (fun i wr => ∃ (k : Nat) (s : Sk), k ≤ acts.length ∧ i = .int .i64 k ∧ Live W.heap.size wr W.heap.size (.func (.func 10) #[] #[]) true s ∧ Below W.heap.size W wr) (fun i _ => acts.length - (intOf i).toNat)
      case atStart => exact ⟨0, s0, Nat.zero_le _, rfl, LV0.out, BL0.out⟩
      case round =>
        obtain ⟨k, s, hk, rfl, lv, bl⟩ := hrel
        by_cases hlt : k < acts.length
        · obtain ⟨g, off, rfl, hg, c0, c1, c2⟩ := ac_cells HL.out hlt bl
          have hw := kind_facts (kind := acts[k].kind)
          have OK := Lib.hid lv.ok
          have lk := Lib.hid (lv.box (.cells #[.int .i64 acts[k].kind, .string acts[k].text, .int .i64 acts[k].n] 28))
          have bk := Lib.hid (bl.alloc bl.size (.cells #[.int .i64 acts[k].kind, .string acts[k].text, .int .i64 acts[k].n] 28))
          have BX := Lib.hid (heap_alloc_new wr (.cells #[.int .i64 acts[k].kind, .string acts[k].text, .int .i64 acts[k].n] 28))
          clear lv bl
          rcases kind_range acts[k].kind with k0 | k0 | k0 | k0 | k0 | k0 | k0 | k0
          all_goals unfold kindOf at k0
--ROUNDS
          · obtain ⟨r, s', hr⟩ : ∃ r s', push true s acts[k].text.toList = (r, s') := ⟨_, _, rfl⟩
            have HR := Lib.hid hr
            by_cases hz : r = 0
            · subst hz
              have ok' := full_facts (push_ok' OK.out hr)
              obtain ⟨q1, q2⟩ := ok'
              clear hr
              go_wp2_with (first
              | (go_at_call 12; refine (k_get L5.out).mono ?_; rintro e w6 ⟨rfl, n6, rfl⟩; have L6 := Lib.hid (L5.out.drewN n6); have B6 := Lib.hid (bdrewN B5.out n6))
              | (go_at_call 12; refine (k_get lk.out).mono ?_; rintro e w4 ⟨rfl, n4, rfl⟩; have L4 := Lib.hid (lk.out.drewN n4); have B4 := Lib.hid (bdrewN bk.out n4))
              | (go_at_call 13; refine (k_depth L6.out).mono ?_; rintro e w' ⟨rfl, rfl⟩)
              | (go_at_call 13; refine (k_depth L4.out).mono ?_; rintro e w' ⟨rfl, rfl⟩)
              | (go_at_call 14; refine (k_bottom L6.out).mono ?_; rintro e w' ⟨rfl, rfl⟩)
              | (go_at_call 14; refine (k_bottom L4.out).mono ?_; rintro e w' ⟨rfl, rfl⟩)
              | (go_at_call 15; refine (k_first L6.out).mono ?_; rintro e w' ⟨rfl, rfl⟩)
              | (go_at_call 15; refine (k_first L4.out).mono ?_; rintro e w' ⟨rfl, rfl⟩)
              | (go_at_call 16; refine (k_push L4.out acts[k].text).mono ?_; rw [HR.out]; rintro e w5 ⟨rfl, l, m⟩; have m' := B4.out.trans (Mod.unbox m B4.out.size); have L5 := Lib.hid l; have B5 := Lib.hid m'; clear l m m'))
              go_roundw
              case rel => exact ⟨k + 1, s', by omega, by go_num, L6.out.unbox B6.out.size, B6.out⟩
              case measure => simp [intOf]; omega
            · have hts : s' = s := push_refuse hr hz
              subst hts
              have r0 : (r == 0) = false := by simpa using hz
              have r1 : (r != 0) = true := by simpa using hz
              obtain ⟨q1, q2⟩ := full_facts OK.out
              clear hr hz
              go_wp2_with (first
              | (go_at_call 12; refine (k_get L5.out).mono ?_; rintro e w6 ⟨rfl, n6, rfl⟩; have L6 := Lib.hid (L5.out.drewN n6); have B6 := Lib.hid (bdrewN B5.out n6))
              | (go_at_call 12; refine (k_get lk.out).mono ?_; rintro e w4 ⟨rfl, n4, rfl⟩; have L4 := Lib.hid (lk.out.drewN n4); have B4 := Lib.hid (bdrewN bk.out n4))
              | (go_at_call 13; refine (k_depth L6.out).mono ?_; rintro e w' ⟨rfl, rfl⟩)
              | (go_at_call 13; refine (k_depth L4.out).mono ?_; rintro e w' ⟨rfl, rfl⟩)
              | (go_at_call 14; refine (k_bottom L6.out).mono ?_; rintro e w' ⟨rfl, rfl⟩)
              | (go_at_call 14; refine (k_bottom L4.out).mono ?_; rintro e w' ⟨rfl, rfl⟩)
              | (go_at_call 15; refine (k_first L6.out).mono ?_; rintro e w' ⟨rfl, rfl⟩)
              | (go_at_call 15; refine (k_first L4.out).mono ?_; rintro e w' ⟨rfl, rfl⟩)
              | (go_at_call 16; refine (k_push L4.out acts[k].text).mono ?_; rw [HR.out]; rintro e w5 ⟨rfl, l, m⟩; have m' := B4.out.trans (Mod.unbox m B4.out.size); have L5 := Lib.hid l; have B5 := Lib.hid m'; clear l m m'))
              go_roundw
              case rel => exact ⟨k + 1, s', by omega, by go_num, L6.out.unbox B6.out.size, B6.out⟩
              case measure => simp [intOf]; omega
          · obtain ⟨r, s', hr⟩ : ∃ r s', write s acts[k].text.toList = (r, s') := ⟨_, _, rfl⟩
            have HR := Lib.hid hr
            by_cases hz : r = 0
            · subst hz
              have ok' := full_facts (write_ok' OK.out hr)
              obtain ⟨q1, q2⟩ := ok'
              clear hr
              go_wp2_with (first
              | (go_at_call 12; refine (k_get L5.out).mono ?_; rintro e w6 ⟨rfl, n6, rfl⟩; have L6 := Lib.hid (L5.out.drewN n6); have B6 := Lib.hid (bdrewN B5.out n6))
              | (go_at_call 12; refine (k_get lk.out).mono ?_; rintro e w4 ⟨rfl, n4, rfl⟩; have L4 := Lib.hid (lk.out.drewN n4); have B4 := Lib.hid (bdrewN bk.out n4))
              | (go_at_call 13; refine (k_depth L6.out).mono ?_; rintro e w' ⟨rfl, rfl⟩)
              | (go_at_call 13; refine (k_depth L4.out).mono ?_; rintro e w' ⟨rfl, rfl⟩)
              | (go_at_call 14; refine (k_bottom L6.out).mono ?_; rintro e w' ⟨rfl, rfl⟩)
              | (go_at_call 14; refine (k_bottom L4.out).mono ?_; rintro e w' ⟨rfl, rfl⟩)
              | (go_at_call 15; refine (k_first L6.out).mono ?_; rintro e w' ⟨rfl, rfl⟩)
              | (go_at_call 15; refine (k_first L4.out).mono ?_; rintro e w' ⟨rfl, rfl⟩)
              | (go_at_call 17; refine (k_write L4.out acts[k].text).mono ?_; rw [HR.out]; rintro e w5 ⟨rfl, l, m⟩; have m' := B4.out.trans (Mod.unbox m B4.out.size); have L5 := Lib.hid l; have B5 := Lib.hid m'; clear l m m'))
              go_roundw
              case rel => exact ⟨k + 1, s', by omega, by go_num, L6.out.unbox B6.out.size, B6.out⟩
              case measure => simp [intOf]; omega
            · have hts : s' = s := write_refuse hr hz
              subst hts
              have r0 : (r == 0) = false := by simpa using hz
              have r1 : (r != 0) = true := by simpa using hz
              obtain ⟨q1, q2⟩ := full_facts OK.out
              clear hr hz
              go_wp2_with (first
              | (go_at_call 12; refine (k_get L5.out).mono ?_; rintro e w6 ⟨rfl, n6, rfl⟩; have L6 := Lib.hid (L5.out.drewN n6); have B6 := Lib.hid (bdrewN B5.out n6))
              | (go_at_call 12; refine (k_get lk.out).mono ?_; rintro e w4 ⟨rfl, n4, rfl⟩; have L4 := Lib.hid (lk.out.drewN n4); have B4 := Lib.hid (bdrewN bk.out n4))
              | (go_at_call 13; refine (k_depth L6.out).mono ?_; rintro e w' ⟨rfl, rfl⟩)
              | (go_at_call 13; refine (k_depth L4.out).mono ?_; rintro e w' ⟨rfl, rfl⟩)
              | (go_at_call 14; refine (k_bottom L6.out).mono ?_; rintro e w' ⟨rfl, rfl⟩)
              | (go_at_call 14; refine (k_bottom L4.out).mono ?_; rintro e w' ⟨rfl, rfl⟩)
              | (go_at_call 15; refine (k_first L6.out).mono ?_; rintro e w' ⟨rfl, rfl⟩)
              | (go_at_call 15; refine (k_first L4.out).mono ?_; rintro e w' ⟨rfl, rfl⟩)
              | (go_at_call 17; refine (k_write L4.out acts[k].text).mono ?_; rw [HR.out]; rintro e w5 ⟨rfl, l, m⟩; have m' := B4.out.trans (Mod.unbox m B4.out.size); have L5 := Lib.hid l; have B5 := Lib.hid m'; clear l m m'))
              go_roundw
              case rel => exact ⟨k + 1, s', by omega, by go_num, L6.out.unbox B6.out.size, B6.out⟩
              case measure => simp [intOf]; omega
          · obtain ⟨q1, q2⟩ := full_facts OK.out
            go_wp2_with (first
              | (go_at_call 12; refine (k_get lk.out).mono ?_; rintro e w4 ⟨rfl, n4, rfl⟩)
              | (go_at_call 12; refine (k_get (lk.out.drewN _)).mono ?_; rintro e w6 ⟨rfl, n6, rfl⟩)
              | (go_at_call 13; refine (k_depth (lk.out.drewN _)).mono ?_; rintro e w' ⟨rfl, rfl⟩)
              | (go_at_call 14; refine (k_bottom (lk.out.drewN _)).mono ?_; rintro e w' ⟨rfl, rfl⟩)
              | (go_at_call 15; refine (k_first (lk.out.drewN _)).mono ?_; rintro e w' ⟨rfl, rfl⟩))
            go_roundw
            case rel => exact ⟨k + 1, s, by omega, by go_num, (lk.out.drewN _).unbox (bdrewN bk.out _).size, bdrewN bk.out _⟩
            case measure => simp [intOf]; omega
          · obtain ⟨q1, q2⟩ := full_facts OK.out
            go_wp2_with (first
              | (go_at_call 12; refine (k_get lk.out).mono ?_; rintro e w4 ⟨rfl, n4, rfl⟩)
              | (go_at_call 12; refine (k_get (lk.out.drewN _)).mono ?_; rintro e w6 ⟨rfl, n6, rfl⟩)
              | (go_at_call 13; refine (k_depth (lk.out.drewN _)).mono ?_; rintro e w' ⟨rfl, rfl⟩)
              | (go_at_call 14; refine (k_bottom (lk.out.drewN _)).mono ?_; rintro e w' ⟨rfl, rfl⟩)
              | (go_at_call 15; refine (k_first (lk.out.drewN _)).mono ?_; rintro e w' ⟨rfl, rfl⟩))
            go_roundw
            case rel => exact ⟨k + 1, s, by omega, by go_num, (lk.out.drewN _).unbox (bdrewN bk.out _).size, bdrewN bk.out _⟩
            case measure => simp [intOf]; omega
          · obtain ⟨r, s', hr⟩ : ∃ r s', flush true s = (r, s') := ⟨_, _, rfl⟩
            have HR := Lib.hid hr
            by_cases hz : r = 0
            · subst hz
              have ok' := full_facts (flush_ok' OK.out hr)
              obtain ⟨q1, q2⟩ := ok'
              clear hr
              go_wp2_with (first
              | (go_at_call 12; refine (k_get L5.out).mono ?_; rintro e w6 ⟨rfl, n6, rfl⟩; have L6 := Lib.hid (L5.out.drewN n6); have B6 := Lib.hid (bdrewN B5.out n6))
              | (go_at_call 12; refine (k_get lk.out).mono ?_; rintro e w4 ⟨rfl, n4, rfl⟩; have L4 := Lib.hid (lk.out.drewN n4); have B4 := Lib.hid (bdrewN bk.out n4))
              | (go_at_call 13; refine (k_depth L6.out).mono ?_; rintro e w' ⟨rfl, rfl⟩)
              | (go_at_call 13; refine (k_depth L4.out).mono ?_; rintro e w' ⟨rfl, rfl⟩)
              | (go_at_call 14; refine (k_bottom L6.out).mono ?_; rintro e w' ⟨rfl, rfl⟩)
              | (go_at_call 14; refine (k_bottom L4.out).mono ?_; rintro e w' ⟨rfl, rfl⟩)
              | (go_at_call 15; refine (k_first L6.out).mono ?_; rintro e w' ⟨rfl, rfl⟩)
              | (go_at_call 15; refine (k_first L4.out).mono ?_; rintro e w' ⟨rfl, rfl⟩)
              | (go_at_call 18; refine (k_flush L4.out).mono ?_; rw [HR.out]; rintro e w5 ⟨rfl, l, m⟩; have m' := B4.out.trans (Mod.unbox m B4.out.size); have L5 := Lib.hid l; have B5 := Lib.hid m'; clear l m m'))
              go_roundw
              case rel => exact ⟨k + 1, s', by omega, by go_num, L6.out.unbox B6.out.size, B6.out⟩
              case measure => simp [intOf]; omega
            · have hts : s' = s := flush_refuse hr hz
              subst hts
              have r0 : (r == 0) = false := by simpa using hz
              have r1 : (r != 0) = true := by simpa using hz
              obtain ⟨q1, q2⟩ := full_facts OK.out
              clear hr hz
              go_wp2_with (first
              | (go_at_call 12; refine (k_get L5.out).mono ?_; rintro e w6 ⟨rfl, n6, rfl⟩; have L6 := Lib.hid (L5.out.drewN n6); have B6 := Lib.hid (bdrewN B5.out n6))
              | (go_at_call 12; refine (k_get lk.out).mono ?_; rintro e w4 ⟨rfl, n4, rfl⟩; have L4 := Lib.hid (lk.out.drewN n4); have B4 := Lib.hid (bdrewN bk.out n4))
              | (go_at_call 13; refine (k_depth L6.out).mono ?_; rintro e w' ⟨rfl, rfl⟩)
              | (go_at_call 13; refine (k_depth L4.out).mono ?_; rintro e w' ⟨rfl, rfl⟩)
              | (go_at_call 14; refine (k_bottom L6.out).mono ?_; rintro e w' ⟨rfl, rfl⟩)
              | (go_at_call 14; refine (k_bottom L4.out).mono ?_; rintro e w' ⟨rfl, rfl⟩)
              | (go_at_call 15; refine (k_first L6.out).mono ?_; rintro e w' ⟨rfl, rfl⟩)
              | (go_at_call 15; refine (k_first L4.out).mono ?_; rintro e w' ⟨rfl, rfl⟩)
              | (go_at_call 18; refine (k_flush L4.out).mono ?_; rw [HR.out]; rintro e w5 ⟨rfl, l, m⟩; have m' := B4.out.trans (Mod.unbox m B4.out.size); have L5 := Lib.hid l; have B5 := Lib.hid m'; clear l m m'))
              go_roundw
              case rel => exact ⟨k + 1, s', by omega, by go_num, L6.out.unbox B6.out.size, B6.out⟩
              case measure => simp [intOf]; omega
          · obtain ⟨r, s', hr⟩ : ∃ r s', pop true s = (r, s') := ⟨_, _, rfl⟩
            have HR := Lib.hid hr
            by_cases hz : r = 0
            · subst hz
              have ok' := full_facts (pop_ok' OK.out hr)
              obtain ⟨q1, q2⟩ := ok'
              clear hr
              go_wp2_with (first
              | (go_at_call 12; refine (k_get L5.out).mono ?_; rintro e w6 ⟨rfl, n6, rfl⟩; have L6 := Lib.hid (L5.out.drewN n6); have B6 := Lib.hid (bdrewN B5.out n6))
              | (go_at_call 12; refine (k_get lk.out).mono ?_; rintro e w4 ⟨rfl, n4, rfl⟩; have L4 := Lib.hid (lk.out.drewN n4); have B4 := Lib.hid (bdrewN bk.out n4))
              | (go_at_call 13; refine (k_depth L6.out).mono ?_; rintro e w' ⟨rfl, rfl⟩)
              | (go_at_call 13; refine (k_depth L4.out).mono ?_; rintro e w' ⟨rfl, rfl⟩)
              | (go_at_call 14; refine (k_bottom L6.out).mono ?_; rintro e w' ⟨rfl, rfl⟩)
              | (go_at_call 14; refine (k_bottom L4.out).mono ?_; rintro e w' ⟨rfl, rfl⟩)
              | (go_at_call 15; refine (k_first L6.out).mono ?_; rintro e w' ⟨rfl, rfl⟩)
              | (go_at_call 15; refine (k_first L4.out).mono ?_; rintro e w' ⟨rfl, rfl⟩)
              | (go_at_call 19; refine (k_pop L4.out).mono ?_; rw [HR.out]; rintro e w5 ⟨rfl, l, m⟩; have m' := B4.out.trans (Mod.unbox m B4.out.size); have L5 := Lib.hid l; have B5 := Lib.hid m'; clear l m m'))
              go_roundw
              case rel => exact ⟨k + 1, s', by omega, by go_num, L6.out.unbox B6.out.size, B6.out⟩
              case measure => simp [intOf]; omega
            · have hts : s' = s := pop_refuse hr hz
              subst hts
              have r0 : (r == 0) = false := by simpa using hz
              have r1 : (r != 0) = true := by simpa using hz
              obtain ⟨q1, q2⟩ := full_facts OK.out
              clear hr hz
              go_wp2_with (first
              | (go_at_call 12; refine (k_get L5.out).mono ?_; rintro e w6 ⟨rfl, n6, rfl⟩; have L6 := Lib.hid (L5.out.drewN n6); have B6 := Lib.hid (bdrewN B5.out n6))
              | (go_at_call 12; refine (k_get lk.out).mono ?_; rintro e w4 ⟨rfl, n4, rfl⟩; have L4 := Lib.hid (lk.out.drewN n4); have B4 := Lib.hid (bdrewN bk.out n4))
              | (go_at_call 13; refine (k_depth L6.out).mono ?_; rintro e w' ⟨rfl, rfl⟩)
              | (go_at_call 13; refine (k_depth L4.out).mono ?_; rintro e w' ⟨rfl, rfl⟩)
              | (go_at_call 14; refine (k_bottom L6.out).mono ?_; rintro e w' ⟨rfl, rfl⟩)
              | (go_at_call 14; refine (k_bottom L4.out).mono ?_; rintro e w' ⟨rfl, rfl⟩)
              | (go_at_call 15; refine (k_first L6.out).mono ?_; rintro e w' ⟨rfl, rfl⟩)
              | (go_at_call 15; refine (k_first L4.out).mono ?_; rintro e w' ⟨rfl, rfl⟩)
              | (go_at_call 19; refine (k_pop L4.out).mono ?_; rw [HR.out]; rintro e w5 ⟨rfl, l, m⟩; have m' := B4.out.trans (Mod.unbox m B4.out.size); have L5 := Lib.hid l; have B5 := Lib.hid m'; clear l m m'))
              go_roundw
              case rel => exact ⟨k + 1, s', by omega, by go_num, L6.out.unbox B6.out.size, B6.out⟩
              case measure => simp [intOf]; omega
          · obtain ⟨q1, q2⟩ := full_facts OK.out
            go_wp2_with (first
              | (go_at_call 12; refine (k_get lk.out).mono ?_; rintro e w4 ⟨rfl, n4, rfl⟩)
              | (go_at_call 12; refine (k_get (lk.out.drewN _)).mono ?_; rintro e w6 ⟨rfl, n6, rfl⟩)
              | (go_at_call 13; refine (k_depth (lk.out.drewN _)).mono ?_; rintro e w' ⟨rfl, rfl⟩)
              | (go_at_call 14; refine (k_bottom (lk.out.drewN _)).mono ?_; rintro e w' ⟨rfl, rfl⟩)
              | (go_at_call 15; refine (k_first (lk.out.drewN _)).mono ?_; rintro e w' ⟨rfl, rfl⟩))
            go_roundw
            case rel => exact ⟨k + 1, s, by omega, by go_num, (lk.out.drewN _).unbox (bdrewN bk.out _).size, bdrewN bk.out _⟩
            case measure => simp [intOf]; omega
          · obtain ⟨q1, q2⟩ := full_facts OK.out
            go_wp2_with (first
              | (go_at_call 12; refine (k_get lk.out).mono ?_; rintro e w4 ⟨rfl, n4, rfl⟩)
              | (go_at_call 12; refine (k_get (lk.out.drewN _)).mono ?_; rintro e w6 ⟨rfl, n6, rfl⟩)
              | (go_at_call 13; refine (k_depth (lk.out.drewN _)).mono ?_; rintro e w' ⟨rfl, rfl⟩)
              | (go_at_call 14; refine (k_bottom (lk.out.drewN _)).mono ?_; rintro e w' ⟨rfl, rfl⟩)
              | (go_at_call 15; refine (k_first (lk.out.drewN _)).mono ?_; rintro e w' ⟨rfl, rfl⟩))
            go_roundw
            case rel => exact ⟨k + 1, s, by omega, by go_num, (lk.out.drewN _).unbox (bdrewN bk.out _).size, bdrewN bk.out _⟩
            case measure => simp [intOf]; omega
        · have L9 := Lib.hid lv
          have B9 := Lib.hid bl
          clear lv bl
          go_wp2
          go_roundw
          case rel => exact ⟨j + 1, s, by omega, by go_num, L9.out, B9.out⟩
          case measure => simp [intOf]; omega
    · have B9 := Lib.hid bl0
      clear lv0 bl0
      go_wp2
      go_ret
      exact ⟨rfl, B9.out⟩
end Go.Proofs.Ytoomffplaopijaa
