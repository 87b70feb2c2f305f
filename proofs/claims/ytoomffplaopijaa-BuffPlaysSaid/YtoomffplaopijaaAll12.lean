/-
  The walk of the statement BuffAll.
-/
import Derived.Test.YtoomffplaopijaaFlat12
import Derived.Test.YtoomffplaopijaaLiveK12
import Derived.Test.YtoomffplaopijaaOpen12
namespace Go.Proofs.Ytoomffplaopijaa
open Go.RowKit

theorem ac_cells {W wr : World} {ao : Option Addr} {acts : List Ac} {k : Nat} (hl : Lies W 3 ao (acts.map Ac.cells)) (hk : k < acts.length) (hb : Below W.heap.size W wr) :
    ∃ g off, ao = some ⟨g, off, none⟩ ∧ g < W.heap.size ∧ wr.cell? ⟨g, off + k * 3, none⟩ = some (.int .i64 acts[k].kind) ∧ wr.cell? ⟨g, off + k * 3 + 1, none⟩ = some (.string acts[k].text) ∧ wr.cell? ⟨g, off + k * 3 + 2, none⟩ = some (.int .i64 acts[k].n) := by
  obtain ⟨g, off, e, hg, _, hc⟩ := hl k acts[k].cells (by simp [hk])
  have c0 := hc 0 _ rfl
  have c1 := hc 1 _ rfl
  have c2 := hc 2 _ rfl
  rw [Nat.add_zero] at c0
  exact ⟨g, off, e, hg, (hb.cell (p := ⟨g, _, none⟩) hg).trans c0, (hb.cell (p := ⟨g, _, none⟩) hg).trans c1, (hb.cell (p := ⟨g, _, none⟩) hg).trans c2⟩

/-- The call that an act stands for. -/
def kindOf (k : Int) : Int := (k.tmod 8 + 8).tmod 8
theorem kind_facts {kind : Int} : IntKind.i64.wrap (kind.tmod 8 + 8) = kind.tmod 8 + 8 := by
  have t1 := Int.tmod_lt_of_pos kind (show (0 : Int) < 8 by omega)
  have t2 : -8 < kind.tmod 8 := Int.lt_tmod_of_pos kind (by omega)
  exact wrap_in (by omega) (by omega)
theorem kind_range (k : Int) : kindOf k = 0 ∨ kindOf k = 1 ∨ kindOf k = 2 ∨ kindOf k = 3 ∨ kindOf k = 4 ∨ kindOf k = 5 ∨ kindOf k = 6 ∨ kindOf k = 7 := by
  have t1 := Int.tmod_lt_of_pos k (show (0 : Int) < 8 by omega)
  have t2 : -8 < k.tmod 8 := Int.lt_tmod_of_pos k (by omega)
  unfold kindOf
  have h1 : 0 ≤ (k.tmod 8 + 8).tmod 8 := Int.tmod_nonneg 8 (by omega)
  have h2 := Int.tmod_lt_of_pos (k.tmod 8 + 8) (show (0 : Int) < 8 by omega)
  omega

theorem tl0 : (ByteArray.mk #[]).toList = [] := List.eq_nil_of_length_eq_zero (by rw [size_toList]; rfl)

set_option maxRecDepth 100000 in
set_option maxHeartbeats 6400000 in
theorem all_any (cap : Nat) (ao : Option Addr) (acts : List Ac) (W : World) (hl : Lies W 3 ao (acts.map Ac.cells)) (hn : acts.length ≤ 9223372036854775807) :
    Calls Try.prog 4 #[.slice ao acts.length cap] W (AlivePost W) := by
  have HL := Lib.hid hl
  have HFN : Hid (FnIs .nilFunc false) := .inr ⟨rfl, rfl⟩
  clear hl
  go_enter Try.func4, Try.ntmps4
  go_wp2_with (first
    | (go_at_call 9; refine (live_new (fv := .nilFunc) (hf := false) HFN.out W W.heap.size (Nat.le_refl _)).mono ?_; rintro e w1 ⟨rfl, l, m⟩; have LL := Lib.hid l; have MM := Lib.hid m; clear l m)
    | (go_at_call 11; refine (alive_any _).mono ?_; rintro e w4 ⟨rfl, b4⟩; have L4 := Lib.hid (LL.out.stay (Mod.of_below b4)); have M4 := Lib.hid (MM.out.trans (b4.mono MM.out.size)); clear b4))
  go_loopw [4, 17] (fun all i wr => ∃ (k : Nat) (s : Sk), k ≤ acts.length ∧ i = .int .i64 k ∧ all = .string (str (flat s)) ∧ Live W.heap.size wr W.heap.size .nilFunc false s ∧ Below W.heap.size W wr) (fun _ i _ => acts.length - (intOf i).toNat)
  case atStart => exact ⟨0, sk0, Nat.zero_le _, rfl, rfl, L4.out, M4.out⟩
  case round =>
    obtain ⟨k, s, hk, rfl, rfl, lv, bl⟩ := hrel
    have LV := Lib.hid lv
    have OK := Lib.hid lv.ok
    have BL := Lib.hid bl
    by_cases hlt : k < acts.length
    · obtain ⟨g, off, rfl, hg, c0, c1, c2⟩ := ac_cells HL.out hlt bl
      have hw := kind_facts (kind := acts[k].kind)
      have tot : s.total ≤ 65536 := OK.out.total
      have hfs : (str (flat s)).size ≤ 65536 := by rw [str_size, flat_len]; exact tot
      have lk := Lib.hid (lv.box (.cells #[.int .i64 acts[k].kind, .string acts[k].text, .int .i64 acts[k].n] 28))
      have bk := Lib.hid (bl.alloc bl.size (.cells #[.int .i64 acts[k].kind, .string acts[k].text, .int .i64 acts[k].n] 28))
      have BX := Lib.hid (heap_alloc_new wr (.cells #[.int .i64 acts[k].kind, .string acts[k].text, .int .i64 acts[k].n] 28))
      clear lv bl
      rcases kind_range acts[k].kind with k0 | k0 | k0 | k0 | k0 | k0 | k0 | k0
      all_goals unfold kindOf at k0
      · rcases push_flat s with ⟨h1, h2⟩ | ⟨h1, h2⟩
        · have H1 := Lib.hid h1
          have H2 := Lib.hid h2
          clear h1 h2
          go_wp2_with (go_at_call 16; refine (k_push lk.out ⟨#[]⟩).mono ?_; rw [tl0, H1.out]; rintro e w5 ⟨rfl, l, m⟩; have m' := bk.out.trans (Mod.unbox m bk.out.size); have L5 := Lib.hid (l.unbox m'.size); have B5 := Lib.hid m'; clear l m m')
          go_roundw
          case rel => exact ⟨k + 1, _, by omega, by go_num, by rw [H2.out], L5.out, B5.out⟩
          case measure => simp [intOf]; omega
        · have H1 := Lib.hid h1
          have H2 := Lib.hid h2
          clear h1 h2
          go_wp2_with (go_at_call 16; refine (k_push lk.out ⟨#[]⟩).mono ?_; rw [tl0, H1.out]; rintro e w5 ⟨rfl, l, m⟩; have m' := bk.out.trans (Mod.unbox m bk.out.size); have L5 := Lib.hid (l.unbox m'.size); have B5 := Lib.hid m'; clear l m m')
          go_roundw
          case rel => exact ⟨k + 1, _, by omega, by go_num, by rw [H2.out], L5.out, B5.out⟩
          case measure => simp [intOf]; omega
      · by_cases hx : 65536 < s.total + acts[k].text.size
        · have H1 : Hid (write s acts[k].text.toList = (8, s)) := by show _ = _; unfold write; rw [size_toList, if_pos hx]
          clear hx
          go_wp2_with (go_at_call 17; refine (k_write lk.out acts[k].text).mono ?_; rw [H1.out]; rintro e w5 ⟨rfl, l, m⟩; have m' := bk.out.trans (Mod.unbox m bk.out.size); have L5 := Lib.hid (l.unbox m'.size); have B5 := Lib.hid m'; clear l m m')
          go_roundw
          case rel => exact ⟨k + 1, _, by omega, by go_num, rfl, L5.out, B5.out⟩
          case measure => simp [intOf]; omega
        · have H1 : Hid (write s acts[k].text.toList = (0, come s s.bufs.length acts[k].text.toList)) := by show _ = _; unfold write; rw [size_toList, if_neg hx]
          have hsum : (str (flat s)).size + acts[k].text.size ≤ 65536 := by rw [str_size, flat_len]; omega
          have hts : acts[k].text.size ≤ 65536 := by omega
          clear hx
          go_wp2_with (go_at_call 17; refine (k_write lk.out acts[k].text).mono ?_; rw [H1.out]; rintro e w5 ⟨rfl, l, m⟩; have m' := bk.out.trans (Mod.unbox m bk.out.size); have L5 := Lib.hid (l.unbox m'.size); have B5 := Lib.hid m'; have x1 := cell_blk (Mod.box m BX.out) 1; simp at x1; clear l m m')
          go_roundw
          case rel => exact ⟨k + 1, _, by omega, by go_num, by rw [flat_write, ← str_append, str_of], L5.out, B5.out⟩
          case measure => simp [intOf]; omega
      · go_wp2
        go_roundw
        case rel => exact ⟨k + 1, _, by omega, by go_num, rfl, lk.out.unbox bk.out.size, bk.out⟩
        case measure => simp [intOf]; omega
      · go_wp2
        go_roundw
        case rel => exact ⟨k + 1, _, by omega, by go_num, rfl, lk.out.unbox bk.out.size, bk.out⟩
        case measure => simp [intOf]; omega
      · go_wp2_with (go_at_call 18; refine (k_flush lk.out).mono ?_; rintro e w5 ⟨rfl, l, m⟩; have m' := bk.out.trans (Mod.unbox m bk.out.size); have L5 := Lib.hid (l.unbox m'.size); have B5 := Lib.hid m'; clear l m m')
        go_roundw
        case rel => exact ⟨k + 1, _, by omega, by go_num, by rw [(flush_flat OK.out).1], L5.out, B5.out⟩
        case measure => simp [intOf]; omega
      · go_wp2_with (go_at_call 19; refine (k_pop lk.out).mono ?_; rintro e w5 ⟨rfl, l, m⟩; have m' := bk.out.trans (Mod.unbox m bk.out.size); have L5 := Lib.hid (l.unbox m'.size); have B5 := Lib.hid m'; clear l m m')
        go_roundw
        case rel => exact ⟨k + 1, _, by omega, by go_num, by rw [(pop_flat OK.out).1], L5.out, B5.out⟩
        case measure => simp [intOf]; omega
      · go_wp2_with (go_at_call 20; refine (k_end lk.out).mono ?_; rintro e w5 ⟨rfl, l, m⟩; have m' := bk.out.trans (Mod.unbox m bk.out.size); have L5 := Lib.hid (l.unbox m'.size); have B5 := Lib.hid m'; clear l m m')
        go_roundw
        case rel => exact ⟨k + 1, _, by omega, by go_num, by rw [(endS_flat _ s rfl OK.out).2.1], L5.out, B5.out⟩
        case measure => simp [intOf]; omega
      · go_wp2
        go_roundw
        case rel => exact ⟨k + 1, _, by omega, by go_num, rfl, lk.out.unbox bk.out.size, bk.out⟩
        case measure => simp [intOf]; omega
    · obtain rfl : k = acts.length := by omega
      have H1 := Lib.hid (endS_flat _ s rfl OK.out)
      clear lv bl
      have HB : Hid (str (endS false s).2.bottom = str (flat s)) := by
        show _ = _
        rw [← H1.out.2.1]
        unfold flat
        rw [List.eq_nil_of_length_eq_zero H1.out.2.2]
        simp
      have hll : ((str (flat s)).toList == (str (flat s)).toList) = true := by simp
      go_wp2_with (first
        | (go_at_call 20; refine (live_end LV.out).mono ?_; rw [H1.out.1]; rintro e w5 ⟨rfl, l, m⟩; have m' := BL.out.trans m; have L5 := Lib.hid l; have B5 := Lib.hid m'; clear l m m')
        | (go_at_call 13; refine (live_depth L5.out).mono ?_; rintro e w6 ⟨rfl, rfl⟩; rw [H1.out.2.2])
        | (go_at_call 14; refine (live_bottom L5.out).mono ?_; rintro e w6 ⟨rfl, rfl⟩; rw [HB.out]))
      go_ret
      exact ⟨rfl, B5.out⟩
end Go.Proofs.Ytoomffplaopijaa
