/-
  The walk of a reader's value.
-/
import Derived.Test.YtnaefnojmiolbaaGreatDoorObjZ
namespace Go.Proofs.YtnaefnojmiolbaaGreatDoor
open Go.RowKit

attribute [local go_sem] yld_undef
theorem set4_mod (W : World) (B : Nat) (a b c d : Value) : Mod (fun k => k = B) W ((((W.setCell ⟨B, 0, none⟩ a).setCell ⟨B, 1, none⟩ b).setCell ⟨B, 2, none⟩ c).setCell ⟨B, 3, none⟩ d) :=
  ((((Mod.refl (fun k => k = B) W).setCell ⟨B, 0, none⟩ a (fun _ => rfl)).setCell ⟨B, 1, none⟩ b (fun _ => rfl)).setCell ⟨B, 2, none⟩ c (fun _ => rfl)).setCell ⟨B, 3, none⟩ d (fun _ => rfl)
/-- A value's end: the result's cell is stored, and read. -/
theorem v_end {w W : World} {r : Nat} {s : ByteArray} {p m q n : Nat} {tv tv2 : Value} {ths ths2 : List Th} {cs : Array Value} {tp2 : List TP} (h : Rd w r s p m tv ths) (hd : Rd W r s q n tv2 ths2) (ha : W.heap[w.heap.size]? = some (.cells cs 24 (0, 0))) (hm : Mod (RF r tv) w W) {y : VT} {co : Option Addr} {cm cc : Nat}
    (hv : VT64 W (.slice co cm cc) y.xs) (htp : ths2.map Th.tp = tp2) (hf : Fresh w tv tv2) (hl : ths2.length ≤ q) {a b c e : Value} :
    VPost w r s tv (.ok (y, q, n, tp2)) (.returned (y.v (.slice co cm cc))) ((((W.setCell ⟨w.heap.size, 0, none⟩ a).setCell ⟨w.heap.size, 1, none⟩ b).setCell ⟨w.heap.size, 2, none⟩ c).setCell ⟨w.heap.size, 3, none⟩ e) :=
  have m9 := set4_mod W w.heap.size a b c e
  have hnr : w.heap.size ≠ r := fun x => by have := lt_of_block h.blk; omega
  have hng : tv2.ownBlock ≠ some w.heap.size := fun x => by
    obtain ⟨cur, hc⟩ := owns_blk hd.own x
    rw [ha] at hc; cases hc
  ⟨⟨co, cm, cc, tv2, ths2, rfl, VT64.mod hv m9 (fun g x => by rw [show g = w.heap.size from x]; exact blk_no64 ha (by decide)), hd.store hnr hng (blk_no64 ha (by decide)) h.tab.lt m9, htp, hf, hl⟩, hm.trans' m9 (fun i hi x => by have h3 : i = w.heap.size := x; omega)⟩
set_option maxHeartbeats 6400000 in
set_option maxRecDepth 100000 in
theorem v_null {w : World} {r : Nat} {s : ByteArray} {p m : Nat} {tv : Value} {ths : List Th} (h : Rd w r s p m tv ths) (hl : ths.length ≤ p) (hc : nowP s p = 78) (d : Int) :
    Calls Tryz.prog 84 #[.pointer (some ⟨r, 0, none⟩), .int .i64 d] w (VPost w r s tv (nullP s p m (ths.map Th.tp))) := by
  obtain ⟨x, hx⟩ : ∃ x, x = nullP s p m (ths.map Th.tp) := ⟨_, rfl⟩
  rw [← hx]
  unfold nullP at hx
  have HX := Lib.hid hx
  clear hx
  have HB : Below w.heap.size w (w.alloc V0) := (Below.refl _ _).alloc (Nat.le_refl _) _
  have HD0 := Lib.hid (h.under HB)
  have HM0 := Lib.hid (Mod.of_below (F := RF r tv) HB)
  have HA0 : Hid ((w.alloc V0).heap[w.heap.size]? = some V0) := Lib.hid (heap_alloc_new w _)
  obtain ⟨c0, c1, c2, c3⟩ := HD0.out.cells
  have HN := now_any HD0.out
  rw [hc] at HN
  have hpl := h.hp
  have hsz := h.hs
  have h := Lib.hid h
  clear HB hc
  go_enter Tryz.func84, Tryz.ntmps84
  go_wp2_with fail
  refine HN.mono ?_
  rintro e w1 ⟨rfl, hb⟩
  have HD1 := Lib.hid (HD0.out.under hb)
  have HM1 := Lib.hid (HM0.out.trans (Mod.of_below (F := RF r tv) hb))
  have HA1 := Lib.hid ((hb.block _ (lt_of_block HA0.out)).trans HA0.out)
  clear hb HN HD0 HM0 HA0 c0 c1 c2 c3
  obtain ⟨x2, hx2⟩ : ∃ x, x = mustP s [78, 59] p := ⟨_, rfl⟩
  have HU2 := must_lit #[78, 59] (by decide) HD1.out
  rw [show (#[78, 59] : Array UInt8).toList = [78, 59] from rfl, ← hx2] at HU2
  have hX2 := HX.out
  try dsimp only at hX2
  rw [← hx2] at hX2
  have HX := Lib.hid hX2
  have HE2 := Lib.hid hx2
  clear hX2 hx2
  rcases x2 with ⟨c, a⟩ | q
  · have hxe : x = .error (c, a) := HX.out
    subst hxe
    clear HE2
    go_wp2_with fail
    refine HU2.mono ?_
    rintro e w2 ⟨rfl, hm⟩
    go_wp2_with fail
    exact ⟨rfl, rfl, HM1.out.trans hm⟩
  go_wp2_with fail
  refine HU2.mono ?_
  rintro e w2 ⟨⟨rfl, hd⟩, hm⟩
  have HD2 := Lib.hid hd
  have HM2 := Lib.hid (HM1.out.trans hm)
  have HA2 := Lib.hid (key_kept h.out (Nat.le_refl _) hm HA1.out)
  clear hd hm HU2 HM1 HA1
  have hxe : x = .ok (.mk 0 0 ⟨#[]⟩ [], q, m, ths.map Th.tp) := HX.out
  subst hxe
  obtain ⟨y0, y1, y2, y3⟩ := vb4 HA2.out
  have f0 := free_blk HA2.out 0; have f1 := free_blk HA2.out 1; have f2 := free_blk HA2.out 2; have f3 := free_blk HA2.out 3
  go_wp2_with fail
  obtain ⟨z0, z1, z2, z3⟩ := vb4 (set4 HA2.out (.int .i64 0) (.int .i64 0) (.string ⟨#[]⟩) (.slice none 0 0))
  refine bodyPost_ret (v := (VT.mk 0 0 ⟨#[]⟩ []).v (.slice none 0 0)) (by simp [results, Tryz.results84, go_sem, VT.v, VT.k, VT.n, VT.t, z0, z1, z2, z3]) rfl (v_end (y := VT.mk 0 0 ⟨#[]⟩ []) h.out HD2.out HA2.out HM2.out (VAt.nil _ _ _ _) rfl (Fresh.refl _ _) ?_)
  have := (mustP_le HE2.out.symm).1
  omega
set_option maxHeartbeats 6400000 in
set_option maxRecDepth 100000 in
theorem v_str {w : World} {r : Nat} {s : ByteArray} {p m : Nat} {tv : Value} {ths : List Th} (h : Rd w r s p m tv ths) (hl : ths.length ≤ p) (hc : nowP s p = 115) (d : Int) :
    Calls Tryz.prog 84 #[.pointer (some ⟨r, 0, none⟩), .int .i64 d] w (VPost w r s tv (strP s p m (ths.map Th.tp))) := by
  obtain ⟨x, hx⟩ : ∃ x, x = strP s p m (ths.map Th.tp) := ⟨_, rfl⟩
  rw [← hx]
  unfold strP at hx
  have HX := Lib.hid hx
  clear hx
  have HB : Below w.heap.size w (w.alloc V0) := (Below.refl _ _).alloc (Nat.le_refl _) _
  have HD0 := Lib.hid (h.under HB)
  have HM0 := Lib.hid (Mod.of_below (F := RF r tv) HB)
  have HA0 : Hid ((w.alloc V0).heap[w.heap.size]? = some V0) := Lib.hid (heap_alloc_new w _)
  obtain ⟨c0, c1, c2, c3⟩ := HD0.out.cells
  have HN := now_any HD0.out
  rw [hc] at HN
  have hpl := h.hp
  have hsz := h.hs
  have h := Lib.hid h
  clear HB hc
  go_enter Tryz.func84, Tryz.ntmps84
  go_wp2_with fail
  refine HN.mono ?_
  rintro e w1 ⟨rfl, hb⟩
  have HD1 := Lib.hid (HD0.out.under hb)
  have HM1 := Lib.hid (HM0.out.trans (Mod.of_below (F := RF r tv) hb))
  have HA1 := Lib.hid ((hb.block _ (lt_of_block HA0.out)).trans HA0.out)
  clear hb HN HD0 HM0 HA0 c0 c1 c2 c3
  obtain ⟨x2, hx2⟩ : ∃ x, x = mustP s [115, 58] p := ⟨_, rfl⟩
  have HU2 := must_lit #[115, 58] (by decide) HD1.out
  rw [show (#[115, 58] : Array UInt8).toList = [115, 58] from rfl, ← hx2] at HU2
  have hX2 := HX.out
  try dsimp only at hX2
  rw [← hx2] at hX2
  have HX := Lib.hid hX2
  have HE2 := Lib.hid hx2
  clear hX2 hx2
  rcases x2 with ⟨c, a⟩ | p2
  · have hxe : x = .error (c, a) := HX.out
    subst hxe
    clear HE2
    go_wp2_with fail
    refine HU2.mono ?_
    rintro e w2 ⟨rfl, hm⟩
    go_wp2_with fail
    exact ⟨rfl, rfl, HM1.out.trans hm⟩
  go_wp2_with fail
  refine HU2.mono ?_
  rintro e w2 ⟨⟨rfl, hd⟩, hm⟩
  have HD2 := Lib.hid hd
  have HM2 := Lib.hid (HM1.out.trans hm)
  have HA2 := Lib.hid (key_kept h.out (Nat.le_refl _) hm HA1.out)
  clear hd hm HU2 HM1 HA1
  obtain ⟨x3, hx3⟩ : ∃ x, x = textP s false p2 := ⟨_, rfl⟩
  have HU3 := text_any false HD2.out
  rw [← hx3] at HU3
  have hX3 := HX.out
  try dsimp only at hX3
  rw [← hx3] at hX3
  have HX := Lib.hid hX3
  have HE3 := Lib.hid hx3
  clear hX3 hx3
  rcases x3 with ⟨c, a⟩ | ⟨t, p3⟩
  · have hxe : x = .error (c, a) := HX.out
    subst hxe
    clear HE3
    go_wp2_with fail
    refine HU3.mono ?_
    rintro e w3 ⟨rfl, hm⟩
    go_wp2_with fail
    exact ⟨rfl, rfl, HM2.out.trans hm⟩
  go_wp2_with fail
  refine HU3.mono ?_
  rintro e w3 ⟨⟨rfl, hd⟩, hm⟩
  have HD3 := Lib.hid hd
  have HM3 := Lib.hid (HM2.out.trans hm)
  have HA3 := Lib.hid (key_kept h.out (Nat.le_refl _) hm HA2.out)
  clear hd hm HU3 HM2 HA2
  obtain ⟨x4, hx4⟩ : ∃ x, x = mustP s [59] p3 := ⟨_, rfl⟩
  have HU4 := must_lit #[59] (by decide) HD3.out
  rw [show (#[59] : Array UInt8).toList = [59] from rfl, ← hx4] at HU4
  have hX4 := HX.out
  try dsimp only at hX4
  rw [← hx4] at hX4
  have HX := Lib.hid hX4
  have HE4 := Lib.hid hx4
  clear hX4 hx4
  rcases x4 with ⟨c, a⟩ | q
  · have hxe : x = .error (c, a) := HX.out
    subst hxe
    clear HE4
    go_wp2_with fail
    refine HU4.mono ?_
    rintro e w4 ⟨rfl, hm⟩
    go_wp2_with fail
    exact ⟨rfl, rfl, HM3.out.trans hm⟩
  go_wp2_with fail
  refine HU4.mono ?_
  rintro e w4 ⟨⟨rfl, hd⟩, hm⟩
  have HD4 := Lib.hid hd
  have HM4 := Lib.hid (HM3.out.trans hm)
  have HA4 := Lib.hid (key_kept h.out (Nat.le_refl _) hm HA3.out)
  clear hd hm HU4 HM3 HA3
  have hxe : x = .ok (.mk 3 0 t [], q, m, ths.map Th.tp) := HX.out
  subst hxe
  obtain ⟨y0, y1, y2, y3⟩ := vb4 HA4.out
  have f0 := free_blk HA4.out 0; have f1 := free_blk HA4.out 1; have f2 := free_blk HA4.out 2; have f3 := free_blk HA4.out 3
  go_wp2_with fail
  obtain ⟨z0, z1, z2, z3⟩ := vb4 (set4 HA4.out (.int .i64 3) (.int .i64 0) (.string t) (.slice none 0 0))
  refine bodyPost_ret (v := (VT.mk 3 0 t []).v (.slice none 0 0)) (by simp [results, Tryz.results84, go_sem, VT.v, VT.k, VT.n, VT.t, z0, z1, z2, z3]) rfl (v_end (y := VT.mk 3 0 t []) h.out HD4.out HA4.out HM4.out (VAt.nil _ _ _ _) rfl (Fresh.refl _ _) ?_)
  have h1 := (mustP_le HE2.out.symm).1
  have h2 := textP_at HE3.out.symm
  have h3 := (mustP_le HE4.out.symm).1
  omega
set_option maxHeartbeats 6400000 in
set_option maxRecDepth 100000 in
theorem v_int {w : World} {r : Nat} {s : ByteArray} {p m : Nat} {tv : Value} {ths : List Th} (h : Rd w r s p m tv ths) (hl : ths.length ≤ p) (hc : nowP s p = 105) (d : Int) :
    Calls Tryz.prog 84 #[.pointer (some ⟨r, 0, none⟩), .int .i64 d] w (VPost w r s tv (intP s p m (ths.map Th.tp))) := by
  obtain ⟨x, hx⟩ : ∃ x, x = intP s p m (ths.map Th.tp) := ⟨_, rfl⟩
  rw [← hx]
  unfold intP at hx
  have HX := Lib.hid hx
  clear hx
  have HB : Below w.heap.size w (w.alloc V0) := (Below.refl _ _).alloc (Nat.le_refl _) _
  have HD0 := Lib.hid (h.under HB)
  have HM0 := Lib.hid (Mod.of_below (F := RF r tv) HB)
  have HA0 : Hid ((w.alloc V0).heap[w.heap.size]? = some V0) := Lib.hid (heap_alloc_new w _)
  obtain ⟨c0, c1, c2, c3⟩ := HD0.out.cells
  have HN := now_any HD0.out
  rw [hc] at HN
  have hpl := h.hp
  have hsz := h.hs
  have h := Lib.hid h
  clear HB hc
  go_enter Tryz.func84, Tryz.ntmps84
  go_wp2_with fail
  refine HN.mono ?_
  rintro e w1 ⟨rfl, hb⟩
  have HD1 := Lib.hid (HD0.out.under hb)
  have HM1 := Lib.hid (HM0.out.trans (Mod.of_below (F := RF r tv) hb))
  have HA1 := Lib.hid ((hb.block _ (lt_of_block HA0.out)).trans HA0.out)
  clear hb HN HD0 HM0 HA0 c0 c1 c2 c3
  obtain ⟨x2, hx2⟩ : ∃ x, x = mustP s [105, 58] p := ⟨_, rfl⟩
  have HU2 := must_lit #[105, 58] (by decide) HD1.out
  rw [show (#[105, 58] : Array UInt8).toList = [105, 58] from rfl, ← hx2] at HU2
  have hX2 := HX.out
  try dsimp only at hX2
  rw [← hx2] at hX2
  have HX := Lib.hid hX2
  have HE2 := Lib.hid hx2
  clear hX2 hx2
  rcases x2 with ⟨c, a⟩ | p2
  · have hxe : x = .error (c, a) := HX.out
    subst hxe
    clear HE2
    go_wp2_with fail
    refine HU2.mono ?_
    rintro e w2 ⟨rfl, hm⟩
    go_wp2_with fail
    exact ⟨rfl, rfl, HM1.out.trans hm⟩
  go_wp2_with fail
  refine HU2.mono ?_
  rintro e w2 ⟨⟨rfl, hd⟩, hm⟩
  have HD2 := Lib.hid hd
  have HM2 := Lib.hid (HM1.out.trans hm)
  have HA2 := Lib.hid (key_kept h.out (Nat.le_refl _) hm HA1.out)
  clear hd hm HU2 HM1 HA1
  obtain ⟨x3, hx3⟩ : ∃ x, x = numberP s true 0 p2 := ⟨_, rfl⟩
  have HU3 := number_any true 0 HD2.out
  rw [← hx3] at HU3
  have hX3 := HX.out
  try dsimp only at hX3
  rw [← hx3] at hX3
  have HX := Lib.hid hX3
  have HE3 := Lib.hid hx3
  clear hX3 hx3
  rcases x3 with ⟨c, a⟩ | ⟨n, p3⟩
  · have hxe : x = .error (c, a) := HX.out
    subst hxe
    clear HE3
    go_wp2_with fail
    refine HU3.mono ?_
    rintro e w3 ⟨rfl, hm⟩
    go_wp2_with fail
    exact ⟨rfl, rfl, HM2.out.trans hm⟩
  go_wp2_with fail
  refine HU3.mono ?_
  rintro e w3 ⟨⟨rfl, hd⟩, hm⟩
  have HD3 := Lib.hid hd
  have HM3 := Lib.hid (HM2.out.trans hm)
  have HA3 := Lib.hid (key_kept h.out (Nat.le_refl _) hm HA2.out)
  clear hd hm HU3 HM2 HA2
  have HB4 := below_alloc1 w3 (.cells #[.int .i64 2, .int .i64 n, .string ⟨#[]⟩, .slice none 0 0] 24)
  have HD4 := Lib.hid (HD3.out.under HB4)
  have HM4 := Lib.hid (HM3.out.trans (Mod.of_below (F := RF r tv) HB4))
  have HA4 := Lib.hid (alloc_blk HA3.out (.cells #[.int .i64 2, .int .i64 n, .string ⟨#[]⟩, .slice none 0 0] 24))
  have HV4 : Hid ((World.alloc w3 (.cells #[.int .i64 2, .int .i64 n, .string ⟨#[]⟩, .slice none 0 0] 24)).heap[w3.heap.size]? = some (.cells #[.int .i64 2, .int .i64 n, .string ⟨#[]⟩, .slice none 0 0] 24 (0, 0))) := Lib.hid (heap_alloc_new _ _)
  have HLT : Hid (w.heap.size < w3.heap.size) := Lib.hid (lt_of_block HA3.out)
  clear HB4 HM3 HA3
  obtain ⟨x5, hx5⟩ : ∃ x, x = mustP s [59] p3 := ⟨_, rfl⟩
  have HU5 := must_lit #[59] (by decide) HD4.out
  rw [show (#[59] : Array UInt8).toList = [59] from rfl, ← hx5] at HU5
  have hX5 := HX.out
  try dsimp only at hX5
  rw [← hx5] at hX5
  have HX := Lib.hid hX5
  have HE5 := Lib.hid hx5
  clear hX5 hx5
  rcases x5 with ⟨c, a⟩ | q
  · have hxe : x = .error (c, a) := HX.out
    subst hxe
    clear HE5
    go_wp2_with fail
    refine HU5.mono ?_
    rintro e w5 ⟨rfl, hm⟩
    go_wp2_with fail
    exact ⟨rfl, rfl, HM4.out.trans hm⟩
  go_wp2_with fail
  refine HU5.mono ?_
  rintro e w5 ⟨⟨rfl, hd⟩, hm⟩
  have HD5 := Lib.hid hd
  have HM5 := Lib.hid (HM4.out.trans hm)
  have HA5 := Lib.hid (key_kept h.out (Nat.le_refl _) hm HA4.out)
  have HV5 := Lib.hid (cell_kept HD4.out hm HV4.out (by decide) (by decide))
  clear hd hm HU5 HM4 HA4
  have hxe : x = .ok (.mk 2 n ⟨#[]⟩ [], q, m, ths.map Th.tp) := HX.out
  subst hxe
  obtain ⟨b0, b1, b2, b3⟩ := vb4 HV5.out
  obtain ⟨y0, y1, y2, y3⟩ := vb4 HA5.out
  have f0 := free_blk HA5.out 0; have f1 := free_blk HA5.out 1; have f2 := free_blk HA5.out 2; have f3 := free_blk HA5.out 3
  go_wp2_with fail
  obtain ⟨z0, z1, z2, z3⟩ := vb4 (set4 HA5.out (.int .i64 2) (.int .i64 n) (.string ⟨#[]⟩) (.slice none 0 0))
  refine bodyPost_ret (v := (VT.mk 2 n ⟨#[]⟩ []).v (.slice none 0 0)) (by simp [results, Tryz.results84, go_sem, VT.v, VT.k, VT.n, VT.t, z0, z1, z2, z3]) rfl (v_end (y := VT.mk 2 n ⟨#[]⟩ []) h.out HD5.out HA5.out HM5.out (VAt.nil _ _ _ _) rfl (Fresh.refl _ _) ?_)
  have h1 := (mustP_le HE2.out.symm).1
  have h2 := numberP_at HE3.out.symm
  have h3 := (mustP_le HE5.out.symm).1
  omega
set_option maxHeartbeats 6400000 in
set_option maxRecDepth 100000 in
theorem v_bool {w : World} {r : Nat} {s : ByteArray} {p m : Nat} {tv : Value} {ths : List Th} (h : Rd w r s p m tv ths) (hl : ths.length ≤ p) (hc : nowP s p = 98) (d : Int) :
    Calls Tryz.prog 84 #[.pointer (some ⟨r, 0, none⟩), .int .i64 d] w (VPost w r s tv (boolP s p m (ths.map Th.tp))) := by
  obtain ⟨x, hx⟩ : ∃ x, x = boolP s p m (ths.map Th.tp) := ⟨_, rfl⟩
  rw [← hx]
  unfold boolP at hx
  have HX := Lib.hid hx
  clear hx
  have HB : Below w.heap.size w (w.alloc V0) := (Below.refl _ _).alloc (Nat.le_refl _) _
  have HD0 := Lib.hid (h.under HB)
  have HM0 := Lib.hid (Mod.of_below (F := RF r tv) HB)
  have HA0 : Hid ((w.alloc V0).heap[w.heap.size]? = some V0) := Lib.hid (heap_alloc_new w _)
  obtain ⟨c0, c1, c2, c3⟩ := HD0.out.cells
  have HN := now_any HD0.out
  rw [hc] at HN
  have hpl := h.hp
  have hsz := h.hs
  have h := Lib.hid h
  clear HB hc
  go_enter Tryz.func84, Tryz.ntmps84
  go_wp2_with fail
  refine HN.mono ?_
  rintro e w1 ⟨rfl, hb⟩
  have HD1 := Lib.hid (HD0.out.under hb)
  have HM1 := Lib.hid (HM0.out.trans (Mod.of_below (F := RF r tv) hb))
  have HA1 := Lib.hid ((hb.block _ (lt_of_block HA0.out)).trans HA0.out)
  clear hb HN HD0 HM0 HA0 c0 c1 c2 c3
  obtain ⟨x2, hx2⟩ : ∃ x, x = mustP s [98, 58] p := ⟨_, rfl⟩
  have HU2 := must_lit #[98, 58] (by decide) HD1.out
  rw [show (#[98, 58] : Array UInt8).toList = [98, 58] from rfl, ← hx2] at HU2
  have hX2 := HX.out
  try dsimp only at hX2
  rw [← hx2] at hX2
  have HX := Lib.hid hX2
  have HE2 := Lib.hid hx2
  clear hX2 hx2
  rcases x2 with ⟨c, a⟩ | p2
  · have hxe : x = .error (c, a) := HX.out
    subst hxe
    clear HE2
    go_wp2_with fail
    refine HU2.mono ?_
    rintro e w2 ⟨rfl, hm⟩
    go_wp2_with fail
    exact ⟨rfl, rfl, HM1.out.trans hm⟩
  go_wp2_with fail
  refine HU2.mono ?_
  rintro e w2 ⟨⟨rfl, hd⟩, hm⟩
  have HD2 := Lib.hid hd
  have HM2 := Lib.hid (HM1.out.trans hm)
  have HA2 := Lib.hid (key_kept h.out (Nat.le_refl _) hm HA1.out)
  clear hd hm HU2 HM1 HA1
  have HB3 := below_alloc1 w2 (.cells #[.int .i64 1, .int .i64 0, .string ⟨#[]⟩, .slice none 0 0] 24)
  have HD3 := Lib.hid (HD2.out.under HB3)
  have HM3 := Lib.hid (HM2.out.trans (Mod.of_below (F := RF r tv) HB3))
  have HA3 := Lib.hid (alloc_blk HA2.out (.cells #[.int .i64 1, .int .i64 0, .string ⟨#[]⟩, .slice none 0 0] 24))
  have HV3 : Hid ((World.alloc w2 (.cells #[.int .i64 1, .int .i64 0, .string ⟨#[]⟩, .slice none 0 0] 24)).heap[w2.heap.size]? = some (.cells #[.int .i64 1, .int .i64 0, .string ⟨#[]⟩, .slice none 0 0] 24 (0, 0))) := Lib.hid (heap_alloc_new _ _)
  have HLT : Hid (w.heap.size < w2.heap.size) := Lib.hid (lt_of_block HA2.out)
  clear HB3 HM2 HA2
  have HN2 := now_any HD3.out
  have hX := HX.out
  try dsimp only at hX
  by_cases h49 : nowP s p2 = 49
  · rw [if_pos h49] at hX
    have HX := Lib.hid hX
    rw [h49] at HN2
    clear hX h49
    go_wp2_with fail
    refine HN2.mono ?_
    rintro _ w4 ⟨rfl, hb⟩
    have HD4 := Lib.hid (HD3.out.under hb)
    have HM4 := Lib.hid (HM3.out.trans (Mod.of_below (F := RF r tv) hb))
    have HA4 := Lib.hid ((hb.block _ (lt_of_block HA3.out)).trans HA3.out)
    have HV4 := Lib.hid ((hb.block _ (lt_of_block HV3.out)).trans HV3.out)
    have hm5 : Mod (fun k => k = w2.heap.size) w4 (w4.setCell ⟨w2.heap.size, 1, none⟩ (.int .i64 1)) := (Mod.refl _ _).setCell _ _ (fun _ => rfl)
    have HD5 := Lib.hid (HD4.out.store (B := w2.heap.size) (by have := lt_of_block HD2.out.blk; omega) (fun e => by have := HD2.out.own.lt e; omega) (blk_no64 HV4.out (by decide)) (by have := HD2.out.tab.lt; omega) hm5)
    have HM5 := Lib.hid (mod_new (B := w2.heap.size) (by have := HLT.out; omega) HM4.out hm5)
    have HA5 := Lib.hid ((hm5.block w.heap.size (lt_of_block HA4.out) (fun e => by have := HLT.out; omega)).trans HA4.out)
    have HV5 : Hid ((w4.setCell ⟨w2.heap.size, 1, none⟩ (.int .i64 1)).heap[w2.heap.size]? = some (.cells #[.int .i64 1, .int .i64 1, .string ⟨#[]⟩, .slice none 0 0] 24 (0, 0))) := Lib.hid (by have := set_blk HV4.out 1 (.int .i64 1); simpa using this)
    have fv := free_blk HV4.out 1
    have q1 := cell_blk HV4.out 1
    clear hb HN2 HM3 HA3 hm5
    obtain ⟨x6, hx6⟩ : ∃ x, x = mustP s [49, 59] p2 := ⟨_, rfl⟩
    have HU6 := must_lit #[49, 59] (by decide) HD5.out
    rw [show (#[49, 59] : Array UInt8).toList = [49, 59] from rfl, ← hx6] at HU6
    have hX6 := HX.out
    try dsimp only at hX6
    rw [← hx6] at hX6
    have HX := Lib.hid hX6
    have HE6 := Lib.hid hx6
    clear hX6 hx6
    rcases x6 with ⟨c, a⟩ | q
    · have hxe : x = .error (c, a) := HX.out
      subst hxe
      clear HE6
      go_wp2_with fail
      refine HU6.mono ?_
      rintro e w6 ⟨rfl, hm⟩
      go_wp2_with fail
      exact ⟨rfl, rfl, HM5.out.trans hm⟩
    go_wp2_with fail
    refine HU6.mono ?_
    rintro e w6 ⟨⟨rfl, hd⟩, hm⟩
    have HD6 := Lib.hid hd
    have HM6 := Lib.hid (HM5.out.trans hm)
    have HA6 := Lib.hid (key_kept h.out (Nat.le_refl _) hm HA5.out)
    have HV6 := Lib.hid (cell_kept HD5.out hm HV5.out (by decide) (by decide))
    clear hd hm HU6 HM5 HA5
    have hxe : x = .ok (.mk 1 1 ⟨#[]⟩ [], q, m, ths.map Th.tp) := HX.out
    subst hxe
    obtain ⟨b0, b1, b2, b3⟩ := vb4 HV6.out
    obtain ⟨y0, y1, y2, y3⟩ := vb4 HA6.out
    have f0 := free_blk HA6.out 0; have f1 := free_blk HA6.out 1; have f2 := free_blk HA6.out 2; have f3 := free_blk HA6.out 3
    go_wp2_with fail
    obtain ⟨z0, z1, z2, z3⟩ := vb4 (set4 HA6.out (.int .i64 1) (.int .i64 1) (.string ⟨#[]⟩) (.slice none 0 0))
    refine bodyPost_ret (v := (VT.mk 1 1 ⟨#[]⟩ []).v (.slice none 0 0)) (by simp [results, Tryz.results84, go_sem, VT.v, VT.k, VT.n, VT.t, z0, z1, z2, z3]) rfl (v_end (y := VT.mk 1 1 ⟨#[]⟩ []) h.out HD6.out HA6.out HM6.out (VAt.nil _ _ _ _) rfl (Fresh.refl _ _) ?_)
    have h1 := (mustP_le HE2.out.symm).1
    have h3 := (mustP_le HE6.out.symm).1
    omega
  · rw [if_neg h49] at hX
    have HX := Lib.hid hX
    have hneq : (((nowP s p2).toNat : Int) == 49) = false := by
      rw [beq_eq_false_iff_ne]
      intro e
      exact h49 (UInt8.toNat_inj.1 (by simpa using (by omega : (nowP s p2).toNat = 49)))
    clear hX h49
    go_wp2_with fail
    refine HN2.mono ?_
    rintro _ w4 ⟨rfl, hb⟩
    have HD4 := Lib.hid (HD3.out.under hb)
    have HM4 := Lib.hid (HM3.out.trans (Mod.of_below (F := RF r tv) hb))
    have HA4 := Lib.hid ((hb.block _ (lt_of_block HA3.out)).trans HA3.out)
    have HV4 := Lib.hid ((hb.block _ (lt_of_block HV3.out)).trans HV3.out)
    clear hb HN2 HM3 HA3
    obtain ⟨x6, hx6⟩ : ∃ x, x = mustP s [48, 59] p2 := ⟨_, rfl⟩
    have HU6 := must_lit #[48, 59] (by decide) HD4.out
    rw [show (#[48, 59] : Array UInt8).toList = [48, 59] from rfl, ← hx6] at HU6
    have hX6 := HX.out
    try dsimp only at hX6
    rw [← hx6] at hX6
    have HX := Lib.hid hX6
    have HE6 := Lib.hid hx6
    clear hX6 hx6
    rcases x6 with ⟨c, a⟩ | q
    · have hxe : x = .error (c, a) := HX.out
      subst hxe
      clear HE6
      go_wp2_with fail
      refine HU6.mono ?_
      rintro e w6 ⟨rfl, hm⟩
      go_wp2_with fail
      exact ⟨rfl, rfl, HM4.out.trans hm⟩
    go_wp2_with fail
    refine HU6.mono ?_
    rintro e w6 ⟨⟨rfl, hd⟩, hm⟩
    have HD6 := Lib.hid hd
    have HM6 := Lib.hid (HM4.out.trans hm)
    have HA6 := Lib.hid (key_kept h.out (Nat.le_refl _) hm HA4.out)
    have HV6 := Lib.hid (cell_kept HD4.out hm HV4.out (by decide) (by decide))
    clear hd hm HU6 HM4 HA4
    have hxe : x = .ok (.mk 1 0 ⟨#[]⟩ [], q, m, ths.map Th.tp) := HX.out
    subst hxe
    obtain ⟨b0, b1, b2, b3⟩ := vb4 HV6.out
    obtain ⟨y0, y1, y2, y3⟩ := vb4 HA6.out
    have f0 := free_blk HA6.out 0; have f1 := free_blk HA6.out 1; have f2 := free_blk HA6.out 2; have f3 := free_blk HA6.out 3
    go_wp2_with fail
    obtain ⟨z0, z1, z2, z3⟩ := vb4 (set4 HA6.out (.int .i64 1) (.int .i64 0) (.string ⟨#[]⟩) (.slice none 0 0))
    refine bodyPost_ret (v := (VT.mk 1 0 ⟨#[]⟩ []).v (.slice none 0 0)) (by simp [results, Tryz.results84, go_sem, VT.v, VT.k, VT.n, VT.t, z0, z1, z2, z3]) rfl (v_end (y := VT.mk 1 0 ⟨#[]⟩ []) h.out HD6.out HA6.out HM6.out (VAt.nil _ _ _ _) rfl (Fresh.refl _ _) ?_)
    have h1 := (mustP_le HE2.out.symm).1
    have h3 := (mustP_le HE6.out.symm).1
    omega
set_option maxHeartbeats 6400000 in
set_option maxRecDepth 100000 in
theorem v_ref {w : World} {r : Nat} {s : ByteArray} {p m : Nat} {tv : Value} {ths : List Th} (h : Rd w r s p m tv ths) (hl : ths.length ≤ p) (hc : nowP s p = 114) (d : Int) :
    Calls Tryz.prog 84 #[.pointer (some ⟨r, 0, none⟩), .int .i64 d] w (VPost w r s tv (refP s p m (ths.map Th.tp))) := by
  obtain ⟨ao, cap, hv, -⟩ := h.own.any
  rw [List.length_map] at hv
  subst hv
  obtain ⟨x, hx⟩ : ∃ x, x = refP s p m (ths.map Th.tp) := ⟨_, rfl⟩
  rw [← hx]
  unfold refP at hx
  have HX := Lib.hid hx
  clear hx
  have HB : Below w.heap.size w (w.alloc V0) := (Below.refl _ _).alloc (Nat.le_refl _) _
  have HD0 := Lib.hid (h.under HB)
  have HM0 := Lib.hid (Mod.of_below (F := RF r (.slice ao ths.length cap)) HB)
  have HA0 : Hid ((w.alloc V0).heap[w.heap.size]? = some V0) := Lib.hid (heap_alloc_new w _)
  obtain ⟨c0, c1, c2, c3⟩ := HD0.out.cells
  have HN := now_any HD0.out
  rw [hc] at HN
  have hpl := h.hp
  have hsz := h.hs
  have h := Lib.hid h
  clear HB hc
  go_enter Tryz.func84, Tryz.ntmps84
  go_wp2_with fail
  refine HN.mono ?_
  rintro e w1 ⟨rfl, hb⟩
  have HD1 := Lib.hid (HD0.out.under hb)
  have HM1 := Lib.hid (HM0.out.trans (Mod.of_below (F := RF r (.slice ao ths.length cap)) hb))
  have HA1 := Lib.hid ((hb.block _ (lt_of_block HA0.out)).trans HA0.out)
  clear hb HN HD0 HM0 HA0 c0 c1 c2 c3
  obtain ⟨x2, hx2⟩ : ∃ x, x = mustP s [114, 58] p := ⟨_, rfl⟩
  have HU2 := must_lit #[114, 58] (by decide) HD1.out
  rw [show (#[114, 58] : Array UInt8).toList = [114, 58] from rfl, ← hx2] at HU2
  have hX2 := HX.out
  try dsimp only at hX2
  rw [← hx2] at hX2
  have HX := Lib.hid hX2
  have HE2 := Lib.hid hx2
  clear hX2 hx2
  rcases x2 with ⟨c, a⟩ | p2
  · have hxe : x = .error (c, a) := HX.out
    subst hxe
    clear HE2
    go_wp2_with fail
    refine HU2.mono ?_
    rintro e w2 ⟨rfl, hm⟩
    go_wp2_with fail
    exact ⟨rfl, rfl, HM1.out.trans hm⟩
  go_wp2_with fail
  refine HU2.mono ?_
  rintro e w2 ⟨⟨rfl, hd⟩, hm⟩
  have HD2 := Lib.hid hd
  have HM2 := Lib.hid (HM1.out.trans hm)
  have HA2 := Lib.hid (key_kept h.out (Nat.le_refl _) hm HA1.out)
  clear hd hm HU2 HM1 HA1
  obtain ⟨c0, c1, c2, c3⟩ := HD2.out.cells
  obtain ⟨x3, hx3⟩ : ∃ x, x = numberP s false 65536 p2 := ⟨_, rfl⟩
  have HU3 := number_any false 65536 HD2.out
  rw [← hx3] at HU3
  have hX3 := HX.out
  try dsimp only at hX3
  rw [← hx3] at hX3
  have HX := Lib.hid hX3
  have HE3 := Lib.hid hx3
  clear hX3 hx3
  rcases x3 with ⟨c, a⟩ | ⟨n, p3⟩
  · have hxe : x = .error (c, a) := HX.out
    subst hxe
    clear HE3
    go_wp2_with fail
    refine HU3.mono ?_
    rintro e w3 ⟨rfl, hm⟩
    go_wp2_with fail
    exact ⟨rfl, rfl, HM2.out.trans hm⟩
  go_wp2_with fail
  refine HU3.mono ?_
  rintro e w3 ⟨⟨rfl, hd⟩, hm⟩
  have HD3 := Lib.hid hd
  have HM3 := Lib.hid (HM2.out.trans hm)
  have HA3 := Lib.hid (key_kept h.out (Nat.le_refl _) hm HA2.out)
  clear hd hm HU3 HM2 HA2
  clear c0 c1 c2 c3
  obtain ⟨hn0, hn1⟩ := numberP_lim HE3.out.symm
  obtain ⟨c0, c1, c2, c3⟩ := HD3.out.cells
  have hX := HX.out
  try dsimp only at hX
  rw [List.length_map] at hX
  by_cases hn2 : n < 1
  · have hg : decide (n < 1) = true := decide_eq_true hn2
    have hxe : x = .error (6, p2) := hX.trans (if_pos (.inl hn2))
    subst hxe
    clear hX HX hn2
    go_wp2_with fail
    refine (fail_any 6 p2 _).mono ?_
    rintro _ w9 ⟨rfl, rfl⟩
    go_wp2_with fail
    exact ⟨rfl, rfl, HM3.out⟩
  have hg : decide (n < 1) = false := decide_eq_false hn2
  by_cases hn3 : (ths.length : Int) < n
  · have hg2 : decide ((ths.length : Int) < n) = true := decide_eq_true hn3
    have hxe : x = .error (6, p2) := hX.trans (if_pos (.inr hn3))
    subst hxe
    clear hX HX hn2 hn3
    go_wp2_with fail
    refine (fail_any 6 p2 _).mono ?_
    rintro _ w9 ⟨rfl, rfl⟩
    go_wp2_with fail
    exact ⟨rfl, rfl, HM3.out⟩
  have hg2 : decide ((ths.length : Int) < n) = false := decide_eq_false hn3
  rw [if_neg (fun e => e.elim hn2 hn3)] at hX
  replace HX := Lib.hid hX
  clear hX hn2 hn3
  obtain ⟨x4, hx4⟩ : ∃ x, x = mustP s [59] p3 := ⟨_, rfl⟩
  have HU4 := must_lit #[59] (by decide) HD3.out
  rw [show (#[59] : Array UInt8).toList = [59] from rfl, ← hx4] at HU4
  have hX4 := HX.out
  try dsimp only at hX4
  rw [← hx4] at hX4
  have HX := Lib.hid hX4
  have HE4 := Lib.hid hx4
  clear hX4 hx4
  rcases x4 with ⟨c, a⟩ | q
  · have hxe : x = .error (c, a) := HX.out
    subst hxe
    clear HE4
    go_wp2_with fail
    refine HU4.mono ?_
    rintro e w4 ⟨rfl, hm⟩
    go_wp2_with fail
    exact ⟨rfl, rfl, HM3.out.trans hm⟩
  go_wp2_with fail
  refine HU4.mono ?_
  rintro e w4 ⟨⟨rfl, hd⟩, hm⟩
  have HD4 := Lib.hid hd
  have HM4 := Lib.hid (HM3.out.trans hm)
  have HA4 := Lib.hid (key_kept h.out (Nat.le_refl _) hm HA3.out)
  clear hd hm HU4 HM3 HA3
  have hxe : x = .ok (.mk 5 n ⟨#[]⟩ [], q, m, ths.map Th.tp) := HX.out
  subst hxe
  obtain ⟨y0, y1, y2, y3⟩ := vb4 HA4.out
  have f0 := free_blk HA4.out 0; have f1 := free_blk HA4.out 1; have f2 := free_blk HA4.out 2; have f3 := free_blk HA4.out 3
  go_wp2_with fail
  obtain ⟨z0, z1, z2, z3⟩ := vb4 (set4 HA4.out (.int .i64 5) (.int .i64 n) (.string ⟨#[]⟩) (.slice none 0 0))
  refine bodyPost_ret (v := (VT.mk 5 n ⟨#[]⟩ []).v (.slice none 0 0)) (by simp [results, Tryz.results84, go_sem, VT.v, VT.k, VT.n, VT.t, z0, z1, z2, z3]) rfl (v_end (y := VT.mk 5 n ⟨#[]⟩ []) h.out HD4.out HA4.out HM4.out (VAt.nil _ _ _ _) rfl (Fresh.refl _ _) ?_)
  have h1 := (mustP_le HE2.out.symm).1
  have h2 := numberP_at HE3.out.symm
  have h3 := (mustP_le HE4.out.symm).1
  omega
end Go.Proofs.YtnaefnojmiolbaaGreatDoor
