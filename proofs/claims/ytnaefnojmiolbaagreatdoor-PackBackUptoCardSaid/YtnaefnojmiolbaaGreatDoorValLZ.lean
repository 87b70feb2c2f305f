/-
  The walk of a reader's value: lists, objects, and all.
-/
import Derived.Test.YtnaefnojmiolbaaGreatDoorValRZ
namespace Go.Proofs.YtnaefnojmiolbaaGreatDoor
open Go.RowKit

attribute [local go_sem] yld_undef
set_option maxHeartbeats 6400000 in
set_option maxRecDepth 100000 in
theorem v_deepA {w : World} {r : Nat} {s : ByteArray} {p m : Nat} {tv : Value} {ths : List Th} (h : Rd w r s p m tv ths) (hc : nowP s p = 97) (d : Int) (hd : 64 ≤ d) :
    Calls Tryz.prog 84 #[.pointer (some ⟨r, 0, none⟩), .int .i64 d] w (VPost w r s tv (.error (4, p))) := by
  have HB : Below w.heap.size w (w.alloc V0) := (Below.refl _ _).alloc (Nat.le_refl _) _
  have HD0 := Lib.hid (h.under HB)
  have HM0 := Lib.hid (Mod.of_below (F := RF r tv) HB)
  have HA0 : Hid ((w.alloc V0).heap[w.heap.size]? = some V0) := Lib.hid (heap_alloc_new w _)
  obtain ⟨c0, c1, c2, c3⟩ := HD0.out.cells
  have HN := now_any HD0.out
  rw [hc] at HN
  have hpl := h.hp
  have hsz := h.hs
  have h := Lib.hid h
  clear HB hc
  have hdd : decide (64 ≤ d) = true := decide_eq_true hd
  go_enter Tryz.func84, Tryz.ntmps84
  go_wp2_with fail
  refine HN.mono ?_
  rintro e w1 ⟨rfl, hb⟩
  have HM1 := Lib.hid (HM0.out.trans (Mod.of_below (F := RF r tv) hb))
  clear hb HN HM0 hd
  go_wp2_with fail
  refine (fail_any 4 p _).mono ?_
  rintro _ w9 ⟨rfl, rfl⟩
  go_wp2_with fail
  exact ⟨rfl, rfl, HM1.out⟩
set_option maxHeartbeats 6400000 in
set_option maxRecDepth 100000 in
theorem v_deepO {w : World} {r : Nat} {s : ByteArray} {p m : Nat} {tv : Value} {ths : List Th} (h : Rd w r s p m tv ths) (hc : nowP s p = 79) (d : Int) (hd : 64 ≤ d) :
    Calls Tryz.prog 84 #[.pointer (some ⟨r, 0, none⟩), .int .i64 d] w (VPost w r s tv (.error (4, p))) := by
  have HB : Below w.heap.size w (w.alloc V0) := (Below.refl _ _).alloc (Nat.le_refl _) _
  have HD0 := Lib.hid (h.under HB)
  have HM0 := Lib.hid (Mod.of_below (F := RF r tv) HB)
  have HA0 : Hid ((w.alloc V0).heap[w.heap.size]? = some V0) := Lib.hid (heap_alloc_new w _)
  obtain ⟨c0, c1, c2, c3⟩ := HD0.out.cells
  have HN := now_any HD0.out
  rw [hc] at HN
  have hpl := h.hp
  have hsz := h.hs
  have h := Lib.hid h
  clear HB hc
  have hdd : decide (64 ≤ d) = true := decide_eq_true hd
  go_enter Tryz.func84, Tryz.ntmps84
  go_wp2_with fail
  refine HN.mono ?_
  rintro e w1 ⟨rfl, hb⟩
  have HM1 := Lib.hid (HM0.out.trans (Mod.of_below (F := RF r tv) hb))
  clear hb HN HM0 hd
  go_wp2_with fail
  refine (fail_any 4 p _).mono ?_
  rintro _ w9 ⟨rfl, rfl⟩
  go_wp2_with fail
  exact ⟨rfl, rfl, HM1.out⟩
set_option maxHeartbeats 6400000 in
set_option maxRecDepth 100000 in
theorem v_list (d : Int) (hd0 : 0 ≤ d) (hd1 : d < 64) (val : ValF) {r : Nat} {s : ByteArray}
    (HV : ∀ {W : World} {p m : Nat} {tv : Value} {ths : List Th}, Rd W r s p m tv ths → ths.length ≤ p → Calls Tryz.prog 84 #[.pointer (some ⟨r, 0, none⟩), .int .i64 (d + 1)] W (VPost W r s tv (val p m (ths.map Th.tp))))
    {w : World} {p m : Nat} {tv : Value} {ths : List Th} (h : Rd w r s p m tv ths) (hl : ths.length ≤ p) (hc : nowP s p = 97) :
    Calls Tryz.prog 84 #[.pointer (some ⟨r, 0, none⟩), .int .i64 d] w (VPost w r s tv (listP s val p m (ths.map Th.tp))) := by
  have HI : ∀ {W : World} {p m : Nat} {tv : Value} {ths : List Th}, Rd W r s p m tv ths → ths.length ≤ p → Calls Tryz.prog 119 #[.pointer (some ⟨r, 0, none⟩), .bool false, .int .i64 d] W (LPost W r s tv (bracesP s false val p m (ths.map Th.tp))) :=
    fun h hl => itemsR_any false d hd0 (by omega) val HV h hl
  have HII := @Lib.hid _ @HI
  have hc' := Lib.hid hc
  clear HV HI
  have hdd : decide (64 ≤ d) = false := decide_eq_false (by omega)
  obtain ⟨x, hx⟩ : ∃ x, x = listP s val p m (ths.map Th.tp) := ⟨_, rfl⟩
  rw [← hx]
  unfold listP at hx
  have HX := Lib.hid hx
  clear hx
  have HB : Below w.heap.size w (w.alloc V0) := (Below.refl _ _).alloc (Nat.le_refl _) _
  have HD0 := Lib.hid (h.under HB)
  have HM0 := Lib.hid (Mod.of_below (F := RF r tv) HB)
  have HA0 : Hid ((w.alloc V0).heap[w.heap.size]? = some V0) := Lib.hid (heap_alloc_new w _)
  obtain ⟨c0, c1, c2, c3⟩ := HD0.out.cells
  have HN := now_any HD0.out
  rw [hc] at HN
  have hpl := h.hp
  have hsz := h.hs
  have h := Lib.hid h
  clear HB hc
  go_enter Tryz.func84, Tryz.ntmps84
  go_wp2_with fail
  refine HN.mono ?_
  rintro e w1 ⟨rfl, hb⟩
  have HD1 := Lib.hid (HD0.out.under hb)
  have HM1 := Lib.hid (HM0.out.trans (Mod.of_below (F := RF r tv) hb))
  have HA1 := Lib.hid ((hb.block _ (lt_of_block HA0.out)).trans HA0.out)
  have HN2 := now_any HD1.out
  rw [hc'.out] at HN2
  clear hb HN HD0 HM0 HA0 c0 c1 c2 c3
  go_wp2_with fail
  refine HN2.mono ?_
  rintro e wn ⟨rfl, hb⟩
  replace HD1 := Lib.hid (HD1.out.under hb)
  replace HM1 := Lib.hid (HM1.out.trans (Mod.of_below (F := RF r tv) hb))
  replace HA1 := Lib.hid ((hb.block _ (lt_of_block HA1.out)).trans HA1.out)
  clear hb HN2
  obtain ⟨x2, hx2⟩ : ∃ x, x = mustP s [97, 58] p := ⟨_, rfl⟩
  have HU2 := must_lit #[97, 58] (by decide) HD1.out
  rw [show (#[97, 58] : Array UInt8).toList = [97, 58] from rfl, ← hx2] at HU2
  have hX2 := HX.out
  try dsimp only at hX2
  rw [← hx2] at hX2
  have HX := Lib.hid hX2
  have HE2 := Lib.hid hx2
  clear hX2 hx2
  rcases x2 with ⟨c, a⟩ | p2
  · have hxe : x = .error (c, a) := HX.out
    subst hxe
    clear HE2
    go_wp2_with fail
    refine HU2.mono ?_
    rintro e w2 ⟨rfl, hm⟩
    go_wp2_with fail
    exact ⟨rfl, rfl, HM1.out.trans hm⟩
  go_wp2_with fail
  refine HU2.mono ?_
  rintro e w2 ⟨⟨rfl, hd⟩, hm⟩
  have HD2 := Lib.hid hd
  have HM2 := Lib.hid (HM1.out.trans hm)
  have HA2 := Lib.hid (key_kept h.out (Nat.le_refl _) hm HA1.out)
  clear hd hm HU2 HM1 HA1
  obtain ⟨x3, hx3⟩ : ∃ x, x = bracesP s false val p2 m (ths.map Th.tp) := ⟨_, rfl⟩
  have HL := HII.out HD2.out (by have := (mustP_le HE2.out.symm).1; omega)
  rw [← hx3] at HL
  have hX := HX.out
  try dsimp only at hX
  rw [← hx3] at hX
  replace HX := Lib.hid hX
  clear hX hx3
  rcases x3 with ⟨c, a⟩ | ⟨l, p3, m3, tp3⟩
  · have hxe : x = .error (c, a) := HX.out
    subst hxe
    go_wp2_with fail
    refine HL.mono ?_
    rintro e w3 ⟨rfl, hm⟩
    go_wp2_with fail
    exact ⟨rfl, rfl, HM2.out.trans hm⟩
  have hxe : x = .ok (.mk 4 l.nx ⟨#[]⟩ l.xs, p3, m3, tp3) := HX.out
  subst hxe
  go_wp2_with fail
  refine HL.mono ?_
  rintro e w3 ⟨⟨b, v, mb, ys, tv3, ths3, rfl, hli, hfar, hrd, htp, hfr, hth⟩, hm⟩
  have HD3 : Hid (Rd w3 r s p3 m3 tv3 ths3) := Lib.hid hrd
  have HL3 : Hid (LIs w3 b v mb l ys) := Lib.hid hli
  have HF3 : Hid (Fresh w tv tv3) := Lib.hid ((Fresh.refl w tv).trans hfr HM2.out.size)
  have HM3 := Lib.hid (HM2.out.trans hm)
  have HA3 := Lib.hid (cell_kept HD2.out hm HA2.out (by decide) (by decide))
  have HTP : Hid (ths3.map Th.tp = tp3) := Lib.hid htp
  have HTH : Hid (ths3.length ≤ p3) := Lib.hid hth
  have HB2 : Hid (w2.heap.size ≤ b) := Lib.hid (hfar b (.inl rfl))
  have HNB : Hid (w.heap.size ≠ b) := Lib.hid (by have h1 := lt_of_block HA2.out; have h2 := HB2.out; omega)
  clear hli hfar hrd htp hfr hth hm HL HX
  go_wp2_with fail
  refine (lnext_any w3 HL3.out).mono ?_
  rintro _ w4 ⟨rfl, rfl⟩
  go_wp2_with fail
  refine (all_any w3 HL3.out).mono ?_
  rintro _ w4 ⟨co, cc, rfl, hvt, hm⟩
  have HD4 := Lib.hid (HD3.out.mod hm (fun k hr e => HD3.out.apart HL3.out hr (.inl e)) (fun k e => by rw [show k = b from e]; exact HL3.out.no64 (.inl rfl)) (fun k e => by have h1 := HB2.out; have h2 := HD2.out.tab.lt; rw [show k = b from e]; omega))
  have HA4 := Lib.hid ((hm.block w.heap.size (lt_of_block HA3.out) HNB.out).trans HA3.out)
  have HM4 : Hid (Mod (RF r tv) w w4) := Lib.hid (HM3.out.trans' hm (fun i hi e => by have h1 := HB2.out; have h2 := HM2.out.size; have h3 : i = b := e; omega))
  have HVT := Lib.hid hvt
  clear hvt hm
  obtain ⟨y0, y1, y2, y3⟩ := vb4 HA4.out
  have f0 := free_blk HA4.out 0; have f1 := free_blk HA4.out 1; have f2 := free_blk HA4.out 2; have f3 := free_blk HA4.out 3
  go_wp2_with fail
  obtain ⟨z0, z1, z2, z3⟩ := vb4 (set4 HA4.out (.int .i64 4) (.int .i64 l.nx) (.string ⟨#[]⟩) (.slice co l.xs.length cc))
  refine bodyPost_ret (v := (VT.mk 4 l.nx ⟨#[]⟩ l.xs).v (.slice co l.xs.length cc)) (by simp [results, Tryz.results84, go_sem, VT.v, VT.k, VT.n, VT.t, z0, z1, z2, z3]) rfl (v_end (y := VT.mk 4 l.nx ⟨#[]⟩ l.xs) h.out HD4.out HA4.out HM4.out (HVT.out) HTP.out (HF3.out) ?_)
  exact HTH.out
set_option maxHeartbeats 6400000 in
set_option maxRecDepth 100000 in
theorem v_obj (d : Int) (hd0 : 0 ≤ d) (hd1 : d < 64) (val : ValF) (hgr : Grows val) {r : Nat} {s : ByteArray}
    (HV : ∀ {W : World} {p m : Nat} {tv : Value} {ths : List Th}, Rd W r s p m tv ths → ths.length ≤ p → Calls Tryz.prog 84 #[.pointer (some ⟨r, 0, none⟩), .int .i64 (d + 1)] W (VPost W r s tv (val p m (ths.map Th.tp))))
    {w : World} {p m : Nat} {tv : Value} {ths : List Th} (h : Rd w r s p m tv ths) (hl : ths.length ≤ p) (hc : nowP s p = 79) :
    Calls Tryz.prog 84 #[.pointer (some ⟨r, 0, none⟩), .int .i64 d] w (VPost w r s tv (objectP s val p m (ths.map Th.tp))) := by
  have HO := fun {W : World} (hd : Rd W r s p m tv ths) => object_any d hd0 (by omega) val hgr HV hd hl
  have HOO := @Lib.hid _ @HO
  have hc' := Lib.hid hc
  clear HV HO
  have hdd : decide (64 ≤ d) = false := decide_eq_false (by omega)
  obtain ⟨x, hx⟩ : ∃ x, x = objectP s val p m (ths.map Th.tp) := ⟨_, rfl⟩
  rw [← hx]
  have HX := Lib.hid hx
  clear hx
  have HB : Below w.heap.size w (w.alloc V0) := (Below.refl _ _).alloc (Nat.le_refl _) _
  have HD0 := Lib.hid (h.under HB)
  have HM0 := Lib.hid (Mod.of_below (F := RF r tv) HB)
  have HA0 : Hid ((w.alloc V0).heap[w.heap.size]? = some V0) := Lib.hid (heap_alloc_new w _)
  obtain ⟨c0, c1, c2, c3⟩ := HD0.out.cells
  have HN := now_any HD0.out
  rw [hc] at HN
  have hpl := h.hp
  have hsz := h.hs
  have h := Lib.hid h
  clear HB hc
  go_enter Tryz.func84, Tryz.ntmps84
  go_wp2_with fail
  refine HN.mono ?_
  rintro e w1 ⟨rfl, hb⟩
  have HD1 := Lib.hid (HD0.out.under hb)
  have HM1 := Lib.hid (HM0.out.trans (Mod.of_below (F := RF r tv) hb))
  have HA1 := Lib.hid ((hb.block _ (lt_of_block HA0.out)).trans HA0.out)
  have HN2 := now_any HD1.out
  rw [hc'.out] at HN2
  clear hb HN HD0 HM0 HA0 c0 c1 c2 c3
  go_wp2_with fail
  refine HN2.mono ?_
  rintro e wn ⟨rfl, hb⟩
  replace HD1 := Lib.hid (HD1.out.under hb)
  replace HM1 := Lib.hid (HM1.out.trans (Mod.of_below (F := RF r tv) hb))
  replace HA1 := Lib.hid ((hb.block _ (lt_of_block HA1.out)).trans HA1.out)
  clear hb HN2
  have HV2 := HOO.out HD1.out
  rw [← HX.out] at HV2
  clear HX
  rcases x with ⟨c, a⟩ | ⟨y, p3, m3, tp3⟩
  · go_wp2_with fail
    refine HV2.mono ?_
    rintro e w3 ⟨rfl, hm⟩
    go_wp2_with fail
    exact ⟨rfl, rfl, HM1.out.trans hm⟩
  have HV3 : Calls Tryz.prog 118 #[.pointer (some ⟨r, 0, none⟩), .int .i64 d] wn (fun e w' => (∃ co cm cc tv2 ths2, e = .returned (.agg #[.int .i64 y.k, .int .i64 y.n, .string y.t, .slice co cm cc]) ∧ VT64 w' (.slice co cm cc) y.xs ∧ Rd w' r s p3 m3 tv2 ths2 ∧ ths2.map Th.tp = tp3 ∧ Fresh wn tv tv2 ∧ ths2.length ≤ p3) ∧ Mod (RF r tv) wn w') := HV2
  clear HV2
  go_wp2_with fail
  refine HV3.mono ?_
  rintro e w3 ⟨⟨co, cm, cc, tv3, ths3, rfl, hvt, hrd, htp, hfr, hth⟩, hm⟩
  have HD3 : Hid (Rd w3 r s p3 m3 tv3 ths3) := Lib.hid hrd
  have HF3 : Hid (Fresh w tv tv3) := Lib.hid ((Fresh.refl w tv).trans hfr HM1.out.size)
  have HM3 := Lib.hid (HM1.out.trans hm)
  have HA3 := Lib.hid (cell_kept HD1.out hm HA1.out (by decide) (by decide))
  have HTP : Hid (ths3.map Th.tp = tp3) := Lib.hid htp
  have HTH : Hid (ths3.length ≤ p3) := Lib.hid hth
  have HVT := Lib.hid hvt
  clear hvt hrd htp hfr hth hm HV3
  obtain ⟨y0, y1, y2, y3⟩ := vb4 HA3.out
  have f0 := free_blk HA3.out 0; have f1 := free_blk HA3.out 1; have f2 := free_blk HA3.out 2; have f3 := free_blk HA3.out 3
  go_wp2_with fail
  obtain ⟨z0, z1, z2, z3⟩ := vb4 (set4 HA3.out (.int .i64 y.k) (.int .i64 y.n) (.string y.t) (.slice co cm cc))
  refine bodyPost_ret (v := y.v (.slice co cm cc)) (by simp [results, Tryz.results84, go_sem, VT.v, z0, z1, z2, z3]) rfl (v_end (y := y) h.out HD3.out HA3.out HM3.out HVT.out HTP.out HF3.out HTH.out)
set_option maxHeartbeats 6400000 in
set_option maxRecDepth 100000 in
theorem v_other {w : World} {r : Nat} {s : ByteArray} {p m : Nat} {tv : Value} {ths : List Th} (h : Rd w r s p m tv ths) (d : Int) (h1 : nowP s p ≠ 78) (h2 : nowP s p ≠ 98) (h3 : nowP s p ≠ 105) (h4 : nowP s p ≠ 115) (h5 : nowP s p ≠ 114) (h6 : nowP s p ≠ 97) (h7 : nowP s p ≠ 79) :
    Calls Tryz.prog 84 #[.pointer (some ⟨r, 0, none⟩), .int .i64 d] w (VPost w r s tv (.error (wrongC s p, p))) := by
  have key : ∀ (c : UInt8) (n : Int), (c.toNat : Int) = n → nowP s p ≠ c → (((nowP s p).toNat : Int) == n) = false := fun c n hn hc => by
    rw [beq_eq_false_iff_ne]
    intro e
    exact hc (UInt8.toNat_inj.1 (by omega))
  have e1 := key 78 78 rfl h1
  have e2 := key 98 98 rfl h2
  have e3 := key 105 105 rfl h3
  have e4 := key 115 115 rfl h4
  have e5 := key 114 114 rfl h5
  have e6 := key 97 97 rfl h6
  have e7 := key 79 79 rfl h7
  clear key h1 h2 h3 h4 h5 h6 h7
  have HB : Below w.heap.size w (w.alloc V0) := (Below.refl _ _).alloc (Nat.le_refl _) _
  have HD0 := Lib.hid (h.under HB)
  have HM0 := Lib.hid (Mod.of_below (F := RF r tv) HB)
  have HA0 : Hid ((w.alloc V0).heap[w.heap.size]? = some V0) := Lib.hid (heap_alloc_new w _)
  obtain ⟨c0, c1, c2, c3⟩ := HD0.out.cells
  have HN := now_any HD0.out
  have hpl := h.hp
  have hsz := h.hs
  have h := Lib.hid h
  clear HB
  go_enter Tryz.func84, Tryz.ntmps84
  go_wp2_with fail
  refine HN.mono ?_
  rintro e w1 ⟨rfl, hb⟩
  have HD1 := Lib.hid (HD0.out.under hb)
  have HM1 := Lib.hid (HM0.out.trans (Mod.of_below (F := RF r tv) hb))
  have HW := wrong_any HD1.out
  clear hb HN HD0 HM0 HA0 c0 c1 c2 c3
  go_wp2_with fail
  refine HW.mono ?_
  rintro e w2 ⟨rfl, hb⟩
  go_wp2_with fail
  exact ⟨rfl, rfl, HM1.out.trans (Mod.of_below hb)⟩
/-- A reader's value, with so many braces left. -/
theorem graph_any (d : Int) (hd0 : 0 ≤ d) (sub : Option ValF) {r : Nat} {s : ByteArray}
    (hs : match sub with
      | none => 64 ≤ d
      | some val => d < 64 ∧ Grows val ∧ ∀ {W : World} {p m : Nat} {tv : Value} {ths : List Th}, Rd W r s p m tv ths → ths.length ≤ p → Calls Tryz.prog 84 #[.pointer (some ⟨r, 0, none⟩), .int .i64 (d + 1)] W (VPost W r s tv (val p m (ths.map Th.tp))))
    {w : World} {p m : Nat} {tv : Value} {ths : List Th} (h : Rd w r s p m tv ths) (hl : ths.length ≤ p) :
    Calls Tryz.prog 84 #[.pointer (some ⟨r, 0, none⟩), .int .i64 d] w (VPost w r s tv (graphP s sub p m (ths.map Th.tp))) := by
  unfold graphP
  by_cases c1 : nowP s p = 78
  · rw [if_pos c1]; exact v_null h hl c1 d
  rw [if_neg c1]
  by_cases c2 : nowP s p = 98
  · rw [if_pos c2]; exact v_bool h hl c2 d
  rw [if_neg c2]
  by_cases c3 : nowP s p = 105
  · rw [if_pos c3]; exact v_int h hl c3 d
  rw [if_neg c3]
  by_cases c4 : nowP s p = 115
  · rw [if_pos c4]; exact v_str h hl c4 d
  rw [if_neg c4]
  by_cases c5 : nowP s p = 114
  · rw [if_pos c5]; exact v_ref h hl c5 d
  rw [if_neg c5]
  by_cases c7 : nowP s p = 79
  · rw [if_pos (.inr c7)]
    unfold deepP
    cases sub with
    | none => exact v_deepO h c7 d hs
    | some val =>
      dsimp only
      rw [if_pos c7]
      exact v_obj d hd0 hs.1 val hs.2.1 hs.2.2 h hl c7
  by_cases c6 : nowP s p = 97
  · rw [if_pos (.inl c6)]
    unfold deepP
    cases sub with
    | none => exact v_deepA h c6 d hs
    | some val =>
      dsimp only
      rw [if_neg c7]
      exact v_list d hd0 hs.1 val hs.2.2 h hl c6
  rw [if_neg (fun e => e.elim c6 c7)]
  exact v_other h d c1 c2 c3 c4 c5 c6 c7
theorem value_rd (s : ByteArray) (r : Nat) : ∀ (k : Nat), k ≤ 64 → ∀ {w : World} {p m : Nat} {tv : Value} {ths : List Th}, Rd w r s p m tv ths → ths.length ≤ p →
    Calls Tryz.prog 84 #[.pointer (some ⟨r, 0, none⟩), .int .i64 (64 - (k : Int))] w (VPost w r s tv (gvalP s k p m (ths.map Th.tp)))
  | 0, _, w, p, m, tv, ths, h, hl => graph_any (64 - ((0 : Nat) : Int)) (by omega) none (by show (64 : Int) ≤ _; omega) h hl
  | k + 1, hk, w, p, m, tv, ths, h, hl => graph_any (64 - ((k + 1 : Nat) : Int)) (by omega) (some (gvalP s k)) ⟨by omega, gvalP_grows s k, fun h hl => by
      have := value_rd s r k (by omega) h hl
      rwa [show (64 - (k : Int)) = 64 - ((k + 1 : Nat) : Int) + 1 by omega] at this⟩ h hl
end Go.Proofs.YtnaefnojmiolbaaGreatDoor
