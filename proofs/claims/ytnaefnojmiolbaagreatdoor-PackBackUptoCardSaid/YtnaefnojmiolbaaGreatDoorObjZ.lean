/-
  The walk of a reader's object.
-/
import Derived.Test.YtnaefnojmiolbaaGreatDoorPushZ
import Derived.Test.YtnaefnojmiolbaaGreatDoorItemsRZ
namespace Go.Proofs.YtnaefnojmiolbaaGreatDoor
open Go.RowKit

attribute [local go_sem] yld_undef
theorem info48 : (Tryz.prog.info? 48).map (fun i => (i.zero, i.size, i.bytes)) = some (some (.agg #[.string ⟨#[]⟩, .slice none 0 0]), 2, 40) := by kernel_rfl
/-- A block of another type stays under a reader's calls. -/
theorem cell_kept {w w' : World} {r : Nat} {s : ByteArray} {p m : Nat} {tv : Value} {ths : List Th} (h : Rd w r s p m tv ths) (hm : Mod (RF r tv) w w') {B : Nat} {cs : Array Value} {ty : TypeId} {fr : Nat × Nat} (hA : w.heap[B]? = some (.cells cs ty fr)) (h1 : ty ≠ 116) (h2 : ty ≠ 48) : w'.heap[B]? = some (.cells cs ty fr) := by
  rw [hm.block B (lt_of_block hA) ?_, hA]
  rintro (rfl | e)
  · rw [h.blk] at hA; cases hA; exact h1 rfl
  · obtain ⟨cur, hc⟩ := owns_blk h.own e
    rw [hc] at hA; cases hA; exact h2 rfl
theorem Rd.propCell {w : World} {r : Nat} {s : ByteArray} {p m : Nat} {ths : List Th} {g n cap : Nat} (h : Rd w r s p m (.slice (some ⟨g, 0, none⟩) n cap) ths) {i : Nat} (hi : i < ths.length) : w.cell? ⟨g, i * 2 + 1, none⟩ = some ths[i].c := by
  obtain ⟨ao, cap', hv, -, -, hlies, -, -⟩ := h.own.any
  cases hv
  obtain ⟨g', off, he, -, -, hc⟩ := hlies i [.string ths[i].cls, ths[i].c] (by simp [hi, Th.row])
  cases he
  have := hc 1 _ rfl
  simpa using this
set_option maxHeartbeats 12800000 in
set_option maxRecDepth 100000 in
theorem object_any (d : Int) (hd0 : 0 ≤ d) (hd1 : d ≤ 64) (val : ValF) (hgr : Grows val) {r : Nat} {s : ByteArray}
    (HV : ∀ {W : World} {p m : Nat} {tv : Value} {ths : List Th}, Rd W r s p m tv ths → ths.length ≤ p → Calls Tryz.prog 84 #[.pointer (some ⟨r, 0, none⟩), .int .i64 (d + 1)] W (VPost W r s tv (val p m (ths.map Th.tp))))
    {w : World} {p m : Nat} {tv : Value} {ths : List Th} (h : Rd w r s p m tv ths) (hl : ths.length ≤ p) :
    Calls Tryz.prog 118 #[.pointer (some ⟨r, 0, none⟩), .int .i64 d] w (VPost w r s tv (objectP s val p m (ths.map Th.tp))) := by
  have HI : ∀ {W : World} {p m : Nat} {tv : Value} {ths : List Th}, Rd W r s p m tv ths → ths.length ≤ p → Calls Tryz.prog 119 #[.pointer (some ⟨r, 0, none⟩), .bool true, .int .i64 d] W (LPost W r s tv (bracesP s true val p m (ths.map Th.tp))) :=
    fun h hl => itemsR_any true d hd0 hd1 val HV h hl
  clear HV
  obtain ⟨x, hx⟩ : ∃ x, x = objectP s val p m (ths.map Th.tp) := ⟨_, rfl⟩
  rw [← hx]
  unfold objectP at hx
  obtain ⟨ao, cap, hv, -⟩ := h.own.any
  rw [List.length_map] at hv
  subst hv
  have hsz := h.hs
  have hpl := h.hp
  have HB : Below w.heap.size w (w.alloc V0) := (Below.refl _ _).alloc (Nat.le_refl _) _
  have HD0 := Lib.hid (h.under HB)
  have HM0 := Lib.hid (Mod.of_below (F := RF r (.slice ao ths.length cap)) HB)
  have HA0 : Hid ((w.alloc V0).heap[w.heap.size]? = some V0) := Lib.hid (heap_alloc_new w _)
  have h := Lib.hid h
  have HII := @Lib.hid _ @HI
  obtain ⟨x1, hx1⟩ : ∃ x, x = mustP s [79, 58] p := ⟨_, rfl⟩
  have HU := must_lit #[79, 58] (by decide) HD0.out
  rw [show (#[79, 58] : Array UInt8).toList = [79, 58] from rfl, ← hx1] at HU
  rw [← hx1] at hx
  clear HB HI
  rcases x1 with ⟨c, a⟩ | p1
  · have hxe : x = .error (c, a) := hx
    subst hxe
    clear hx hx1
    go_enter Tryz.func118, Tryz.ntmps118
    go_wp2_with fail
    refine HU.mono ?_
    rintro e w1 ⟨rfl, hm⟩
    go_wp2_with fail
    exact ⟨rfl, rfl, HM0.out.trans hm⟩
  obtain ⟨x2, hx2⟩ : ∃ x, x = textP s true p1 := ⟨_, rfl⟩
  dsimp only at hx
  rw [← hx2] at hx
  have HX := Lib.hid hx
  have HX2 := Lib.hid hx2
  have HP1 : Hid (ths.length + 2 ≤ p1) := Lib.hid (by have := (mustP_le hx1.symm).1; simp at this; omega)
  clear hx hx2 hx1
  go_enter Tryz.func118, Tryz.ntmps118
  go_wp2_with fail
  refine HU.mono ?_
  rintro e w1 ⟨⟨rfl, hd⟩, hm⟩
  have HD1 := Lib.hid hd
  have HM1 := Lib.hid (HM0.out.trans hm)
  have HA1 := Lib.hid (key_kept h.out (Nat.le_refl _) hm HA0.out)
  have HT := text_any true HD1.out
  rw [← HX2.out] at HT
  clear hd hm HU HD0 HM0 HA0
  rcases x2 with ⟨c, a⟩ | ⟨name, p2⟩
  · have hxe : x = .error (c, a) := HX.out
    subst hxe
    go_wp2_with fail
    refine HT.mono ?_
    rintro e w2 ⟨rfl, hm⟩
    go_wp2_with fail
    exact ⟨rfl, rfl, HM1.out.trans hm⟩
  obtain ⟨x3, hx3⟩ : ∃ x, x = mustP s [58] p2 := ⟨_, rfl⟩
  have hX := HX.out
  try dsimp only at hX
  rw [← hx3] at hX
  have HX3 := Lib.hid hX
  have HX4 := Lib.hid hx3
  clear hX hx3 HX
  go_wp2_with fail
  refine HT.mono ?_
  rintro e w2 ⟨⟨rfl, hd⟩, hm⟩
  have HD2 := Lib.hid hd
  have HM2 := Lib.hid (HM1.out.trans hm)
  have HA2 := Lib.hid (key_kept h.out (Nat.le_refl _) hm HA1.out)
  have HU := must_lit #[58] (by decide) HD2.out
  rw [show (#[58] : Array UInt8).toList = [58] from rfl, ← HX4.out] at HU
  clear hd hm HT HD1 HM1 HA1
  rcases x3 with ⟨c, a⟩ | p3
  · have hxe : x = .error (c, a) := HX3.out
    subst hxe
    go_wp2_with fail
    refine HU.mono ?_
    rintro e w3 ⟨rfl, hm⟩
    go_wp2_with fail
    exact ⟨rfl, rfl, HM2.out.trans hm⟩
  have HP3 : Hid (ths.length + 1 ≤ p3) := Lib.hid (by
    have h1 := HP1.out
    have h2 := textP_at HX2.out.symm
    have h3 := (mustP_le HX4.out.symm).1
    omega)
  go_wp2_with fail
  refine HU.mono ?_
  rintro e w3 ⟨⟨rfl, hd⟩, hm⟩
  have HD3 := Lib.hid hd
  have HM3 := Lib.hid (HM2.out.trans hm)
  have HA3 := Lib.hid (key_kept h.out (Nat.le_refl _) hm HA2.out)
  obtain ⟨c0, c1, c2, c3⟩ := HD3.out.cells
  have ff := free_blk HD3.out.blk 3
  have hO : Hid (Owns (w3.alloc (.cells #[.string name, .slice none 0 0] 48)) 48 2 (.slice ao ths.length cap) (ths.map Th.row)) := Lib.hid (HD3.out.own.kept fun g e => Below.heap_alloc _ _ _ (HD3.out.own.lt e))
  have hL := Lib.hid (lies_new w3 [.string name, .slice none 0 0] 48 rfl)
  have hr1 : Hid ((ths.map Th.row).length + ([[Value.string name, .slice none 0 0]] : List (List Value)).length ≤ maxLen) := by show _ ≤ _; unfold maxLen; simp; omega
  have hr2 : Hid (((ths.map Th.row).length + ([[Value.string name, .slice none 0 0]] : List (List Value)).length) * 40 ≤ 140737488355328) := by show _ ≤ _; simp; omega
  have HNE := Lib.hid h.out.ne
  have hcv : (Value.slice ao ths.length cap).ownBlock ≠ some r := HNE.out
  clear hd hm HU HD2 HM2 HA2 HX2 HX4
  go_wp2_with (at_builtin; refine wpList_append_rows rfl (.tmp 23) (.tmp 26) 38 rfl 48 _ 2 40 Tryz.underlying38 info48 rfl (by decide) (.slice ao ths.length cap) (ths.map Th.row) (by rfl) hO.out (some ⟨w3.heap.size, 0, none⟩) 1 1 [[.string name, .slice none 0 0]] (by rfl) rfl (fun e => by cases e) hL.out (by simp [Value.oneCell']) (by simp) hr1.out (by have h := hr2.out; omega) ?_; intro v4 w4 o4 g4 n4; obtain ⟨g, cap2, hv4, -⟩ := o4.addr (by simp); generalize hN : List.length (List.map Th.row ths ++ [[Value.string name, .slice none 0 0]]) = N at hv4; subst hv4; have O4 := Lib.hid o4; have G4 := Lib.hid g4; have N4 := Lib.hid n4; have HN := Lib.hid hN; have b4 := (g4.block r (by have := lt_of_block HD3.out.blk; simp; omega) (fun e => HNE.out e.symm)).trans (alloc_blk HD3.out.blk _); have y3 := cell_blk b4 3; have ff4 := free_blk b4 3; clear o4 g4 n4 hN b4)
  obtain ⟨hd5, hf5, hm5⟩ := HD3.out.push name O4.out G4.out N4.out
  have HD5 := Lib.hid hd5
  have HF5 : Hid (Fresh w (.slice ao ths.length cap) (.slice (some ⟨g, 0, none⟩) N cap2)) := Lib.hid ((Fresh.refl w _).trans hf5 HM3.out.size)
  have HM5 := Lib.hid (HM3.out.trans hm5)
  have HA5 := Lib.hid (key_kept h.out (Nat.le_refl _) hm5 HA3.out)
  obtain ⟨x4, hx4⟩ : ∃ x, x = bracesP s true val p3 m (ths.map Th.tp ++ [(name, [])]) := ⟨_, rfl⟩
  have HI := HII.out HD5.out (by have := HP3.out; simp; omega)
  rw [show List.map Th.tp (ths ++ [(⟨name, [], .slice none 0 0⟩ : Th)]) = ths.map Th.tp ++ [(name, [])] by simp [Th.tp], ← hx4] at HI
  have hX := HX3.out
  try dsimp only at hX
  rw [← hx4] at hX
  have HX5 := Lib.hid hX
  have HG : Hid (∀ y, x4 = .ok y → ths.length + 1 ≤ y.2.2.2.length) := Lib.hid (fun y e => by
    have := bracesP_grows hgr (hx4.symm.trans e)
    simpa using this)
  clear hX hx4 hd5 hf5 hm5 HX3 c0 c1 c2 c3 ff y3 ff4 hO hL hr1 hr2 HD3 HM3 HA3 O4 G4 N4 hcv HNE
  rcases x4 with ⟨c, a⟩ | ⟨l, p4, m6, tp6⟩
  · have hxe : x = .error (c, a) := HX5.out
    subst hxe
    refine HI.mono ?_
    rintro e w6 ⟨rfl, hm⟩
    go_wp2_with fail
    exact ⟨rfl, rfl, RF.trans HF5.out HM5.out hm⟩
  have hxe : x = .ok (.mk 5 ((ths.length : Nat) + 1) ⟨#[]⟩ [], p4, m6, tp6.modify ths.length fun t => (t.1, l.xs)) := by
    have := HX5.out
    simpa using this
  subst hxe
  refine HI.mono ?_
  rintro e w6 ⟨⟨b, v, mb, ys, tv6, ths6, rfl, hli, hfar, hrd, htp, hfr, hth⟩, hm⟩
  have hlen : ths.length < ths6.length := by
    have := HG.out _ rfl
    dsimp only at this
    rw [← (show ths6.map Th.tp = tp6 from htp), List.length_map] at this
    omega
  obtain ⟨g6, cap6, hv6, -⟩ := hrd.own.addr (by intro e; have := congrArg List.length e; simp at this; rw [this] at hlen; simp at hlen)
  rw [List.length_map] at hv6
  subst hv6
  have HM6 := Lib.hid (RF.trans HF5.out HM5.out hm)
  have HF6 : Hid (Fresh w (.slice ao ths.length cap) (.slice (some ⟨g6, 0, none⟩) ths6.length cap6)) := Lib.hid (HF5.out.trans hfr HM5.out.size)
  have HA6 : Hid (w6.heap[w.heap.size]? = some V0) := Lib.hid (cell_kept HD5.out hm HA5.out (by decide) (by decide))
  have HD6 : Hid (Rd w6 r s p4 m6 (.slice (some ⟨g6, 0, none⟩) ths6.length cap6) ths6) := Lib.hid hrd
  have HL6 : Hid (LIs w6 b v mb l ys) := Lib.hid hli
  have HF := Lib.hid hfar
  have HTP : Hid (ths6.map Th.tp = tp6) := Lib.hid htp
  have HTH : Hid (ths6.length ≤ p4) := Lib.hid hth
  have hlz : (ths.length : Int) < (ths6.length : Int) := by omega
  have HLEN := Lib.hid hlen
  clear hm hli hfar hrd htp hfr hth HI hlen HX5 HG
  go_wp2_with fail
  have HDd := Lib.hid (HD6.out.under (Below.refl _ _).drew)
  have HLd := Lib.hid (HL6.out.under (Below.refl _ _).drew)
  have HAd : Hid (w6.drew.heap[w.heap.size]? = some V0) := Lib.hid HA6.out
  have hnn : (0 : Int) ≤ (ths.length : Int) := by omega
  refine wp_region_noPanic ?_
  refine wp_region_held_drew (S := (fun V => V.cell? ⟨r, 3, none⟩ = some (.slice (some ⟨g6, 0, none⟩) ths6.length cap6))) (by kernel_rfl) (by exact HDd.out.cells.2.2.2) (fun hHeld => ?_)
  refine wpAnyH_take (i := 0) (oi := ?o0) (v := ?v0) ?hi0 (by kernel_rfl) (by kernel_rfl) (by kernel_rfl) (fun _ _ _ h => h) ?hy0 (by assumption) ?rest0
  case hi0 => simp only [gA, gZ]; rfl
  case hy0 =>
    refine Or.inl ⟨by rfl, ?_⟩
    intro w hSw; (try dsimp only at hSw); go_simp <;> (with_reducible rfl)
  (try simp only [Act.put, pA, pZ, pS])
  refine wpAnyH_take (i := 1) (oi := ?o1) (v := ?v1) ?hi1 (by kernel_rfl) (by kernel_rfl) (by kernel_rfl) (fun _ _ _ h => h) ?hy1 (by assumption) ?rest1
  case hi1 => simp only [gA, gS, gZ]; rfl
  case hy1 =>
    refine Or.inl ⟨by rfl, ?_⟩
    intro w hSw; (try dsimp only at hSw); go_simp <;> (with_reducible rfl)
  (try simp only [Act.put, pA, pZ, pS])
  refine wpAnyH_take (i := 2) (oi := ?o2) (v := ?v2) ?hi2 (by kernel_rfl) (by kernel_rfl) (by kernel_rfl) (fun _ _ _ h => h) ?hy2 (by assumption) ?rest2
  case hi2 => simp only [gA, gS, gZ]; rfl
  case hy2 =>
    refine Or.inl ⟨by rfl, ?_⟩
    intro w hSw; (try dsimp only at hSw); go_simp <;> (with_reducible rfl)
  (try simp only [Act.put, pA, pZ, pS])
  refine wpAnyH_take (i := 3) (oi := ?o3) (v := ?v3) ?hi3 (by kernel_rfl) (by kernel_rfl) (by kernel_rfl) (fun _ _ _ h => h) ?hy3 (by assumption) ?rest3
  case hi3 => simp only [gA, gS, gZ]; rfl
  case hy3 =>
    refine Or.inl ⟨by rfl, ?_⟩
    intro w hSw; (try dsimp only at hSw); go_simp <;> (with_reducible rfl)
  (try simp only [Act.put, pA, pZ, pS])
  refine wpAnyH_take (i := 4) (oi := ?o4) (v := ?v4) ?hi4 (by kernel_rfl) (by kernel_rfl) (by kernel_rfl) (fun _ _ _ h => h) ?hy4 (by assumption) ?rest4
  case hi4 => simp only [gA, gS, gZ]; rfl
  case hy4 =>
    refine Or.inl ⟨by rfl, ?_⟩
    intro w hSw; (try dsimp only at hSw); go_simp <;> (with_reducible rfl)
  (try simp only [Act.put, pA, pZ, pS])
  refine wpAnyH_take (i := 5) (oi := ?o5) (v := ?v5) ?hi5 (by kernel_rfl) (by kernel_rfl) (by kernel_rfl) (fun _ _ _ h => h) ?hy5 (by assumption) ?rest5
  case hi5 => simp only [gA, gS, gZ]; rfl
  case hy5 =>
    refine Or.inl ⟨by rfl, ?_⟩
    intro w hSw; (try dsimp only at hSw); go_simp <;> (with_reducible rfl)
  (try simp only [Act.put, pA, pZ, pS])
  refine wpAnyH_ready (rs := [6]) (by kernel_rfl) (by simp) ?_
  refine AllReadyH.cons rfl (fun K hK => ?_) AllReadyH.nil
  go_simp
  refine (all_any _ HLd.out).mono ?_; rintro _ w7 ⟨co, cc, rfl, hvt, hm⟩; have HD7 := Lib.hid (HDd.out.mod hm (fun k hr e => HDd.out.apart HLd.out hr (.inl e)) (fun k e => by rw [show k = b from e]; exact HLd.out.no64 (.inl rfl)) (fun k e => by have h1 := HF.out b (.inl rfl); have h2 := HD5.out.tab.lt; rw [show k = b from e]; omega)); have HA7 : Hid (w7.heap[w.heap.size]? = some V0) := Lib.hid ((hm.block _ (lt_of_block HAd.out) (fun e => by have h1 := HF.out b (.inl rfl); have h2 := lt_of_block HA5.out; omega)).trans HAd.out); have HVT := Lib.hid hvt; have HM7 : Hid (Mod (RF r (.slice ao ths.length cap)) w w7) := Lib.hid ((HM6.out.trans (Mod.of_below (Below.refl _ _).drew)).trans' hm (fun i hi e => by have h1 := HF.out b (.inl rfl); have h2 := HM5.out.size; have h3 : i = b := e; omega)); have fz := HD7.out.own.free (g := g6) rfl (ths.length * 2 + 1); have cz := HD7.out.propCell HLEN.out; clear hvt hm
  refine hK.out _ _ HD7.out.cells.2.2.2 (fun hHeld6 => ?_)
  clear hK K
  (try simp only [Act.put, pA, pZ, pS])
  refine wpAnyH_take (i := 7) (oi := ?o7) (v := ?v7) ?hi7 (by kernel_rfl) (by kernel_rfl) (by kernel_rfl) (fun _ _ _ h => h) ?hy7 (by assumption) ?rest7
  case hi7 => simp only [gA, gS, gZ]; rfl
  case hy7 =>
    refine Or.inl ⟨by rfl, ?_⟩
    intro w hSw; (try dsimp only at hSw); go_simp <;> (with_reducible rfl)
  (try simp only [Act.put, pA, pZ, pS])
  refine wpAnyH_take (i := 8) (oi := ?o8) (v := ?v8) ?hi8 (by kernel_rfl) (by kernel_rfl) (by kernel_rfl) (fun _ _ _ h => h) ?hy8 (by assumption) ?rest8
  case hi8 => simp only [gA, gS, gZ]; rfl
  case hy8 =>
    refine Or.inl ⟨by rfl, ?_⟩
    intro w hSw; (try dsimp only at hSw); go_simp <;> (with_reducible rfl)
  (try simp only [Act.put, pA, pZ, pS])
  refine wpAnyH_ready (rs := [9]) (by kernel_rfl) (by simp) ?_
  refine AllReadyH.cons rfl (fun K hK => ?_) AllReadyH.nil
  go_simp
  obtain ⟨hd8, hm8⟩ := HD7.out.props (i := ths.length) HLEN.out HVT.out; have HD8 := Lib.hid hd8; have HM8 := Lib.hid hm8; clear hd8 hm8
  refine hK.out _ _ HD8.out.cells.2.2.2 (fun hHeld9 => ?_)
  clear hK K
  (try simp only [Act.put, pA, pZ, pS])
  refine wpAnyH_done (by kernel_rfl) ?_ _
  refine NoPanic.normal ?_
  have HA8 := Lib.hid (cell_kept HD7.out HM8.out HA7.out (by decide) (by decide))
  have HNR : Hid (w.heap.size ≠ r) := Lib.hid (fun e => by have := lt_of_block h.out.blk; omega)
  have HNG : Hid (g6 ≠ w.heap.size) := Lib.hid (fun e => by
    obtain ⟨cur, hc⟩ := owns_blk HD8.out.own (g := g6) rfl
    have h2 := HA8.out
    rw [← e, hc] at h2; cases h2)
  have h6 := h.out.tab.lt
  obtain ⟨y0, y1, y2, y3⟩ := vb4 HA8.out
  have f0 := free_blk HA8.out 0; have f1 := free_blk HA8.out 1; have f2 := free_blk HA8.out 2; have f3 := free_blk HA8.out 3
  obtain ⟨hwn, hwn2⟩ := wr_sm (x := (ths.length : Int) + 1) (by omega) (by omega)
  clear fz cz
  go_wp2_with fail
  obtain ⟨z0, z1, z2, z3⟩ := vb4 (set4 HA8.out (.int .i64 5) (.int .i64 ((ths.length : Int) + 1)) (.string ⟨#[]⟩) (.slice none 0 0))
  have m9 : Mod (fun k => k = w.heap.size) (w7.setCell ⟨g6, ths.length * 2 + 1, none⟩ (.slice co l.xs.length cc)) (((((w7.setCell ⟨g6, ths.length * 2 + 1, none⟩ (.slice co l.xs.length cc)).setCell ⟨w.heap.size, 0, none⟩ (.int .i64 5)).setCell ⟨w.heap.size, 1, none⟩ (.int .i64 ((ths.length : Int) + 1))).setCell ⟨w.heap.size, 2, none⟩ (.string ⟨#[]⟩)).setCell ⟨w.heap.size, 3, none⟩ (.slice none 0 0)) :=
    ((((Mod.refl (fun k => k = w.heap.size) _).setCell ⟨w.heap.size, 0, none⟩ _ (fun _ => rfl)).setCell ⟨w.heap.size, 1, none⟩ _ (fun _ => rfl)).setCell ⟨w.heap.size, 2, none⟩ _ (fun _ => rfl)).setCell ⟨w.heap.size, 3, none⟩ _ (fun _ => rfl)
  have HD9 := HD8.out.store (B := w.heap.size) HNR.out (fun e => HNG.out (by cases e; rfl)) (blk_no64 HA8.out (by decide)) h6 m9
  refine bodyPost_ret (v := (VT.mk 5 ((ths.length : Int) + 1) ⟨#[]⟩ []).v (.slice none 0 0)) (by simp [results, Tryz.results118, go_sem, VT.v, VT.k, VT.n, VT.t, z0, z1, z2, z3]) rfl ⟨⟨none, 0, 0, _, _, rfl, VAt.nil _ _ _ _, HD9, ?_, HF6.out, ?_⟩, ?_⟩
  · rw [props_tp HLEN.out, HTP.out]
  · rw [List.length_set]; exact HTH.out
  · exact ((HM7.out.trans' HM8.out (fun i hi e => by
      rcases e with e | e
      · exact .inl e
      · rcases HF6.out i e with h1 | h1
        · exact .inr h1
        · omega))).trans' m9 (fun i hi e => by have h3 : i = w.heap.size := e; omega)
end Go.Proofs.YtnaefnojmiolbaaGreatDoor
