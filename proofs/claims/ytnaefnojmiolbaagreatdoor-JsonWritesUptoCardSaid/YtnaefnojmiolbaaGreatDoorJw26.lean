/-
  JSON: the walk of number.
-/
import Derived.Test.YtnaefnojmiolbaaGreatDoorJw14
namespace Go.Proofs.YtnaefnojmiolbaaGreatDoor
open Go.RowKit

attribute [local go_sem] yld_undef
/-- A reader and a value's block. -/
abbrev JV2 (r vb : Nat) (k : Nat) : Prop := k = r ∨ k = vb
/-- Four cells that are written one behind the other. -/
theorem st4 {w : World} {b : Nat} {t : TypeId} {a0 a1 a2 a3 : Value} (h : w.heap[b]? = some (.cells #[a0, a1, a2, a3] t (0, 0))) (v0 v1 v2 v3 : Value) :
    (w.cell? ⟨b, 0, none⟩ = some a0 ∧ w.frozen? ⟨b, 0, none⟩ = false) ∧ ((w.setCell ⟨b, 0, none⟩ v0).cell? ⟨b, 1, none⟩ = some a1 ∧ (w.setCell ⟨b, 0, none⟩ v0).frozen? ⟨b, 1, none⟩ = false) ∧
    (((w.setCell ⟨b, 0, none⟩ v0).setCell ⟨b, 1, none⟩ v1).cell? ⟨b, 2, none⟩ = some a2 ∧ ((w.setCell ⟨b, 0, none⟩ v0).setCell ⟨b, 1, none⟩ v1).frozen? ⟨b, 2, none⟩ = false) ∧
    ((((w.setCell ⟨b, 0, none⟩ v0).setCell ⟨b, 1, none⟩ v1).setCell ⟨b, 2, none⟩ v2).cell? ⟨b, 3, none⟩ = some a3 ∧ (((w.setCell ⟨b, 0, none⟩ v0).setCell ⟨b, 1, none⟩ v1).setCell ⟨b, 2, none⟩ v2).frozen? ⟨b, 3, none⟩ = false) ∧
    ((((w.setCell ⟨b, 0, none⟩ v0).setCell ⟨b, 1, none⟩ v1).setCell ⟨b, 2, none⟩ v2).setCell ⟨b, 3, none⟩ v3).heap[b]? = some (.cells #[v0, v1, v2, v3] t (0, 0)) ∧
    Mod (fun k => k = b) w ((((w.setCell ⟨b, 0, none⟩ v0).setCell ⟨b, 1, none⟩ v1).setCell ⟨b, 2, none⟩ v2).setCell ⟨b, 3, none⟩ v3) := by
  have h1 := set_blk h 0 v0
  simp only [Array.setIfInBounds] at h1
  have h1' : (w.setCell ⟨b, 0, none⟩ v0).heap[b]? = some (.cells #[v0, a1, a2, a3] t (0, 0)) := by simpa using h1
  have h2 : ((w.setCell ⟨b, 0, none⟩ v0).setCell ⟨b, 1, none⟩ v1).heap[b]? = some (.cells #[v0, v1, a2, a3] t (0, 0)) := by simpa using set_blk h1' 1 v1
  have h3 : (((w.setCell ⟨b, 0, none⟩ v0).setCell ⟨b, 1, none⟩ v1).setCell ⟨b, 2, none⟩ v2).heap[b]? = some (.cells #[v0, v1, v2, a3] t (0, 0)) := by simpa using set_blk h2 2 v2
  have h4 : ((((w.setCell ⟨b, 0, none⟩ v0).setCell ⟨b, 1, none⟩ v1).setCell ⟨b, 2, none⟩ v2).setCell ⟨b, 3, none⟩ v3).heap[b]? = some (.cells #[v0, v1, v2, v3] t (0, 0)) := by simpa using set_blk h3 3 v3
  exact ⟨⟨cell_blk h 0, free_blk h 0⟩, ⟨cell_blk h1' 1, free_blk h1' 1⟩, ⟨cell_blk h2 2, free_blk h2 2⟩, ⟨cell_blk h3 3, free_blk h3 3⟩, h4, (((setJ_mod _ _ _ _).trans (setJ_mod _ _ _ _)).trans (setJ_mod _ _ _ _)).trans (setJ_mod _ _ _ _)⟩
/-- A value's block. -/
def VBlk (w : World) (vb : Nat) : Prop := ∃ a b c d, w.heap[vb]? = some (.cells #[a, b, c, d] 24 (0, 0))
theorem VBlk.mod {F : Nat → Prop} {w w' : World} {vb : Nat} (h : VBlk w vb) (m : Mod F w w') (hf : ¬ F vb) : VBlk w' vb := by
  obtain ⟨a, b, c, d, e⟩ := h
  exact ⟨a, b, c, d, m.blk e hf⟩
theorem VBlk.under {w w' : World} {vb : Nat} (h : VBlk w vb) (m : Below w.heap.size w w') : VBlk w' vb := by
  obtain ⟨a, b, c, d, e⟩ := h
  exact ⟨a, b, c, d, (m.block _ (lt_of_block e)).trans e⟩
theorem Jd.put {w w' : World} {r : Nat} {s : ByteArray} {p m : Nat} {fw fa : Int} (h : Jd w r s p m fw fa) {vb : Nat} (hne : vb ≠ r) (h6 : 6 ≤ vb) (hm : Mod (fun k => k = vb) w w') : Jd w' r s p m fw fa :=
  h.mod hm (fun e => hne e.symm) (fun k e => by rw [show k = vb from e]; exact h6)
theorem Mod.j1 {r vb : Nat} {w w' : World} (h : Mod (JF r) w w') : Mod (JV2 r vb) w w' := h.mono fun _ _ e => .inl e
theorem Mod.j2 {r vb : Nat} {w w' : World} (h : Mod (fun k => k = vb) w w') : Mod (JV2 r vb) w w' := h.mono fun _ _ e => .inr e
theorem is45 (c : UInt8) : ((c.toNat : Int) == 45) = decide (c = 45) := by
  have h : ((c.toNat : Int) = 45) ↔ c = 45 := ⟨fun e => UInt8.toNat_inj.1 (by simpa using (by omega : c.toNat = 45)), fun e => by subst e; rfl⟩
  by_cases hc : c = 45
  · rw [decide_eq_true hc, beq_iff_eq]; exact h.2 hc
  · rw [decide_eq_false hc, beq_eq_false_iff_ne]; exact fun e => hc (h.1 e)
theorem fr_idx : ∀ x : Fin 256, decide ((0 : Int) ≤ Lib.indexByte [46, 101, 69] (UInt8.ofNat x.val)) = isFr (UInt8.ofNat x.val) := by decide +kernel
theorem fr_any (c : UInt8) : decide ((0 : Int) ≤ Lib.indexByte [46, 101, 69] c) = isFr c := of_byte (P := fun c => decide ((0 : Int) ≤ Lib.indexByte [46, 101, 69] c) = isFr c) fr_idx c
theorem dig_iff (c : UInt8) : isDig c = true ↔ 48 ≤ c.toNat ∧ c.toNat ≤ 57 := by
  rw [dig_now2]
  simp
  omega
set_option maxHeartbeats 3200000 in
set_option maxRecDepth 100000 in
theorem jnumber_any {w : World} {r vb : Nat} {s : ByteArray} {p m : Nat} {fw fa : Int} (h : Jd w r s p m fw fa) (hv : VBlk w vb) (hne : vb ≠ r) (h6 : 6 ≤ vb) :
    Calls Tryz.prog 74 #[.pointer (some ⟨r, 0, none⟩), .pointer (some ⟨vb, 0, none⟩)] w (JPost (JV2 r vb) w r s (jnumP s p) isFalse fun x e w' => e = .returned (.bool true) ∧ Jd w' r s x.2 m fw fa ∧ p ≤ x.2 ∧ w'.heap[vb]? = some (VB (.mk 2 x.1 ⟨#[]⟩ []) (.slice none 0 0))) := by
  obtain ⟨x, hx⟩ : ∃ x, x = jnumP s p := ⟨_, rfl⟩
  rw [← hx]
  obtain ⟨q, hq⟩ : ∃ q, q = jnumB s p := ⟨_, rfl⟩
  unfold jnumP at hx
  rw [← hq] at hx
  obtain ⟨d, hd⟩ : ∃ d, nowP s p = d := ⟨_, rfl⟩
  have HN0 := jnow_any h
  rw [hd] at HN0
  have h45 := is45 d
  obtain ⟨g45, hg45⟩ : ∃ g, decide (d = 45) = g := ⟨_, rfl⟩
  rw [hg45] at h45
  have hqe : q = if g45 = true then p + 1 else p := by
    rw [hq, ← hg45, ← hd]; unfold jnumB
    by_cases hc : nowP s p = 45
    · rw [if_pos hc, if_pos (by simp [hc])]
    · rw [if_neg hc, if_neg (by simp [hc])]
  have hpq : g45 = true → p < s.size := fun e => by
    by_cases hp : p < s.size
    · exact hp
    · rw [nowP_end hp] at hd; subst hd; rw [e] at hg45; exact absurd hg45 (by decide)
  have HX := Lib.hid hx
  have HQ := Lib.hid hqe
  have HD := Lib.hid h
  have HV := Lib.hid hv
  have HNE := Lib.hid hne
  have H6 := Lib.hid h6
  have hsz := h.hs
  have hpl := h.hp
  have hml := h.hm
  have hpq2 : p ≤ q := by rw [hqe]; split <;> omega
  have hqs : q ≤ s.size := by rw [hqe]; split; (have := hpq (by assumption); omega); omega
  obtain ⟨c0, c1, -, -, -⟩ := h.cells
  clear hx hq h hv hne h6 hg45 hd hpq hqe
  go_enter Tryz.func74, Tryz.ntmps74
  go_wp2_with fail
  refine HN0.mono ?_
  rintro _ w1 ⟨rfl, hb⟩
  have HC1 : Hid (Jd w1 r s p m fw fa ∧ Mod (JF r) w w1) := Lib.hid ⟨HD.out.under hb, Mod.of_below hb⟩
  clear hb HN0 c0 c1
  go_upto_if 15 with fail
  go_cut [5] from 16 to 22 (fun s5 wx => s5 = .int .i64 p ∧ Hid (Jd wx r s q m fw fa ∧ Mod (JF r) w wx))
  case first =>
    cases g45
    · have hq0 : q = p := HQ.out
      subst hq0
      go_wp2_with fail
      go_meet
      exact ⟨rfl, HC1⟩
    · have hq0 : q = p + 1 := HQ.out
      subst hq0
      obtain ⟨hw', hw⟩ := wr_sm (x := (p : Int) + 1) (by omega) (by omega)
      obtain ⟨c0, c1, -, -, -⟩ := HC1.out.1.cells
      have ff := free_blk HC1.out.1.blk 1
      go_wp2_with fail
      go_meet
      exact ⟨rfl, Lib.hid ⟨HC1.out.1.setAt hqs (by omega) (by omega), HC1.out.2.trans (setJ_mod _ _ _ _)⟩⟩
  case rest =>
    obtain ⟨rfl, HC⟩ := hcut
    clear HC1 HQ
    obtain ⟨c, hc⟩ : ∃ c, nowP s q = c := ⟨_, rfl⟩
    have HCC := Lib.hid hc
    have hX2 := HX.out
    have HN1 := jnow_any HC.out.1
    rw [hc] at HN1 hX2
    by_cases hdg : isDig c = true
    · have hqlt : q < s.size := dig_now_lt (by rw [hc]; exact hdg)
      obtain ⟨hdl, hdh⟩ := (dig_iff c).1 hdg
      have h48 : ¬ (c.toNat < 48) := by omega
      have h57 : ¬ (57 < c.toNat) := by omega
      rw [if_pos hdg] at hX2
      obtain ⟨z, hz⟩ : ∃ z, ((c.toNat : Int) == 48) = z := ⟨_, rfl⟩
      have hzc : z = true ↔ c = 48 := by
        rw [← hz, beq_iff_eq]
        exact ⟨fun e => UInt8.toNat_inj.1 (by simpa using (by omega : c.toNat = 48)), fun e => by subst e; rfl⟩
      obtain ⟨e, he⟩ : ∃ e, e = jnumE s q := ⟨_, rfl⟩
      rw [← he] at hX2
      have hee : e = if z = true then q + 1 else endP s (q + 1) := by
        rw [he]; unfold jnumE; rw [hc]
        by_cases hz2 : c = 48
        · rw [if_pos hz2, if_pos (hzc.2 hz2)]
        · rw [if_neg hz2, if_neg (fun h => hz2 (hzc.1 h)), endP_step hqlt (by rw [← nowP_lt hqlt, hc]; exact hdg)]
      have HX2 := Lib.hid hX2
      have HE := Lib.hid hee
      have HQL := Lib.hid hqlt
      obtain ⟨hw', hw⟩ := wr_sm (x := (q : Int) + 1) (by omega) (by omega)
      clear hX2 HX hdg hdl hdh he hee hc hzc
      go_wp2_with fail
      refine HN1.mono ?_
      rintro _ w2 ⟨rfl, hb⟩
      have HC2 : Hid (Jd w2 r s q m fw fa ∧ Mod (JF r) w w2) := Lib.hid ⟨HC.out.1.under hb, HC.out.2.trans (Mod.of_below hb)⟩
      have HN2 := jnow_any HC2.out.1
      rw [HCC.out] at HN2
      clear hb HN1 HC
      go_wp2_with fail
      refine HN2.mono ?_
      rintro _ w3 ⟨rfl, hb⟩
      have HC3 : Hid (Jd w3 r s q m fw fa ∧ Mod (JF r) w w3) := Lib.hid ⟨HC2.out.1.under hb, HC2.out.2.trans (Mod.of_below hb)⟩
      have HN3 := jnow_any HC3.out.1
      rw [HCC.out] at HN3
      clear hb HN2 HC2
      go_wp2_with fail
      refine HN3.mono ?_
      rintro _ w4 ⟨rfl, hb⟩
      have HC4 : Hid (Jd w4 r s q m fw fa ∧ Mod (JF r) w w4) := Lib.hid ⟨HC3.out.1.under hb, HC3.out.2.trans (Mod.of_below hb)⟩
      obtain ⟨c0, c1, -, -, -⟩ := HC4.out.1.cells
      have ff := free_blk HC4.out.1.blk 1
      clear hb HN3 HC3
      go_wp2_with fail
      have HC5 : Hid (Jd (w4.setCell ⟨r, 1, none⟩ (.int .i64 ((q : Int) + 1))) r s (q + 1) m fw fa ∧ Mod (JF r) w (w4.setCell ⟨r, 1, none⟩ (.int .i64 ((q : Int) + 1)))) := Lib.hid ⟨HC4.out.1.setAt HQL.out (by omega) (by omega), HC4.out.2.trans (setJ_mod _ _ _ _)⟩
      clear HC4 ff c0 c1
      go_loopg [] (s.size - (q + 1)) (fun g wr => ∃ j : Nat, g = s.size - j ∧ Hid (j ≤ s.size ∧ q < j ∧ e = if z = true then j else endP s j) ∧ Hid (Jd wr r s j m fw fa ∧ Mod (JF r) w wr))
      case atStart => exact ⟨q + 1, rfl, Lib.hid ⟨HQL.out, by omega, HE.out⟩, HC5⟩
      case round =>
        obtain ⟨j, rfl, HJ, HRJ⟩ := hrel
        clear HE HC5
        have hjs := HJ.out.1
        have hmj := HRJ.out.1.hm
        obtain ⟨d, hd⟩ : ∃ d, nowP s j = d := ⟨_, rfl⟩
        obtain ⟨ct, hct⟩ : ∃ ct, (!z && isDig d) = ct := ⟨_, rfl⟩
        have HCT := Lib.hid hct
        have HDD := Lib.hid hd
        have HN5 := jnow_any HRJ.out.1
        rw [hd] at HN5
        clear hct hd
        go_upto_region 8 with fail
        go_cut [54] from 43 to 54 (fun s54 wx => s54 = .bool ct ∧ Hid (Jd wx r s j m fw fa ∧ Mod (JF r) w wx))
        case first =>
          cases z
          · by_cases h1 : d.toNat < 48
            · have h1' : ¬ (48 ≤ d.toNat) := by omega
              have hcf : ct = false := by rw [← HCT.out, show isDig d = false from Bool.eq_false_iff.2 (fun h => h1' ((dig_iff d).1 h).1)]; rfl
              go_wp2_with fail
              refine HN5.mono ?_
              rintro _ w5 ⟨rfl, hb⟩
              have HC6 : Hid (Jd w5 r s j m fw fa ∧ Mod (JF r) w w5) := Lib.hid ⟨HRJ.out.1.under hb, HRJ.out.2.trans (Mod.of_below hb)⟩
              clear hb HN5
              go_wp2_with fail
              go_meet
              exact ⟨by rw [hcf], HC6⟩
            · have h1' : 48 ≤ d.toNat := by omega
              have hct2 : decide (d.toNat ≤ 57) = ct := by
                rw [← HCT.out]
                by_cases h2 : d.toNat ≤ 57
                · rw [decide_eq_true h2, show isDig d = true from (dig_iff d).2 ⟨h1', h2⟩]; rfl
                · rw [decide_eq_false h2, show isDig d = false from Bool.eq_false_iff.2 (fun h => h2 ((dig_iff d).1 h).2)]; rfl
              go_wp2_with fail
              refine HN5.mono ?_
              rintro _ w5 ⟨rfl, hb⟩
              have HC6 : Hid (Jd w5 r s j m fw fa ∧ Mod (JF r) w w5) := Lib.hid ⟨HRJ.out.1.under hb, HRJ.out.2.trans (Mod.of_below hb)⟩
              have HN6 := jnow_any HC6.out.1
              rw [HDD.out] at HN6
              clear hb HN5
              go_wp2_with fail
              refine HN6.mono ?_
              rintro _ w6 ⟨rfl, hb⟩
              have HC7 : Hid (Jd w6 r s j m fw fa ∧ Mod (JF r) w w6) := Lib.hid ⟨HC6.out.1.under hb, HC6.out.2.trans (Mod.of_below hb)⟩
              clear hb HN6 HC6
              go_wp2_with fail
              go_meet
              exact ⟨congrArg Value.bool (by rw [← hct2]; simp; omega), HC7⟩
          · go_wp2_with fail
            go_meet
            exact ⟨by rw [← HCT.out]; rfl, HRJ⟩
        case rest =>
          obtain ⟨rfl, HC6⟩ := hcut
          clear HN5 HRJ
          cases ct
          · have hej : e = j := by
              have h1 := HJ.out.2.2
              have h2 := HCT.out
              cases z
              · rw [h1, if_neg (by decide), endP_stop]
                rw [HDD.out]
                intro h; rw [h] at h2; exact absurd h2 (by decide)
              · rw [h1, if_pos rfl]
            subst hej
            have hqe := HJ.out.2.1
            clear HJ HCT
            have hs1 : (0 : Int) ≤ (p : Int) := by omega
            have hs2 : (p : Int) ≤ (e : Int) := by omega
            have hs3 : (e : Int) ≤ (s.size : Int) := by omega
            have hts : (s.extract p e).size ≤ 140737488351232 := by rw [ByteArray.size_extract]; omega
            have HPE : Hid (p ≤ e) := Lib.hid (by omega)
            have HS0 : Hid (JS r s e m fw fa wc wc.drew) := Lib.hid (JS.mk HC6.out.1 (Below.refl wc.heap.size wc).drew)
            have HV6 : Hid (VBlk wc vb) := Lib.hid (HV.out.mod HC6.out.2 HNE.out)
            have HNW : ∀ W, JS r s e m fw fa wc W → Calls Tryz.prog 73 #[.pointer (some ⟨r, 0, none⟩)] W fun e' w' => e' = .returned (.int .u8 (nowP s e).toNat) ∧ Below W.heap.size W w' := fun W hS => jnow_any hS.1.out.1
            have hX2 := HX2.out
            by_cases hv : ∃ v, Lib.atoiAll (s.extract p e).toList = .ok v
            · obtain ⟨v, hv⟩ := hv
              have HA := atoi_ok hts hv
              obtain ⟨f, hf⟩ : ∃ f, isFr d = f := ⟨_, rfl⟩
              have hxe : x = if f = true then .error (11, p) else .ok (v, e) := by
                rw [hX2]; unfold numText; rw [hv, HDD.out, hf]
              have HXE := Lib.hid hxe
              have HFF := Lib.hid hf
              clear hv hX2 HX2 hxe hts hf
              go_wp2_with fail
              refine wp_region_noPanic ?_
              refine wp_region_held_drew (S := (fun W => Hid (Jd W r s e m fw fa ∧ Below wc.heap.size wc W) ∧ W.cell? ⟨r, 0, none⟩ = some (.string s) ∧ W.cell? ⟨r, 1, none⟩ = some (.int .i64 e))) (by kernel_rfl) (by exact HS0.out) (fun hHeld => ?_)
              refine wpAnyH_take (i := 0) (oi := ?oc0) (v := ?vc0) ?hic0 (by kernel_rfl) (by kernel_rfl) (by kernel_rfl) (fun _ _ _ h => h) ?hyc0 (by assumption) ?restc0
              case hic0 => simp only [gA, gZ]; rfl
              case hyc0 =>
                refine Or.inl ⟨by rfl, ?_⟩
                intro w hSw; (try dsimp only at hSw); go_simp <;> (with_reducible rfl)
              (try simp only [Act.put, pA, pZ, pS])
              refine wpAnyH_take (i := 1) (oi := ?oc1) (v := ?vc1) ?hic1 (by kernel_rfl) (by kernel_rfl) (by kernel_rfl) (fun _ _ _ h => h) ?hyc1 (by assumption) ?restc1
              case hic1 => simp only [gA, gS, gZ]; rfl
              case hyc1 =>
                refine Or.inl ⟨by rfl, ?_⟩
                intro w hSw; (try dsimp only at hSw); go_simp <;> (with_reducible rfl)
              (try simp only [Act.put, pA, pZ, pS])
              refine wpAnyH_take (i := 2) (oi := ?oc2) (v := ?vc2) ?hic2 (by kernel_rfl) (by kernel_rfl) (by kernel_rfl) (fun _ _ _ h => h) ?hyc2 (by assumption) ?restc2
              case hic2 => simp only [gA, gS, gZ]; rfl
              case hyc2 =>
                refine Or.inl ⟨by rfl, ?_⟩
                intro w hSw; (try dsimp only at hSw); go_simp <;> (with_reducible rfl)
              (try simp only [Act.put, pA, pZ, pS])
              refine wpAnyH_take (i := 3) (oi := ?oc3) (v := ?vc3) ?hic3 (by kernel_rfl) (by kernel_rfl) (by kernel_rfl) (fun _ _ _ h => h) ?hyc3 (by assumption) ?restc3
              case hic3 => simp only [gA, gS, gZ]; rfl
              case hyc3 =>
                refine Or.inl ⟨by rfl, ?_⟩
                intro w hSw; (try dsimp only at hSw); go_simp <;> (with_reducible rfl)
              (try simp only [Act.put, pA, pZ, pS])
              refine wpAnyH_take (i := 4) (oi := ?oc4) (v := ?vc4) ?hic4 (by kernel_rfl) (by kernel_rfl) (by kernel_rfl) (fun _ _ _ h => h) ?hyc4 (by assumption) ?restc4
              case hic4 => simp only [gA, gS, gZ]; rfl
              case hyc4 =>
                refine Or.inl ⟨by rfl, ?_⟩
                intro w hSw; (try dsimp only at hSw); go_simp <;> (with_reducible rfl)
              (try simp only [Act.put, pA, pZ, pS])
              refine wpAnyH_take (i := 5) (oi := ?oc5) (v := ?vc5) ?hic5 (by kernel_rfl) (by kernel_rfl) (by kernel_rfl) (fun _ _ _ h => h) ?hyc5 (by assumption) ?restc5
              case hic5 => simp only [gA, gS, gZ]; rfl
              case hyc5 =>
                refine Or.inl ⟨by rfl, ?_⟩
                intro w hSw; (try dsimp only at hSw); go_simp <;> (with_reducible rfl)
              (try simp only [Act.put, pA, pZ, pS])
              refine wpAnyH_take (i := 6) (oi := ?oc6) (v := ?vc6) ?hic6 (by kernel_rfl) (by kernel_rfl) (by kernel_rfl) (fun _ _ _ h => h) ?hyc6 (by assumption) ?restc6
              case hic6 => simp only [gA, gS, gZ]; rfl
              case hyc6 =>
                refine Or.inl ⟨by rfl, ?_⟩
                intro w hSw; (try dsimp only at hSw); go_simp <;> (with_reducible rfl)
              (try simp only [Act.put, pA, pZ, pS])
              refine wpAnyH_take (i := 7) (oi := ?oc7) (v := ?vc7) ?hic7 (by kernel_rfl) (by kernel_rfl) (by kernel_rfl) (fun _ _ _ h => h) ?hyc7 (by assumption) ?restc7
              case hic7 => simp only [gA, gS, gZ]; rfl
              case hyc7 =>
                refine Or.inl ⟨by rfl, ?_⟩
                intro w hSw; (try dsimp only at hSw); go_simp <;> (with_reducible rfl)
              (try simp only [Act.put, pA, pZ, pS])
              refine wpAnyH_take (i := 8) (oi := ?oc8) (v := ?vc8) ?hic8 (by kernel_rfl) (by kernel_rfl) (by kernel_rfl) (fun _ _ _ h => h) ?hyc8 (by assumption) ?restc8
              case hic8 => simp only [gA, gS, gZ]; rfl
              case hyc8 =>
                refine Or.inl ⟨by rfl, ?_⟩
                intro w hSw; (try dsimp only at hSw); go_simp <;> (with_reducible rfl)
              (try simp only [Act.put, pA, pZ, pS])
              refine wpAnyH_take (i := 9) (oi := ?oc9) (v := ?vc9) ?hic9 (by kernel_rfl) (by kernel_rfl) (by kernel_rfl) (fun _ _ _ h => h) ?hyc9 (by assumption) ?restc9
              case hic9 => simp only [gA, gS, gZ]; rfl
              case hyc9 =>
                refine Or.inl ⟨by rfl, ?_⟩
                intro w hSw; (try dsimp only at hSw); go_simp <;> (with_reducible rfl)
              (try simp only [Act.put, pA, pZ, pS])
              refine wpAnyH_ready (rs := [10]) (by kernel_rfl) (by simp) ?_
              refine AllReadyH.cons rfl (fun K hK => ?_) AllReadyH.nil
              go_simp
              refine (HA _).mono ?_; rintro _ w7 ⟨rfl, hb⟩; have HS1 : Hid (JS r s e m fw fa wc w7) := Lib.hid (JS.next hHeld hb); clear hb
              refine hK.out _ _ HS1.out (fun hHeldc10 => ?_)
              clear hK K
              (try simp only [Act.put, pA, pZ, pS])
              refine wpAnyH_take (i := 11) (oi := ?oc11) (v := ?vc11) ?hic11 (by kernel_rfl) (by kernel_rfl) (by kernel_rfl) (fun _ _ _ h => h) ?hyc11 (by assumption) ?restc11
              case hic11 => simp only [gA, gS, gZ]; rfl
              case hyc11 =>
                refine Or.inl ⟨by rfl, ?_⟩
                intro w hSw; (try dsimp only at hSw); go_simp <;> (with_reducible rfl)
              (try simp only [Act.put, pA, pZ, pS])
              refine wpAnyH_take (i := 12) (oi := ?oc12) (v := ?vc12) ?hic12 (by kernel_rfl) (by kernel_rfl) (by kernel_rfl) (fun _ _ _ h => h) ?hyc12 (by assumption) ?restc12
              case hic12 => simp only [gA, gS, gZ]; rfl
              case hyc12 =>
                refine Or.inl ⟨by rfl, ?_⟩
                intro w hSw; (try dsimp only at hSw); go_simp <;> (with_reducible rfl)
              (try simp only [Act.put, pA, pZ, pS])
              refine wpAnyH_take (i := 13) (oi := ?oc13) (v := ?vc13) ?hic13 (by kernel_rfl) (by kernel_rfl) (by kernel_rfl) (fun _ _ _ h => h) ?hyc13 (by assumption) ?restc13
              case hic13 => simp only [gA, gS, gZ]; rfl
              case hyc13 =>
                refine Or.inl ⟨by rfl, ?_⟩
                intro w hSw; (try dsimp only at hSw); go_simp <;> (with_reducible rfl)
              (try simp only [Act.put, pA, pZ, pS])
              refine wpAnyH_take (i := 14) (oi := ?oc14) (v := ?vc14) ?hic14 (by kernel_rfl) (by kernel_rfl) (by kernel_rfl) (fun _ _ _ h => h) ?hyc14 (by assumption) ?restc14
              case hic14 => simp only [gA, gS, gZ]; rfl
              case hyc14 =>
                refine Or.inl ⟨by rfl, ?_⟩
                intro w hSw; (try dsimp only at hSw); go_simp <;> (with_reducible rfl)
              (try simp only [Act.put, pA, pZ, pS])
              refine wpAnyH_take (i := 15) (oi := ?oc15) (v := ?vc15) ?hic15 (by kernel_rfl) (by kernel_rfl) (by kernel_rfl) (fun _ _ _ h => h) ?hyc15 (by assumption) ?restc15
              case hic15 => simp only [gA, gS, gZ]; rfl
              case hyc15 =>
                refine Or.inl ⟨by rfl, ?_⟩
                intro w hSw; (try dsimp only at hSw); go_simp <;> (with_reducible rfl)
              (try simp only [Act.put, pA, pZ, pS])
              refine wpAnyH_done (by kernel_rfl) ?_ _
              refine NoPanic.normal ?_
              go_wp2_with fail
              have HS2 : Hid (JS r s e m fw fa wc w7.drew) := Lib.hid (JS.next HS1.out (Below.refl w7.heap.size w7).drew)
              have hStore : ∀ W, JS r s e m fw fa wc W → ∃ a0 a1 a2 a3, W.heap[vb]? = some (.cells #[a0, a1, a2, a3] 24 (0, 0)) := fun W hS => HV6.out.under hS.1.out.2
              by_cases hel : e < s.size
              · obtain ⟨y, hy⟩ : ∃ y, Lib.indexByte [46, 101, 69] d = y := ⟨_, rfl⟩
                have hfy := fr_any d
                rw [hy, HFF.out] at hfy
                have HI : ∀ W, Calls Tryz.prog 64 #[.string ⟨#[46, 101, 69]⟩, .int .u8 (d.toNat : Int)] W fun e w' => e = .returned (.int .i64 y) ∧ w' = W := fun W => by
                  have := idx_any ⟨#[46, 101, 69]⟩ d W
                  rw [bl_eq, show (⟨#[46, 101, 69]⟩ : ByteArray).data.toList = [46, 101, 69] from rfl, hy] at this
                  exact this
                rw [HDD.out] at HNW
                clear hy HA
                cases f
                · have hxe : x = .ok (v, e) := HXE.out
                  subst hxe
                  clear HXE
                  refine wp_region_noPanic ?_
                  refine wp_region_held_drew (S := (fun W => Hid (Jd W r s e m fw fa ∧ Below wc.heap.size wc W) ∧ W.cell? ⟨r, 0, none⟩ = some (.string s) ∧ W.cell? ⟨r, 1, none⟩ = some (.int .i64 e))) (by kernel_rfl) (by exact HS2.out) (fun hHeld => ?_)
                  refine wpAnyH_take (i := 0) (oi := ?od0) (v := ?vd0) ?hid0 (by kernel_rfl) (by kernel_rfl) (by kernel_rfl) (fun _ _ _ h => h) ?hyd0 (by assumption) ?restd0
                  case hid0 => simp only [gA, gZ]; rfl
                  case hyd0 =>
                    refine Or.inl ⟨by rfl, ?_⟩
                    intro w hSw; (try dsimp only at hSw); go_simp <;> (with_reducible rfl)
                  (try simp only [Act.put, pA, pZ, pS])
                  refine wpAnyH_take (i := 1) (oi := ?od1) (v := ?vd1) ?hid1 (by kernel_rfl) (by kernel_rfl) (by kernel_rfl) (fun _ _ _ h => h) ?hyd1 (by assumption) ?restd1
                  case hid1 => simp only [gA, gS, gZ]; rfl
                  case hyd1 =>
                    refine Or.inl ⟨by rfl, ?_⟩
                    intro w hSw; (try dsimp only at hSw); go_simp <;> (with_reducible rfl)
                  (try simp only [Act.put, pA, pZ, pS])
                  refine wpAnyH_take (i := 2) (oi := ?od2) (v := ?vd2) ?hid2 (by kernel_rfl) (by kernel_rfl) (by kernel_rfl) (fun _ _ _ h => h) ?hyd2 (by assumption) ?restd2
                  case hid2 => simp only [gA, gS, gZ]; rfl
                  case hyd2 =>
                    refine Or.inl ⟨by rfl, ?_⟩
                    intro w hSw; (try dsimp only at hSw); go_simp <;> (with_reducible rfl)
                  (try simp only [Act.put, pA, pZ, pS])
                  refine wpAnyH_take (i := 3) (oi := ?od3) (v := ?vd3) ?hid3 (by kernel_rfl) (by kernel_rfl) (by kernel_rfl) (fun _ _ _ h => h) ?hyd3 (by assumption) ?restd3
                  case hid3 => simp only [gA, gS, gZ]; rfl
                  case hyd3 =>
                    refine Or.inl ⟨by rfl, ?_⟩
                    intro w hSw; (try dsimp only at hSw); go_simp <;> (with_reducible rfl)
                  (try simp only [Act.put, pA, pZ, pS])
                  refine wpAnyH_take (i := 4) (oi := ?od4) (v := ?vd4) ?hid4 (by kernel_rfl) (by kernel_rfl) (by kernel_rfl) (fun _ _ _ h => h) ?hyd4 (by assumption) ?restd4
                  case hid4 => simp only [gA, gS, gZ]; rfl
                  case hyd4 =>
                    refine Or.inl ⟨by rfl, ?_⟩
                    intro w hSw; (try dsimp only at hSw); go_simp <;> (with_reducible rfl)
                  (try simp only [Act.put, pA, pZ, pS])
                  refine wpAnyH_take (i := 5) (oi := ?od5) (v := ?vd5) ?hid5 (by kernel_rfl) (by kernel_rfl) (by kernel_rfl) (fun _ _ _ h => h) ?hyd5 (by assumption) ?restd5
                  case hid5 => simp only [gA, gS, gZ]; rfl
                  case hyd5 =>
                    refine Or.inl ⟨by rfl, ?_⟩
                    intro w hSw; (try dsimp only at hSw); go_simp <;> (with_reducible rfl)
                  (try simp only [Act.put, pA, pZ, pS])
                  refine wpAnyH_take (i := 6) (oi := ?od6) (v := ?vd6) ?hid6 (by kernel_rfl) (by kernel_rfl) (by kernel_rfl) (fun _ _ _ h => h) ?hyd6 (by assumption) ?restd6
                  case hid6 => simp only [gA, gS, gZ]; rfl
                  case hyd6 =>
                    refine Or.inl ⟨by rfl, ?_⟩
                    intro w hSw; (try dsimp only at hSw); go_simp <;> (with_reducible rfl)
                  (try simp only [Act.put, pA, pZ, pS])
                  refine wpAnyH_take (i := 7) (oi := ?od7) (v := ?vd7) ?hid7 (by kernel_rfl) (by kernel_rfl) (by kernel_rfl) (fun _ _ _ h => h) ?hyd7 (by assumption) ?restd7
                  case hid7 => simp only [gA, gS, gZ]; rfl
                  case hyd7 =>
                    refine Or.inl ⟨by rfl, ?_⟩
                    intro w hSw; (try dsimp only at hSw); go_simp <;> (with_reducible rfl)
                  (try simp only [Act.put, pA, pZ, pS])
                  refine wpAnyH_take (i := 8) (oi := ?od8) (v := ?vd8) ?hid8 (by kernel_rfl) (by kernel_rfl) (by kernel_rfl) (fun _ _ _ h => h) ?hyd8 (by assumption) ?restd8
                  case hid8 => simp only [gA, gS, gZ]; rfl
                  case hyd8 =>
                    refine Or.inl ⟨by rfl, ?_⟩
                    intro w hSw; (try dsimp only at hSw); go_simp <;> (with_reducible rfl)
                  (try simp only [Act.put, pA, pZ, pS])
                  refine wpAnyH_take (i := 9) (oi := ?od9) (v := ?vd9) ?hid9 (by kernel_rfl) (by kernel_rfl) (by kernel_rfl) (fun _ _ _ h => h) ?hyd9 (by assumption) ?restd9
                  case hid9 => simp only [gA, gS, gZ]; rfl
                  case hyd9 =>
                    refine Or.inl ⟨by rfl, ?_⟩
                    intro w hSw; (try dsimp only at hSw); go_simp <;> (with_reducible rfl)
                  (try simp only [Act.put, pA, pZ, pS])
                  refine wpAnyH_take (i := 10) (oi := ?od10) (v := ?vd10) ?hid10 (by kernel_rfl) (by kernel_rfl) (by kernel_rfl) (fun _ _ _ h => h) ?hyd10 (by assumption) ?restd10
                  case hid10 => simp only [gA, gS, gZ]; rfl
                  case hyd10 =>
                    refine Or.inl ⟨by rfl, ?_⟩
                    intro w hSw; (try dsimp only at hSw); go_simp <;> (with_reducible rfl)
                  (try simp only [Act.put, pA, pZ, pS])
                  refine wpAnyH_take (i := 11) (oi := ?od11) (v := ?vd11) ?hid11 (by kernel_rfl) (by kernel_rfl) (by kernel_rfl) (fun _ _ _ h => h) ?hyd11 (by assumption) ?restd11
                  case hid11 => simp only [gA, gS, gZ]; rfl
                  case hyd11 =>
                    refine Or.inl ⟨by rfl, ?_⟩
                    intro w hSw; (try dsimp only at hSw); go_simp <;> (with_reducible rfl)
                  (try simp only [Act.put, pA, pZ, pS])
                  refine wpAnyH_take (i := 12) (oi := ?od12) (v := ?vd12) ?hid12 (by kernel_rfl) (by kernel_rfl) (by kernel_rfl) (fun _ _ _ h => h) ?hyd12 (by assumption) ?restd12
                  case hid12 => simp only [gA, gS, gZ]; rfl
                  case hyd12 =>
                    refine Or.inl ⟨by rfl, ?_⟩
                    intro w hSw; (try dsimp only at hSw); go_simp <;> (with_reducible rfl)
                  (try simp only [Act.put, pA, pZ, pS])
                  refine wpAnyH_take (i := 13) (oi := ?od13) (v := ?vd13) ?hid13 (by kernel_rfl) (by kernel_rfl) (by kernel_rfl) (fun _ _ _ h => h) ?hyd13 (by assumption) ?restd13
                  case hid13 => simp only [gA, gS, gZ]; rfl
                  case hyd13 =>
                    refine Or.inl ⟨by rfl, ?_⟩
                    intro w hSw; (try dsimp only at hSw); go_simp <;> (with_reducible rfl)
                  (try simp only [Act.put, pA, pZ, pS])
                  refine wpAnyH_take (i := 14) (oi := ?od14) (v := ?vd14) ?hid14 (by kernel_rfl) (by kernel_rfl) (by kernel_rfl) (fun _ _ _ h => h) ?hyd14 (by assumption) ?restd14
                  case hid14 => simp only [gA, gS, gZ]; rfl
                  case hyd14 =>
                    refine Or.inl ⟨by rfl, ?_⟩
                    intro w hSw; (try dsimp only at hSw); go_simp <;> (with_reducible rfl)
                  (try simp only [Act.put, pA, pZ, pS])
                  refine wpAnyH_ready (rs := [15]) (by kernel_rfl) (by simp) ?_
                  refine AllReadyH.cons rfl (fun K hK => ?_) AllReadyH.nil
                  go_simp
                  refine (HNW _ hHeld).mono ?_; rintro _ w8 ⟨rfl, hb⟩; have HS3 : Hid (JS r s e m fw fa wc w8) := Lib.hid (JS.next hHeld hb); clear hb
                  refine hK.out _ _ HS3.out (fun hHeldd15 => ?_)
                  clear hK K
                  (try simp only [Act.put, pA, pZ, pS])
                  refine wpAnyH_ready (rs := [16]) (by kernel_rfl) (by simp) ?_
                  refine AllReadyH.cons rfl (fun K hK => ?_) AllReadyH.nil
                  go_simp
                  refine (HI _).mono ?_; rintro _ w9 ⟨rfl, rfl⟩
                  refine hK.out _ _ HS3.out (fun hHeldd16 => ?_)
                  clear hK K
                  (try simp only [Act.put, pA, pZ, pS])
                  refine wpAnyH_take (i := 17) (oi := ?od17) (v := ?vd17) ?hid17 (by kernel_rfl) (by kernel_rfl) (by kernel_rfl) (fun _ _ _ h => h) ?hyd17 (by assumption) ?restd17
                  case hid17 => simp only [gA, gS, gZ]; rfl
                  case hyd17 =>
                    refine Or.inl ⟨by rfl, ?_⟩
                    intro w hSw; (try dsimp only at hSw); go_simp <;> (with_reducible rfl)
                  (try simp only [Act.put, pA, pZ, pS])
                  refine wpAnyH_take (i := 18) (oi := ?od18) (v := ?vd18) ?hid18 (by kernel_rfl) (by kernel_rfl) (by kernel_rfl) (fun _ _ _ h => h) ?hyd18 (by assumption) ?restd18
                  case hid18 => simp only [gA, gS, gZ]; rfl
                  case hyd18 =>
                    refine Or.inl ⟨by rfl, ?_⟩
                    intro w hSw; (try dsimp only at hSw); go_simp <;> (with_reducible rfl)
                  (try simp only [Act.put, pA, pZ, pS])
                  refine wpAnyH_take (i := 19) (oi := ?od19) (v := ?vd19) ?hid19 (by kernel_rfl) (by kernel_rfl) (by kernel_rfl) (fun _ _ _ h => h) ?hyd19 (by assumption) ?restd19
                  case hid19 => simp only [gA, gS, gZ]; rfl
                  case hyd19 =>
                    refine Or.inl ⟨by rfl, ?_⟩
                    intro w hSw; (try dsimp only at hSw); go_simp <;> (with_reducible rfl)
                  (try simp only [Act.put, pA, pZ, pS])
                  refine wpAnyH_done (by kernel_rfl) ?_ _
                  refine NoPanic.normal ?_
                  have HJ9 : Hid (Jd (w9) r s e m fw fa ∧ Mod (JF r) w (w9)) := Lib.hid ⟨HS3.out.1.out.1, HC6.out.2.trans (Mod.of_below HS3.out.1.out.2)⟩
                  obtain ⟨a0, a1, a2, a3, ha⟩ := hStore _ HS3.out
                  obtain ⟨⟨k0, f0⟩, ⟨k1, f1⟩, ⟨k2, f2⟩, ⟨k3, f3⟩, hend, hmod⟩ := st4 ha (.int .i64 2) (.int .i64 v) (.string ⟨#[]⟩) (.slice none 0 0)
                  have HEND := Lib.hid hend
                  have HMOD := Lib.hid hmod
                  clear hend hmod hStore ha
                  go_wp2_with fail
                  go_ret
                  exact ⟨⟨rfl, HJ9.out.1.put HNE.out H6.out HMOD.out, HPE.out, HEND.out⟩, HJ9.out.2.j1.trans HMOD.out.j2⟩
                · have hxe : x = .error (11, p) := HXE.out
                  subst hxe
                  clear HXE
                  refine wp_region_noPanic ?_
                  refine wp_region_held_drew (S := (fun W => Hid (Jd W r s e m fw fa ∧ Below wc.heap.size wc W) ∧ W.cell? ⟨r, 0, none⟩ = some (.string s) ∧ W.cell? ⟨r, 1, none⟩ = some (.int .i64 e))) (by kernel_rfl) (by exact HS2.out) (fun hHeld => ?_)
                  refine wpAnyH_take (i := 0) (oi := ?oe0) (v := ?ve0) ?hie0 (by kernel_rfl) (by kernel_rfl) (by kernel_rfl) (fun _ _ _ h => h) ?hye0 (by assumption) ?reste0
                  case hie0 => simp only [gA, gZ]; rfl
                  case hye0 =>
                    refine Or.inl ⟨by rfl, ?_⟩
                    intro w hSw; (try dsimp only at hSw); go_simp <;> (with_reducible rfl)
                  (try simp only [Act.put, pA, pZ, pS])
                  refine wpAnyH_take (i := 1) (oi := ?oe1) (v := ?ve1) ?hie1 (by kernel_rfl) (by kernel_rfl) (by kernel_rfl) (fun _ _ _ h => h) ?hye1 (by assumption) ?reste1
                  case hie1 => simp only [gA, gS, gZ]; rfl
                  case hye1 =>
                    refine Or.inl ⟨by rfl, ?_⟩
                    intro w hSw; (try dsimp only at hSw); go_simp <;> (with_reducible rfl)
                  (try simp only [Act.put, pA, pZ, pS])
                  refine wpAnyH_take (i := 2) (oi := ?oe2) (v := ?ve2) ?hie2 (by kernel_rfl) (by kernel_rfl) (by kernel_rfl) (fun _ _ _ h => h) ?hye2 (by assumption) ?reste2
                  case hie2 => simp only [gA, gS, gZ]; rfl
                  case hye2 =>
                    refine Or.inl ⟨by rfl, ?_⟩
                    intro w hSw; (try dsimp only at hSw); go_simp <;> (with_reducible rfl)
                  (try simp only [Act.put, pA, pZ, pS])
                  refine wpAnyH_take (i := 3) (oi := ?oe3) (v := ?ve3) ?hie3 (by kernel_rfl) (by kernel_rfl) (by kernel_rfl) (fun _ _ _ h => h) ?hye3 (by assumption) ?reste3
                  case hie3 => simp only [gA, gS, gZ]; rfl
                  case hye3 =>
                    refine Or.inl ⟨by rfl, ?_⟩
                    intro w hSw; (try dsimp only at hSw); go_simp <;> (with_reducible rfl)
                  (try simp only [Act.put, pA, pZ, pS])
                  refine wpAnyH_take (i := 4) (oi := ?oe4) (v := ?ve4) ?hie4 (by kernel_rfl) (by kernel_rfl) (by kernel_rfl) (fun _ _ _ h => h) ?hye4 (by assumption) ?reste4
                  case hie4 => simp only [gA, gS, gZ]; rfl
                  case hye4 =>
                    refine Or.inl ⟨by rfl, ?_⟩
                    intro w hSw; (try dsimp only at hSw); go_simp <;> (with_reducible rfl)
                  (try simp only [Act.put, pA, pZ, pS])
                  refine wpAnyH_take (i := 5) (oi := ?oe5) (v := ?ve5) ?hie5 (by kernel_rfl) (by kernel_rfl) (by kernel_rfl) (fun _ _ _ h => h) ?hye5 (by assumption) ?reste5
                  case hie5 => simp only [gA, gS, gZ]; rfl
                  case hye5 =>
                    refine Or.inl ⟨by rfl, ?_⟩
                    intro w hSw; (try dsimp only at hSw); go_simp <;> (with_reducible rfl)
                  (try simp only [Act.put, pA, pZ, pS])
                  refine wpAnyH_take (i := 6) (oi := ?oe6) (v := ?ve6) ?hie6 (by kernel_rfl) (by kernel_rfl) (by kernel_rfl) (fun _ _ _ h => h) ?hye6 (by assumption) ?reste6
                  case hie6 => simp only [gA, gS, gZ]; rfl
                  case hye6 =>
                    refine Or.inl ⟨by rfl, ?_⟩
                    intro w hSw; (try dsimp only at hSw); go_simp <;> (with_reducible rfl)
                  (try simp only [Act.put, pA, pZ, pS])
                  refine wpAnyH_take (i := 7) (oi := ?oe7) (v := ?ve7) ?hie7 (by kernel_rfl) (by kernel_rfl) (by kernel_rfl) (fun _ _ _ h => h) ?hye7 (by assumption) ?reste7
                  case hie7 => simp only [gA, gS, gZ]; rfl
                  case hye7 =>
                    refine Or.inl ⟨by rfl, ?_⟩
                    intro w hSw; (try dsimp only at hSw); go_simp <;> (with_reducible rfl)
                  (try simp only [Act.put, pA, pZ, pS])
                  refine wpAnyH_take (i := 8) (oi := ?oe8) (v := ?ve8) ?hie8 (by kernel_rfl) (by kernel_rfl) (by kernel_rfl) (fun _ _ _ h => h) ?hye8 (by assumption) ?reste8
                  case hie8 => simp only [gA, gS, gZ]; rfl
                  case hye8 =>
                    refine Or.inl ⟨by rfl, ?_⟩
                    intro w hSw; (try dsimp only at hSw); go_simp <;> (with_reducible rfl)
                  (try simp only [Act.put, pA, pZ, pS])
                  refine wpAnyH_take (i := 9) (oi := ?oe9) (v := ?ve9) ?hie9 (by kernel_rfl) (by kernel_rfl) (by kernel_rfl) (fun _ _ _ h => h) ?hye9 (by assumption) ?reste9
                  case hie9 => simp only [gA, gS, gZ]; rfl
                  case hye9 =>
                    refine Or.inl ⟨by rfl, ?_⟩
                    intro w hSw; (try dsimp only at hSw); go_simp <;> (with_reducible rfl)
                  (try simp only [Act.put, pA, pZ, pS])
                  refine wpAnyH_take (i := 10) (oi := ?oe10) (v := ?ve10) ?hie10 (by kernel_rfl) (by kernel_rfl) (by kernel_rfl) (fun _ _ _ h => h) ?hye10 (by assumption) ?reste10
                  case hie10 => simp only [gA, gS, gZ]; rfl
                  case hye10 =>
                    refine Or.inl ⟨by rfl, ?_⟩
                    intro w hSw; (try dsimp only at hSw); go_simp <;> (with_reducible rfl)
                  (try simp only [Act.put, pA, pZ, pS])
                  refine wpAnyH_take (i := 11) (oi := ?oe11) (v := ?ve11) ?hie11 (by kernel_rfl) (by kernel_rfl) (by kernel_rfl) (fun _ _ _ h => h) ?hye11 (by assumption) ?reste11
                  case hie11 => simp only [gA, gS, gZ]; rfl
                  case hye11 =>
                    refine Or.inl ⟨by rfl, ?_⟩
                    intro w hSw; (try dsimp only at hSw); go_simp <;> (with_reducible rfl)
                  (try simp only [Act.put, pA, pZ, pS])
                  refine wpAnyH_take (i := 12) (oi := ?oe12) (v := ?ve12) ?hie12 (by kernel_rfl) (by kernel_rfl) (by kernel_rfl) (fun _ _ _ h => h) ?hye12 (by assumption) ?reste12
                  case hie12 => simp only [gA, gS, gZ]; rfl
                  case hye12 =>
                    refine Or.inl ⟨by rfl, ?_⟩
                    intro w hSw; (try dsimp only at hSw); go_simp <;> (with_reducible rfl)
                  (try simp only [Act.put, pA, pZ, pS])
                  refine wpAnyH_take (i := 13) (oi := ?oe13) (v := ?ve13) ?hie13 (by kernel_rfl) (by kernel_rfl) (by kernel_rfl) (fun _ _ _ h => h) ?hye13 (by assumption) ?reste13
                  case hie13 => simp only [gA, gS, gZ]; rfl
                  case hye13 =>
                    refine Or.inl ⟨by rfl, ?_⟩
                    intro w hSw; (try dsimp only at hSw); go_simp <;> (with_reducible rfl)
                  (try simp only [Act.put, pA, pZ, pS])
                  refine wpAnyH_take (i := 14) (oi := ?oe14) (v := ?ve14) ?hie14 (by kernel_rfl) (by kernel_rfl) (by kernel_rfl) (fun _ _ _ h => h) ?hye14 (by assumption) ?reste14
                  case hie14 => simp only [gA, gS, gZ]; rfl
                  case hye14 =>
                    refine Or.inl ⟨by rfl, ?_⟩
                    intro w hSw; (try dsimp only at hSw); go_simp <;> (with_reducible rfl)
                  (try simp only [Act.put, pA, pZ, pS])
                  refine wpAnyH_ready (rs := [15]) (by kernel_rfl) (by simp) ?_
                  refine AllReadyH.cons rfl (fun K hK => ?_) AllReadyH.nil
                  go_simp
                  refine (HNW _ hHeld).mono ?_; rintro _ w8 ⟨rfl, hb⟩; have HS3 : Hid (JS r s e m fw fa wc w8) := Lib.hid (JS.next hHeld hb); clear hb
                  refine hK.out _ _ HS3.out (fun hHelde15 => ?_)
                  clear hK K
                  (try simp only [Act.put, pA, pZ, pS])
                  refine wpAnyH_ready (rs := [16]) (by kernel_rfl) (by simp) ?_
                  refine AllReadyH.cons rfl (fun K hK => ?_) AllReadyH.nil
                  go_simp
                  refine (HI _).mono ?_; rintro _ w9 ⟨rfl, rfl⟩
                  refine hK.out _ _ HS3.out (fun hHelde16 => ?_)
                  clear hK K
                  (try simp only [Act.put, pA, pZ, pS])
                  refine wpAnyH_take (i := 17) (oi := ?oe17) (v := ?ve17) ?hie17 (by kernel_rfl) (by kernel_rfl) (by kernel_rfl) (fun _ _ _ h => h) ?hye17 (by assumption) ?reste17
                  case hie17 => simp only [gA, gS, gZ]; rfl
                  case hye17 =>
                    refine Or.inl ⟨by rfl, ?_⟩
                    intro w hSw; (try dsimp only at hSw); go_simp <;> (with_reducible rfl)
                  (try simp only [Act.put, pA, pZ, pS])
                  refine wpAnyH_take (i := 18) (oi := ?oe18) (v := ?ve18) ?hie18 (by kernel_rfl) (by kernel_rfl) (by kernel_rfl) (fun _ _ _ h => h) ?hye18 (by assumption) ?reste18
                  case hie18 => simp only [gA, gS, gZ]; rfl
                  case hye18 =>
                    refine Or.inl ⟨by rfl, ?_⟩
                    intro w hSw; (try dsimp only at hSw); go_simp <;> (with_reducible rfl)
                  (try simp only [Act.put, pA, pZ, pS])
                  refine wpAnyH_take (i := 19) (oi := ?oe19) (v := ?ve19) ?hie19 (by kernel_rfl) (by kernel_rfl) (by kernel_rfl) (fun _ _ _ h => h) ?hye19 (by assumption) ?reste19
                  case hie19 => simp only [gA, gS, gZ]; rfl
                  case hye19 =>
                    refine Or.inl ⟨by rfl, ?_⟩
                    intro w hSw; (try dsimp only at hSw); go_simp <;> (with_reducible rfl)
                  (try simp only [Act.put, pA, pZ, pS])
                  refine wpAnyH_done (by kernel_rfl) ?_ _
                  refine NoPanic.normal ?_
                  go_wp2_with fail
                  refine (jfail_any 11 p HS3.out.1.out.1).mono ?_
                  rintro _ w9 ⟨rfl, hjd, hmd⟩
                  go_wp2_with fail
                  go_ret
                  exact ⟨⟨_, rfl, rfl⟩, ⟨_, _, hjd⟩, ((HC6.out.2.trans (Mod.of_below HS3.out.1.out.2)).trans hmd).j1⟩
              · have hf0 : f = false := by rw [← HFF.out, ← HDD.out, nowP_end hel]; rfl
                subst hf0
                have hxe : x = .ok (v, e) := HXE.out
                subst hxe
                clear HXE HA
                refine wp_region_noPanic ?_
                refine wp_region_held_drew (S := (fun W => Hid (Jd W r s e m fw fa ∧ Below wc.heap.size wc W) ∧ W.cell? ⟨r, 0, none⟩ = some (.string s) ∧ W.cell? ⟨r, 1, none⟩ = some (.int .i64 e))) (by kernel_rfl) (by exact HS2.out) (fun hHeld => ?_)
                refine wpAnyH_take (i := 0) (oi := ?of0) (v := ?vf0) ?hif0 (by kernel_rfl) (by kernel_rfl) (by kernel_rfl) (fun _ _ _ h => h) ?hyf0 (by assumption) ?restf0
                case hif0 => simp only [gA, gZ]; rfl
                case hyf0 =>
                  refine Or.inl ⟨by rfl, ?_⟩
                  intro w hSw; (try dsimp only at hSw); go_simp <;> (with_reducible rfl)
                (try simp only [Act.put, pA, pZ, pS])
                refine wpAnyH_take (i := 1) (oi := ?of1) (v := ?vf1) ?hif1 (by kernel_rfl) (by kernel_rfl) (by kernel_rfl) (fun _ _ _ h => h) ?hyf1 (by assumption) ?restf1
                case hif1 => simp only [gA, gS, gZ]; rfl
                case hyf1 =>
                  refine Or.inl ⟨by rfl, ?_⟩
                  intro w hSw; (try dsimp only at hSw); go_simp <;> (with_reducible rfl)
                (try simp only [Act.put, pA, pZ, pS])
                refine wpAnyH_take (i := 2) (oi := ?of2) (v := ?vf2) ?hif2 (by kernel_rfl) (by kernel_rfl) (by kernel_rfl) (fun _ _ _ h => h) ?hyf2 (by assumption) ?restf2
                case hif2 => simp only [gA, gS, gZ]; rfl
                case hyf2 =>
                  refine Or.inl ⟨by rfl, ?_⟩
                  intro w hSw; (try dsimp only at hSw); go_simp <;> (with_reducible rfl)
                (try simp only [Act.put, pA, pZ, pS])
                refine wpAnyH_take (i := 3) (oi := ?of3) (v := ?vf3) ?hif3 (by kernel_rfl) (by kernel_rfl) (by kernel_rfl) (fun _ _ _ h => h) ?hyf3 (by assumption) ?restf3
                case hif3 => simp only [gA, gS, gZ]; rfl
                case hyf3 =>
                  refine Or.inl ⟨by rfl, ?_⟩
                  intro w hSw; (try dsimp only at hSw); go_simp <;> (with_reducible rfl)
                (try simp only [Act.put, pA, pZ, pS])
                refine wpAnyH_take (i := 4) (oi := ?of4) (v := ?vf4) ?hif4 (by kernel_rfl) (by kernel_rfl) (by kernel_rfl) (fun _ _ _ h => h) ?hyf4 (by assumption) ?restf4
                case hif4 => simp only [gA, gS, gZ]; rfl
                case hyf4 =>
                  refine Or.inl ⟨by rfl, ?_⟩
                  intro w hSw; (try dsimp only at hSw); go_simp <;> (with_reducible rfl)
                (try simp only [Act.put, pA, pZ, pS])
                refine wpAnyH_take (i := 5) (oi := ?of5) (v := ?vf5) ?hif5 (by kernel_rfl) (by kernel_rfl) (by kernel_rfl) (fun _ _ _ h => h) ?hyf5 (by assumption) ?restf5
                case hif5 => simp only [gA, gS, gZ]; rfl
                case hyf5 =>
                  refine Or.inl ⟨by rfl, ?_⟩
                  intro w hSw; (try dsimp only at hSw); go_simp <;> (with_reducible rfl)
                (try simp only [Act.put, pA, pZ, pS])
                refine wpAnyH_take (i := 6) (oi := ?of6) (v := ?vf6) ?hif6 (by kernel_rfl) (by kernel_rfl) (by kernel_rfl) (fun _ _ _ h => h) ?hyf6 (by assumption) ?restf6
                case hif6 => simp only [gA, gS, gZ]; rfl
                case hyf6 =>
                  refine Or.inl ⟨by rfl, ?_⟩
                  intro w hSw; (try dsimp only at hSw); go_simp <;> (with_reducible rfl)
                (try simp only [Act.put, pA, pZ, pS])
                refine wpAnyH_take (i := 7) (oi := ?of7) (v := ?vf7) ?hif7 (by kernel_rfl) (by kernel_rfl) (by kernel_rfl) (fun _ _ _ h => h) ?hyf7 (by assumption) ?restf7
                case hif7 => simp only [gA, gS, gZ]; rfl
                case hyf7 =>
                  refine Or.inl ⟨by rfl, ?_⟩
                  intro w hSw; (try dsimp only at hSw); go_simp <;> (with_reducible rfl)
                (try simp only [Act.put, pA, pZ, pS])
                refine wpAnyH_take (i := 8) (oi := ?of8) (v := ?vf8) ?hif8 (by kernel_rfl) (by kernel_rfl) (by kernel_rfl) (fun _ _ _ h => h) ?hyf8 (by assumption) ?restf8
                case hif8 => simp only [gA, gS, gZ]; rfl
                case hyf8 =>
                  refine Or.inl ⟨by rfl, ?_⟩
                  intro w hSw; (try dsimp only at hSw); go_simp <;> (with_reducible rfl)
                (try simp only [Act.put, pA, pZ, pS])
                refine wpAnyH_take (i := 9) (oi := ?of9) (v := ?vf9) ?hif9 (by kernel_rfl) (by kernel_rfl) (by kernel_rfl) (fun _ _ _ h => h) ?hyf9 (by assumption) ?restf9
                case hif9 => simp only [gA, gS, gZ]; rfl
                case hyf9 =>
                  refine Or.inl ⟨by rfl, ?_⟩
                  intro w hSw; (try dsimp only at hSw); go_simp <;> (with_reducible rfl)
                (try simp only [Act.put, pA, pZ, pS])
                refine wpAnyH_take (i := 10) (oi := ?of10) (v := ?vf10) ?hif10 (by kernel_rfl) (by kernel_rfl) (by kernel_rfl) (fun _ _ _ h => h) ?hyf10 (by assumption) ?restf10
                case hif10 => simp only [gA, gS, gZ]; rfl
                case hyf10 =>
                  refine Or.inl ⟨by rfl, ?_⟩
                  intro w hSw; (try dsimp only at hSw); go_simp <;> (with_reducible rfl)
                (try simp only [Act.put, pA, pZ, pS])
                refine wpAnyH_take (i := 11) (oi := ?of11) (v := ?vf11) ?hif11 (by kernel_rfl) (by kernel_rfl) (by kernel_rfl) (fun _ _ _ h => h) ?hyf11 (by assumption) ?restf11
                case hif11 => simp only [gA, gS, gZ]; rfl
                case hyf11 =>
                  refine Or.inl ⟨by rfl, ?_⟩
                  intro w hSw; (try dsimp only at hSw); go_simp <;> (with_reducible rfl)
                (try simp only [Act.put, pA, pZ, pS])
                refine wpAnyH_take (i := 12) (oi := ?of12) (v := ?vf12) ?hif12 (by kernel_rfl) (by kernel_rfl) (by kernel_rfl) (fun _ _ _ h => h) ?hyf12 (by assumption) ?restf12
                case hif12 => simp only [gA, gS, gZ]; rfl
                case hyf12 =>
                  refine Or.inl ⟨by rfl, ?_⟩
                  intro w hSw; (try dsimp only at hSw); go_simp <;> (with_reducible rfl)
                (try simp only [Act.put, pA, pZ, pS])
                refine wpAnyH_take (i := 13) (oi := ?of13) (v := ?vf13) ?hif13 (by kernel_rfl) (by kernel_rfl) (by kernel_rfl) (fun _ _ _ h => h) ?hyf13 (by assumption) ?restf13
                case hif13 => simp only [gA, gS, gZ]; rfl
                case hyf13 =>
                  refine Or.inl ⟨by rfl, ?_⟩
                  intro w hSw; (try dsimp only at hSw); go_simp <;> (with_reducible rfl)
                (try simp only [Act.put, pA, pZ, pS])
                refine wpAnyH_take (i := 14) (oi := ?of14) (v := undef) ?hif14 (by kernel_rfl) (by kernel_rfl) (by kernel_rfl) (fun _ _ _ h => h) ?hyf14 (by assumption) ?restf14
                case hif14 => simp only [gA, gS, gZ]; rfl
                case hyf14 => exact Or.inr ⟨by rfl, rfl⟩
                (try simp only [Act.put, pA, pZ, pS])
                refine wpAnyH_take (i := 15) (oi := ?of15) (v := undef) ?hif15 (by kernel_rfl) (by kernel_rfl) (by kernel_rfl) (fun _ _ _ h => h) ?hyf15 (by assumption) ?restf15
                case hif15 => simp only [gA, gS, gZ]; rfl
                case hyf15 => exact Or.inr ⟨by rfl, rfl⟩
                (try simp only [Act.put, pA, pZ, pS])
                refine wpAnyH_take (i := 16) (oi := ?of16) (v := undef) ?hif16 (by kernel_rfl) (by kernel_rfl) (by kernel_rfl) (fun _ _ _ h => h) ?hyf16 (by assumption) ?restf16
                case hif16 => simp only [gA, gS, gZ]; rfl
                case hyf16 => exact Or.inr ⟨by rfl, rfl⟩
                (try simp only [Act.put, pA, pZ, pS])
                refine wpAnyH_take (i := 17) (oi := ?of17) (v := undef) ?hif17 (by kernel_rfl) (by kernel_rfl) (by kernel_rfl) (fun _ _ _ h => h) ?hyf17 (by assumption) ?restf17
                case hif17 => simp only [gA, gS, gZ]; rfl
                case hyf17 => exact Or.inr ⟨by rfl, rfl⟩
                (try simp only [Act.put, pA, pZ, pS])
                refine wpAnyH_take (i := 18) (oi := ?of18) (v := ?vf18) ?hif18 (by kernel_rfl) (by kernel_rfl) (by kernel_rfl) (fun _ _ _ h => h) ?hyf18 (by assumption) ?restf18
                case hif18 => simp only [gA, gS, gZ]; rfl
                case hyf18 =>
                  refine Or.inl ⟨by rfl, ?_⟩
                  intro w hSw; (try dsimp only at hSw); go_simp <;> (with_reducible rfl)
                (try simp only [Act.put, pA, pZ, pS])
                refine wpAnyH_take (i := 19) (oi := ?of19) (v := ?vf19) ?hif19 (by kernel_rfl) (by kernel_rfl) (by kernel_rfl) (fun _ _ _ h => h) ?hyf19 (by assumption) ?restf19
                case hif19 => simp only [gA, gS, gZ]; rfl
                case hyf19 =>
                  refine Or.inl ⟨by rfl, ?_⟩
                  intro w hSw; (try dsimp only at hSw); go_simp <;> (with_reducible rfl)
                (try simp only [Act.put, pA, pZ, pS])
                refine wpAnyH_done (by kernel_rfl) ?_ _
                refine NoPanic.normal ?_
                have HS3 := HS1
                have HJ9 : Hid (Jd (w7) r s e m fw fa ∧ Mod (JF r) w (w7)) := Lib.hid ⟨HS3.out.1.out.1, HC6.out.2.trans (Mod.of_below HS3.out.1.out.2)⟩
                obtain ⟨a0, a1, a2, a3, ha⟩ := hStore _ HS3.out
                obtain ⟨⟨k0, f0⟩, ⟨k1, f1⟩, ⟨k2, f2⟩, ⟨k3, f3⟩, hend, hmod⟩ := st4 ha (.int .i64 2) (.int .i64 v) (.string ⟨#[]⟩) (.slice none 0 0)
                have HEND := Lib.hid hend
                have HMOD := Lib.hid hmod
                clear hend hmod hStore ha
                go_wp2_with fail
                go_ret
                exact ⟨⟨rfl, (HJ9.out.1.put HNE.out H6.out HMOD.out).under (Below.refl _ _).drew, HPE.out, HEND.out⟩, (HJ9.out.2.j1.trans HMOD.out.j2).trans (Mod.of_below (Below.refl _ _).drew)⟩
            · have hv' : ∀ v, Lib.atoiAll (s.extract p e).toList ≠ .ok v := fun v h => hv ⟨v, h⟩
              have HA := atoi_bad hts hv'
              have hxe : x = .error (11, p) := by
                rw [hX2]; unfold numText
                rcases hr : Lib.atoiAll (s.extract p e).toList with v | _ | _
                · exact absurd hr (hv' v)
                · rfl
                · rfl
              subst hxe
              clear hv hv' hX2 HX2 hts
              go_wp2_with fail
              refine wp_region_noPanic ?_
              refine wp_region_held_drew (S := (fun W => Hid (Jd W r s e m fw fa ∧ Below wc.heap.size wc W) ∧ W.cell? ⟨r, 0, none⟩ = some (.string s) ∧ W.cell? ⟨r, 1, none⟩ = some (.int .i64 e))) (by kernel_rfl) (by exact HS0.out) (fun hHeld => ?_)
              refine wpAnyH_take (i := 0) (oi := ?og0) (v := ?vg0) ?hig0 (by kernel_rfl) (by kernel_rfl) (by kernel_rfl) (fun _ _ _ h => h) ?hyg0 (by assumption) ?restg0
              case hig0 => simp only [gA, gZ]; rfl
              case hyg0 =>
                refine Or.inl ⟨by rfl, ?_⟩
                intro w hSw; (try dsimp only at hSw); go_simp <;> (with_reducible rfl)
              (try simp only [Act.put, pA, pZ, pS])
              refine wpAnyH_take (i := 1) (oi := ?og1) (v := ?vg1) ?hig1 (by kernel_rfl) (by kernel_rfl) (by kernel_rfl) (fun _ _ _ h => h) ?hyg1 (by assumption) ?restg1
              case hig1 => simp only [gA, gS, gZ]; rfl
              case hyg1 =>
                refine Or.inl ⟨by rfl, ?_⟩
                intro w hSw; (try dsimp only at hSw); go_simp <;> (with_reducible rfl)
              (try simp only [Act.put, pA, pZ, pS])
              refine wpAnyH_take (i := 2) (oi := ?og2) (v := ?vg2) ?hig2 (by kernel_rfl) (by kernel_rfl) (by kernel_rfl) (fun _ _ _ h => h) ?hyg2 (by assumption) ?restg2
              case hig2 => simp only [gA, gS, gZ]; rfl
              case hyg2 =>
                refine Or.inl ⟨by rfl, ?_⟩
                intro w hSw; (try dsimp only at hSw); go_simp <;> (with_reducible rfl)
              (try simp only [Act.put, pA, pZ, pS])
              refine wpAnyH_take (i := 3) (oi := ?og3) (v := ?vg3) ?hig3 (by kernel_rfl) (by kernel_rfl) (by kernel_rfl) (fun _ _ _ h => h) ?hyg3 (by assumption) ?restg3
              case hig3 => simp only [gA, gS, gZ]; rfl
              case hyg3 =>
                refine Or.inl ⟨by rfl, ?_⟩
                intro w hSw; (try dsimp only at hSw); go_simp <;> (with_reducible rfl)
              (try simp only [Act.put, pA, pZ, pS])
              refine wpAnyH_take (i := 4) (oi := ?og4) (v := ?vg4) ?hig4 (by kernel_rfl) (by kernel_rfl) (by kernel_rfl) (fun _ _ _ h => h) ?hyg4 (by assumption) ?restg4
              case hig4 => simp only [gA, gS, gZ]; rfl
              case hyg4 =>
                refine Or.inl ⟨by rfl, ?_⟩
                intro w hSw; (try dsimp only at hSw); go_simp <;> (with_reducible rfl)
              (try simp only [Act.put, pA, pZ, pS])
              refine wpAnyH_take (i := 5) (oi := ?og5) (v := ?vg5) ?hig5 (by kernel_rfl) (by kernel_rfl) (by kernel_rfl) (fun _ _ _ h => h) ?hyg5 (by assumption) ?restg5
              case hig5 => simp only [gA, gS, gZ]; rfl
              case hyg5 =>
                refine Or.inl ⟨by rfl, ?_⟩
                intro w hSw; (try dsimp only at hSw); go_simp <;> (with_reducible rfl)
              (try simp only [Act.put, pA, pZ, pS])
              refine wpAnyH_take (i := 6) (oi := ?og6) (v := ?vg6) ?hig6 (by kernel_rfl) (by kernel_rfl) (by kernel_rfl) (fun _ _ _ h => h) ?hyg6 (by assumption) ?restg6
              case hig6 => simp only [gA, gS, gZ]; rfl
              case hyg6 =>
                refine Or.inl ⟨by rfl, ?_⟩
                intro w hSw; (try dsimp only at hSw); go_simp <;> (with_reducible rfl)
              (try simp only [Act.put, pA, pZ, pS])
              refine wpAnyH_take (i := 7) (oi := ?og7) (v := ?vg7) ?hig7 (by kernel_rfl) (by kernel_rfl) (by kernel_rfl) (fun _ _ _ h => h) ?hyg7 (by assumption) ?restg7
              case hig7 => simp only [gA, gS, gZ]; rfl
              case hyg7 =>
                refine Or.inl ⟨by rfl, ?_⟩
                intro w hSw; (try dsimp only at hSw); go_simp <;> (with_reducible rfl)
              (try simp only [Act.put, pA, pZ, pS])
              refine wpAnyH_take (i := 8) (oi := ?og8) (v := ?vg8) ?hig8 (by kernel_rfl) (by kernel_rfl) (by kernel_rfl) (fun _ _ _ h => h) ?hyg8 (by assumption) ?restg8
              case hig8 => simp only [gA, gS, gZ]; rfl
              case hyg8 =>
                refine Or.inl ⟨by rfl, ?_⟩
                intro w hSw; (try dsimp only at hSw); go_simp <;> (with_reducible rfl)
              (try simp only [Act.put, pA, pZ, pS])
              refine wpAnyH_take (i := 9) (oi := ?og9) (v := ?vg9) ?hig9 (by kernel_rfl) (by kernel_rfl) (by kernel_rfl) (fun _ _ _ h => h) ?hyg9 (by assumption) ?restg9
              case hig9 => simp only [gA, gS, gZ]; rfl
              case hyg9 =>
                refine Or.inl ⟨by rfl, ?_⟩
                intro w hSw; (try dsimp only at hSw); go_simp <;> (with_reducible rfl)
              (try simp only [Act.put, pA, pZ, pS])
              refine wpAnyH_ready (rs := [10]) (by kernel_rfl) (by simp) ?_
              refine AllReadyH.cons rfl (fun K hK => ?_) AllReadyH.nil
              go_simp
              have hHX := hHeld; refine (HA _ (Hid.out (And.left hHX)).1.tab).mono ?_; rintro _ w7 ⟨y, py, rfl, hb⟩; have HS1 : Hid (JS r s e m fw fa wc w7) := Lib.hid (JS.next hHeld hb); clear hb
              refine hK.out _ _ HS1.out (fun hHeldg10 => ?_)
              clear hK K
              (try simp only [Act.put, pA, pZ, pS])
              refine wpAnyH_take (i := 11) (oi := ?og11) (v := ?vg11) ?hig11 (by kernel_rfl) (by kernel_rfl) (by kernel_rfl) (fun _ _ _ h => h) ?hyg11 (by assumption) ?restg11
              case hig11 => simp only [gA, gS, gZ]; rfl
              case hyg11 =>
                refine Or.inl ⟨by rfl, ?_⟩
                intro w hSw; (try dsimp only at hSw); go_simp <;> (with_reducible rfl)
              (try simp only [Act.put, pA, pZ, pS])
              refine wpAnyH_take (i := 12) (oi := ?og12) (v := ?vg12) ?hig12 (by kernel_rfl) (by kernel_rfl) (by kernel_rfl) (fun _ _ _ h => h) ?hyg12 (by assumption) ?restg12
              case hig12 => simp only [gA, gS, gZ]; rfl
              case hyg12 =>
                refine Or.inl ⟨by rfl, ?_⟩
                intro w hSw; (try dsimp only at hSw); go_simp <;> (with_reducible rfl)
              (try simp only [Act.put, pA, pZ, pS])
              refine wpAnyH_take (i := 13) (oi := ?og13) (v := ?vg13) ?hig13 (by kernel_rfl) (by kernel_rfl) (by kernel_rfl) (fun _ _ _ h => h) ?hyg13 (by assumption) ?restg13
              case hig13 => simp only [gA, gS, gZ]; rfl
              case hyg13 =>
                refine Or.inl ⟨by rfl, ?_⟩
                intro w hSw; (try dsimp only at hSw); go_simp <;> (with_reducible rfl)
              (try simp only [Act.put, pA, pZ, pS])
              refine wpAnyH_take (i := 14) (oi := ?og14) (v := ?vg14) ?hig14 (by kernel_rfl) (by kernel_rfl) (by kernel_rfl) (fun _ _ _ h => h) ?hyg14 (by assumption) ?restg14
              case hig14 => simp only [gA, gS, gZ]; rfl
              case hyg14 =>
                refine Or.inl ⟨by rfl, ?_⟩
                intro w hSw; (try dsimp only at hSw); go_simp <;> (with_reducible rfl)
              (try simp only [Act.put, pA, pZ, pS])
              refine wpAnyH_take (i := 15) (oi := ?og15) (v := ?vg15) ?hig15 (by kernel_rfl) (by kernel_rfl) (by kernel_rfl) (fun _ _ _ h => h) ?hyg15 (by assumption) ?restg15
              case hig15 => simp only [gA, gS, gZ]; rfl
              case hyg15 =>
                refine Or.inl ⟨by rfl, ?_⟩
                intro w hSw; (try dsimp only at hSw); go_simp <;> (with_reducible rfl)
              (try simp only [Act.put, pA, pZ, pS])
              refine wpAnyH_done (by kernel_rfl) ?_ _
              refine NoPanic.normal ?_
              go_wp2_with fail
              have HS2 : Hid (JS r s e m fw fa wc w7.drew) := Lib.hid (JS.next HS1.out (Below.refl w7.heap.size w7).drew)
              refine wp_region_noPanic ?_
              refine wp_region_held_drew (S := (fun W => Hid (Jd W r s e m fw fa ∧ Below wc.heap.size wc W) ∧ W.cell? ⟨r, 0, none⟩ = some (.string s) ∧ W.cell? ⟨r, 1, none⟩ = some (.int .i64 e))) (by kernel_rfl) (by exact HS2.out) (fun hHeld => ?_)
              refine wpAnyH_take (i := 0) (oi := ?oh0) (v := ?vh0) ?hih0 (by kernel_rfl) (by kernel_rfl) (by kernel_rfl) (fun _ _ _ h => h) ?hyh0 (by assumption) ?resth0
              case hih0 => simp only [gA, gZ]; rfl
              case hyh0 =>
                refine Or.inl ⟨by rfl, ?_⟩
                intro w hSw; (try dsimp only at hSw); go_simp <;> (with_reducible rfl)
              (try simp only [Act.put, pA, pZ, pS])
              refine wpAnyH_take (i := 1) (oi := ?oh1) (v := ?vh1) ?hih1 (by kernel_rfl) (by kernel_rfl) (by kernel_rfl) (fun _ _ _ h => h) ?hyh1 (by assumption) ?resth1
              case hih1 => simp only [gA, gS, gZ]; rfl
              case hyh1 =>
                refine Or.inl ⟨by rfl, ?_⟩
                intro w hSw; (try dsimp only at hSw); go_simp <;> (with_reducible rfl)
              (try simp only [Act.put, pA, pZ, pS])
              refine wpAnyH_take (i := 2) (oi := ?oh2) (v := ?vh2) ?hih2 (by kernel_rfl) (by kernel_rfl) (by kernel_rfl) (fun _ _ _ h => h) ?hyh2 (by assumption) ?resth2
              case hih2 => simp only [gA, gS, gZ]; rfl
              case hyh2 =>
                refine Or.inl ⟨by rfl, ?_⟩
                intro w hSw; (try dsimp only at hSw); go_simp <;> (with_reducible rfl)
              (try simp only [Act.put, pA, pZ, pS])
              refine wpAnyH_take (i := 3) (oi := ?oh3) (v := undef) ?hih3 (by kernel_rfl) (by kernel_rfl) (by kernel_rfl) (fun _ _ _ h => h) ?hyh3 (by assumption) ?resth3
              case hih3 => simp only [gA, gS, gZ]; rfl
              case hyh3 => exact Or.inr ⟨by rfl, rfl⟩
              (try simp only [Act.put, pA, pZ, pS])
              refine wpAnyH_take (i := 4) (oi := ?oh4) (v := undef) ?hih4 (by kernel_rfl) (by kernel_rfl) (by kernel_rfl) (fun _ _ _ h => h) ?hyh4 (by assumption) ?resth4
              case hih4 => simp only [gA, gS, gZ]; rfl
              case hyh4 => exact Or.inr ⟨by rfl, rfl⟩
              (try simp only [Act.put, pA, pZ, pS])
              refine wpAnyH_take (i := 5) (oi := ?oh5) (v := undef) ?hih5 (by kernel_rfl) (by kernel_rfl) (by kernel_rfl) (fun _ _ _ h => h) ?hyh5 (by assumption) ?resth5
              case hih5 => simp only [gA, gS, gZ]; rfl
              case hyh5 => exact Or.inr ⟨by rfl, rfl⟩
              (try simp only [Act.put, pA, pZ, pS])
              refine wpAnyH_take (i := 6) (oi := ?oh6) (v := undef) ?hih6 (by kernel_rfl) (by kernel_rfl) (by kernel_rfl) (fun _ _ _ h => h) ?hyh6 (by assumption) ?resth6
              case hih6 => simp only [gA, gS, gZ]; rfl
              case hyh6 => exact Or.inr ⟨by rfl, rfl⟩
              (try simp only [Act.put, pA, pZ, pS])
              refine wpAnyH_take (i := 7) (oi := ?oh7) (v := undef) ?hih7 (by kernel_rfl) (by kernel_rfl) (by kernel_rfl) (fun _ _ _ h => h) ?hyh7 (by assumption) ?resth7
              case hih7 => simp only [gA, gS, gZ]; rfl
              case hyh7 => exact Or.inr ⟨by rfl, rfl⟩
              (try simp only [Act.put, pA, pZ, pS])
              refine wpAnyH_take (i := 8) (oi := ?oh8) (v := undef) ?hih8 (by kernel_rfl) (by kernel_rfl) (by kernel_rfl) (fun _ _ _ h => h) ?hyh8 (by assumption) ?resth8
              case hih8 => simp only [gA, gS, gZ]; rfl
              case hyh8 => exact Or.inr ⟨by rfl, rfl⟩
              (try simp only [Act.put, pA, pZ, pS])
              refine wpAnyH_take (i := 9) (oi := ?oh9) (v := undef) ?hih9 (by kernel_rfl) (by kernel_rfl) (by kernel_rfl) (fun _ _ _ h => h) ?hyh9 (by assumption) ?resth9
              case hih9 => simp only [gA, gS, gZ]; rfl
              case hyh9 => exact Or.inr ⟨by rfl, rfl⟩
              (try simp only [Act.put, pA, pZ, pS])
              refine wpAnyH_take (i := 10) (oi := ?oh10) (v := undef) ?hih10 (by kernel_rfl) (by kernel_rfl) (by kernel_rfl) (fun _ _ _ h => h) ?hyh10 (by assumption) ?resth10
              case hih10 => simp only [gA, gS, gZ]; rfl
              case hyh10 => exact Or.inr ⟨by rfl, rfl⟩
              (try simp only [Act.put, pA, pZ, pS])
              refine wpAnyH_take (i := 11) (oi := ?oh11) (v := undef) ?hih11 (by kernel_rfl) (by kernel_rfl) (by kernel_rfl) (fun _ _ _ h => h) ?hyh11 (by assumption) ?resth11
              case hih11 => simp only [gA, gS, gZ]; rfl
              case hyh11 => exact Or.inr ⟨by rfl, rfl⟩
              (try simp only [Act.put, pA, pZ, pS])
              refine wpAnyH_take (i := 12) (oi := ?oh12) (v := undef) ?hih12 (by kernel_rfl) (by kernel_rfl) (by kernel_rfl) (fun _ _ _ h => h) ?hyh12 (by assumption) ?resth12
              case hih12 => simp only [gA, gS, gZ]; rfl
              case hyh12 => exact Or.inr ⟨by rfl, rfl⟩
              (try simp only [Act.put, pA, pZ, pS])
              refine wpAnyH_take (i := 13) (oi := ?oh13) (v := undef) ?hih13 (by kernel_rfl) (by kernel_rfl) (by kernel_rfl) (fun _ _ _ h => h) ?hyh13 (by assumption) ?resth13
              case hih13 => simp only [gA, gS, gZ]; rfl
              case hyh13 => exact Or.inr ⟨by rfl, rfl⟩
              (try simp only [Act.put, pA, pZ, pS])
              refine wpAnyH_take (i := 14) (oi := ?oh14) (v := undef) ?hih14 (by kernel_rfl) (by kernel_rfl) (by kernel_rfl) (fun _ _ _ h => h) ?hyh14 (by assumption) ?resth14
              case hih14 => simp only [gA, gS, gZ]; rfl
              case hyh14 => exact Or.inr ⟨by rfl, rfl⟩
              (try simp only [Act.put, pA, pZ, pS])
              refine wpAnyH_take (i := 15) (oi := ?oh15) (v := undef) ?hih15 (by kernel_rfl) (by kernel_rfl) (by kernel_rfl) (fun _ _ _ h => h) ?hyh15 (by assumption) ?resth15
              case hih15 => simp only [gA, gS, gZ]; rfl
              case hyh15 => exact Or.inr ⟨by rfl, rfl⟩
              (try simp only [Act.put, pA, pZ, pS])
              refine wpAnyH_take (i := 16) (oi := ?oh16) (v := undef) ?hih16 (by kernel_rfl) (by kernel_rfl) (by kernel_rfl) (fun _ _ _ h => h) ?hyh16 (by assumption) ?resth16
              case hih16 => simp only [gA, gS, gZ]; rfl
              case hyh16 => exact Or.inr ⟨by rfl, rfl⟩
              (try simp only [Act.put, pA, pZ, pS])
              refine wpAnyH_take (i := 17) (oi := ?oh17) (v := undef) ?hih17 (by kernel_rfl) (by kernel_rfl) (by kernel_rfl) (fun _ _ _ h => h) ?hyh17 (by assumption) ?resth17
              case hih17 => simp only [gA, gS, gZ]; rfl
              case hyh17 => exact Or.inr ⟨by rfl, rfl⟩
              (try simp only [Act.put, pA, pZ, pS])
              refine wpAnyH_take (i := 18) (oi := ?oh18) (v := undef) ?hih18 (by kernel_rfl) (by kernel_rfl) (by kernel_rfl) (fun _ _ _ h => h) ?hyh18 (by assumption) ?resth18
              case hih18 => simp only [gA, gS, gZ]; rfl
              case hyh18 => exact Or.inr ⟨by rfl, rfl⟩
              (try simp only [Act.put, pA, pZ, pS])
              refine wpAnyH_take (i := 19) (oi := ?oh19) (v := ?vh19) ?hih19 (by kernel_rfl) (by kernel_rfl) (by kernel_rfl) (fun _ _ _ h => h) ?hyh19 (by assumption) ?resth19
              case hih19 => simp only [gA, gS, gZ]; rfl
              case hyh19 =>
                refine Or.inl ⟨by rfl, ?_⟩
                intro w hSw; (try dsimp only at hSw); go_simp <;> (with_reducible rfl)
              (try simp only [Act.put, pA, pZ, pS])
              refine wpAnyH_done (by kernel_rfl) ?_ _
              refine NoPanic.normal ?_
              have HS3 := HS2
              go_wp2_with fail
              refine (jfail_any 11 p HS3.out.1.out.1).mono ?_
              rintro _ w9 ⟨rfl, hjd, hmd⟩
              go_wp2_with fail
              go_ret
              exact ⟨⟨_, rfl, rfl⟩, ⟨_, _, hjd⟩, ((HC6.out.2.trans (Mod.of_below HS3.out.1.out.2)).trans hmd).j1⟩
          · have hdt : isDig d = true ∧ z = false := by
              have := HCT.out
              simp only [Bool.and_eq_true, Bool.not_eq_true'] at this
              exact ⟨this.2, this.1⟩
            have hjl : j < s.size := dig_now_lt (by rw [HDD.out]; exact hdt.1)
            have HEJ : Hid (e = if z = true then j + 1 else endP s (j + 1)) := Lib.hid (by
              rw [HJ.out.2.2, hdt.2, if_neg (by decide), if_neg (by decide), endP_step hjl (by rw [← nowP_lt hjl, HDD.out]; exact hdt.1)])
            have hqj := HJ.out.2.1
            obtain ⟨hw', hw⟩ := wr_sm (x := (j : Int) + 1) (by omega) (by omega)
            obtain ⟨c0, c1, -, -, -⟩ := HC6.out.1.cells
            have ff := free_blk HC6.out.1.blk 1
            have HJL := Lib.hid hjl
            clear hdt hjl HJ
            go_wp2_with fail
            go_roundg (s.size - (j + 1))
            case measure => have := HJL.out; omega
            case rel => exact ⟨j + 1, rfl, Lib.hid ⟨HJL.out, by omega, HEJ.out⟩, Lib.hid ⟨HC6.out.1.setAt HJL.out (by omega) (by omega), HC6.out.2.trans (setJ_mod _ _ _ _)⟩⟩
    · rw [if_neg hdg] at hX2
      subst hX2
      have hdg2 : c.toNat < 48 ∨ 57 < c.toNat := by
        have h0 : ¬ (48 ≤ c.toNat ∧ c.toNat ≤ 57) := fun h => hdg ((dig_iff c).2 h)
        omega
      clear hdg HX
      by_cases h48 : c.toNat < 48
      · clear hdg2
        go_wp2_with fail
        refine HN1.mono ?_
        rintro _ w2 ⟨rfl, hb⟩
        have HC2 : Hid (Jd w2 r s q m fw fa ∧ Mod (JF r) w w2) := Lib.hid ⟨HC.out.1.under hb, HC.out.2.trans (Mod.of_below hb)⟩
        clear hb HN1 HC
        go_wp2_with fail
        refine (jwrong_any HC2.out.1).mono ?_
        rintro _ w3 ⟨rfl, hjd, hmd⟩
        go_wp2_with fail
        go_ret
        exact ⟨⟨_, rfl, rfl⟩, ⟨_, _, hjd⟩, (HC2.out.2.trans hmd).j1⟩
      · have h57 : 57 < c.toNat := by omega
        clear hdg2
        go_wp2_with fail
        refine HN1.mono ?_
        rintro _ w2 ⟨rfl, hb⟩
        have HC2 : Hid (Jd w2 r s q m fw fa ∧ Mod (JF r) w w2) := Lib.hid ⟨HC.out.1.under hb, HC.out.2.trans (Mod.of_below hb)⟩
        have HN2 := jnow_any HC2.out.1
        rw [HCC.out] at HN2
        clear hb HN1 HC
        go_wp2_with fail
        refine HN2.mono ?_
        rintro _ w3 ⟨rfl, hb⟩
        have HC3 : Hid (Jd w3 r s q m fw fa ∧ Mod (JF r) w w3) := Lib.hid ⟨HC2.out.1.under hb, HC2.out.2.trans (Mod.of_below hb)⟩
        clear hb HN2 HC2
        go_wp2_with fail
        refine (jwrong_any HC3.out.1).mono ?_
        rintro _ w4 ⟨rfl, hjd, hmd⟩
        go_wp2_with fail
        go_ret
        exact ⟨⟨_, rfl, rfl⟩, ⟨_, _, hjd⟩, (HC3.out.2.trans hmd).j1⟩
end Go.Proofs.YtnaefnojmiolbaaGreatDoor
