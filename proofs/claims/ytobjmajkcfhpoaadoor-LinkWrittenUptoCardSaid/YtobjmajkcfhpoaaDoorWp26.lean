/-
  The document's gifts (printed by genRGift17.py).
-/
import Derived.Test.YtobjmajkcfhpoaaDoorWp25
namespace Go.Proofs.YtobjmajkcfhpoaaDoor
open Go.RowKit
attribute [local go_sem] yld_undef
theorem methP_mem {l : List MtP} {n : ByteArray} {x : MtP} (h : methP l n = some x) : x ∈ l := by
 unfold methP fstP at h; cases hi : idxP (fun x : MtP => eqB x.nm n) l with
 | none => rw [hi] at h; cases h
 | some i =>
  rw [hi] at h; exact List.mem_of_getElem? h
def GQ (W W1 : World) (PM : MtP → Prop) (v : Value) (N : Nat) : Prop := ∃ l : List MtP, OR W W1 34 6 v (l.map MtP.row) ∧ (∀ m ∈ l, PM m) ∧ l.length ≤ N
theorem GQ.mono {W W1 : World} {PM : MtP → Prop} {v : Value} {N M : Nat} (h : GQ W W1 PM v N) (hN : N ≤ M) : GQ W W1 PM v M := by
 obtain ⟨l, h1, h2, h3⟩ := h; exact ⟨l, h1, h2, Nat.le_trans h3 hN⟩
theorem GQ.same {W W1 W2 : World} {PM : MtP → Prop} {v : Value} {N : Nat} (h : GQ W W1 PM v N) (hb : Below W1.heap.size W1 W2) : GQ W W2 PM v N := by
 obtain ⟨l, h1, h2, h3⟩ := h; exact ⟨l, h1.same hb, h2, h3⟩
theorem GQ.below {W W1 : World} {PM : MtP → Prop} {v : Value} {N : Nat} (h : GQ W W1 PM v N) : Below W.heap.size W W1 := by
 obtain ⟨l, h1, h2, h3⟩ := h; exact h1.below
set_option maxHeartbeats 25600000 in
set_option maxRecDepth 100000 in
theorem rgifts_any {w0 W : World} {b : Nat} {s : RS} {J : RS → RS} (PM : MtP → Prop) (h : RG w0 W b s J) (hJ : PhE J) (hrs : s.rs.length ≤ 1048576) (hms : ∀ t ∈ s.rs, t.1.ms.length ≤ 1048576) (had : s.d.1.ad.length ≤ 1048576) (hot : ∀ a ∈ s.d.1.ad, a.ot.length ≤ 1048576)
  (hpm : ∀ t ∈ s.rs, ∀ m ∈ t.1.ms, PM m) (hpa : ∀ a ∈ s.d.1.ad, emT a.sa = false → ∀ t ∈ s.rs, ∀ m ∈ t.1.ms, PM { m with nm := a.sa }) :
  Calls Tryd.prog 79 #[.pointer (some ⟨b, 0, none⟩)] W (fun e w' => ∃ v, e = .returned v ∧ GQ W w' PM v 2199024304128) := by
 obtain ⟨xs, hxs, hxr⟩ := rda_rows h.own; have HJ := Hd hJ; have HO := Hd h; have HRN : Hid (s.r.n = s.rs.length) := Hd (by have h9 := rin_n (rr_row h.own); rw [List.length_map] at h9; exact h9); have hlx : xs.length = s.d.1.ad.length := by rw [← hxs, List.length_map]
 have HXN : Hid (s.d.2.a.n = xs.length) := Hd (by have h9 := rin_n (hxr W s.e h.own).1; rw [List.length_map] at h9; exact h9); have HXR := Hd hxr; have HXL : Hid (xs.length ≤ 1048576 ∧ ∀ a ∈ xs, a.1 ∈ s.d.1.ad) := Hd ⟨by omega, fun a ha => by rw [← hxs]; exact List.mem_map_of_mem ha⟩; have HOT := Hd hot; have HMS := Hd hms; have HPM := Hd hpm; have HPA := Hd hpa; have HG0 : Hid (GQ W W PM (.slice none 0 0) (0 * 1048576)) := Hd ⟨[], OR.nil, (fun _ h => (by cases h)), Nat.zero_le _⟩; clear h hJ hxs hxr hlx hot hms hpm hpa had; go_enter Tryd.func79, Tryd.ntmps79; go_wp2_with fail; go_loopw [3, 4, 5, 6, 7, 8, 9] (fun gv kv _ _ _ _ _ wr => ∃ (k : Nat) (uo : Option Addr) (L uc : Nat), k ≤ s.rs.length ∧ kv = .int .i64 k ∧ gv = .slice uo L uc ∧ Hid (GQ W wr PM (.slice uo L uc) (k * 1048576))) (fun _ kv _ _ _ _ _ _ => s.rs.length - (intOf kv).toNat)
 case atStart => exact ⟨0, none, 0, 0, Nat.zero_le _, rfl, rfl, HG0⟩
 case round =>
  clear HG0; obtain ⟨k, uo, L, uc, hk, rfl, rfl, HG⟩ := hrel; have HS1 := Hd (HO.out.same HG.out.below); have h34 : wr.cell? ⟨b, 34, none⟩ = some (.slice s.r.o s.rs.length s.r.c) := by
   have h9 : wr.cell? ⟨b, 34, none⟩ = some (.slice s.r.o s.r.n s.r.c) := (cB HS1.out.blk 34).trans (HJ.out.at34 _); rw [HRN.out] at h9; exact h9
  by_cases hlt : k < s.rs.length
  ·have hi : (k : Int) < (s.rs.length : Int) := by omega
   obtain ⟨hw', hw⟩ := wr_sm (x := (k : Int) + 1) (by omega) (by omega); obtain ⟨t, ht⟩ : ∃ t, s.rs[k]? = some t := ⟨s.rs[k], List.getElem?_eq_getElem hlt⟩; have HT := Hd ht; have HTM : Hid (t ∈ s.rs) := Hd (List.mem_of_getElem? ht); have HTL : Hid (t.1.ms.length ≤ 1048576) := Hd (HMS.out t HTM.out); have HTN : Hid (t.2.m.n = t.1.ms.length) := Hd (by have h9 := rin_n (rT_at HS1.out.own HTM.out).hm; rw [List.length_map] at h9; exact h9); have Hkl := Hd hlt; have HG1 : Hid (GQ W wr PM (.slice uo L uc) (k * 1048576 + 0)) := Hd (HG.out.mono (Nat.le_add_right _ _)); clear ht hlt; go_wp2_with fail; clear h34 HG HS1; go_loopw [3, 5, 6, 7, 8, 9] (fun gv jv _ _ _ _ wr => ∃ (j : Nat) (uo : Option Addr) (L uc : Nat), j ≤ t.1.ms.length ∧ jv = .int .i64 j ∧ gv = .slice uo L uc ∧ Hid (GQ W wr PM (.slice uo L uc) (k * 1048576 + j))) (fun _ jv _ _ _ _ _ => t.1.ms.length - (intOf jv).toNat)
   case atStart => exact ⟨0, uo, L, uc, Nat.zero_le _, rfl, rfl, HG1⟩
   case round =>
    clear HG1; obtain ⟨j, uo, L, uc, hj, rfl, rfl, HG⟩ := hrel; have HS1 := Hd (HO.out.same HG.out.below); obtain ⟨t', g, off, cp, ht', -, -, e, hg, -, hc⟩ := kc_cells (rr_row HS1.out.own) Hkl.out; have hki : (k : Int) < (s.rs.length : Int) := by have := Hkl.out; omega
    have ht9 : t' = t := by have h9 := HT.out; rw [show s.rs[k]? = some t' from ht'] at h9; cases h9; rfl
    subst ht9; have h34 : wr.cell? ⟨b, 34, none⟩ = some (.slice (some ⟨g, off, none⟩) s.rs.length cp) := by
     have h9 : wr.cell? ⟨b, 34, none⟩ = some (.slice s.r.o s.r.n s.r.c) := (cB HS1.out.blk 34).trans (HJ.out.at34 _); rw [e] at h9; exact h9
    have H34 := Hd h34; have HTC : Hid (∀ V, Below wr.heap.size wr V → V.cell? ⟨g, off + k * 11, none⟩ = some (.string t'.1.nm)) := Hd (fun V hV => (hc V hV).1); obtain ⟨-, -, -, -, -, -, -, -, -, -, d10⟩ := hc _ (Below.refl _ _); rw [HTN.out] at d10; have htl := HTL.out; clear ht' e hg hc; by_cases hlt : j < t'.1.ms.length
    ·have hi2 : (j : Int) < (t'.1.ms.length : Int) := by omega
     obtain ⟨hw2', hw2⟩ := wr_sm (x := (j : Int) + 1) (by omega) (by omega); have Hjl := Hd hlt; have HX : Hid (RIn (NB b) wr 6 (.slice t'.2.m.o t'.2.m.n t'.2.m.c) (t'.1.ms.map MtP.row)) := Hd (rT_at HS1.out.own HTM.out).hm; obtain ⟨m, g2, off2, cp2, hm, hmm, -, e, -, -, hc2⟩ := mt_cells HX.out hlt; have e9 := e; rw [HTN.out] at e9; simp only [Value.slice.injEq] at e9; obtain ⟨e1, -, -⟩ := e9; rw [e1] at d10; obtain ⟨y0, y1, y2, y3, y4, y5⟩ := hc2 _ (Below.refl _ _); have HMM := Hd hmm; have B1 := Hd (below_alloc1 wr (.cells #[.string m.nm, .bool m.st, .bool m.ab, .bool m.fi, .string m.fr, .int .i64 m.cd] 34)); have XM : Hid ((wr.alloc (.cells #[.string m.nm, .bool m.st, .bool m.ab, .bool m.fi, .string m.fr, .int .i64 m.cd] 34)).heap[wr.heap.size]? = some (.cells #[.string m.nm, .bool m.st, .bool m.ab, .bool m.fi, .string m.fr, .int .i64 m.cd] 34 (0, 0))) := Hd (heap_alloc_new wr _); clear e hlt HX e1 hc2 hm hmm; go_wp2_with fail; clear y0 y1 y2 y3 y4 y5 d10 h34; obtain ⟨wm, hwm⟩ : ∃ wm, wm = wr := ⟨_, rfl⟩; subst hwm; have HBM : Hid (Below (wm.alloc (.cells #[.string m.nm, .bool m.st, .bool m.ab, .bool m.fi, .string m.fr, .int .i64 m.cd] 34)).heap.size (wm.alloc (.cells #[.string m.nm, .bool m.st, .bool m.ab, .bool m.fi, .string m.fr, .int .i64 m.cd] 34)) (wm.alloc (.cells #[.string m.nm, .bool m.st, .bool m.ab, .bool m.fi, .string m.fr, .int .i64 m.cd] 34))) := Hd (Below.refl _ _); obtain ⟨wn, hwn⟩ : ∃ wn, wn = wm.alloc (.cells #[.string m.nm, .bool m.st, .bool m.ab, .bool m.fi, .string m.fr, .int .i64 m.cd] 34) := ⟨_, rfl⟩
     rw [← hwn] at HBM XM B1 ⊢; clear hwn; go_loopw [7, 8, 9] (fun nv qv _ wr => ∃ (i : Nat) (gone : Bool), i ≤ xs.length ∧ qv = .int .i64 i ∧ nv = .bool gone ∧ Hid (Below wn.heap.size wn wr)) (fun _ qv _ _ => xs.length - (intOf qv).toNat)
     case atStart => exact ⟨0, false, Nat.zero_le _, rfl, rfl, HBM⟩
     case round =>
      clear HBM; obtain ⟨i, gone, hii, rfl, rfl, HBM⟩ := hrel; have HBA := Hd (B1.out.trans (HBM.out.mono B1.out.size)); have HS2 := Hd (HS1.out.same HBA.out); have h7 : wr.cell? ⟨b, 7, none⟩ = some (.slice s.d.2.a.o xs.length s.d.2.a.c) := by
       have h9 : wr.cell? ⟨b, 7, none⟩ = some (.slice s.d.2.a.o s.d.2.a.n s.d.2.a.c) := (cB HS2.out.blk 7).trans (HJ.out.at7 _); rw [HXN.out] at h9; exact h9
      have hxl := HXL.out.1; by_cases hlt : i < xs.length
      ·have hi3 : (i : Int) < (xs.length : Int) := by omega
       obtain ⟨hw3', hw3⟩ := wr_sm (x := (i : Int) + 1) (by omega) (by omega); obtain ⟨a, g3, off3, cp3, ha, ham, -, e, hg, -, hc⟩ := ad_cells (HXR.out wr s.e HS2.out.own).1 hlt; simp only [Value.slice.injEq] at e; obtain ⟨e1, -, -⟩ := e; rw [e1] at h7; obtain ⟨d0, d1, d2, d3⟩ := hc _ (Below.refl _ _); have HAN : Hid (a.2.n = a.1.ot.length) := Hd (by have h9 := rin_n ((HXR.out wr s.e HS2.out.own).2 a ham); rw [List.length_map] at h9; exact h9); rw [HAN.out] at d2; have HAO : Hid (a.1.ot.length ≤ 1048576) := Hd (HOT.out _ (HXL.out.2 a ham)); have HAM := Hd ham; have Hil := Hd hlt; have XA : Hid ((wr.alloc (.cells #[.string a.1.tr, .string a.1.nm, .slice a.2.o a.1.ot.length a.2.c, .string a.1.sa] 54)).heap[wr.heap.size]? = some (.cells #[.string a.1.tr, .string a.1.nm, .slice a.2.o a.1.ot.length a.2.c, .string a.1.sa] 54 (0, 0))) := Hd (heap_alloc_new wr _); have HB3 := Hd (HBM.out.trans ((below_alloc1 wr (.cells #[.string a.1.tr, .string a.1.nm, .slice a.2.o a.1.ot.length a.2.c, .string a.1.sa] 54)).mono HBM.out.size)); have HB4 := Hd (HBA.out.trans ((below_alloc1 wr (.cells #[.string a.1.tr, .string a.1.nm, .slice a.2.o a.1.ot.length a.2.c, .string a.1.sa] 54)).mono HBA.out.size)); clear hc ha ham hlt hg e1; go_upto_region 14 with fail; obtain ⟨wa, hwa⟩ : ∃ wa, wa = wr := ⟨_, rfl⟩; obtain ⟨w5, hw5⟩ : ∃ w5, w5 = wa.alloc (.cells #[.string a.1.tr, .string a.1.nm, .slice a.2.o a.1.ot.length a.2.c, .string a.1.sa] 54) := ⟨_, rfl⟩; subst hwa; rw [← hw5] at XA HB3 HB4 ⊢; clear hw5 d0 d1 d2 d3 h7
       have HSX : Hid (∀ V, Below w5.heap.size w5 V → (fun V => V.cell? ⟨wa.heap.size, 1, none⟩ = some (.string a.1.nm) ∧ V.cell? ⟨wa.heap.size, 2, none⟩ = some (.slice a.2.o a.1.ot.length a.2.c) ∧ V.cell? ⟨wm.heap.size, 0, none⟩ = some (.string m.nm) ∧ V.cell? ⟨b, 34, none⟩ = some (.slice (some ⟨g, off, none⟩) s.rs.length cp) ∧ V.cell? ⟨g, off + k * 11, none⟩ = some (.string t'.1.nm)) V) := Hd (fun V hV => by
        have hb := HB4.out.trans (hV.mono HB4.out.size); have hn := HB3.out.trans (hV.mono HB3.out.size); have hxa := (hV.block _ (lt_of_block XA.out)).trans XA.out; exact ⟨cB hxa 1, cB hxa 2, cB ((hn.block _ (lt_of_block XM.out)).trans XM.out) 0, (hb.cell (p := ⟨b, 34, none⟩) (cell_lt H34.out)).trans H34.out, HTC.out V hb⟩)
       obtain ⟨z, hz⟩ : ∃ z, z = hasB a.1.ot t'.1.nm := ⟨_, rfl⟩; have HCU : Hid (∀ V, Below w5.heap.size w5 V → Calls Tryd.prog 75 #[.slice a.2.o a.1.ot.length a.2.c, .string t'.1.nm] V (BoolPost V z)) := Hd (fun V hV => by
        have h9 := (HXR.out V s.e (HS1.out.same (HB4.out.trans (hV.mono HB4.out.size))).own).2 a HAM.out; rw [HAN.out] at h9; rw [hz]; exact rhas_any t'.1.nm h9 (by have := HAO.out; omega))
       have HD0 : Hid (Below w5.heap.size w5 w5.drew) := Hd (Below.refl _ _).drew; clear hz; cases gone with
       | true =>
        refine wp_region_noPanic ?_; refine wp_region_held_drew (S := (fun V => V.cell? ⟨wa.heap.size, 1, none⟩ = some (.string a.1.nm) ∧ V.cell? ⟨wa.heap.size, 2, none⟩ = some (.slice a.2.o a.1.ot.length a.2.c) ∧ V.cell? ⟨wm.heap.size, 0, none⟩ = some (.string m.nm) ∧ V.cell? ⟨b, 34, none⟩ = some (.slice (some ⟨g, off, none⟩) s.rs.length cp) ∧ V.cell? ⟨g, off + k * 11, none⟩ = some (.string t'.1.nm))) (by kernel_rfl) (by exact HSX.out _ HD0.out) (fun hHeld => ?_)
        refine tk 0 ?_; refine tk 1 ?_
        refine ts 2 ?_; refine ts 3 ?_
        refine ts 4 ?_; refine ts 5 ?_
        refine ts 6 ?_; refine ts 7 ?_
        refine ts 8 ?_; refine ts 9 ?_
        refine ts 10 ?_; refine ts 11 ?_
        refine ts 12 ?_; refine ts 13 ?_
        refine ts 14 ?_; refine ts 15 ?_
        refine ts 16 ?_; refine ts 17 ?_
        refine ts 18 ?_; refine ts 19 ?_
        refine tk 20 ?_; refine tk 21 ?_
        refine dn (NoPanic.normal ?_); have HB5 : Hid (Below wn.heap.size wn w5.drew) := Hd (HB3.out.trans (HD0.out.mono HB3.out.size)); go_wp2_with fail; go_roundw
        case rel => exact ⟨i + 1, _, Hil.out, by go_num, rfl, HB5⟩
        case measure => exact meas_lt Hil.out
       | false =>
        obtain ⟨p1, hp1⟩ : ∃ p, (a.1.nm.toList == m.nm.toList) = p := ⟨_, rfl⟩; cases p1 with
        | false =>
         refine wp_region_noPanic ?_; refine wp_region_held_drew (S := (fun V => V.cell? ⟨wa.heap.size, 1, none⟩ = some (.string a.1.nm) ∧ V.cell? ⟨wa.heap.size, 2, none⟩ = some (.slice a.2.o a.1.ot.length a.2.c) ∧ V.cell? ⟨wm.heap.size, 0, none⟩ = some (.string m.nm) ∧ V.cell? ⟨b, 34, none⟩ = some (.slice (some ⟨g, off, none⟩) s.rs.length cp) ∧ V.cell? ⟨g, off + k * 11, none⟩ = some (.string t'.1.nm))) (by kernel_rfl) (by exact HSX.out _ HD0.out) (fun hHeld => ?_)
         refine tk 0 ?_; refine tk 1 ?_
         refine tk 2 ?_; refine tk 3 ?_
         refine tk 4 ?_; refine tk 5 ?_
         refine tk 6 ?_; refine tk 7 ?_
         refine ts 8 ?_; refine ts 9 ?_
         refine ts 10 ?_; refine ts 11 ?_
         refine ts 12 ?_; refine ts 13 ?_
         refine ts 14 ?_; refine ts 15 ?_
         refine ts 16 ?_; refine ts 17 ?_
         refine ts 18 ?_; refine tk 19 ?_
         refine tk 20 ?_; refine tk 21 ?_
         refine dn (NoPanic.normal ?_); have HB5 : Hid (Below wn.heap.size wn w5.drew) := Hd (HB3.out.trans (HD0.out.mono HB3.out.size)); go_wp2_with fail; go_roundw
         case rel => exact ⟨i + 1, _, Hil.out, by go_num, rfl, HB5⟩
         case measure => exact meas_lt Hil.out
        | true =>
         refine wp_region_noPanic ?_; refine wp_region_held_drew (S := (fun V => V.cell? ⟨wa.heap.size, 1, none⟩ = some (.string a.1.nm) ∧ V.cell? ⟨wa.heap.size, 2, none⟩ = some (.slice a.2.o a.1.ot.length a.2.c) ∧ V.cell? ⟨wm.heap.size, 0, none⟩ = some (.string m.nm) ∧ V.cell? ⟨b, 34, none⟩ = some (.slice (some ⟨g, off, none⟩) s.rs.length cp) ∧ V.cell? ⟨g, off + k * 11, none⟩ = some (.string t'.1.nm))) (by kernel_rfl) (by exact HSX.out _ HD0.out) (fun hHeld => ?_)
         refine tk 0 ?_; refine tk 1 ?_
         refine tk 2 ?_; refine tk 3 ?_
         refine tk 4 ?_; refine tk 5 ?_
         refine tk 6 ?_; refine tk 7 ?_
         refine tk 8 ?_; refine tk 9 ?_
         refine tk 10 ?_; refine tk 11 ?_
         refine tk 12 ?_; refine tk 13 ?_
         refine tk 14 ?_; refine tk 15 ?_
         refine tk 16 ?_; refine tk 17 ?_
         refine rd 18 (fun K hK => ?_); go_simp; refine (HCU.out _ HD0.out).mono ?_
         rintro _ w6 ⟨rfl, hb6⟩; have HD1 := Hd (HD0.out.trans (hb6.mono HD0.out.size)); clear hb6; refine hK.out _ _ (HSX.out _ HD1.out) (fun hHeldN18 => ?_); clear hK K; (try simp only [Act.put, pA, pZ, pS]); refine tk 19 ?_; refine tk 20 ?_; refine tk 21 ?_; refine dn (NoPanic.normal ?_); have HB5 : Hid (Below wn.heap.size wn w6) := Hd (HB3.out.trans (HD1.out.mono HB3.out.size)); go_wp2_with fail; go_roundw
         case rel => exact ⟨i + 1, _, Hil.out, by go_num, rfl, HB5⟩
         case measure => exact meas_lt Hil.out
      ·obtain rfl : i = xs.length := by omega
       have HG2 := Hd (HG.out.same HBA.out); cases gone with
       | true =>
        have HG3 : Hid (GQ W wr PM (.slice uo L uc) (k * 1048576 + (j + 1))) := Hd (HG2.out.mono (Nat.le_succ _)); go_wp2_with fail; go_roundw
        case rel => exact ⟨j + 1, uo, L, uc, Hjl.out, by go_num, rfl, HG3⟩
        case measure => exact meas_lt Hjl.out
       | false =>
        obtain ⟨l, ho, hp, hl⟩ := HG2.out; have HPL := Hd hp; have HLL := Hd hl; have O2 := Hd ho; have XM2 : Hid (wr.heap[wm.heap.size]? = some (.cells #[.string m.nm, .bool m.st, .bool m.ab, .bool m.fi, .string m.fr, .int .i64 m.cd] 34 (0, 0))) := Hd ((HBM.out.block _ (lt_of_block XM.out)).trans XM.out); have c0 := cB XM2.out 0; have c1 := cB XM2.out 1; have c2 := cB XM2.out 2; have c3 := cB XM2.out 3; have c4 := cB XM2.out 4; have c5 := cB XM2.out 5; have O4 := Hd (O2.out.same (below_alloc1 wr (.cells #[.string m.nm, .bool m.st, .bool m.ab, .bool m.fi, .string m.fr, .int .i64 m.cd] 34))); have hL := Hd (lies_new wr [.string m.nm, .bool m.st, .bool m.ab, .bool m.fi, .string m.fr, .int .i64 m.cd] 34 (size := 6) rfl); have HF : Hid ((l.map MtP.row).length + ([[.string m.nm, .bool m.st, .bool m.ab, .bool m.fi, .string m.fr, .int .i64 m.cd]] : List (List Value)).length ≤ maxLen ∧ ((l.map MtP.row).length + ([[.string m.nm, .bool m.st, .bool m.ab, .bool m.fi, .string m.fr, .int .i64 m.cd]] : List (List Value)).length) * 48 ≤ 140737488355328) := Hd (mt_fits (by have h1 := HLL.out; have h2 := Hkl.out; have h3 := Hjl.out; have h4 := HTL.out; rw [List.length_map]; omega)); clear ho hp hl; go_wp2_with (at_builtin; refine wpList_append_rows rfl (.tmp 89) (.tmp 91) 27 rfl 34 _ 6 48 Tryd.underlying27 info34 rfl (by decide) (.slice uo L uc) (l.map MtP.row) (by rfl) O4.out.own (some ⟨wr.heap.size, 0, none⟩) 1 1 ([[.string m.nm, .bool m.st, .bool m.ab, .bool m.fi, .string m.fr, .int .i64 m.cd]] : List (List Value)) (by rfl) rfl (fun e => by cases e) hL.out (by simp [Value.oneCell']) (by simp) HF.out.1 (by have h := HF.out.2; omega) ?_; intro v3 w5 o3 g3 n3; have R7 := O4.out.next o3 g3 n3; obtain ⟨a8, L8, c8, hv8, hl8⟩ := R7.slice; subst hv8; have R8 := Hd R7; clear o3 g3 n3 R7 hl8)
        have HG3 : Hid (GQ W w5 PM (.slice a8 L8 c8) (k * 1048576 + (j + 1))) := Hd ⟨l ++ [m], by rw [List.map_append]; exact R8.out, fun y hy => (by
         rcases List.mem_append.1 hy with hy | hy
         ·exact HPL.out y hy
         ·rw [List.mem_singleton] at hy; subst hy; exact HPM.out _ HTM.out _ HMM.out), by have := HLL.out; rw [List.length_append, List.length_singleton]; omega⟩
        go_wp2_with fail; go_roundw
        case rel => exact ⟨j + 1, _, _, _, Hjl.out, by go_num, rfl, HG3⟩
        case measure => exact meas_lt Hjl.out
    ·obtain rfl : j = t'.1.ms.length := by omega
     have HG3 : Hid (GQ W wr PM (.slice uo L uc) ((k + 1) * 1048576)) := Hd (HG.out.mono (by omega)); go_wp2_with fail; go_roundw
     case rel => exact ⟨k + 1, uo, L, uc, Hkl.out, by go_num, rfl, HG3⟩
     case measure => exact meas_lt Hkl.out
  ·obtain rfl : k = s.rs.length := by omega
   have HG4 : Hid (GQ W wr PM (.slice uo L uc) (1099511627776 + 0 * 1048576)) := Hd (HG.out.mono (by omega)); go_wp2_with fail; clear h34 HG HS1; go_loopw [3, 10, 11, 12, 13, 14] (fun gv iv _ _ _ _ wr => ∃ (i : Nat) (uo : Option Addr) (L uc : Nat), i ≤ xs.length ∧ iv = .int .i64 i ∧ gv = .slice uo L uc ∧ Hid (GQ W wr PM (.slice uo L uc) (1099511627776 + i * 1048576))) (fun _ iv _ _ _ _ _ => xs.length - (intOf iv).toNat)
   case atStart => exact ⟨0, uo, L, uc, Nat.zero_le _, rfl, rfl, HG4⟩
   case round =>
    clear HG4; obtain ⟨i, uo, L, uc, hii, rfl, rfl, HG⟩ := hrel; have HS2 := Hd (HO.out.same HG.out.below); have h7 : wr.cell? ⟨b, 7, none⟩ = some (.slice s.d.2.a.o xs.length s.d.2.a.c) := by
     have h9 : wr.cell? ⟨b, 7, none⟩ = some (.slice s.d.2.a.o s.d.2.a.n s.d.2.a.c) := (cB HS2.out.blk 7).trans (HJ.out.at7 _); rw [HXN.out] at h9; exact h9
    have hxl := HXL.out.1; by_cases hlt : i < xs.length
    ·have hi3 : (i : Int) < (xs.length : Int) := by omega
     obtain ⟨hw3', hw3⟩ := wr_sm (x := (i : Int) + 1) (by omega) (by omega); obtain ⟨a, g3, off3, cp3, ha, ham, -, e, hg, -, hc⟩ := ad_cells (HXR.out wr s.e HS2.out.own).1 hlt; simp only [Value.slice.injEq] at e; obtain ⟨e1, -, -⟩ := e; rw [e1] at h7; obtain ⟨d0, d1, d2, d3⟩ := hc _ (Below.refl _ _); have HAN : Hid (a.2.n = a.1.ot.length) := Hd (by have h9 := rin_n ((HXR.out wr s.e HS2.out.own).2 a ham); rw [List.length_map] at h9; exact h9); rw [HAN.out] at d2; have HAM := Hd (HXL.out.2 a ham); have Hil := Hd hlt; have XA : Hid ((wr.alloc (.cells #[.string a.1.tr, .string a.1.nm, .slice a.2.o a.1.ot.length a.2.c, .string a.1.sa] 54)).heap[wr.heap.size]? = some (.cells #[.string a.1.tr, .string a.1.nm, .slice a.2.o a.1.ot.length a.2.c, .string a.1.sa] 54 (0, 0))) := Hd (heap_alloc_new wr _); have HG5 : Hid (GQ W (wr.alloc (.cells #[.string a.1.tr, .string a.1.nm, .slice a.2.o a.1.ot.length a.2.c, .string a.1.sa] 54)) PM (.slice uo L uc) (1099511627776 + i * 1048576 + 0)) := Hd ((HG.out.same (below_alloc1 wr _)).mono (Nat.le_add_right _ _)); clear hc ha ham hlt hg e1; go_wp2_with fail; obtain ⟨wa, hwa⟩ : ∃ wa, wa = wr := ⟨_, rfl⟩; subst hwa; clear d0 d1 d2 d3 h7 HG HS2; go_loopw [3, 12, 13, 14] (fun gv kv _ _ wr => ∃ (k : Nat) (uo : Option Addr) (L uc : Nat), k ≤ s.rs.length ∧ kv = .int .i64 k ∧ gv = .slice uo L uc ∧ Hid (GQ W wr PM (.slice uo L uc) (1099511627776 + i * 1048576 + k)) ∧ Hid (wr.heap[wa.heap.size]? = some (.cells #[.string a.1.tr, .string a.1.nm, .slice a.2.o a.1.ot.length a.2.c, .string a.1.sa] 54 (0, 0)))) (fun _ kv _ _ _ => s.rs.length - (intOf kv).toNat)
     case atStart => exact ⟨0, uo, L, uc, Nat.zero_le _, rfl, rfl, HG5, XA⟩
     case round =>
      clear HG5 XA; obtain ⟨k, uo, L, uc, hk, rfl, rfl, HG, XA⟩ := hrel; have HS3 := Hd (HO.out.same HG.out.below); have x3 := cB XA.out 3; have HEX : Hid (GQ W wr PM (.slice uo L uc) (1099511627776 + (i + 1) * 1048576)) := Hd (HG.out.mono (by omega)); by_cases hlt : k < s.rs.length
      ·have hi : (k : Int) < (s.rs.length : Int) := by omega
       obtain ⟨hw', hw⟩ := wr_sm (x := (k : Int) + 1) (by omega) (by omega); obtain ⟨t, g, off, cp, ht, htm, -, e, hg, -, hc⟩ := kc_cells (rr_row HS3.out.own) hlt; have h34 : wr.cell? ⟨b, 34, none⟩ = some (.slice (some ⟨g, off, none⟩) s.rs.length cp) := by
        have h9 : wr.cell? ⟨b, 34, none⟩ = some (.slice s.r.o s.r.n s.r.c) := (cB HS3.out.blk 34).trans (HJ.out.at34 _); rw [e] at h9; exact h9
       have H34 := Hd h34; have HHC := Hd hc; have HTM := Hd htm; have Hkl := Hd hlt; obtain ⟨pe, hpe⟩ : ∃ p, a.1.sa.toList.isEmpty = p := ⟨_, rfl⟩; have HPE := Hd hpe; clear ht htm e hg hc hlt; cases pe with
       | true =>
        go_wp2_with fail; go_roundw
        case rel => exact ⟨i + 1, uo, L, uc, Hil.out, by go_num, rfl, HEX⟩
        case measure => exact meas_lt Hil.out
       | false =>
        go_upto_region 24 with fail
        clear x3 h34 HEX hpe; obtain ⟨q, hq⟩ : ∃ q, q = methP t.1.ms a.1.nm := ⟨_, rfl⟩; obtain ⟨m, hm⟩ : ∃ m, m = q.getD ⟨⟨#[]⟩, false, false, false, ⟨#[]⟩, 0⟩ := ⟨_, rfl⟩; obtain ⟨is, his⟩ : ∃ is, is = q.isSome := ⟨_, rfl⟩; have HMS2 : Hid (is = true → m ∈ t.1.ms) := Hd (fun h9 => by
         rw [his] at h9; obtain ⟨m9, hm9⟩ := Option.isSome_iff_exists.1 h9; rw [hm, hm9]; exact methP_mem (by rw [← hq]; exact hm9))
        have HSX : Hid (∀ V, Below wr.heap.size wr V → (fun V => V.cell? ⟨b, 34, none⟩ = some (.slice (some ⟨g, off, none⟩) s.rs.length cp) ∧ V.cell? ⟨wa.heap.size, 1, none⟩ = some (.string a.1.nm) ∧ V.cell? ⟨g, off + k * 11, none⟩ = some (.string t.1.nm) ∧ V.cell? ⟨g, off + k * 11 + 1, none⟩ = some (.int .i64 t.1.kd) ∧ V.cell? ⟨g, off + k * 11 + 2, none⟩ = some (.bool t.1.ab) ∧ V.cell? ⟨g, off + k * 11 + 3, none⟩ = some (.bool t.1.fi) ∧ V.cell? ⟨g, off + k * 11 + 4, none⟩ = some (.string t.1.pa) ∧ V.cell? ⟨g, off + k * 11 + 5, none⟩ = some (.slice t.2.f.o t.2.f.n t.2.f.c) ∧ V.cell? ⟨g, off + k * 11 + 6, none⟩ = some (.slice t.2.t.o t.2.t.n t.2.t.c) ∧ V.cell? ⟨g, off + k * 11 + 7, none⟩ = some (.slice t.2.a.o t.2.a.n t.2.a.c) ∧ V.cell? ⟨g, off + k * 11 + 8, none⟩ = some (.slice t.2.c.o t.2.c.n t.2.c.c) ∧ V.cell? ⟨g, off + k * 11 + 9, none⟩ = some (.slice t.2.p.o t.2.p.n t.2.p.c) ∧ V.cell? ⟨g, off + k * 11 + 10, none⟩ = some (.slice t.2.m.o t.2.m.n t.2.m.c)) V) := Hd (fun V hV => by
         obtain ⟨d0, d1, d2, d3, d4, d5, d6, d7, d8, d9, d10⟩ := HHC.out V hV; exact ⟨(hV.cell (p := ⟨b, 34, none⟩) (cell_lt H34.out)).trans H34.out, cB ((hV.block _ (lt_of_block XA.out)).trans XA.out) 1, d0, d1, d2, d3, d4, d5, d6, d7, d8, d9, d10⟩)
        have HMC : Hid (∀ V, Below wr.heap.size wr V → Calls Tryd.prog 12 #[.agg #[.string t.1.nm, .int .i64 t.1.kd, .bool t.1.ab, .bool t.1.fi, .string t.1.pa, .slice t.2.f.o t.2.f.n t.2.f.c, .slice t.2.t.o t.2.t.n t.2.t.c, .slice t.2.a.o t.2.a.n t.2.a.c, .slice t.2.c.o t.2.c.n t.2.c.c, .slice t.2.p.o t.2.p.n t.2.p.c, .slice t.2.m.o t.2.m.n t.2.m.c], .string a.1.nm] V (fun e w' => Below V.heap.size V w' ∧ e = .returned (.tuple #[.agg #[.string m.nm, .bool m.st, .bool m.ab, .bool m.fi, .string m.fr, .int .i64 m.cd], .bool is]))) := Hd (fun V hV => by rw [hm, his, hq]; exact rmethod_any (x := t) a.1.nm (rT_at (HS3.out.same hV).own HTM.out).hm (by have := HMS.out t HTM.out; omega)); have HD8 : Hid (Below wr.heap.size wr wr.drew) := Hd (Below.refl _ _).drew; clear hq hm his; go_cut [13, 14] from 111 to 163 (fun p v W9 => ∃ B, p = .pointer (some ⟨B, 0, none⟩) ∧ v = .bool is ∧ Hid (Below wr.heap.size wr W9) ∧ Hid (W9.heap[B]? = some (.cells #[.string m.nm, .bool m.st, .bool m.ab, .bool m.fi, .string m.fr, .int .i64 m.cd] 34 (0, 0))) ∧ Hid (wr.heap.size ≤ B))
        case first =>
         refine wp_region_noPanic ?_; refine wp_region_held_drew (S := (fun V => V.cell? ⟨b, 34, none⟩ = some (.slice (some ⟨g, off, none⟩) s.rs.length cp) ∧ V.cell? ⟨wa.heap.size, 1, none⟩ = some (.string a.1.nm) ∧ V.cell? ⟨g, off + k * 11, none⟩ = some (.string t.1.nm) ∧ V.cell? ⟨g, off + k * 11 + 1, none⟩ = some (.int .i64 t.1.kd) ∧ V.cell? ⟨g, off + k * 11 + 2, none⟩ = some (.bool t.1.ab) ∧ V.cell? ⟨g, off + k * 11 + 3, none⟩ = some (.bool t.1.fi) ∧ V.cell? ⟨g, off + k * 11 + 4, none⟩ = some (.string t.1.pa) ∧ V.cell? ⟨g, off + k * 11 + 5, none⟩ = some (.slice t.2.f.o t.2.f.n t.2.f.c) ∧ V.cell? ⟨g, off + k * 11 + 6, none⟩ = some (.slice t.2.t.o t.2.t.n t.2.t.c) ∧ V.cell? ⟨g, off + k * 11 + 7, none⟩ = some (.slice t.2.a.o t.2.a.n t.2.a.c) ∧ V.cell? ⟨g, off + k * 11 + 8, none⟩ = some (.slice t.2.c.o t.2.c.n t.2.c.c) ∧ V.cell? ⟨g, off + k * 11 + 9, none⟩ = some (.slice t.2.p.o t.2.p.n t.2.p.c) ∧ V.cell? ⟨g, off + k * 11 + 10, none⟩ = some (.slice t.2.m.o t.2.m.n t.2.m.c))) (by kernel_rfl) (by exact HSX.out _ HD8.out) (fun hHeld => ?_)
         refine tk 0 ?_; refine tk 1 ?_
         refine tk 2 ?_; refine tk 3 ?_
         refine tk 4 ?_; refine tk 5 ?_
         refine tk 6 ?_; refine tk 7 ?_
         refine tk 8 ?_; refine rd2 9 13 (fun K hK => ?_) (fun K hK => ?_)
         ·go_simp; refine (HMC.out _ HD8.out).mono ?_; rintro _ w5 ⟨hb5, rfl⟩; have HD9 := Hd (HD8.out.trans (hb5.mono HD8.out.size)); clear hb5; refine hK.out _ _ (HSX.out _ HD9.out) (fun hHeldEA9 => ?_); clear hK K; (try simp only [Act.put, pA, pZ, pS]); refine tk 10 ?_; refine tk 11 ?_; refine tk 12 ?_; refine rd 13 (fun K hK => ?_); go_simp; have ZA9 : Hid ((w5.alloc (.cells #[.string ⟨#[]⟩, .bool false, .bool false, .bool false, .string ⟨#[]⟩, .int .i64 0] 34)).heap[w5.heap.size]? = some (.cells #[.string ⟨#[]⟩, .bool false, .bool false, .bool false, .string ⟨#[]⟩, .int .i64 0] 34 (0, 0))) := Hd (heap_alloc_new w5 _); have HDZ : Hid (Below wr.heap.size wr (w5.alloc (.cells #[.string ⟨#[]⟩, .bool false, .bool false, .bool false, .string ⟨#[]⟩, .int .i64 0] 34))) := Hd (HD9.out.trans ((below_alloc1 _ _).mono HD9.out.size)); refine hK.out _ _ (HSX.out _ HDZ.out) (fun hHeldEA13 => ?_); clear hK K; (try simp only [Act.put, pA, pZ, pS]); refine rd 14 (fun K hK => ?_); refine step_store_row rfl 34 (.tmp 13) (.tmp 136) rfl w5.heap.size #[.string m.nm, .bool m.st, .bool m.ab, .bool m.fi, .string m.fr, .int .i64 m.cd] (by simp [Act.eval]) (by simp [Act.eval]) 34 #[.string ⟨#[]⟩, .bool false, .bool false, .bool false, .string ⟨#[]⟩, .int .i64 0] ZA9.out size34r rfl (by simp [Value.oneCell']) ?_; intro w6 hx6 hm6; have HX6 := Hd hx6; have HD10 : Hid (Below wr.heap.size wr w6) := Hd (mod_below' HDZ.out hm6 HDZ.out.size (fun k e => by have e : k = w5.heap.size := e; have := HD9.out.size; omega))
          clear hx6 hm6; refine hK.out _ _ (HSX.out _ HD10.out) (fun hHeldEA14 => ?_); clear hK K; (try simp only [Act.put]); refine tk 15 ?_; refine dn (NoPanic.normal ?_); go_wp2_with fail; go_meet; exact ⟨_, rfl, rfl, HD10, HX6, Hd HD9.out.size⟩
         ·go_simp; have HDA : Hid (Below wr.heap.size wr (wr.drew.alloc (.cells #[.string ⟨#[]⟩, .bool false, .bool false, .bool false, .string ⟨#[]⟩, .int .i64 0] 34))) := Hd (HD8.out.trans ((below_alloc1 _ _).mono HD8.out.size)); have ZA : Hid ((wr.drew.alloc (.cells #[.string ⟨#[]⟩, .bool false, .bool false, .bool false, .string ⟨#[]⟩, .int .i64 0] 34)).heap[wr.heap.size]? = some (.cells #[.string ⟨#[]⟩, .bool false, .bool false, .bool false, .string ⟨#[]⟩, .int .i64 0] 34 (0, 0))) := Hd (heap_alloc_new wr.drew _); refine hK.out _ _ (HSX.out _ HDA.out) (fun hHeldB13 => ?_); clear hK K; (try simp only [Act.put, pA, pZ, pS]); refine rd 9 (fun K hK => ?_); go_simp; refine (HMC.out _ HDA.out).mono ?_; rintro _ w5 ⟨hb5, rfl⟩; have HD9 := Hd (HDA.out.trans (hb5.mono HDA.out.size)); have Z5 : Hid (w5.heap[wr.heap.size]? = some (.cells #[.string ⟨#[]⟩, .bool false, .bool false, .bool false, .string ⟨#[]⟩, .int .i64 0] 34 (0, 0))) := Hd ((hb5.block _ (lt_of_block ZA.out)).trans ZA.out); clear hb5; refine hK.out _ _ (HSX.out _ HD9.out) (fun hHeldEB9 => ?_); clear hK K; (try simp only [Act.put, pA, pZ, pS]); refine tk 10 ?_; refine tk 11 ?_; refine tk 12 ?_; refine rd 14 (fun K hK => ?_); refine step_store_row rfl 34 (.tmp 13) (.tmp 136) rfl wr.heap.size #[.string m.nm, .bool m.st, .bool m.ab, .bool m.fi, .string m.fr, .int .i64 m.cd] (by simp [Act.eval]) (by simp [Act.eval]) 34 #[.string ⟨#[]⟩, .bool false, .bool false, .bool false, .string ⟨#[]⟩, .int .i64 0] Z5.out size34r rfl (by simp [Value.oneCell']) ?_
          intro w6 hx6 hm6; have HX6 := Hd hx6; have HD10 : Hid (Below wr.heap.size wr w6) := Hd (mod_below' HD9.out hm6 HD9.out.size (fun k e => by have e : k = wr.heap.size := e; have := HD9.out.size; omega)); clear hx6 hm6; refine hK.out _ _ (HSX.out _ HD10.out) (fun hHeldEB14 => ?_); clear hK K; (try simp only [Act.put]); refine tk 15 ?_; refine dn (NoPanic.normal ?_); go_wp2_with fail; go_meet; exact ⟨_, rfl, rfl, HD10, HX6, Hd (Nat.le_refl _)⟩
        case rest =>
         obtain ⟨B, rfl, rfl, HD10, HXB, HBl⟩ := hcut; have HS4 := Hd (HS3.out.same HD10.out); have XA4 : Hid (wc.heap[wa.heap.size]? = some (.cells #[.string a.1.tr, .string a.1.nm, .slice a.2.o a.1.ot.length a.2.c, .string a.1.sa] 54 (0, 0))) := Hd ((HD10.out.block _ (lt_of_block XA.out)).trans XA.out); have HG6 : Hid (GQ W wc PM (.slice uo L uc) (1099511627776 + i * 1048576 + k)) := Hd (HG.out.same HD10.out); have HSY : Hid (∀ V, Below wc.heap.size wc V → (fun V => V.cell? ⟨wa.heap.size, 0, none⟩ = some (.string a.1.tr) ∧ V.cell? ⟨b, 34, none⟩ = some (.slice (some ⟨g, off, none⟩) s.rs.length cp) ∧ V.cell? ⟨g, off + k * 11, none⟩ = some (.string t.1.nm)) V) := Hd (fun V hV => by
          obtain ⟨q1, q2, q3, q4⟩ := HSX.out V (HD10.out.trans (hV.mono HD10.out.size)); exact ⟨cB ((hV.block _ (lt_of_block XA4.out)).trans XA4.out) 0, q1, q3⟩)
         have HDY : Hid (Below wc.heap.size wc wc.drew) := Hd (Below.refl _ _).drew; clear HSX HMC HD8; go_upto_region 25 with fail; go_cut [156] from 111 to 163 (fun v W9 => ∃ y, v = .bool y ∧ Hid (y = true → is = true) ∧ Hid (Below wc.heap.size wc W9))
         case first =>
          cases is with
          | false =>
           refine wp_region_noPanic ?_; refine wp_region_held_drew (S := (fun V => V.cell? ⟨wa.heap.size, 0, none⟩ = some (.string a.1.tr) ∧ V.cell? ⟨b, 34, none⟩ = some (.slice (some ⟨g, off, none⟩) s.rs.length cp) ∧ V.cell? ⟨g, off + k * 11, none⟩ = some (.string t.1.nm))) (by kernel_rfl) (by exact HSY.out _ HDY.out) (fun hHeld => ?_)
           refine tk 0 ?_; refine tk 1 ?_
           refine ts 2 ?_; refine ts 3 ?_
           refine ts 4 ?_; refine ts 5 ?_
           refine ts 6 ?_; refine ts 7 ?_
           refine ts 8 ?_; refine ts 9 ?_
           refine ts 10 ?_; refine ts 11 ?_
           refine ts 12 ?_; refine ts 13 ?_
           refine ts 14 ?_; refine ts 15 ?_
           refine ts 16 ?_; refine ts 17 ?_
           refine tk 18 ?_; refine dn (NoPanic.normal ?_)
           go_wp2_with fail; go_meet; exact ⟨false, rfl, Hd (fun h9 => h9), HDY⟩
          | true =>
           obtain ⟨p1, hp1⟩ : ∃ p, a.1.tr.toList.isEmpty = p := ⟨_, rfl⟩; cases p1 with
           | true =>
            refine wp_region_noPanic ?_; refine wp_region_held_drew (S := (fun V => V.cell? ⟨wa.heap.size, 0, none⟩ = some (.string a.1.tr) ∧ V.cell? ⟨b, 34, none⟩ = some (.slice (some ⟨g, off, none⟩) s.rs.length cp) ∧ V.cell? ⟨g, off + k * 11, none⟩ = some (.string t.1.nm))) (by kernel_rfl) (by exact HSY.out _ HDY.out) (fun hHeld => ?_)
            refine tk 0 ?_; refine tk 1 ?_
            refine tk 2 ?_; refine tk 3 ?_
            refine tk 4 ?_; refine tk 5 ?_
            refine ts 6 ?_; refine ts 7 ?_
            refine ts 8 ?_; refine ts 9 ?_
            refine ts 10 ?_; refine ts 11 ?_
            refine ts 12 ?_; refine ts 13 ?_
            refine ts 14 ?_; refine ts 15 ?_
            refine ts 16 ?_; refine tk 17 ?_
            refine tk 18 ?_; refine dn (NoPanic.normal ?_)
            go_wp2_with fail; go_meet; exact ⟨_, rfl, Hd (fun _ => trivial), HDY⟩
           | false =>
            refine wp_region_noPanic ?_; refine wp_region_held_drew (S := (fun V => V.cell? ⟨wa.heap.size, 0, none⟩ = some (.string a.1.tr) ∧ V.cell? ⟨b, 34, none⟩ = some (.slice (some ⟨g, off, none⟩) s.rs.length cp) ∧ V.cell? ⟨g, off + k * 11, none⟩ = some (.string t.1.nm))) (by kernel_rfl) (by exact HSY.out _ HDY.out) (fun hHeld => ?_)
            refine tk 0 ?_; refine tk 1 ?_
            refine tk 2 ?_; refine tk 3 ?_
            refine tk 4 ?_; refine tk 5 ?_
            refine tk 6 ?_; refine tk 7 ?_
            refine tk 8 ?_; refine tk 9 ?_
            refine tk 10 ?_; refine tk 11 ?_
            refine tk 12 ?_; refine tk 13 ?_
            refine tk 14 ?_; refine tk 15 ?_
            refine tk 16 ?_; refine tk 17 ?_
            refine tk 18 ?_; refine dn (NoPanic.normal ?_)
            go_wp2_with fail; go_meet; exact ⟨_, rfl, Hd (fun _ => trivial), HDY⟩
         case rest =>
          obtain ⟨y, rfl, HY, HDW⟩ := hcut; have HBW := Hd (HD10.out.trans (HDW.out.mono HD10.out.size)); have XA5 : Hid (wc.heap[wa.heap.size]? = some (.cells #[.string a.1.tr, .string a.1.nm, .slice a.2.o a.1.ot.length a.2.c, .string a.1.sa] 54 (0, 0))) := Hd ((HBW.out.block _ (lt_of_block XA.out)).trans XA.out); cases y with
          | false =>
           have HG8 : Hid (GQ W wc PM (.slice uo L uc) (1099511627776 + i * 1048576 + (k + 1))) := Hd ((HG.out.same HBW.out).mono (Nat.le_succ _)); go_wp2_with fail; go_roundw
           case rel => exact ⟨k + 1, uo, L, uc, Hkl.out, by go_num, rfl, HG8, XA5⟩
           case measure => exact meas_lt Hkl.out
          | true =>
           have XB5 : Hid (wc.heap[B]? = some (.cells #[.string m.nm, .bool m.st, .bool m.ab, .bool m.fi, .string m.fr, .int .i64 m.cd] 34 (0, 0))) := Hd ((HDW.out.block _ (lt_of_block HXB.out)).trans HXB.out); have x3 := cB XA5.out 3; have b0 := cB XB5.out 0; have f0 := free_blk XB5.out 0; go_upto_region 27 with fail; obtain ⟨w8, hw8⟩ : ∃ w8, w8 = wc.setCell ⟨B, 0, none⟩ (.string a.1.sa) := ⟨_, rfl⟩; have XB8 : Hid (w8.heap[B]? = some (.cells #[.string a.1.sa, .bool m.st, .bool m.ab, .bool m.fi, .string m.fr, .int .i64 m.cd] 34 (0, 0))) := Hd (by rw [hw8]; have := set_blk XB5.out 0 (.string a.1.sa); simpa using this); have HB8 : Hid (Below wr.heap.size wr w8) := Hd (by rw [hw8]; exact mod_below' HBW.out ((Mod.refl (fun k => k = B) wc).setCell ⟨B, 0, none⟩ _ (fun _ => rfl)) HBW.out.size (fun k e => by have e : k = B := e; have := HBl.out; omega)); rw [← hw8]; clear hw8 x3 b0 f0; have XA8 : Hid (w8.heap[wa.heap.size]? = some (.cells #[.string a.1.tr, .string a.1.nm, .slice a.2.o a.1.ot.length a.2.c, .string a.1.sa] 54 (0, 0))) := Hd ((HB8.out.block _ (lt_of_block XA.out)).trans XA.out); obtain ⟨l, ho, hp, hl⟩ := HG.out.same HB8.out; have HPL := Hd hp; have HLL := Hd hl; have c0 := cB XB8.out 0; have c1 := cB XB8.out 1; have c2 := cB XB8.out 2; have c3 := cB XB8.out 3; have c4 := cB XB8.out 4; have c5 := cB XB8.out 5; have O4 := Hd (ho.same (below_alloc1 w8 (.cells #[.string a.1.sa, .bool m.st, .bool m.ab, .bool m.fi, .string m.fr, .int .i64 m.cd] 34))); have hL := Hd (lies_new w8 [.string a.1.sa, .bool m.st, .bool m.ab, .bool m.fi, .string m.fr, .int .i64 m.cd] 34 (size := 6) rfl)
           have HF : Hid ((l.map MtP.row).length + ([[.string a.1.sa, .bool m.st, .bool m.ab, .bool m.fi, .string m.fr, .int .i64 m.cd]] : List (List Value)).length ≤ maxLen ∧ ((l.map MtP.row).length + ([[.string a.1.sa, .bool m.st, .bool m.ab, .bool m.fi, .string m.fr, .int .i64 m.cd]] : List (List Value)).length) * 48 ≤ 140737488355328) := Hd (mt_fits (by have h1 := HLL.out; have h2 := Hkl.out; have h3 := Hil.out; rw [List.length_map]; omega)); have HXA9 := Hd (alloc_blk XA8.out (.cells #[.string a.1.sa, .bool m.st, .bool m.ab, .bool m.fi, .string m.fr, .int .i64 m.cd] 34)); clear ho hp hl; go_wp2_with (at_builtin; refine wpList_append_rows rfl (.tmp 160) (.tmp 162) 27 rfl 34 _ 6 48 Tryd.underlying27 info34 rfl (by decide) (.slice uo L uc) (l.map MtP.row) (by rfl) O4.out.own (some ⟨w8.heap.size, 0, none⟩) 1 1 ([[.string a.1.sa, .bool m.st, .bool m.ab, .bool m.fi, .string m.fr, .int .i64 m.cd]] : List (List Value)) (by rfl) rfl (fun e => by cases e) hL.out (by simp [Value.oneCell']) (by simp) HF.out.1 (by have h := HF.out.2; omega) ?_; intro v3 w5 o3 g3 n3; have R7 := O4.out.next o3 g3 n3; have XA9 := Hd ((g3.block _ (lt_of_block HXA9.out) (fun e => own_nb (by decide) O4.out.own HXA9.out e.symm)).trans HXA9.out); obtain ⟨a8, L8, c8, hv8, hl8⟩ := R7.slice; subst hv8; have R8 := Hd R7; clear o3 g3 n3 R7 hl8); have HG3 : Hid (GQ W w5 PM (.slice a8 L8 c8) (1099511627776 + i * 1048576 + (k + 1))) := Hd ⟨l ++ [{ m with nm := a.1.sa }], by rw [List.map_append]; exact R8.out, fun y hy => (by
            rcases List.mem_append.1 hy with hy | hy
            ·exact HPL.out y hy
            ·rw [List.mem_singleton] at hy; subst hy; exact HPA.out _ HAM.out HPE.out _ HTM.out _ (HMS2.out (HY.out rfl))), by have := HLL.out; rw [List.length_append, List.length_singleton]; omega⟩
           go_wp2_with fail; go_roundw
           case rel => exact ⟨k + 1, _, _, _, Hkl.out, by go_num, rfl, HG3, XA9⟩
           case measure => exact meas_lt Hkl.out
      ·obtain rfl : k = s.rs.length := by omega
       have h34 : wr.cell? ⟨b, 34, none⟩ = some (.slice s.r.o s.rs.length s.r.c) := by
        have h9 : wr.cell? ⟨b, 34, none⟩ = some (.slice s.r.o s.r.n s.r.c) := (cB HS3.out.blk 34).trans (HJ.out.at34 _); rw [HRN.out] at h9; exact h9
       go_wp2_with fail; go_roundw
       case rel => exact ⟨i + 1, uo, L, uc, Hil.out, by go_num, rfl, HEX⟩
       case measure => exact meas_lt Hil.out
    ·obtain rfl : i = xs.length := by omega
     have HG5 : Hid (GQ W wr PM (.slice uo L uc) 2199024304128) := Hd (HG.out.mono (by omega)); go_wp2_with fail; go_ret; exact ⟨_, rfl, HG5.out⟩
end Go.Proofs.YtobjmajkcfhpoaaDoor
