/-
  The document's uses and adapts (printed by genRAd17.py).
-/
import Derived.Test.YtobjmajkcfhpoaaDoorWp21
namespace Go.Proofs.YtobjmajkcfhpoaaDoor
open Go.RowKit
attribute [local go_sem] yld_undef
theorem ruses_any {w0 W : World} {b : Nat} {s : RS} {J : RS → RS} (h : RG w0 W b s J) (hJ : PhE J) (hts : s.d.1.ts.length ≤ 1048576) (x : ByteArray) :
  Calls Tryd.prog 76 #[.pointer (some ⟨b, 0, none⟩), .string x] W (BoolPost W (hasB s.d.1.ts x)) := by
 have h6 : W.cell? ⟨b, 6, none⟩ = some (.slice s.d.2.t.o s.d.2.t.n s.d.2.t.c) := (cB h.blk 6).trans (hJ.at6 s); obtain ⟨z, hz⟩ : ∃ z, z = hasB s.d.1.ts x := ⟨_, rfl⟩; have HC := Hd (rhas_any x (rD_at h.own).ht (by omega)); rw [← hz] at HC ⊢; clear h hz; go_enter Tryd.func76, Tryd.ntmps76; go_wp2_with fail; refine HC.out.mono ?_; rintro _ w1 ⟨rfl, hb⟩; have HB := Hd hb; clear hb HC h6; go_wp2_with fail; go_ret; exact ⟨rfl, HB.out⟩
theorem rda_rows {w0 W : World} {b : Nat} {s : RS} (h : RO w0 W b s) : ∃ xs : List (AdP × SV), xs.map (·.1) = s.d.1.ad ∧ ∀ V x, RO w0 V b { s with e := x } → RIn (NB b) V 4 (.slice s.d.2.a.o s.d.2.a.n s.d.2.a.c) (xs.map AdP.row) ∧ ∀ x ∈ xs, RIn (NB b) V 1 (.slice x.2.o x.2.n x.2.c) (x.1.ot.map sR) := by
 obtain ⟨xs, e, h1, h2⟩ := h.dIn.ha; refine ⟨xs, e, fun V x hV => ⟨h1.kept hV.nb, fun x hx => (h2 x hx).kept hV.nb⟩⟩
theorem rr_row {w0 W : World} {b : Nat} {s : RS} (h : RO w0 W b s) : RIn AnyB W 11 (.slice s.r.o s.r.n s.r.c) (s.rs.map KC.row) := RIn.of_owns h.or (fun _ _ => trivial)
theorem step_store_row {P : Program} {w : World} {ops : Array Oper} {o : Oper} {a : Act} {K : Act → World → Prop} {Q : Exit → Act → World → Prop} {E : Prop} (hgd : o.guard = none) (ty : TypeId) (x y : Operand) (ho : o.op = .store ty x y)
  (g : Nat) (cells : Array Value) (hx : a.eval x = .pointer (some ⟨g, 0, none⟩)) (hy : a.eval y = .agg cells)
  (t : TypeId) (old : Array Value) (hg : w.heap[g]? = some (.cells old t (0, 0))) (hi : (P.info? ty).map (·.size) = some cells.size)
  (hold : old.size = cells.size) (h1 : cells.all (·.oneCell') = true)
  (h : ∀ w', w'.heap[g]? = some (.cells cells t (0, 0)) → Mod (fun k => k = g) w w' → K (a.put o.dst undef) w') :
  if Region.wanted o (yielded ops a.tmps) = true then Oper.wp P o a w K Q else E := by
 rw [if_pos (by simp [Region.wanted, hgd])]; exact wp_store_row ty x y ho g cells hx hy t old hg hi hold h1 (h _ (setRow_heap _ _ _ _ _ _ hg) ⟨rfl, rfl, rfl, by simp, fun k _ hne => setRow_other _ _ _ _ hne⟩)
theorem size34r : (Tryd.prog.info? 34).map (·.size) = some 6 := by kernel_rfl
theorem failE_zero {e c x : Int} (h : e = 0 → x = 0) (h2 : failE e c = 0) : x = 0 := by
 unfold failE at h2; split at h2
 ·rename_i h3; exact h h3
 ·exact h h2
def ErrPost (w0 : World) (b : Nat) (s : RS) (J : RS → RS) (e : Ending) (w' : World) : Prop :=
 e = .returned (.tuple #[]) ∧ ∃ x, RG w0 w' b { s with e := x } J ∧ (x = 0 → s.e = 0)
set_option maxHeartbeats 12800000 in
set_option maxRecDepth 100000 in
theorem radapts_any {w0 W : World} {b : Nat} {s : RS} {J : RS → RS} (h : RG w0 W b s J) (hJ : PhE J) (hrs : s.rs.length ≤ 1048576) (hms : ∀ t ∈ s.rs, t.1.ms.length ≤ 1048576) (hts : s.d.1.ts.length ≤ 1048576) (had : s.d.1.ad.length ≤ 1048576) (hot : ∀ a ∈ s.d.1.ad, a.ot.length ≤ 1048576) :
  Calls Tryd.prog 59 #[.pointer (some ⟨b, 0, none⟩)] W (ErrPost w0 b s J) := by
 obtain ⟨xs, hxs, hxr⟩ := rda_rows h.own; have HJ := Hd hJ; have hlx : xs.length = s.d.1.ad.length := by rw [← hxs, List.length_map]
 have HXN : Hid (s.d.2.a.n = xs.length) := Hd (by have h9 := rin_n (hxr W s.e h.own).1; rw [List.length_map] at h9; exact h9); have HRN : Hid (s.r.n = s.rs.length) := Hd (by have h9 := rin_n (rr_row h.own); rw [List.length_map] at h9; exact h9); have HXR := Hd hxr; have HXL : Hid (xs.length ≤ 1048576 ∧ ∀ a ∈ xs, a.1.ot.length ≤ 1048576) := Hd ⟨by omega, fun a ha => hot a.1 (by rw [← hxs]; exact List.mem_map_of_mem ha)⟩; have HB0 : Hid (∃ x, RG w0 W b { s with e := x } J ∧ (x = 0 → s.e = 0)) := Hd ⟨s.e, h, fun e => e⟩; clear h hxs hxr hlx had hot hJ; go_enter Tryd.func59, Tryd.ntmps59; go_wp2_with fail; go_loopw [2, 3, 4, 5, 6, 7, 8] (fun kv _ _ _ _ _ _ wr => ∃ k : Nat, k ≤ xs.length ∧ kv = .int .i64 k ∧ Hid (∃ x, RG w0 wr b { s with e := x } J ∧ (x = 0 → s.e = 0))) (fun kv _ _ _ _ _ _ _ => xs.length - (intOf kv).toNat)
 case atStart => exact ⟨0, Nat.zero_le _, rfl, HB0⟩
 case round =>
  clear HB0; obtain ⟨k, hk, rfl, HB⟩ := hrel; obtain ⟨x1, hx1, hx2⟩ := HB.out; have HG := Hd hx1; have HE := Hd hx2; have h7 : wr.cell? ⟨b, 7, none⟩ = some (.slice s.d.2.a.o xs.length s.d.2.a.c) := by
   have h9 : wr.cell? ⟨b, 7, none⟩ = some (.slice s.d.2.a.o s.d.2.a.n s.d.2.a.c) := (cB hx1.blk 7).trans (HJ.out.at7 _); rw [HXN.out] at h9; exact h9
  have h38 : wr.cell? ⟨b, 38, none⟩ = some (.int .i64 x1) := (cB hx1.blk 38).trans (HJ.out.at38 _); clear hx1 hx2 HB; have hxl := HXL.out.1; by_cases hlt : k < xs.length
  ·have hi : (k : Int) < (xs.length : Int) := by omega
   obtain ⟨zz, hzz⟩ : ∃ z, (x1 == 0) = z := ⟨_, rfl⟩; cases zz with
   | false =>
    go_wp2_with fail; go_end0; exact ⟨rfl, x1, HG.out, HE.out⟩
   | true =>
    obtain ⟨hw', hw⟩ := wr_sm (x := (k : Int) + 1) (by omega) (by omega); obtain ⟨a, g, off, cp, ha, ham, -, e, hg, -, hc⟩ := ad_cells (HXR.out wr x1 HG.out.own).1 hlt; simp only [Value.slice.injEq] at e; obtain ⟨e1, -, -⟩ := e; obtain ⟨d0, d1, d2, d3⟩ := hc _ (Below.refl _ _); have Hkl := Hd hlt; have HAN : Hid (a.2.n = a.1.ot.length) := Hd (by have h9 := rin_n ((HXR.out wr x1 HG.out.own).2 a ham); rw [List.length_map] at h9; exact h9); rw [HAN.out] at d2; have HAM := Hd ham; have HAL := Hd (HXL.out.2 a ham); have B1 := Hd (below_alloc1 wr (.cells #[.string a.1.tr, .string a.1.nm, .slice a.2.o a.1.ot.length a.2.c, .string a.1.sa] 54)); have HG1 := Hd (HG.out.same B1.out); have T1 : Hid ((wr.alloc (.cells #[.string a.1.tr, .string a.1.nm, .slice a.2.o a.1.ot.length a.2.c, .string a.1.sa] 54)).heap[wr.heap.size]? = some (.cells #[.string a.1.tr, .string a.1.nm, .slice a.2.o a.1.ot.length a.2.c, .string a.1.sa] 54 (0, 0))) := Hd (heap_alloc_new wr _); have HTB : Hid (wr.heap.size ≠ b) := Hd (fun e => Nat.ne_of_lt (lt_of_block HG.out.blk) e.symm); clear hc ha ham hlt hg; go_wp2_with fail; obtain ⟨wx, hwx⟩ : ∃ wx, wx = wr := ⟨_, rfl⟩; obtain ⟨wy, hwy⟩ : ∃ wy, wy = wx.alloc (.cells #[.string a.1.tr, .string a.1.nm, .slice a.2.o a.1.ot.length a.2.c, .string a.1.sa] 54) := ⟨_, rfl⟩; subst hwx; rw [← hwy] at HG1 T1 ⊢; clear hwy B1 d0 d1 d2 d3 e1 h7 h38 HG hzz; have HBY : Hid (Below wy.heap.size wy wy) := Hd (Below.refl _ _); go_loopw [4, 5, 6, 7] (fun mv jv _ _ wr => ∃ (j : Nat) (met : Bool), j ≤ s.rs.length ∧ jv = .int .i64 j ∧ mv = .bool met ∧ Hid (Below wy.heap.size wy wr)) (fun _ jv _ _ _ => s.rs.length - (intOf jv).toNat)
    case atStart => exact ⟨0, false, Nat.zero_le _, rfl, rfl, HBY⟩
    case round =>
     clear HBY; obtain ⟨j, met, hj, rfl, rfl, HBY⟩ := hrel; have HG2 := Hd (HG1.out.same HBY.out); have T2 : Hid (wr.heap[wx.heap.size]? = some (.cells #[.string a.1.tr, .string a.1.nm, .slice a.2.o a.1.ot.length a.2.c, .string a.1.sa] 54 (0, 0))) := Hd ((HBY.out.block _ (lt_of_block T1.out)).trans T1.out); by_cases hlt : j < s.rs.length
     ·have hi2 : (j : Int) < (s.rs.length : Int) := by omega
      obtain ⟨hw2', hw2⟩ := wr_sm (x := (j : Int) + 1) (by omega) (by omega); obtain ⟨t, g2, off2, cp2, ht, htm, -, e, hg, -, hc⟩ := kc_cells (rr_row HG2.out.own) hlt; have Hjl := Hd hlt; have h34 : wr.cell? ⟨b, 34, none⟩ = some (.slice (some ⟨g2, off2, none⟩) s.rs.length cp2) := by
       have h9 : wr.cell? ⟨b, 34, none⟩ = some (.slice s.r.o s.r.n s.r.c) := (cB HG2.out.blk 34).trans (HJ.out.at34 _); rw [e] at h9; exact h9
      have HHC := Hd hc; have HSX : Hid (∀ V, Below wr.heap.size wr V → (fun V => V.cell? ⟨b, 34, none⟩ = some (.slice (some ⟨g2, off2, none⟩) s.rs.length cp2) ∧ V.cell? ⟨wx.heap.size, 1, none⟩ = some (.string a.1.nm) ∧ V.cell? ⟨g2, off2 + j * 11, none⟩ = some (.string t.1.nm) ∧ V.cell? ⟨g2, off2 + j * 11 + 1, none⟩ = some (.int .i64 t.1.kd) ∧ V.cell? ⟨g2, off2 + j * 11 + 2, none⟩ = some (.bool t.1.ab) ∧ V.cell? ⟨g2, off2 + j * 11 + 3, none⟩ = some (.bool t.1.fi) ∧ V.cell? ⟨g2, off2 + j * 11 + 4, none⟩ = some (.string t.1.pa) ∧ V.cell? ⟨g2, off2 + j * 11 + 5, none⟩ = some (.slice t.2.f.o t.2.f.n t.2.f.c) ∧ V.cell? ⟨g2, off2 + j * 11 + 6, none⟩ = some (.slice t.2.t.o t.2.t.n t.2.t.c) ∧ V.cell? ⟨g2, off2 + j * 11 + 7, none⟩ = some (.slice t.2.a.o t.2.a.n t.2.a.c) ∧ V.cell? ⟨g2, off2 + j * 11 + 8, none⟩ = some (.slice t.2.c.o t.2.c.n t.2.c.c) ∧ V.cell? ⟨g2, off2 + j * 11 + 9, none⟩ = some (.slice t.2.p.o t.2.p.n t.2.p.c) ∧ V.cell? ⟨g2, off2 + j * 11 + 10, none⟩ = some (.slice t.2.m.o t.2.m.n t.2.m.c)) V) := Hd (fun V hV => by
       obtain ⟨d0, d1, d2, d3, d4, d5, d6, d7, d8, d9, d10⟩ := HHC.out V hV; exact ⟨(hV.cell (p := ⟨b, 34, none⟩) (cell_lt h34)).trans h34, cB ((hV.block _ (lt_of_block T2.out)).trans T2.out) 1, d0, d1, d2, d3, d4, d5, d6, d7, d8, d9, d10⟩)
      obtain ⟨q, hq⟩ : ∃ q, q = methP t.1.ms a.1.nm := ⟨_, rfl⟩; have HMC : Hid (∀ V, Below wr.heap.size wr V → Calls Tryd.prog 12 #[.agg #[.string t.1.nm, .int .i64 t.1.kd, .bool t.1.ab, .bool t.1.fi, .string t.1.pa, .slice t.2.f.o t.2.f.n t.2.f.c, .slice t.2.t.o t.2.t.n t.2.t.c, .slice t.2.a.o t.2.a.n t.2.a.c, .slice t.2.c.o t.2.c.n t.2.c.c, .slice t.2.p.o t.2.p.n t.2.p.c, .slice t.2.m.o t.2.m.n t.2.m.c], .string a.1.nm] V (MethPost V q)) := Hd (fun V hV => by rw [hq]; exact rmethod_any (x := t) a.1.nm (rT_at (HG2.out.same hV).own htm).hm (by have := hms t htm; omega)); have HD8 : Hid (Below wr.heap.size wr wr.drew) := Hd (Below.refl _ _).drew; clear hc ht htm e hg hlt hq; go_upto_region 8 with fail; clear h34; go_cut [6, 7] from 34 to 77 (fun _ v W9 => ∃ y, v = .bool y ∧ Hid (Below wr.heap.size wr W9))
      case first =>
       cases q with
       | none =>
        refine wp_region_noPanic ?_; refine wp_region_held_drew (S := (fun V => V.cell? ⟨b, 34, none⟩ = some (.slice (some ⟨g2, off2, none⟩) s.rs.length cp2) ∧ V.cell? ⟨wx.heap.size, 1, none⟩ = some (.string a.1.nm) ∧ V.cell? ⟨g2, off2 + j * 11, none⟩ = some (.string t.1.nm) ∧ V.cell? ⟨g2, off2 + j * 11 + 1, none⟩ = some (.int .i64 t.1.kd) ∧ V.cell? ⟨g2, off2 + j * 11 + 2, none⟩ = some (.bool t.1.ab) ∧ V.cell? ⟨g2, off2 + j * 11 + 3, none⟩ = some (.bool t.1.fi) ∧ V.cell? ⟨g2, off2 + j * 11 + 4, none⟩ = some (.string t.1.pa) ∧ V.cell? ⟨g2, off2 + j * 11 + 5, none⟩ = some (.slice t.2.f.o t.2.f.n t.2.f.c) ∧ V.cell? ⟨g2, off2 + j * 11 + 6, none⟩ = some (.slice t.2.t.o t.2.t.n t.2.t.c) ∧ V.cell? ⟨g2, off2 + j * 11 + 7, none⟩ = some (.slice t.2.a.o t.2.a.n t.2.a.c) ∧ V.cell? ⟨g2, off2 + j * 11 + 8, none⟩ = some (.slice t.2.c.o t.2.c.n t.2.c.c) ∧ V.cell? ⟨g2, off2 + j * 11 + 9, none⟩ = some (.slice t.2.p.o t.2.p.n t.2.p.c) ∧ V.cell? ⟨g2, off2 + j * 11 + 10, none⟩ = some (.slice t.2.m.o t.2.m.n t.2.m.c))) (by kernel_rfl) (by exact HSX.out _ HD8.out) (fun hHeld => ?_)
        refine tk 0 ?_; refine tk 1 ?_
        refine tk 2 ?_; refine tk 3 ?_
        refine tk 4 ?_; refine tk 5 ?_
        refine tk 6 ?_; refine tk 7 ?_
        refine tk 8 ?_; refine rd2 9 13 (fun K hK => ?_) (fun K hK => ?_)
        ·go_simp; refine (HMC.out _ HD8.out).mono ?_; rintro _ w5 ⟨hb5, rfl⟩; have HD9 := Hd (HD8.out.trans (hb5.mono HD8.out.size)); simp only [Option.getD_none, Option.isSome_none, MtP.v]; clear hb5; refine hK.out _ _ (HSX.out _ HD9.out) (fun hHeldEAn9 => ?_); clear hK K; (try simp only [Act.put, pA, pZ, pS]); refine tk 10 ?_; refine tk 11 ?_; refine tk 12 ?_; refine rd 13 (fun K hK => ?_); go_simp; refine hK.out _ _ (HSX.out _ (HD9.out.trans ((below_alloc1 _ _).mono HD9.out.size))) (fun hHeldEAn13 => ?_); clear hK K; (try simp only [Act.put, pA, pZ, pS]); refine rd 14 (fun K hK => ?_); go_simp; refine hK.out _ _ (HSX.out _ (HD9.out.trans ((below_alloc1 _ _).mono HD9.out.size))) (fun hHeldEAn14 => ?_); clear hK K; (try simp only [Act.put, pA, pZ, pS]); refine tk 15 ?_; refine dn (NoPanic.normal ?_); obtain ⟨w6, hw6⟩ : ∃ w6, w6 = w5.alloc (.cells #[.string ⟨#[]⟩, .bool false, .bool false, .bool false, .string ⟨#[]⟩, .int .i64 0] 34) := ⟨_, rfl⟩; have HD10 : Hid (Below wr.heap.size wr w6) := Hd (by rw [hw6]; exact HD9.out.trans ((below_alloc1 _ _).mono HD9.out.size)); rw [← hw6]; clear hw6; go_wp2_with fail; go_meet; exact ⟨_, rfl, HD10⟩
        ·go_simp; have HDA : Hid (Below wr.heap.size wr (wr.drew.alloc (.cells #[.string ⟨#[]⟩, .bool false, .bool false, .bool false, .string ⟨#[]⟩, .int .i64 0] 34))) := Hd (HD8.out.trans ((below_alloc1 _ _).mono HD8.out.size)); have ZA : Hid ((wr.drew.alloc (.cells #[.string ⟨#[]⟩, .bool false, .bool false, .bool false, .string ⟨#[]⟩, .int .i64 0] 34)).heap[wr.heap.size]? = some (.cells #[.string ⟨#[]⟩, .bool false, .bool false, .bool false, .string ⟨#[]⟩, .int .i64 0] 34 (0, 0))) := Hd (heap_alloc_new wr.drew _); refine hK.out _ _ (HSX.out _ HDA.out) (fun hHeldBn13 => ?_); clear hK K; (try simp only [Act.put, pA, pZ, pS]); refine rd 9 (fun K hK => ?_); go_simp; refine (HMC.out _ HDA.out).mono ?_; rintro _ w5 ⟨hb5, rfl⟩; have HD9 := Hd (HDA.out.trans (hb5.mono HDA.out.size)); have Z5 : Hid (w5.heap[wr.heap.size]? = some (.cells #[.string ⟨#[]⟩, .bool false, .bool false, .bool false, .string ⟨#[]⟩, .int .i64 0] 34 (0, 0))) := Hd ((hb5.block _ (lt_of_block ZA.out)).trans ZA.out); simp only [Option.getD_none, Option.isSome_none, MtP.v]; clear hb5; refine hK.out _ _ (HSX.out _ HD9.out) (fun hHeldEBn9 => ?_); clear hK K; (try simp only [Act.put, pA, pZ, pS]); refine tk 10 ?_; refine tk 11 ?_; refine tk 12 ?_; refine rd 14 (fun K hK => ?_); refine step_store_row rfl 34 (.tmp 6) (.tmp 54) rfl wr.heap.size #[.string ⟨#[]⟩, .bool false, .bool false, .bool false, .string ⟨#[]⟩, .int .i64 0] (by simp [Act.eval]) (by simp [Act.eval]) 34 #[.string ⟨#[]⟩, .bool false, .bool false, .bool false, .string ⟨#[]⟩, .int .i64 0] Z5.out size34r rfl (by simp [Value.oneCell']) ?_
         intro w6 hx6 hm6; have HD10 : Hid (Below wr.heap.size wr w6) := Hd (mod_below' HD9.out hm6 HD9.out.size (fun k e => by have e : k = wr.heap.size := e; omega)); clear hx6 hm6; refine hK.out _ _ (HSX.out _ HD10.out) (fun hHeldEBn14 => ?_); clear hK K; (try simp only [Act.put]); refine tk 15 ?_; refine dn (NoPanic.normal ?_); go_wp2_with fail; go_meet; exact ⟨_, rfl, HD10⟩
       | some m =>
        refine wp_region_noPanic ?_; refine wp_region_held_drew (S := (fun V => V.cell? ⟨b, 34, none⟩ = some (.slice (some ⟨g2, off2, none⟩) s.rs.length cp2) ∧ V.cell? ⟨wx.heap.size, 1, none⟩ = some (.string a.1.nm) ∧ V.cell? ⟨g2, off2 + j * 11, none⟩ = some (.string t.1.nm) ∧ V.cell? ⟨g2, off2 + j * 11 + 1, none⟩ = some (.int .i64 t.1.kd) ∧ V.cell? ⟨g2, off2 + j * 11 + 2, none⟩ = some (.bool t.1.ab) ∧ V.cell? ⟨g2, off2 + j * 11 + 3, none⟩ = some (.bool t.1.fi) ∧ V.cell? ⟨g2, off2 + j * 11 + 4, none⟩ = some (.string t.1.pa) ∧ V.cell? ⟨g2, off2 + j * 11 + 5, none⟩ = some (.slice t.2.f.o t.2.f.n t.2.f.c) ∧ V.cell? ⟨g2, off2 + j * 11 + 6, none⟩ = some (.slice t.2.t.o t.2.t.n t.2.t.c) ∧ V.cell? ⟨g2, off2 + j * 11 + 7, none⟩ = some (.slice t.2.a.o t.2.a.n t.2.a.c) ∧ V.cell? ⟨g2, off2 + j * 11 + 8, none⟩ = some (.slice t.2.c.o t.2.c.n t.2.c.c) ∧ V.cell? ⟨g2, off2 + j * 11 + 9, none⟩ = some (.slice t.2.p.o t.2.p.n t.2.p.c) ∧ V.cell? ⟨g2, off2 + j * 11 + 10, none⟩ = some (.slice t.2.m.o t.2.m.n t.2.m.c))) (by kernel_rfl) (by exact HSX.out _ HD8.out) (fun hHeld => ?_)
        refine tk 0 ?_; refine tk 1 ?_
        refine tk 2 ?_; refine tk 3 ?_
        refine tk 4 ?_; refine tk 5 ?_
        refine tk 6 ?_; refine tk 7 ?_
        refine tk 8 ?_; refine rd2 9 13 (fun K hK => ?_) (fun K hK => ?_)
        ·go_simp; refine (HMC.out _ HD8.out).mono ?_; rintro _ w5 ⟨hb5, rfl⟩; have HD9 := Hd (HD8.out.trans (hb5.mono HD8.out.size)); simp only [Option.getD_some, Option.isSome_some, MtP.v]; clear hb5; refine hK.out _ _ (HSX.out _ HD9.out) (fun hHeldEAs9 => ?_); clear hK K; (try simp only [Act.put, pA, pZ, pS]); refine tk 10 ?_; refine tk 11 ?_; refine tk 12 ?_; refine rd 13 (fun K hK => ?_); go_simp; refine hK.out _ _ (HSX.out _ (HD9.out.trans ((below_alloc1 _ _).mono HD9.out.size))) (fun hHeldEAs13 => ?_); clear hK K; (try simp only [Act.put, pA, pZ, pS]); refine rd 14 (fun K hK => ?_); go_simp; refine hK.out _ _ (HSX.out _ (HD9.out.trans ((below_alloc1 _ _).mono HD9.out.size))) (fun hHeldEAs14 => ?_); clear hK K; (try simp only [Act.put, pA, pZ, pS]); refine tk 15 ?_; refine dn (NoPanic.normal ?_); obtain ⟨w6, hw6⟩ : ∃ w6, w6 = w5.alloc (.cells #[.string m.nm, .bool m.st, .bool m.ab, .bool m.fi, .string m.fr, .int .i64 m.cd] 34) := ⟨_, rfl⟩; have HD10 : Hid (Below wr.heap.size wr w6) := Hd (by rw [hw6]; exact HD9.out.trans ((below_alloc1 _ _).mono HD9.out.size)); rw [← hw6]; clear hw6; go_wp2_with fail; go_meet; exact ⟨_, rfl, HD10⟩
        ·go_simp; have HDA : Hid (Below wr.heap.size wr (wr.drew.alloc (.cells #[.string ⟨#[]⟩, .bool false, .bool false, .bool false, .string ⟨#[]⟩, .int .i64 0] 34))) := Hd (HD8.out.trans ((below_alloc1 _ _).mono HD8.out.size)); have ZA : Hid ((wr.drew.alloc (.cells #[.string ⟨#[]⟩, .bool false, .bool false, .bool false, .string ⟨#[]⟩, .int .i64 0] 34)).heap[wr.heap.size]? = some (.cells #[.string ⟨#[]⟩, .bool false, .bool false, .bool false, .string ⟨#[]⟩, .int .i64 0] 34 (0, 0))) := Hd (heap_alloc_new wr.drew _); refine hK.out _ _ (HSX.out _ HDA.out) (fun hHeldBs13 => ?_); clear hK K; (try simp only [Act.put, pA, pZ, pS]); refine rd 9 (fun K hK => ?_); go_simp; refine (HMC.out _ HDA.out).mono ?_; rintro _ w5 ⟨hb5, rfl⟩; have HD9 := Hd (HDA.out.trans (hb5.mono HDA.out.size)); have Z5 : Hid (w5.heap[wr.heap.size]? = some (.cells #[.string ⟨#[]⟩, .bool false, .bool false, .bool false, .string ⟨#[]⟩, .int .i64 0] 34 (0, 0))) := Hd ((hb5.block _ (lt_of_block ZA.out)).trans ZA.out); simp only [Option.getD_some, Option.isSome_some, MtP.v]; clear hb5; refine hK.out _ _ (HSX.out _ HD9.out) (fun hHeldEBs9 => ?_); clear hK K; (try simp only [Act.put, pA, pZ, pS]); refine tk 10 ?_; refine tk 11 ?_; refine tk 12 ?_; refine rd 14 (fun K hK => ?_); refine step_store_row rfl 34 (.tmp 6) (.tmp 54) rfl wr.heap.size #[.string m.nm, .bool m.st, .bool m.ab, .bool m.fi, .string m.fr, .int .i64 m.cd] (by simp [Act.eval]) (by simp [Act.eval]) 34 #[.string ⟨#[]⟩, .bool false, .bool false, .bool false, .string ⟨#[]⟩, .int .i64 0] Z5.out size34r rfl (by simp [Value.oneCell']) ?_
         intro w6 hx6 hm6; have HD10 : Hid (Below wr.heap.size wr w6) := Hd (mod_below' HD9.out hm6 HD9.out.size (fun k e => by have e : k = wr.heap.size := e; omega)); clear hx6 hm6; refine hK.out _ _ (HSX.out _ HD10.out) (fun hHeldEBs14 => ?_); clear hK K; (try simp only [Act.put]); refine tk 15 ?_; refine dn (NoPanic.normal ?_); go_wp2_with fail; go_meet; exact ⟨_, rfl, HD10⟩
      case rest =>
       obtain ⟨y, rfl, HD10⟩ := hcut; have HD11 := Hd HD10.out.drew; have HS9 : Hid ((fun V => V.cell? ⟨wx.heap.size, 0, none⟩ = some (.string a.1.tr) ∧ V.cell? ⟨b, 34, none⟩ = some (.slice (some ⟨g2, off2, none⟩) s.rs.length cp2) ∧ V.cell? ⟨g2, off2 + j * 11, none⟩ = some (.string t.1.nm)) wc.drew) := Hd (by
        obtain ⟨q1, q2, q3, q4⟩ := HSX.out _ HD11.out; exact ⟨cB ((HD11.out.block _ (lt_of_block T2.out)).trans T2.out) 0, q1, q3⟩)
       have HB7 : Hid (Below wy.heap.size wy wc.drew) := Hd (HBY.out.trans (HD11.out.mono HBY.out.size)); go_upto_region 9 with fail; cases y with
       | false =>
        cases met with
        | true =>
         refine wp_region_noPanic ?_; refine wp_region_held_drew (S := (fun V => V.cell? ⟨wx.heap.size, 0, none⟩ = some (.string a.1.tr) ∧ V.cell? ⟨b, 34, none⟩ = some (.slice (some ⟨g2, off2, none⟩) s.rs.length cp2) ∧ V.cell? ⟨g2, off2 + j * 11, none⟩ = some (.string t.1.nm))) (by kernel_rfl) (by exact HS9.out) (fun hHeld => ?_)
         refine tk 0 ?_; refine tk 1 ?_
         refine ts 2 ?_; refine ts 3 ?_
         refine ts 4 ?_; refine ts 5 ?_
         refine ts 6 ?_; refine ts 7 ?_
         refine ts 8 ?_; refine ts 9 ?_
         refine ts 10 ?_; refine ts 11 ?_
         refine ts 12 ?_; refine ts 13 ?_
         refine ts 14 ?_; refine ts 15 ?_
         refine ts 16 ?_; refine ts 17 ?_
         refine ts 18 ?_; refine ts 19 ?_
         refine ts 20 ?_; refine tk 21 ?_
         refine tk 22 ?_; refine dn (NoPanic.normal ?_)
         clear HS9; go_wp2_with fail; go_roundw
         case rel => exact ⟨j + 1, _, Hjl.out, by go_num, rfl, HB7⟩
         case measure => exact meas_lt Hjl.out
        | false =>
         refine wp_region_noPanic ?_; refine wp_region_held_drew (S := (fun V => V.cell? ⟨wx.heap.size, 0, none⟩ = some (.string a.1.tr) ∧ V.cell? ⟨b, 34, none⟩ = some (.slice (some ⟨g2, off2, none⟩) s.rs.length cp2) ∧ V.cell? ⟨g2, off2 + j * 11, none⟩ = some (.string t.1.nm))) (by kernel_rfl) (by exact HS9.out) (fun hHeld => ?_)
         refine tk 0 ?_; refine tk 1 ?_
         refine tk 2 ?_; refine tk 3 ?_
         refine ts 4 ?_; refine ts 5 ?_
         refine ts 6 ?_; refine ts 7 ?_
         refine ts 8 ?_; refine ts 9 ?_
         refine ts 10 ?_; refine ts 11 ?_
         refine ts 12 ?_; refine ts 13 ?_
         refine ts 14 ?_; refine ts 15 ?_
         refine ts 16 ?_; refine ts 17 ?_
         refine ts 18 ?_; refine ts 19 ?_
         refine tk 20 ?_; refine tk 21 ?_
         refine tk 22 ?_; refine dn (NoPanic.normal ?_)
         clear HS9; go_wp2_with fail; go_roundw
         case rel => exact ⟨j + 1, _, Hjl.out, by go_num, rfl, HB7⟩
         case measure => exact meas_lt Hjl.out
       | true =>
        cases met with
        | true =>
         refine wp_region_noPanic ?_; refine wp_region_held_drew (S := (fun V => V.cell? ⟨wx.heap.size, 0, none⟩ = some (.string a.1.tr) ∧ V.cell? ⟨b, 34, none⟩ = some (.slice (some ⟨g2, off2, none⟩) s.rs.length cp2) ∧ V.cell? ⟨g2, off2 + j * 11, none⟩ = some (.string t.1.nm))) (by kernel_rfl) (by exact HS9.out) (fun hHeld => ?_)
         refine tk 0 ?_; refine tk 1 ?_
         refine ts 2 ?_; refine ts 3 ?_
         refine ts 4 ?_; refine ts 5 ?_
         refine ts 6 ?_; refine ts 7 ?_
         refine ts 8 ?_; refine ts 9 ?_
         refine ts 10 ?_; refine ts 11 ?_
         refine ts 12 ?_; refine ts 13 ?_
         refine ts 14 ?_; refine ts 15 ?_
         refine ts 16 ?_; refine ts 17 ?_
         refine ts 18 ?_; refine ts 19 ?_
         refine ts 20 ?_; refine tk 21 ?_
         refine tk 22 ?_; refine dn (NoPanic.normal ?_)
         clear HS9; go_wp2_with fail; go_roundw
         case rel => exact ⟨j + 1, _, Hjl.out, by go_num, rfl, HB7⟩
         case measure => exact meas_lt Hjl.out
        | false =>
         obtain ⟨p1, hp1⟩ : ∃ p, a.1.tr.toList.isEmpty = p := ⟨_, rfl⟩; cases p1 with
         | true =>
          refine wp_region_noPanic ?_; refine wp_region_held_drew (S := (fun V => V.cell? ⟨wx.heap.size, 0, none⟩ = some (.string a.1.tr) ∧ V.cell? ⟨b, 34, none⟩ = some (.slice (some ⟨g2, off2, none⟩) s.rs.length cp2) ∧ V.cell? ⟨g2, off2 + j * 11, none⟩ = some (.string t.1.nm))) (by kernel_rfl) (by exact HS9.out) (fun hHeld => ?_)
          refine tk 0 ?_; refine tk 1 ?_
          refine tk 2 ?_; refine tk 3 ?_
          refine tk 4 ?_; refine tk 5 ?_
          refine tk 6 ?_; refine tk 7 ?_
          refine ts 8 ?_; refine ts 9 ?_
          refine ts 10 ?_; refine ts 11 ?_
          refine ts 12 ?_; refine ts 13 ?_
          refine ts 14 ?_; refine ts 15 ?_
          refine ts 16 ?_; refine ts 17 ?_
          refine ts 18 ?_; refine tk 19 ?_
          refine tk 20 ?_; refine tk 21 ?_
          refine tk 22 ?_; refine dn (NoPanic.normal ?_)
          clear HS9; go_wp2_with fail; go_roundw
          case rel => exact ⟨j + 1, _, Hjl.out, by go_num, rfl, HB7⟩
          case measure => exact meas_lt Hjl.out
         | false =>
          refine wp_region_noPanic ?_; refine wp_region_held_drew (S := (fun V => V.cell? ⟨wx.heap.size, 0, none⟩ = some (.string a.1.tr) ∧ V.cell? ⟨b, 34, none⟩ = some (.slice (some ⟨g2, off2, none⟩) s.rs.length cp2) ∧ V.cell? ⟨g2, off2 + j * 11, none⟩ = some (.string t.1.nm))) (by kernel_rfl) (by exact HS9.out) (fun hHeld => ?_)
          refine tk 0 ?_; refine tk 1 ?_
          refine tk 2 ?_; refine tk 3 ?_
          refine tk 4 ?_; refine tk 5 ?_
          refine tk 6 ?_; refine tk 7 ?_
          refine tk 8 ?_; refine tk 9 ?_
          refine tk 10 ?_; refine tk 11 ?_
          refine tk 12 ?_; refine tk 13 ?_
          refine tk 14 ?_; refine tk 15 ?_
          refine tk 16 ?_; refine tk 17 ?_
          refine tk 18 ?_; refine tk 19 ?_
          refine tk 20 ?_; refine tk 21 ?_
          refine tk 22 ?_; refine dn (NoPanic.normal ?_)
          clear HS9; go_wp2_with fail; go_roundw
          case rel => exact ⟨j + 1, _, Hjl.out, by go_num, rfl, HB7⟩
          case measure => exact meas_lt Hjl.out
     ·obtain rfl : j = s.rs.length := by omega
      have h34 : wr.cell? ⟨b, 34, none⟩ = some (.slice s.r.o s.rs.length s.r.c) := by
       have h9 : wr.cell? ⟨b, 34, none⟩ = some (.slice s.r.o s.r.n s.r.c) := (cB HG2.out.blk 34).trans (HJ.out.at34 _); rw [HRN.out] at h9; exact h9
      have x0 := cB T2.out 0; go_upto_region 10 with fail; go_cut [91] from 9 to 110 (fun v W9 => ∃ y, v = .bool y ∧ Hid (Below wr.heap.size wr W9))
      case first =>
       obtain ⟨p1, hp1⟩ : ∃ p, a.1.tr.toList.isEmpty = p := ⟨_, rfl⟩; cases p1 with
       | true =>
        have HB4 : Hid (Below wr.heap.size wr wr) := Hd (Below.refl _ _); cases met with
        | true =>
         go_wp2_with fail; go_meet; exact ⟨_, rfl, HB4⟩
        | false =>
         go_wp2_with fail; go_meet; exact ⟨_, rfl, HB4⟩
       | false =>
        obtain ⟨z, hz⟩ : ∃ z, z = hasB s.d.1.ts a.1.tr := ⟨_, rfl⟩; have HU := Hd (ruses_any HG2.out HJ.out hts a.1.tr); rw [← hz] at HU; clear hz; go_wp2_with fail; refine HU.out.mono ?_; rintro _ w4 ⟨rfl, hb4⟩; have HB4 := Hd hb4; clear hb4 HU x0 h34; cases z with
        | false =>
         go_wp2_with fail; go_meet; exact ⟨_, rfl, HB4⟩
        | true =>
         cases met with
         | true =>
          go_wp2_with fail; go_meet; exact ⟨_, rfl, HB4⟩
         | false =>
          go_wp2_with fail; go_meet; exact ⟨_, rfl, HB4⟩
      case rest =>
       obtain ⟨y, rfl, HB4⟩ := hcut; clear x0 h34; cases y with
       | true =>
        have HFA := Hd (fails_any (HG2.out.same HB4.out) HJ.out 6); go_wp2_with fail; refine HFA.out.mono ?_; rintro _ w5 ⟨rfl, hg5, hm5⟩; have T5 : Hid (w5.heap[wx.heap.size]? = some (.cells #[.string a.1.tr, .string a.1.nm, .slice a.2.o a.1.ot.length a.2.c, .string a.1.sa] 54 (0, 0))) := Hd (hm5.blk ((HB4.out.block _ (lt_of_block T2.out)).trans T2.out) HTB.out); have HX5 : Hid (∃ x, RG w0 w5 b { s with e := x } J ∧ (x = 0 → s.e = 0)) := Hd ⟨_, hg5, fun h => HE.out (failE_zero (fun e => e) h)⟩; clear hg5 hm5 HFA; go_wp2_with fail; go_loopw [8] (fun nv wr => ∃ n : Nat, n ≤ a.1.ot.length ∧ nv = .int .i64 n ∧ Hid (∃ x, RG w0 wr b { s with e := x } J ∧ (x = 0 → s.e = 0)) ∧ Hid (wr.heap[wx.heap.size]? = some (.cells #[.string a.1.tr, .string a.1.nm, .slice a.2.o a.1.ot.length a.2.c, .string a.1.sa] 54 (0, 0)))) (fun nv _ => a.1.ot.length - (intOf nv).toNat)
        case atStart => exact ⟨0, Nat.zero_le _, rfl, HX5, T5⟩
        case round =>
         clear HX5 T5; obtain ⟨n, hn, rfl, HX5, T5⟩ := hrel; have hal := HAL.out; have y2 := cB T5.out 2; obtain ⟨x5, hx5, hx6⟩ := HX5.out; have HG5 := Hd hx5; have HE5 := Hd hx6; clear hx5 hx6; by_cases hlt : n < a.1.ot.length
         ·have hi2 : (n : Int) < (a.1.ot.length : Int) := by omega
          obtain ⟨hw2', hw2⟩ := wr_sm (x := (n : Int) + 1) (by omega) (by omega); obtain ⟨y, g2, off2, cp2, hy, hym, -, e, -, -, hc⟩ := s_cells ((HXR.out wr x5 HG5.out.own).2 a HAM.out) hlt; simp only [Value.slice.injEq] at e; obtain ⟨e1, -, -⟩ := e; have d0 := hc _ (Below.refl _ _); have Hlt := Hd hlt; obtain ⟨z, hz⟩ : ∃ z, z = hasB s.d.1.ts y := ⟨_, rfl⟩; have HU := Hd (ruses_any HG5.out HJ.out hts y); rw [← hz] at HU; clear hc hy hym hlt hz; go_wp2_with fail; refine HU.out.mono ?_; rintro _ w6 ⟨rfl, hb6⟩; have HB6 := Hd hb6; clear hb6 HU e1 d0 y2; cases z with
          | true =>
           go_wp2_with fail; go_roundw
           case rel => exact ⟨n + 1, Hlt.out, by go_num, Hd ⟨x5, HG5.out.same HB6.out, HE5.out⟩, Hd ((HB6.out.block _ (lt_of_block T5.out)).trans T5.out)⟩
           case measure => exact meas_lt Hlt.out
          | false =>
           have HFA := Hd (fails_any (HG5.out.same HB6.out) HJ.out 6); go_wp2_with fail; refine HFA.out.mono ?_; rintro _ w7 ⟨rfl, hg7, hm7⟩; have T7 : Hid (w7.heap[wx.heap.size]? = some (.cells #[.string a.1.tr, .string a.1.nm, .slice a.2.o a.1.ot.length a.2.c, .string a.1.sa] 54 (0, 0))) := Hd (hm7.blk ((HB6.out.block _ (lt_of_block T5.out)).trans T5.out) HTB.out); have HX7 : Hid (∃ x, RG w0 w7 b { s with e := x } J ∧ (x = 0 → s.e = 0)) := Hd ⟨_, hg7, fun h => HE5.out (failE_zero (fun e => e) h)⟩; clear hg7 hm7 HFA; go_wp2_with fail; go_roundw
           case rel => exact ⟨n + 1, Hlt.out, by go_num, HX7, T7⟩
           case measure => exact meas_lt Hlt.out
         ·obtain rfl : n = a.1.ot.length := by omega
          go_wp2_with fail; go_roundw
          case rel => exact ⟨k + 1, Hkl.out, by go_num, HX5⟩
          case measure => exact meas_lt Hkl.out
       | false =>
        have T5 : Hid (wc.heap[wx.heap.size]? = some (.cells #[.string a.1.tr, .string a.1.nm, .slice a.2.o a.1.ot.length a.2.c, .string a.1.sa] 54 (0, 0))) := Hd ((HB4.out.block _ (lt_of_block T2.out)).trans T2.out); have HX5 : Hid (∃ x, RG w0 wc b { s with e := x } J ∧ (x = 0 → s.e = 0)) := Hd ⟨x1, HG2.out.same HB4.out, HE.out⟩; go_wp2_with fail; go_loopw [8] (fun nv wr => ∃ n : Nat, n ≤ a.1.ot.length ∧ nv = .int .i64 n ∧ Hid (∃ x, RG w0 wr b { s with e := x } J ∧ (x = 0 → s.e = 0)) ∧ Hid (wr.heap[wx.heap.size]? = some (.cells #[.string a.1.tr, .string a.1.nm, .slice a.2.o a.1.ot.length a.2.c, .string a.1.sa] 54 (0, 0)))) (fun nv _ => a.1.ot.length - (intOf nv).toNat)
        case atStart => exact ⟨0, Nat.zero_le _, rfl, HX5, T5⟩
        case round =>
         clear HX5 T5; obtain ⟨n, hn, rfl, HX5, T5⟩ := hrel; have hal := HAL.out; have y2 := cB T5.out 2; obtain ⟨x5, hx5, hx6⟩ := HX5.out; have HG5 := Hd hx5; have HE5 := Hd hx6; clear hx5 hx6; by_cases hlt : n < a.1.ot.length
         ·have hi2 : (n : Int) < (a.1.ot.length : Int) := by omega
          obtain ⟨hw2', hw2⟩ := wr_sm (x := (n : Int) + 1) (by omega) (by omega); obtain ⟨y, g2, off2, cp2, hy, hym, -, e, -, -, hc⟩ := s_cells ((HXR.out wr x5 HG5.out.own).2 a HAM.out) hlt; simp only [Value.slice.injEq] at e; obtain ⟨e1, -, -⟩ := e; have d0 := hc _ (Below.refl _ _); have Hlt := Hd hlt; obtain ⟨z, hz⟩ : ∃ z, z = hasB s.d.1.ts y := ⟨_, rfl⟩; have HU := Hd (ruses_any HG5.out HJ.out hts y); rw [← hz] at HU; clear hc hy hym hlt hz; go_wp2_with fail; refine HU.out.mono ?_; rintro _ w6 ⟨rfl, hb6⟩; have HB6 := Hd hb6; clear hb6 HU e1 d0 y2; cases z with
          | true =>
           go_wp2_with fail; go_roundw
           case rel => exact ⟨n + 1, Hlt.out, by go_num, Hd ⟨x5, HG5.out.same HB6.out, HE5.out⟩, Hd ((HB6.out.block _ (lt_of_block T5.out)).trans T5.out)⟩
           case measure => exact meas_lt Hlt.out
          | false =>
           have HFA := Hd (fails_any (HG5.out.same HB6.out) HJ.out 6); go_wp2_with fail; refine HFA.out.mono ?_; rintro _ w7 ⟨rfl, hg7, hm7⟩; have T7 : Hid (w7.heap[wx.heap.size]? = some (.cells #[.string a.1.tr, .string a.1.nm, .slice a.2.o a.1.ot.length a.2.c, .string a.1.sa] 54 (0, 0))) := Hd (hm7.blk ((HB6.out.block _ (lt_of_block T5.out)).trans T5.out) HTB.out); have HX7 : Hid (∃ x, RG w0 w7 b { s with e := x } J ∧ (x = 0 → s.e = 0)) := Hd ⟨_, hg7, fun h => HE5.out (failE_zero (fun e => e) h)⟩; clear hg7 hm7 HFA; go_wp2_with fail; go_roundw
           case rel => exact ⟨n + 1, Hlt.out, by go_num, HX7, T7⟩
           case measure => exact meas_lt Hlt.out
         ·obtain rfl : n = a.1.ot.length := by omega
          go_wp2_with fail; go_roundw
          case rel => exact ⟨k + 1, Hkl.out, by go_num, HX5⟩
          case measure => exact meas_lt Hkl.out
  ·obtain rfl : k = xs.length := by omega
   go_wp2_with fail; go_end0; exact ⟨rfl, x1, HG.out, HE.out⟩
end Go.Proofs.YtobjmajkcfhpoaaDoor
