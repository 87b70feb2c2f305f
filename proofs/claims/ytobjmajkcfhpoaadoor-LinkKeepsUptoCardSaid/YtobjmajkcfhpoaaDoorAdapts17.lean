/-
  The linker's adapts (printed by genAdapts17.py).
-/
import Derived.Test.YtobjmajkcfhpoaaDoorMeant17
namespace Go.Proofs.YtobjmajkcfhpoaaDoor
open Go.RowKit

attribute [local go_sem] yld_undef
/-- What is left to do of adapts within one rule. -/
def adI (ts : List ByteArray) (rs : List KC) (r : List AdP) (os : List ByteArray) : Int := if (os.all fun o => hasB ts o) = true then adaptsP ts rs r else 6
theorem adI_cons (ts : List ByteArray) (rs : List KC) (r : List AdP) (o : ByteArray) (os : List ByteArray) : adI ts rs r (o :: os) = if hasB ts o = true then adI ts rs r os else 6 := by
  unfold adI
  rw [List.all_cons]
  cases hasB ts o <;> simp
theorem adaptsP_cons (ts : List ByteArray) (rs : List KC) (a : AdP) (r : List AdP) : adaptsP ts rs (a :: r) = if (meantP rs a).length = 0 then 6 else adI ts rs r a.ot := by
  rw [adaptsP]
  rfl
theorem da_at {w0 W : World} {b : Nat} {s : LS} (h : LkO w0 W b s) : AdIn (NF b s.g s.l) W (.slice s.d.2.a.o s.d.2.a.n s.d.2.a.c) s.d.1.ad :=
  h.dIn.ha.kept fun g hA hg => ⟨h.mod.block g hg hA, Nat.lt_of_lt_of_le hg h.mod.size, hA⟩
theorem dt_at {w0 W : World} {b : Nat} {s : LS} (h : LkO w0 W b s) : RIn (NF b s.g s.l) W 1 (.slice s.d.2.t.o s.d.2.t.n s.d.2.t.c) (s.d.1.ts.map sR) :=
  h.dIn.ht.kept fun g hA hg => ⟨h.mod.block g hg hA, Nat.lt_of_lt_of_le hg h.mod.size, hA⟩
/-- The rules of a declaration as rows, at any later world. -/
theorem da_rows {w0 W : World} {b : Nat} {s : LS} (h : LkO w0 W b s) : ∃ xs : List (AdP × SV), xs.map (·.1) = s.d.1.ad ∧ ∀ V, LkO w0 V b s → RIn (NF b s.g s.l) V 4 (.slice s.d.2.a.o s.d.2.a.n s.d.2.a.c) (xs.map AdP.row) ∧ ∀ x ∈ xs, RIn (NF b s.g s.l) V 1 (.slice x.2.o x.2.n x.2.c) (x.1.ot.map sR) := by
  obtain ⟨xs, e, h1, h2⟩ := h.dIn.ha
  refine ⟨xs, e, fun V hV => ⟨h1.kept fun g hA hg => ⟨hV.mod.block g hg hA, Nat.lt_of_lt_of_le hg hV.mod.size, hA⟩, fun x hx => (h2 x hx).kept fun g hA hg => ⟨hV.mod.block g hg hA, Nat.lt_of_lt_of_le hg hV.mod.size, hA⟩⟩⟩
def AdaptsPost (W : World) (x : Int) (e : Ending) (w' : World) : Prop := e = .returned (.int .i64 x) ∧ Below W.heap.size W w' 
set_option maxHeartbeats 12800000 in
set_option maxRecDepth 100000 in
theorem adapts_any {w0 W : World} {b : Nat} {s : LS} (h : LkO w0 W b s) (h6 : W.cell? ⟨b, 6, none⟩ = some (.slice s.d.2.t.o s.d.2.t.n s.d.2.t.c)) (h7 : W.cell? ⟨b, 7, none⟩ = some (.slice s.d.2.a.o s.d.2.a.n s.d.2.a.c)) (h34 : W.cell? ⟨b, 34, none⟩ = some (.slice s.r.o s.r.n s.r.c)) (hrs : s.rs.length ≤ 1048576) (hms : ∀ t ∈ s.rs, t.1.ms.length ≤ 1048576) (hts : s.d.1.ts.length ≤ 1048576) (had : s.d.1.ad.length ≤ 1048576) (hot : ∀ a ∈ s.d.1.ad, a.ot.length ≤ 1048576) :
    Calls Tryd.prog 43 #[.pointer (some ⟨b, 0, none⟩)] W (AdaptsPost W (adaptsP s.d.1.ts s.rs s.d.1.ad)) := by
  obtain ⟨xs, hxs, hxr⟩ := da_rows h
  have HC : Hid (∀ V, Below W.heap.size W V → V.cell? ⟨b, 6, none⟩ = some (.slice s.d.2.t.o s.d.2.t.n s.d.2.t.c) ∧ V.cell? ⟨b, 34, none⟩ = some (.slice s.r.o s.r.n s.r.c)) := Lib.hid (fun V hV => ⟨(hV.cell (p := ⟨b, 6, none⟩) (cell_lt h6)).trans h6, (hV.cell (p := ⟨b, 34, none⟩) (cell_lt h34)).trans h34⟩)
  have hlx : xs.length = s.d.1.ad.length := by rw [← hxs, List.length_map]
  have HXN : Hid (s.d.2.a.n = xs.length) := Lib.hid (by have h9 := rin_n (hxr W h).1; rw [List.length_map] at h9; exact h9)
  have HO := Lib.hid h
  rw [HXN.out] at h7
  obtain ⟨r, hr⟩ : ∃ r, r = adaptsP s.d.1.ts s.rs s.d.1.ad := ⟨_, rfl⟩
  rw [← hr]
  have HR : Hid (r = adaptsP s.d.1.ts s.rs ((xs.drop 0).map (·.1))) := Lib.hid (by rw [hr, List.drop_zero, hxs])
  have HXR := Lib.hid hxr
  have HXL : Hid (xs.length ≤ 1048576 ∧ ∀ a ∈ xs, a.1.ot.length ≤ 1048576) := Lib.hid ⟨by omega, fun a ha => hot a.1 (by rw [← hxs]; exact List.mem_map_of_mem ha)⟩
  have HB0 : Hid (Below W.heap.size W W) := Lib.hid (Below.refl _ _)
  clear h h6 h34 hxs hxr hr hlx had hot
  go_enter Tryd.func43, Tryd.ntmps43
  go_wp2_with fail
  clear h7
  go_loopw [4, 6, 13] (fun _ _ kv wr => ∃ k : Nat, k ≤ xs.length ∧ kv = .int .i64 k ∧ Hid (Below W.heap.size W wr) ∧ Hid (r = adaptsP s.d.1.ts s.rs ((xs.drop k).map (·.1)))) (fun _ _ kv _ => xs.length - (intOf kv).toNat)
  case atStart => exact ⟨0, Nat.zero_le _, rfl, HB0, HR⟩
  case round =>
    clear HB0 HR
    obtain ⟨k, hk, rfl, HB, HR⟩ := hrel
    have hxl := HXL.out.1
    by_cases hlt : k < xs.length
    · have hi : (k : Int) < (xs.length : Int) := by omega
      obtain ⟨hw', hw⟩ := wr_sm (x := (k : Int) + 1) (by omega) (by omega)
      have HS1 := Lib.hid (HO.out.same HB.out)
      obtain ⟨a, g, off, cp, ha, ham, -, e, hg, -, hc⟩ := ad_cells (HXR.out wr HS1.out).1 hlt
      simp only [Value.slice.injEq] at e
      obtain ⟨e1, -, -⟩ := e
      obtain ⟨d0, d1, d2, d3⟩ := hc _ (Below.refl _ _)
      have Hkl := Lib.hid hlt
      have HAN : Hid (a.2.n = a.1.ot.length) := Lib.hid (by have h9 := rin_n ((HXR.out wr HS1.out).2 a ham); rw [List.length_map] at h9; exact h9)
      rw [HAN.out] at d2
      have HAM := Lib.hid ham
      have HAL := Lib.hid (HXL.out.2 a ham)
      have B1 := Lib.hid (below_alloc1 wr (.cells #[.string a.1.tr, .string a.1.nm, .slice a.2.o a.1.ot.length a.2.c, .string a.1.sa] 54))
      have HB1 := Lib.hid (HB.out.trans (B1.out.mono HB.out.size))
      have HMC : Hid (Calls Tryd.prog 66 #[.pointer (some ⟨b, 0, none⟩), .agg #[.string a.1.tr, .string a.1.nm, .slice a.2.o a.1.ot.length a.2.c, .string a.1.sa]] (wr.alloc (.cells #[.string a.1.tr, .string a.1.nm, .slice a.2.o a.1.ot.length a.2.c, .string a.1.sa] 54)) (KindPost (wr.alloc (.cells #[.string a.1.tr, .string a.1.nm, .slice a.2.o a.1.ot.length a.2.c, .string a.1.sa] 54)) (meantP s.rs a.1))) := Lib.hid (by
        have h9 := meant_any (HO.out.same HB1.out) (HC.out _ HB1.out).2 hrs hms a
        rw [HAN.out] at h9
        exact h9)
      have HR2 : Hid (r = if (meantP s.rs a.1).length = 0 then 6 else adI s.d.1.ts s.rs ((xs.drop (k + 1)).map (·.1)) a.1.ot) := Lib.hid (by rw [HR.out, drop_at ha, List.map_cons, adaptsP_cons])
      obtain ⟨q, hq⟩ : ∃ q, q = meantP s.rs a.1 := ⟨_, rfl⟩
      rw [← hq] at HMC HR2
      obtain ⟨p, hp⟩ : ∃ p, (((q.length : Nat) : Int) == 0) = p := ⟨_, rfl⟩
      have HP : Hid (p = decide (q.length = 0)) := Lib.hid (by rw [← hp, Bool.eq_iff_iff, beq_iff_eq, decide_eq_true_iff]; omega)
      have T1 : Hid ((wr.alloc (.cells #[.string a.1.tr, .string a.1.nm, .slice a.2.o a.1.ot.length a.2.c, .string a.1.sa] 54)).heap[wr.heap.size]? = some (.cells #[.string a.1.tr, .string a.1.nm, .slice a.2.o a.1.ot.length a.2.c, .string a.1.sa] 54 (0, 0))) := Lib.hid (heap_alloc_new wr _)
      clear hc ha ham hlt hg hq HR
      go_wp2_with fail
      refine HMC.out.mono ?_
      rintro _ w2 ⟨ma, mc, rfl, hor⟩
      have HB2 := Lib.hid (HB1.out.trans (hor.below.mono HB1.out.size))
      have T2 : Hid (w2.heap[wr.heap.size]? = some (.cells #[.string a.1.tr, .string a.1.nm, .slice a.2.o a.1.ot.length a.2.c, .string a.1.sa] 54 (0, 0))) := Lib.hid ((hor.below.block _ (by simp)).trans T1.out)
      clear hor d0 d1 d2 d3 e1 HMC
      have x2 := cell_blk T2.out 2
      cases p with
      | true =>
        have HF : Hid (r = 6) := Lib.hid (by rw [HR2.out]; exact if_pos (by simpa using HP.out.symm))
        go_wp2_with fail
        go_ret
        rw [HF.out]
        exact ⟨rfl, HB2.out⟩
      | false =>
        have HR3 : Hid (r = adI s.d.1.ts s.rs ((xs.drop (k + 1)).map (·.1)) (a.1.ot.drop 0)) := Lib.hid (by rw [HR2.out, List.drop_zero]; exact if_neg (by simpa using HP.out.symm))
        go_wp2_with fail
        clear x2 hp
        obtain ⟨wa, hwa⟩ : ∃ wa, wa = wr := ⟨_, rfl⟩
        subst hwa
        go_loopw [6, 25] (fun _ jv wr => ∃ j : Nat, j ≤ a.1.ot.length ∧ jv = .int .i64 j ∧ Hid (Below W.heap.size W wr) ∧ Hid (r = adI s.d.1.ts s.rs ((xs.drop (k + 1)).map (·.1)) (a.1.ot.drop j))) (fun _ jv _ => a.1.ot.length - (intOf jv).toNat)
        case atStart => exact ⟨0, Nat.zero_le _, rfl, HB2, HR3⟩
        case round =>
          clear HR3 HR2
          obtain ⟨j, hj, rfl, HB3, HR3⟩ := hrel
          have hal := HAL.out
          by_cases hlt : j < a.1.ot.length
          · have hi2 : (j : Int) < (a.1.ot.length : Int) := by omega
            obtain ⟨hw2', hw2⟩ := wr_sm (x := (j : Int) + 1) (by omega) (by omega)
            have HS3 := Lib.hid (HO.out.same HB3.out)
            obtain ⟨y, g2, off2, cp2, hy, hym, -, e, -, -, hc⟩ := s_cells ((HXR.out wr HS3.out).2 a HAM.out) hlt
            simp only [Value.slice.injEq] at e
            obtain ⟨e1, -, -⟩ := e
            have d0 := hc _ (Below.refl _ _)
            have Hlt := Lib.hid hlt
            have h6 := (HC.out _ HB3.out).1
            have HCT := Lib.hid (contains_any y (dt_at HS3.out) (by omega))
            obtain ⟨z, hz⟩ : ∃ z, z = hasB s.d.1.ts y := ⟨_, rfl⟩
            rw [← hz] at HCT
            have HR4 : Hid (r = if z = true then adI s.d.1.ts s.rs ((xs.drop (k + 1)).map (·.1)) (a.1.ot.drop (j + 1)) else 6) := Lib.hid (by rw [HR3.out, drop_at hy, adI_cons, hz])
            clear hc hy hym hlt hz HR3
            go_wp2_with fail
            refine HCT.out.mono ?_
            rintro _ w4 ⟨rfl, hw4⟩
            subst hw4
            clear HCT e1 d0 h6
            cases z with
            | true =>
              have HR5 : Hid (r = adI s.d.1.ts s.rs ((xs.drop (k + 1)).map (·.1)) (a.1.ot.drop (j + 1))) := Lib.hid HR4.out
              go_wp2_with fail
              go_roundw
              case rel => exact ⟨j + 1, Hlt.out, by go_num, HB3, HR5⟩
              case measure => have := Hlt.out; simp [intOf]; omega
            | false =>
              have HF : Hid (r = 6) := Lib.hid HR4.out
              go_wp2_with fail
              go_ret
              rw [HF.out]
              exact ⟨rfl, HB3.out⟩
          · obtain rfl : j = a.1.ot.length := by omega
            have HR5 : Hid (r = adaptsP s.d.1.ts s.rs ((xs.drop (k + 1)).map (·.1))) := Lib.hid (by rw [HR3.out, List.drop_length]; rfl)
            go_wp2_with fail
            go_roundw
            case rel => exact ⟨k + 1, Hkl.out, by go_num, HB3, HR5⟩
            case measure => have := Hkl.out; simp [intOf]; omega
    · obtain rfl : k = xs.length := by omega
      have HF : Hid (r = 0) := Lib.hid (by rw [HR.out, List.drop_length]; rfl)
      go_wp2_with fail
      go_ret
      rw [HF.out]
      exact ⟨rfl, HB.out⟩
end Go.Proofs.YtobjmajkcfhpoaaDoor
