/-
  The document's props (printed by genRProps17.py).
-/
import Derived.Test.YtobjmajkcfhpoaaDoorWp24
namespace Go.Proofs.YtobjmajkcfhpoaaDoor
open Go.RowKit
attribute [local go_sem] yld_undef
theorem PQ.step {w0 W : World} {b : Nat} {s : RS} {PI : List PrP → Prop} {x : Int} {v u : SV} {l : List PrP} {ul : List ByteArray} {N : Nat} (h : PQ w0 W b (s.pz x v l u ul) PI (ul.length + 1)) (he : x = 0 → s.e = 0) (hN : ul.length ≤ N) : PQ w0 W b s PI (N + 1) := by
 obtain ⟨x2, v2, l2, u2, ul2, hg, h2, hp, hl⟩ := h; exact ⟨x2, v2, l2, u2, ul2, hg, fun e => he (h2 e), hp, Nat.le_trans hl (Nat.succ_le_succ hN)⟩
theorem PQ.mono {w0 W : World} {b : Nat} {s : RS} {PI : List PrP → Prop} {N M : Nat} (h : PQ w0 W b s PI N) (hN : N ≤ M) : PQ w0 W b s PI M := by
 obtain ⟨x2, v2, l2, u2, ul2, hg, h2, hp, hl⟩ := h; exact ⟨x2, v2, l2, u2, ul2, hg, h2, hp, Nat.le_trans hl hN⟩
set_option maxHeartbeats 25600000 in
set_option maxRecDepth 100000 in
theorem rprops_any {w0 W : World} {b : Nat} {s : RS} (PI : List PrP → Prop) (h : RG w0 W b s RS.r2) (hq0 : s.q = ⟨none, 0, 0⟩) (hrs : s.rs.length ≤ 1048576) (htp : ∀ t ∈ s.rs, t.1.ps.length ≤ 1048576) (hdp : s.d.1.ps.length ≤ 1048576) (hpp : s.p.1.ps.length ≤ 1048576) (hus : s.us.length ≤ 1048576) (hP0 : PI s.p.1.ps)
  (hstep : ∀ (x : PrP) (ps : List PrP), (x ∈ s.d.1.ps ∨ ∃ t ∈ s.rs, x ∈ t.1.ps) → PI ps → (placeP ps x.nm = none → PI (ps ++ [⟨x.nm, x.st, s.d.1.nm, x.cd⟩])) ∧ (∀ i, placeP ps x.nm = some i → PI (ps.set i ⟨x.nm, x.st, s.d.1.nm, x.cd⟩))) (hle : ∀ l, PI l → l.length ≤ 1048576) :
  Calls Tryd.prog 61 #[.pointer (some ⟨b, 0, none⟩)] W (fun e w' => e = .returned (.tuple #[]) ∧ PQ w0 w' b s PI 2199023255552) := by
 have HS := Hd h; have HFN0 := Hd (lies_of_rin (rP_at h.own).hp); have h31 : W.cell? ⟨b, 31, none⟩ = some (.slice s.p.2.p.o s.p.1.ps.length s.p.2.p.c) := by
  have h9 : W.cell? ⟨b, 31, none⟩ = some (.slice s.p.2.p.o s.p.2.p.n s.p.2.p.c) := cB h.blk 31; have h8 := HFN0.out.2.1; rw [List.length_map] at h8; rw [h8] at h9; exact h9
 have O0 : Hid (OR W W 45 4 (.slice none 0 0) []) := Hd OR.nil; have HL1 := Hd HFN0.out.1; have HN1 : Hid (s.p.1.ps.length = (s.p.1.ps.map PrP.row).length) := Hd (List.length_map _).symm; have HF1 : Hid (([] : List (List Value)).length + (s.p.1.ps.map PrP.row).length ≤ maxLen ∧ (([] : List (List Value)).length + (s.p.1.ps.map PrP.row).length) * 48 ≤ 140737488355328) := Hd (by rw [List.length_map]; unfold maxLen; simp; omega); have HRN : Hid (s.r.n = s.rs.length) := Hd (by have h9 := rin_n (rr_row h.own); rw [List.length_map] at h9; exact h9); have HC0 := Hd hq0; have HP0 := Hd hP0; have HUS := Hd hus; have HSTP := Hd hstep; have HLE := Hd hle; have HTP := Hd htp; clear h hq0 hP0 hstep hle hpp htp hus; go_enter Tryd.func61, Tryd.ntmps61; go_upto_region 1 with (at_builtin; refine wpList_append_rows rfl (.const (.slice none 0 0)) (.tmp 10) 26 rfl 45 _ 4 48 Tryd.underlying26 info45 rfl (by decide) (.slice none 0 0) [] (by rfl) O0.out.own s.p.2.p.o s.p.1.ps.length s.p.2.p.c (s.p.1.ps.map PrP.row) (by rfl) HN1.out HFN0.out.2.2 HL1.out (pr_one _) (pr_len _) HF1.out.1 (by have h := HF1.out.2; omega) ?_; intro v3 w3 o3 g3 n3; have O3 := Hd (O0.out.next o3 g3 n3); obtain ⟨a3, L3, c3, hv3, hl3⟩ := owns_slice o3; subst hv3; have HS3 := Hd (HS.out.same O3.out.below); have f20 := free_blk HS3.out.blk 20; have k20 : w3.cell? ⟨b, 20, none⟩ = some (.slice s.d.2.p.o s.d.2.p.n s.d.2.p.c) := cB HS3.out.blk 20; clear o3 g3 n3 hl3 h31); obtain ⟨w4, hw4⟩ : ∃ w4, w4 = w3.setCell ⟨b, 20, none⟩ (.slice a3 L3 c3) := ⟨_, rfl⟩
 have HQ0 : Hid (PQ w0 w4 b s PI (1048576 + 0 * 1048576)) := Hd (by
  rw [hw4]; refine ⟨s.e, ⟨a3, L3, c3⟩, s.p.1.ps, s.u, s.us, ?_, fun e => e, HP0.out, by have := HUS.out; omega⟩; refine HS.out.in_q (v := ⟨a3, L3, c3⟩) (l := s.p.1.ps) O3.out.own (grown_below O3.out.below) ?_; rcases O3.out.n3 with h9 | h9
  ·exact .inl (by rw [HC0.out]; exact h9)
  ·exact .inr h9)
 rw [← hw4]; clear hw4 f20 k20 HS3 O0 O3 HL1 HN1 HF1 HS HFN0 HC0; go_wp2_with fail; go_loopw [2, 3] (fun kv _ wr => ∃ k : Nat, k ≤ s.rs.length ∧ kv = .int .i64 k ∧ Hid (PQ w0 wr b s PI (1048576 + k * 1048576))) (fun kv _ _ => s.rs.length - (intOf kv).toNat)
 case atStart => exact ⟨0, Nat.zero_le _, rfl, HQ0⟩
 case round =>
  clear HQ0; obtain ⟨k, hk, rfl, HQ⟩ := hrel; obtain ⟨x1, v1, l1, u1, ul1, hg1, he1, hp1, hl1⟩ := HQ.out; have HS1 := Hd hg1; have h34 : wr.cell? ⟨b, 34, none⟩ = some (.slice s.r.o s.rs.length s.r.c) := by
   have h9 : wr.cell? ⟨b, 34, none⟩ = some (.slice s.r.o s.r.n s.r.c) := cB HS1.out.blk 34; rw [HRN.out] at h9; exact h9
  by_cases hlt : k < s.rs.length
  ·have hi : (k : Int) < (s.rs.length : Int) := by omega
   obtain ⟨hw', hw⟩ := wr_sm (x := (k : Int) + 1) (by omega) (by omega); obtain ⟨t, ht⟩ : ∃ t, s.rs[k]? = some t := ⟨s.rs[k], List.getElem?_eq_getElem hlt⟩; have HT := Hd ht; have HTM : Hid (t ∈ s.rs) := Hd (List.mem_of_getElem? ht); have HTL : Hid (t.1.ps.length ≤ 1048576) := Hd (HTP.out t HTM.out); have HTN : Hid (t.2.p.n = t.1.ps.length) := Hd (by have h9 := rin_n (rT_at (s := s.pz x1 v1 l1 u1 ul1) HS1.out.own HTM.out).hp; rw [List.length_map] at h9; exact h9); have Hkl := Hd hlt; have HQ1 : Hid (PQ w0 wr b s PI (1048576 + k * 1048576 + 0)) := Hd HQ.out; clear ht hlt hg1 he1 hp1 hl1; go_wp2_with fail; clear h34 HQ HS1; obtain ⟨wa, hwa⟩ : ∃ wa, wa = wr := ⟨_, rfl⟩; subst hwa; go_loopw [3] (fun jv wr => ∃ j : Nat, j ≤ t.1.ps.length ∧ jv = .int .i64 j ∧ Hid (PQ w0 wr b s PI (1048576 + k * 1048576 + j))) (fun jv _ => t.1.ps.length - (intOf jv).toNat)
   case atStart => exact ⟨0, Nat.zero_le _, rfl, HQ1⟩
   case round =>
    clear HQ1; obtain ⟨j, hj, rfl, HQ⟩ := hrel; obtain ⟨x2, v2, l2, u2, ul2, hg1, he1, hp1, hl1⟩ := HQ.out; have HS2 := Hd hg1; have HE2 := Hd he1; have HP2 := Hd hp1; have HL2 := Hd hl1; obtain ⟨t', g, off, cp, ht', -, -, e, hg, -, hc⟩ := kc_cells (rr_row (s := s.pz x2 v2 l2 u2 ul2) HS2.out.own) Hkl.out; have hki : (k : Int) < (s.rs.length : Int) := by have := Hkl.out; omega
    have ht9 : t' = t := by have h9 := HT.out; rw [show s.rs[k]? = some t' from ht'] at h9; cases h9; rfl
    subst ht9; have h34 : wr.cell? ⟨b, 34, none⟩ = some (.slice (some ⟨g, off, none⟩) s.rs.length cp) := by
     have h9 : wr.cell? ⟨b, 34, none⟩ = some (.slice s.r.o s.r.n s.r.c) := cB HS2.out.blk 34; rw [show (Value.slice s.r.o s.r.n s.r.c) = .slice (some ⟨g, off, none⟩) s.rs.length cp from e] at h9; exact h9
    obtain ⟨-, -, -, -, -, -, -, -, -, d9, -⟩ := hc _ (Below.refl _ _); rw [HTN.out] at d9; have htl := HTL.out; clear hg1 he1 hp1 hl1 ht' e hg hc; by_cases hlt : j < t'.1.ps.length
    ·have hi2 : (j : Int) < (t'.1.ps.length : Int) := by omega
     obtain ⟨hw2', hw2⟩ := wr_sm (x := (j : Int) + 1) (by omega) (by omega); have Hjl := Hd hlt; have HX : Hid (RIn (NB b) wr 4 (.slice t'.2.p.o t'.2.p.n t'.2.p.c) (t'.1.ps.map PrP.row)) := Hd (rT_at (s := s.pz x2 v2 l2 u2 ul2) HS2.out.own HTM.out).hp; obtain ⟨x, g2, off2, cp2, hx, hxm, -, e, -, -, hc2⟩ := pr_cells HX.out hlt; have e9 := e; rw [HTN.out] at e9; simp only [Value.slice.injEq] at e9; obtain ⟨e1, -, -⟩ := e9; rw [e1] at d9; obtain ⟨y0, y1, y2, y3⟩ := hc2 _ (Below.refl _ _); clear e hlt HX e1 HQ; have HCA : Hid (Calls Tryd.prog 78 #[.pointer (some ⟨b, 0, none⟩), .agg #[.string x.nm, .bool x.st, .string x.fr, .int .i64 x.cd], .bool true] wr (fun e w' => e = .returned (.tuple #[]) ∧ PQ w0 w' b (s.pz x2 v2 l2 u2 ul2) PI (ul2.length + 1))) := Hd (rprop_any (s := s.pz x2 v2 l2 u2 ul2) PI HS2.out x.nm x.st x.fr x.cd true (HLE.out _ HP2.out) (by have h1 := HL2.out; have h2 := (⟨Hkl.out, Hjl.out, HTL.out⟩ : k < s.rs.length ∧ j < _ ∧ _); show ul2.length ≤ _; omega) HP2.out (HSTP.out x _ (.inr ⟨_, HTM.out, hxm⟩) HP2.out).1 (HSTP.out x _ (.inr ⟨_, HTM.out, hxm⟩) HP2.out).2); clear hc2 hx hxm; go_wp2_with fail; refine HCA.out.mono ?_; rintro _ w5 ⟨rfl, hq5⟩; have HQ5 : Hid (PQ w0 w5 b s PI (1048576 + k * 1048576 + j + 1)) := Hd (hq5.step HE2.out HL2.out); clear hq5 HCA; go_wp2_with fail; go_roundw
     case rel => exact ⟨j + 1, Hjl.out, by go_num, HQ5⟩
     case measure => exact meas_lt Hjl.out
    ·obtain rfl : j = t'.1.ps.length := by omega
     have HQ3 : Hid (PQ w0 wr b s PI (1048576 + (k + 1) * 1048576)) := Hd (HQ.out.mono (by omega)); go_wp2_with fail; go_roundw
     case rel => exact ⟨k + 1, Hkl.out, by go_num, HQ3⟩
     case measure => exact meas_lt Hkl.out
  ·obtain rfl : k = s.rs.length := by omega
   have HDN : Hid (s.d.2.p.n = s.d.1.ps.length) := Hd (by have h9 := rin_n (rD_at (s := s.pz x1 v1 l1 u1 ul1) HS1.out.own).hp; rw [List.length_map] at h9; exact h9); have HQ1 : Hid (PQ w0 wr b s PI (1048576 + 1048576 * 1048576 + 0)) := Hd (HQ.out.mono (by omega)); clear hg1 he1 hp1 hl1; go_wp2_with fail; clear h34 HQ HS1; obtain ⟨wa, hwa⟩ : ∃ wa, wa = wr := ⟨_, rfl⟩; subst hwa; go_loopw [4] (fun jv wr => ∃ j : Nat, j ≤ s.d.1.ps.length ∧ jv = .int .i64 j ∧ Hid (PQ w0 wr b s PI (1048576 + 1048576 * 1048576 + j))) (fun jv _ => s.d.1.ps.length - (intOf jv).toNat)
   case atStart => exact ⟨0, Nat.zero_le _, rfl, HQ1⟩
   case round =>
    clear HQ1; obtain ⟨j, hj, rfl, HQ⟩ := hrel; obtain ⟨x2, v2, l2, u2, ul2, hg1, he1, hp1, hl1⟩ := HQ.out; have HS2 := Hd hg1; have HE2 := Hd he1; have HP2 := Hd hp1; have HL2 := Hd hl1; have h9 : wr.cell? ⟨b, 9, none⟩ = some (.slice s.d.2.p.o s.d.1.ps.length s.d.2.p.c) := by
     have h9 : wr.cell? ⟨b, 9, none⟩ = some (.slice s.d.2.p.o s.d.2.p.n s.d.2.p.c) := cB HS2.out.blk 9; rw [HDN.out] at h9; exact h9
    clear hg1 he1 hp1 hl1; by_cases hlt : j < s.d.1.ps.length
    ·have hi2 : (j : Int) < (s.d.1.ps.length : Int) := by omega
     obtain ⟨hw2', hw2⟩ := wr_sm (x := (j : Int) + 1) (by omega) (by omega); have Hjl := Hd hlt; have HX : Hid (RIn (NB b) wr 4 (.slice s.d.2.p.o s.d.2.p.n s.d.2.p.c) (s.d.1.ps.map PrP.row)) := Hd (rD_at (s := s.pz x2 v2 l2 u2 ul2) HS2.out.own).hp; obtain ⟨x, g2, off2, cp2, hx, hxm, -, e, -, -, hc2⟩ := pr_cells HX.out hlt; have e9 := e; rw [HDN.out] at e9; simp only [Value.slice.injEq] at e9; obtain ⟨e1, -, -⟩ := e9; rw [e1] at h9; obtain ⟨y0, y1, y2, y3⟩ := hc2 _ (Below.refl _ _); clear e hlt HX e1 HQ; have HCA : Hid (Calls Tryd.prog 78 #[.pointer (some ⟨b, 0, none⟩), .agg #[.string x.nm, .bool x.st, .string x.fr, .int .i64 x.cd], .bool false] wr (fun e w' => e = .returned (.tuple #[]) ∧ PQ w0 w' b (s.pz x2 v2 l2 u2 ul2) PI (ul2.length + 1))) := Hd (rprop_any (s := s.pz x2 v2 l2 u2 ul2) PI HS2.out x.nm x.st x.fr x.cd false (HLE.out _ HP2.out) (by have h1 := HL2.out; have h2 := (⟨Hjl.out, hdp⟩ : j < _ ∧ _); show ul2.length ≤ _; omega) HP2.out (HSTP.out x _ (.inl hxm) HP2.out).1 (HSTP.out x _ (.inl hxm) HP2.out).2); clear hc2 hx hxm; go_wp2_with fail; refine HCA.out.mono ?_; rintro _ w5 ⟨rfl, hq5⟩; have HQ5 : Hid (PQ w0 w5 b s PI (1048576 + 1048576 * 1048576 + j + 1)) := Hd (hq5.step HE2.out HL2.out); clear hq5 HCA; go_wp2_with fail; go_roundw
     case rel => exact ⟨j + 1, Hjl.out, by go_num, HQ5⟩
     case measure => exact meas_lt Hjl.out
    ·obtain rfl : j = s.d.1.ps.length := by omega
     go_wp2_with fail; go_end0; exact ⟨rfl, HQ.out.mono (by omega)⟩
end Go.Proofs.YtobjmajkcfhpoaaDoor
