/-
  sameTexts and Same at like classes (printed by genRSame17.py).
  LinkWritten: plain facts for the law's walk (printed by genWritten17.py).
-/
import Derived.Test.YtobjmajkcfhpoaaDoorWp32
import Derived.Test.YtobjmajkcfhpoaaDoorWp31
namespace Go.Proofs.YtobjmajkcfhpoaaDoor
open Go.RowKit
attribute [local go_sem] yld_undef
set_option maxHeartbeats 6400000 in
set_option maxRecDepth 100000 in
theorem sameT_any {A B : Nat → Prop} {w : World} {ao bo : Option Addr} {ac bc : Nat} {l : List ByteArray} (ha : RIn A w 1 (.slice ao l.length ac) (l.map sR)) (hb : RIn B w 1 (.slice bo l.length bc) (l.map sR)) (hl : l.length ≤ 1073741824) :
  Calls Tryd.prog 39 #[.slice ao l.length ac, .slice bo l.length bc] w (BoolPost w true) := by
 have HA := Hd ha; have HB := Hd hb; have B0 : Hid (Below w.heap.size w w) := Hd (Below.refl _ _); clear ha hb; go_enter Tryd.func39, Tryd.ntmps39; go_wp2_with fail; go_loopw [5] (fun kv wr => ∃ k : Nat, k ≤ l.length ∧ kv = .int .i64 k ∧ Hid (Below w.heap.size w wr)) (fun kv _ => l.length - (intOf kv).toNat)
 case atStart => exact ⟨0, Nat.zero_le _, rfl, B0⟩
 case round =>
  clear B0; obtain ⟨k, hk, rfl, HBL⟩ := hrel; by_cases hlt : k < l.length
  ·have hi : (k : Int) < (l.length : Int) := by omega
   obtain ⟨hw', hw⟩ := wr_sm (x := (k : Int) + 1) (by omega) (by omega); obtain ⟨x, g, off, cp, hx, -, -, e, -, -, hc⟩ := s_cells HA.out hlt; obtain ⟨x2, g2, off2, cp2, hx2, -, -, e2, -, -, hc2⟩ := s_cells HB.out hlt; have hxx : x2 = x := by rw [hx] at hx2; cases hx2; rfl
   subst hxx; cases e; cases e2; have HSX : Hid (∀ V, Below w.heap.size w V → (fun V => V.cell? ⟨g, off + k, none⟩ = some (.string x2) ∧ V.cell? ⟨g2, off2 + k, none⟩ = some (.string x2)) V) := Hd (fun V hV => ⟨hc V hV, hc2 V hV⟩); have Hlt := Hd hlt; clear hc hc2 hx hlt; go_upto_region 6 with fail; refine wp_region_noPanic ?_; refine wp_region_held_drew (S := (fun V => V.cell? ⟨g, off + k, none⟩ = some (.string x2) ∧ V.cell? ⟨g2, off2 + k, none⟩ = some (.string x2))) (by kernel_rfl) (by exact HSX.out _ HBL.out.drew) (fun hHeld => ?_); refine tk 0 ?_; refine tk 1 ?_; refine tk 2 ?_; refine tk 3 ?_; refine tk 4 ?_; refine tk 5 ?_; refine tk 6 ?_; refine tk 7 ?_; refine tk 8 ?_; refine dn (NoPanic.normal ?_); have HB2 : Hid (Below w.heap.size w wr.drew) := Hd HBL.out.drew; go_wp2_with fail; go_roundw
   case rel => exact ⟨k + 1, Hlt.out, by go_num, HB2⟩
   case measure => exact meas_lt Hlt.out
  ·obtain rfl : k = l.length := by omega
   go_wp2_with fail; go_ret; exact ⟨rfl, HBL.out⟩
set_option maxHeartbeats 12800000 in
set_option maxRecDepth 100000 in
theorem same_any {A B : Nat → Prop} {w : World} (c : ClP) (V1 V2 : VS6) (h1 : ClIn A w c V1) (h2 : ClIn B w c V2) (had : c.ad = []) (hm : c.fs.length ≤ 1048576 ∧ c.ts.length ≤ 1048576 ∧ c.cs.length ≤ 1048576 ∧ c.ps.length ≤ 1048576 ∧ c.ms.length ≤ 1048576) :
  Calls Tryd.prog 13 #[KC.v (c, V1), KC.v (c, V2)] w (BoolPost w true) := by
 have e1 : KC.v (c, V1) = .agg #[.string c.nm, .int .i64 c.kd, .bool c.ab, .bool c.fi, .string c.pa, .slice V1.f.o c.fs.length V1.f.c, .slice V1.t.o c.ts.length V1.t.c, .slice V1.a.o 0 V1.a.c, .slice V1.c.o c.cs.length V1.c.c, .slice V1.p.o c.ps.length V1.p.c, .slice V1.m.o c.ms.length V1.m.c] := by
  have n1 := rin_len h1.hf; have n2 := rin_len h1.ht; have n4 := rin_len h1.hc; have n5 := rin_len h1.hp; have n6 := rin_len h1.hm; obtain ⟨xs, hx, h3, -⟩ := h1.ha; have n3 := rin_len h3; rw [had] at hx; have hx0 : xs = [] := List.map_eq_nil_iff.1 hx; rw [hx0] at n3; rw [List.length_map] at n1 n2 n4 n5 n6; simp only [KC.v, n1, n2, n3, n4, n5, n6, List.map_nil, List.length_nil]
 have e2 : KC.v (c, V2) = .agg #[.string c.nm, .int .i64 c.kd, .bool c.ab, .bool c.fi, .string c.pa, .slice V2.f.o c.fs.length V2.f.c, .slice V2.t.o c.ts.length V2.t.c, .slice V2.a.o 0 V2.a.c, .slice V2.c.o c.cs.length V2.c.c, .slice V2.p.o c.ps.length V2.p.c, .slice V2.m.o c.ms.length V2.m.c] := by
  have n1 := rin_len h2.hf; have n2 := rin_len h2.ht; have n4 := rin_len h2.hc; have n5 := rin_len h2.hp; have n6 := rin_len h2.hm; obtain ⟨xs, hx, h3, -⟩ := h2.ha; have n3 := rin_len h3; rw [had] at hx; have hx0 : xs = [] := List.map_eq_nil_iff.1 hx; rw [hx0] at n3; rw [List.length_map] at n1 n2 n4 n5 n6; simp only [KC.v, n1, n2, n3, n4, n5, n6, List.map_nil, List.length_nil]
 rw [e1, e2]; have rf1 : RIn A w 1 (.slice V1.f.o c.fs.length V1.f.c) (c.fs.map sR) := by have n := rin_len h1.hf; rw [List.length_map] at n; rw [← n]; exact h1.hf
 have rf2 : RIn B w 1 (.slice V2.f.o c.fs.length V2.f.c) (c.fs.map sR) := by have n := rin_len h2.hf; rw [List.length_map] at n; rw [← n]; exact h2.hf
 have rt1 : RIn A w 1 (.slice V1.t.o c.ts.length V1.t.c) (c.ts.map sR) := by have n := rin_len h1.ht; rw [List.length_map] at n; rw [← n]; exact h1.ht
 have rt2 : RIn B w 1 (.slice V2.t.o c.ts.length V2.t.c) (c.ts.map sR) := by have n := rin_len h2.ht; rw [List.length_map] at n; rw [← n]; exact h2.ht
 have HC1 : Hid (RIn A w 3 (.slice V1.c.o c.cs.length V1.c.c) (c.cs.map CoP.row)) := Hd (by have n := rin_len h1.hc; rw [List.length_map] at n; rw [← n]; exact h1.hc); have HC2 : Hid (RIn B w 3 (.slice V2.c.o c.cs.length V2.c.c) (c.cs.map CoP.row)) := Hd (by have n := rin_len h2.hc; rw [List.length_map] at n; rw [← n]; exact h2.hc); have HP1 : Hid (RIn A w 4 (.slice V1.p.o c.ps.length V1.p.c) (c.ps.map PrP.row)) := Hd (by have n := rin_len h1.hp; rw [List.length_map] at n; rw [← n]; exact h1.hp); have HP2 : Hid (RIn B w 4 (.slice V2.p.o c.ps.length V2.p.c) (c.ps.map PrP.row)) := Hd (by have n := rin_len h2.hp; rw [List.length_map] at n; rw [← n]; exact h2.hp); have HM1 : Hid (RIn A w 6 (.slice V1.m.o c.ms.length V1.m.c) (c.ms.map MtP.row)) := Hd (by have n := rin_len h1.hm; rw [List.length_map] at n; rw [← n]; exact h1.hm); have HM2 : Hid (RIn B w 6 (.slice V2.m.o c.ms.length V2.m.c) (c.ms.map MtP.row)) := Hd (by have n := rin_len h2.hm; rw [List.length_map] at n; rw [← n]; exact h2.hm); obtain ⟨hm1, hm2, hm3, hm4, hm5⟩ := hm; have A0 := Hd (at2_start w (.cells #[.string c.nm, .int .i64 c.kd, .bool c.ab, .bool c.fi, .string c.pa, .slice V1.f.o c.fs.length V1.f.c, .slice V1.t.o c.ts.length V1.t.c, .slice V1.a.o 0 V1.a.c, .slice V1.c.o c.cs.length V1.c.c, .slice V1.p.o c.ps.length V1.p.c, .slice V1.m.o c.ms.length V1.m.c] 29) (.cells #[.string c.nm, .int .i64 c.kd, .bool c.ab, .bool c.fi, .string c.pa, .slice V2.f.o c.fs.length V2.f.c, .slice V2.t.o c.ts.length V2.t.c, .slice V2.a.o 0 V2.a.c, .slice V2.c.o c.cs.length V2.c.c, .slice V2.p.o c.ps.length V2.p.c, .slice V2.m.o c.ms.length V2.m.c] 29))
 have TF : Hid (∀ V, Below w.heap.size w V → Calls Tryd.prog 39 #[.slice V1.f.o c.fs.length V1.f.c, .slice V2.f.o c.fs.length V2.f.c] V (BoolPost V true)) := Hd (fun V hV => sameT_any (rf1.under hV) (rf2.under hV) (by omega)); have TT : Hid (∀ V, Below w.heap.size w V → Calls Tryd.prog 39 #[.slice V1.t.o c.ts.length V1.t.c, .slice V2.t.o c.ts.length V2.t.c] V (BoolPost V true)) := Hd (fun V hV => sameT_any (rt1.under hV) (rt2.under hV) (by omega)); clear h1 h2 had e1 e2 rf1 rf2 rt1 rt2; have a0 := cB A0.out.a 0; have a1 := cB A0.out.a 1; have a2 := cB A0.out.a 2; have a3 := cB A0.out.a 3; have a4 := cB A0.out.a 4; have a5 := cB A0.out.a 5; have a6 := cB A0.out.a 6; have a7 := cB A0.out.a 7; have a8 := cB A0.out.a 8; have a9 := cB A0.out.a 9; have a10 := cB A0.out.a 10; have b0 := cB A0.out.b 0; have b1 := cB A0.out.b 1; have b2 := cB A0.out.b 2; have b3 := cB A0.out.b 3; have b4 := cB A0.out.b 4; have b5 := cB A0.out.b 5; have b6 := cB A0.out.b 6; have b7 := cB A0.out.b 7; have b8 := cB A0.out.b 8; have b9 := cB A0.out.b 9; have b10 := cB A0.out.b 10; go_enter Tryd.func13, Tryd.ntmps13; go_wp2_with fail; refine (TF.out _ A0.out.below).mono ?_; rintro _ w1 ⟨rfl, hb1⟩; have A1 := Hd (A0.out.mono hb1); clear hb1 A0 TF a0 b0 a1 b1 a2 b2 a3 b3 a4 b4 a5 b5 a6 b6 a7 b7 a8 b8 a9 b9 a10 b10; have a6 := cB A1.out.a 6; have a7 := cB A1.out.a 7; have a8 := cB A1.out.a 8; have a9 := cB A1.out.a 9; have a10 := cB A1.out.a 10; have b6 := cB A1.out.b 6; have b7 := cB A1.out.b 7; have b8 := cB A1.out.b 8; have b9 := cB A1.out.b 9; have b10 := cB A1.out.b 10
 go_wp2_with fail; refine (TT.out _ A1.out.below).mono ?_; rintro _ w2 ⟨rfl, hb1⟩; have A2 := Hd (A1.out.mono hb1); clear hb1 A1 TT a6 b6 a7 b7 a8 b8 a9 b9 a10 b10; have A1 := A2; clear A2; have a7 := cB A1.out.a 7; have a8 := cB A1.out.a 8; have a9 := cB A1.out.a 9; have a10 := cB A1.out.a 10; have b7 := cB A1.out.b 7; have b8 := cB A1.out.b 8; have b9 := cB A1.out.b 9; have b10 := cB A1.out.b 10; go_wp2_with fail; clear a7 b7 a8 b8 a9 b9 a10 b10; go_loopw [5, 6, 7] (fun kv _ _ wr => kv = .int .i64 0 ∧ Hid (At2 w wr w.heap.size (.cells #[.string c.nm, .int .i64 c.kd, .bool c.ab, .bool c.fi, .string c.pa, .slice V1.f.o c.fs.length V1.f.c, .slice V1.t.o c.ts.length V1.t.c, .slice V1.a.o 0 V1.a.c, .slice V1.c.o c.cs.length V1.c.c, .slice V1.p.o c.ps.length V1.p.c, .slice V1.m.o c.ms.length V1.m.c] 29 (0, 0)) (.cells #[.string c.nm, .int .i64 c.kd, .bool c.ab, .bool c.fi, .string c.pa, .slice V2.f.o c.fs.length V2.f.c, .slice V2.t.o c.ts.length V2.t.c, .slice V2.a.o 0 V2.a.c, .slice V2.c.o c.cs.length V2.c.c, .slice V2.p.o c.ps.length V2.p.c, .slice V2.m.o c.ms.length V2.m.c] 29 (0, 0)))) (fun _ _ _ _ => 0)
 case atStart => exact ⟨rfl, A1⟩
 case round =>
  clear A1; obtain ⟨rfl, A1⟩ := hrel; have a7 : wr.cell? ⟨w.heap.size, 7, none⟩ = some (.slice V1.a.o 0 V1.a.c) := cB A1.out.a 7; have b7 : wr.cell? ⟨w.heap.size + 1, 7, none⟩ = some (.slice V2.a.o 0 V2.a.c) := cB A1.out.b 7; go_wp2_with fail; clear a7 b7; go_loopw [8] (fun kv wr => ∃ k : Nat, k ≤ c.cs.length ∧ kv = .int .i64 k ∧ Hid (At2 w wr w.heap.size (.cells #[.string c.nm, .int .i64 c.kd, .bool c.ab, .bool c.fi, .string c.pa, .slice V1.f.o c.fs.length V1.f.c, .slice V1.t.o c.ts.length V1.t.c, .slice V1.a.o 0 V1.a.c, .slice V1.c.o c.cs.length V1.c.c, .slice V1.p.o c.ps.length V1.p.c, .slice V1.m.o c.ms.length V1.m.c] 29 (0, 0)) (.cells #[.string c.nm, .int .i64 c.kd, .bool c.ab, .bool c.fi, .string c.pa, .slice V2.f.o c.fs.length V2.f.c, .slice V2.t.o c.ts.length V2.t.c, .slice V2.a.o 0 V2.a.c, .slice V2.c.o c.cs.length V2.c.c, .slice V2.p.o c.ps.length V2.p.c, .slice V2.m.o c.ms.length V2.m.c] 29 (0, 0)))) (fun kv _ => c.cs.length - (intOf kv).toNat)
  case atStart => exact ⟨0, Nat.zero_le _, rfl, A1⟩
  case round =>
   clear A1; obtain ⟨k, hk, rfl, A1⟩ := hrel; have a8 : wr.cell? ⟨w.heap.size, 8, none⟩ = some (.slice V1.c.o c.cs.length V1.c.c) := cB A1.out.a 8; have b8 : wr.cell? ⟨w.heap.size + 1, 8, none⟩ = some (.slice V2.c.o c.cs.length V2.c.c) := cB A1.out.b 8; by_cases hlt : k < c.cs.length
   ·have hi : (k : Int) < (c.cs.length : Int) := by omega
    obtain ⟨hw', hw⟩ := wr_sm (x := (k : Int) + 1) (by omega) (by omega); obtain ⟨x, g, off, cp, hx, -, -, e, -, -, hc⟩ := co_cells HC1.out hlt; obtain ⟨x2, g2, off2, cp2, hx2, -, -, e2, -, -, hc2⟩ := co_cells HC2.out hlt; have hxx : x2 = x := by rw [hx] at hx2; cases hx2; rfl
    subst hxx; simp only [Value.slice.injEq] at e e2; obtain ⟨e1, -, -⟩ := e; obtain ⟨e3, -, -⟩ := e2; rw [e1] at a8; rw [e3] at b8; have HL1 := Hd a8; have HL2 := Hd b8; have HSX : Hid (∀ V, Below wr.heap.size wr V → (fun V => V.cell? ⟨w.heap.size, 8, none⟩ = some (.slice (some ⟨g, off, none⟩) c.cs.length V1.c.c) ∧ V.cell? ⟨w.heap.size + 1, 8, none⟩ = some (.slice (some ⟨g2, off2, none⟩) c.cs.length V2.c.c) ∧ V.cell? ⟨g, off + k * 3, none⟩ = some (.string x2.nm) ∧ V.cell? ⟨g, off + k * 3 + 1, none⟩ = some (.string x2.fr) ∧ V.cell? ⟨g, off + k * 3 + 2, none⟩ = some (.int .i64 x2.cd) ∧ V.cell? ⟨g2, off2 + k * 3, none⟩ = some (.string x2.nm) ∧ V.cell? ⟨g2, off2 + k * 3 + 1, none⟩ = some (.string x2.fr) ∧ V.cell? ⟨g2, off2 + k * 3 + 2, none⟩ = some (.int .i64 x2.cd)) V) := Hd (fun V hV => by
     obtain ⟨q0, q1, q2⟩ := hc V (A1.out.below.trans (hV.mono A1.out.below.size)); obtain ⟨r0, r1, r2⟩ := hc2 V (A1.out.below.trans (hV.mono A1.out.below.size)); exact ⟨(hV.cell (p := ⟨w.heap.size, 8, none⟩) (cell_lt HL1.out)).trans HL1.out, (hV.cell (p := ⟨w.heap.size + 1, 8, none⟩) (cell_lt HL2.out)).trans HL2.out, q0, q1, q2, r0, r1, r2⟩)
    have HD : Hid (Below wr.heap.size wr wr.drew) := Hd (Below.refl _ _).drew; have Hlt := Hd hlt; clear hc hc2 hx hlt e1 e3; go_upto_region 12 with fail; clear a8 b8; refine wp_region_noPanic ?_; refine wp_region_held_drew (S := (fun V => V.cell? ⟨w.heap.size, 8, none⟩ = some (.slice (some ⟨g, off, none⟩) c.cs.length V1.c.c) ∧ V.cell? ⟨w.heap.size + 1, 8, none⟩ = some (.slice (some ⟨g2, off2, none⟩) c.cs.length V2.c.c) ∧ V.cell? ⟨g, off + k * 3, none⟩ = some (.string x2.nm) ∧ V.cell? ⟨g, off + k * 3 + 1, none⟩ = some (.string x2.fr) ∧ V.cell? ⟨g, off + k * 3 + 2, none⟩ = some (.int .i64 x2.cd) ∧ V.cell? ⟨g2, off2 + k * 3, none⟩ = some (.string x2.nm) ∧ V.cell? ⟨g2, off2 + k * 3 + 1, none⟩ = some (.string x2.fr) ∧ V.cell? ⟨g2, off2 + k * 3 + 2, none⟩ = some (.int .i64 x2.cd))) (by kernel_rfl) (by exact HSX.out _ HD.out) (fun hHeld => ?_); refine tk 0 ?_; refine tk 1 ?_; refine tk 2 ?_; refine tk 3 ?_; refine tk 4 ?_; refine tk 5 ?_; refine tk 6 ?_; refine tk 7 ?_; refine tk 8 ?_; refine tk 9 ?_; refine tk 10 ?_; refine dn (NoPanic.normal ?_); have A3 := Hd A1.out.drew; go_wp2_with fail; go_roundw
    case rel => exact ⟨k + 1, Hlt.out, by go_num, A3⟩
    case measure => exact meas_lt Hlt.out
   ·obtain rfl : k = c.cs.length := by omega
    go_wp2_with fail; clear a8 b8; go_loopw [9] (fun kv wr => ∃ k : Nat, k ≤ c.ps.length ∧ kv = .int .i64 k ∧ Hid (At2 w wr w.heap.size (.cells #[.string c.nm, .int .i64 c.kd, .bool c.ab, .bool c.fi, .string c.pa, .slice V1.f.o c.fs.length V1.f.c, .slice V1.t.o c.ts.length V1.t.c, .slice V1.a.o 0 V1.a.c, .slice V1.c.o c.cs.length V1.c.c, .slice V1.p.o c.ps.length V1.p.c, .slice V1.m.o c.ms.length V1.m.c] 29 (0, 0)) (.cells #[.string c.nm, .int .i64 c.kd, .bool c.ab, .bool c.fi, .string c.pa, .slice V2.f.o c.fs.length V2.f.c, .slice V2.t.o c.ts.length V2.t.c, .slice V2.a.o 0 V2.a.c, .slice V2.c.o c.cs.length V2.c.c, .slice V2.p.o c.ps.length V2.p.c, .slice V2.m.o c.ms.length V2.m.c] 29 (0, 0)))) (fun kv _ => c.ps.length - (intOf kv).toNat)
    case atStart => exact ⟨0, Nat.zero_le _, rfl, A1⟩
    case round =>
     clear A1; obtain ⟨k, hk, rfl, A1⟩ := hrel; have a9 : wr.cell? ⟨w.heap.size, 9, none⟩ = some (.slice V1.p.o c.ps.length V1.p.c) := cB A1.out.a 9; have b9 : wr.cell? ⟨w.heap.size + 1, 9, none⟩ = some (.slice V2.p.o c.ps.length V2.p.c) := cB A1.out.b 9; by_cases hlt : k < c.ps.length
     ·have hi : (k : Int) < (c.ps.length : Int) := by omega
      obtain ⟨hw', hw⟩ := wr_sm (x := (k : Int) + 1) (by omega) (by omega); obtain ⟨x, g, off, cp, hx, -, -, e, -, -, hc⟩ := pr_cells HP1.out hlt; obtain ⟨x2, g2, off2, cp2, hx2, -, -, e2, -, -, hc2⟩ := pr_cells HP2.out hlt; have hxx : x2 = x := by rw [hx] at hx2; cases hx2; rfl
      subst hxx; simp only [Value.slice.injEq] at e e2; obtain ⟨e1, -, -⟩ := e; obtain ⟨e3, -, -⟩ := e2; rw [e1] at a9; rw [e3] at b9; have HL1 := Hd a9; have HL2 := Hd b9; have HSX : Hid (∀ V, Below wr.heap.size wr V → (fun V => V.cell? ⟨w.heap.size, 9, none⟩ = some (.slice (some ⟨g, off, none⟩) c.ps.length V1.p.c) ∧ V.cell? ⟨w.heap.size + 1, 9, none⟩ = some (.slice (some ⟨g2, off2, none⟩) c.ps.length V2.p.c) ∧ V.cell? ⟨g, off + k * 4, none⟩ = some (.string x2.nm) ∧ V.cell? ⟨g, off + k * 4 + 1, none⟩ = some (.bool x2.st) ∧ V.cell? ⟨g, off + k * 4 + 2, none⟩ = some (.string x2.fr) ∧ V.cell? ⟨g, off + k * 4 + 3, none⟩ = some (.int .i64 x2.cd) ∧ V.cell? ⟨g2, off2 + k * 4, none⟩ = some (.string x2.nm) ∧ V.cell? ⟨g2, off2 + k * 4 + 1, none⟩ = some (.bool x2.st) ∧ V.cell? ⟨g2, off2 + k * 4 + 2, none⟩ = some (.string x2.fr) ∧ V.cell? ⟨g2, off2 + k * 4 + 3, none⟩ = some (.int .i64 x2.cd)) V) := Hd (fun V hV => by
       obtain ⟨q0, q1, q2, q3⟩ := hc V (A1.out.below.trans (hV.mono A1.out.below.size)); obtain ⟨r0, r1, r2, r3⟩ := hc2 V (A1.out.below.trans (hV.mono A1.out.below.size)); exact ⟨(hV.cell (p := ⟨w.heap.size, 9, none⟩) (cell_lt HL1.out)).trans HL1.out, (hV.cell (p := ⟨w.heap.size + 1, 9, none⟩) (cell_lt HL2.out)).trans HL2.out, q0, q1, q2, q3, r0, r1, r2, r3⟩)
      have HD : Hid (Below wr.heap.size wr wr.drew) := Hd (Below.refl _ _).drew; have Hlt := Hd hlt; clear hc hc2 hx hlt e1 e3; go_upto_region 17 with fail; clear a9 b9; refine wp_region_noPanic ?_; refine wp_region_held_drew (S := (fun V => V.cell? ⟨w.heap.size, 9, none⟩ = some (.slice (some ⟨g, off, none⟩) c.ps.length V1.p.c) ∧ V.cell? ⟨w.heap.size + 1, 9, none⟩ = some (.slice (some ⟨g2, off2, none⟩) c.ps.length V2.p.c) ∧ V.cell? ⟨g, off + k * 4, none⟩ = some (.string x2.nm) ∧ V.cell? ⟨g, off + k * 4 + 1, none⟩ = some (.bool x2.st) ∧ V.cell? ⟨g, off + k * 4 + 2, none⟩ = some (.string x2.fr) ∧ V.cell? ⟨g, off + k * 4 + 3, none⟩ = some (.int .i64 x2.cd) ∧ V.cell? ⟨g2, off2 + k * 4, none⟩ = some (.string x2.nm) ∧ V.cell? ⟨g2, off2 + k * 4 + 1, none⟩ = some (.bool x2.st) ∧ V.cell? ⟨g2, off2 + k * 4 + 2, none⟩ = some (.string x2.fr) ∧ V.cell? ⟨g2, off2 + k * 4 + 3, none⟩ = some (.int .i64 x2.cd))) (by kernel_rfl) (by exact HSX.out _ HD.out) (fun hHeld => ?_); refine tk 0 ?_; refine tk 1 ?_; refine tk 2 ?_; refine tk 3 ?_; refine tk 4 ?_; refine tk 5 ?_; refine tk 6 ?_; refine tk 7 ?_; refine tk 8 ?_; refine tk 9 ?_; refine tk 10 ?_; refine dn (NoPanic.normal ?_); have A3 := Hd A1.out.drew; go_wp2_with fail; go_roundw
      case rel => exact ⟨k + 1, Hlt.out, by go_num, A3⟩
      case measure => exact meas_lt Hlt.out
     ·obtain rfl : k = c.ps.length := by omega
      go_wp2_with fail; clear a9 b9; go_loopw [10] (fun kv wr => ∃ k : Nat, k ≤ c.ms.length ∧ kv = .int .i64 k ∧ Hid (At2 w wr w.heap.size (.cells #[.string c.nm, .int .i64 c.kd, .bool c.ab, .bool c.fi, .string c.pa, .slice V1.f.o c.fs.length V1.f.c, .slice V1.t.o c.ts.length V1.t.c, .slice V1.a.o 0 V1.a.c, .slice V1.c.o c.cs.length V1.c.c, .slice V1.p.o c.ps.length V1.p.c, .slice V1.m.o c.ms.length V1.m.c] 29 (0, 0)) (.cells #[.string c.nm, .int .i64 c.kd, .bool c.ab, .bool c.fi, .string c.pa, .slice V2.f.o c.fs.length V2.f.c, .slice V2.t.o c.ts.length V2.t.c, .slice V2.a.o 0 V2.a.c, .slice V2.c.o c.cs.length V2.c.c, .slice V2.p.o c.ps.length V2.p.c, .slice V2.m.o c.ms.length V2.m.c] 29 (0, 0)))) (fun kv _ => c.ms.length - (intOf kv).toNat)
      case atStart => exact ⟨0, Nat.zero_le _, rfl, A1⟩
      case round =>
       clear A1; obtain ⟨k, hk, rfl, A1⟩ := hrel; have a10 : wr.cell? ⟨w.heap.size, 10, none⟩ = some (.slice V1.m.o c.ms.length V1.m.c) := cB A1.out.a 10; have b10 : wr.cell? ⟨w.heap.size + 1, 10, none⟩ = some (.slice V2.m.o c.ms.length V2.m.c) := cB A1.out.b 10; by_cases hlt : k < c.ms.length
       ·have hi : (k : Int) < (c.ms.length : Int) := by omega
        obtain ⟨hw', hw⟩ := wr_sm (x := (k : Int) + 1) (by omega) (by omega); obtain ⟨x, g, off, cp, hx, -, -, e, -, -, hc⟩ := mt_cells HM1.out hlt; obtain ⟨x2, g2, off2, cp2, hx2, -, -, e2, -, -, hc2⟩ := mt_cells HM2.out hlt; have hxx : x2 = x := by rw [hx] at hx2; cases hx2; rfl
        subst hxx; simp only [Value.slice.injEq] at e e2; obtain ⟨e1, -, -⟩ := e; obtain ⟨e3, -, -⟩ := e2; rw [e1] at a10; rw [e3] at b10; have HL1 := Hd a10; have HL2 := Hd b10; have HSX : Hid (∀ V, Below wr.heap.size wr V → (fun V => V.cell? ⟨w.heap.size, 10, none⟩ = some (.slice (some ⟨g, off, none⟩) c.ms.length V1.m.c) ∧ V.cell? ⟨w.heap.size + 1, 10, none⟩ = some (.slice (some ⟨g2, off2, none⟩) c.ms.length V2.m.c) ∧ V.cell? ⟨g, off + k * 6, none⟩ = some (.string x2.nm) ∧ V.cell? ⟨g, off + k * 6 + 1, none⟩ = some (.bool x2.st) ∧ V.cell? ⟨g, off + k * 6 + 2, none⟩ = some (.bool x2.ab) ∧ V.cell? ⟨g, off + k * 6 + 3, none⟩ = some (.bool x2.fi) ∧ V.cell? ⟨g, off + k * 6 + 4, none⟩ = some (.string x2.fr) ∧ V.cell? ⟨g, off + k * 6 + 5, none⟩ = some (.int .i64 x2.cd) ∧ V.cell? ⟨g2, off2 + k * 6, none⟩ = some (.string x2.nm) ∧ V.cell? ⟨g2, off2 + k * 6 + 1, none⟩ = some (.bool x2.st) ∧ V.cell? ⟨g2, off2 + k * 6 + 2, none⟩ = some (.bool x2.ab) ∧ V.cell? ⟨g2, off2 + k * 6 + 3, none⟩ = some (.bool x2.fi) ∧ V.cell? ⟨g2, off2 + k * 6 + 4, none⟩ = some (.string x2.fr) ∧ V.cell? ⟨g2, off2 + k * 6 + 5, none⟩ = some (.int .i64 x2.cd)) V) := Hd (fun V hV => by
         obtain ⟨q0, q1, q2, q3, q4, q5⟩ := hc V (A1.out.below.trans (hV.mono A1.out.below.size)); obtain ⟨r0, r1, r2, r3, r4, r5⟩ := hc2 V (A1.out.below.trans (hV.mono A1.out.below.size)); exact ⟨(hV.cell (p := ⟨w.heap.size, 10, none⟩) (cell_lt HL1.out)).trans HL1.out, (hV.cell (p := ⟨w.heap.size + 1, 10, none⟩) (cell_lt HL2.out)).trans HL2.out, q0, q1, q2, q3, q4, q5, r0, r1, r2, r3, r4, r5⟩)
        have HD : Hid (Below wr.heap.size wr wr.drew) := Hd (Below.refl _ _).drew; have Hlt := Hd hlt; clear hc hc2 hx hlt e1 e3; go_upto_region 22 with fail; clear a10 b10; refine wp_region_noPanic ?_; refine wp_region_held_drew (S := (fun V => V.cell? ⟨w.heap.size, 10, none⟩ = some (.slice (some ⟨g, off, none⟩) c.ms.length V1.m.c) ∧ V.cell? ⟨w.heap.size + 1, 10, none⟩ = some (.slice (some ⟨g2, off2, none⟩) c.ms.length V2.m.c) ∧ V.cell? ⟨g, off + k * 6, none⟩ = some (.string x2.nm) ∧ V.cell? ⟨g, off + k * 6 + 1, none⟩ = some (.bool x2.st) ∧ V.cell? ⟨g, off + k * 6 + 2, none⟩ = some (.bool x2.ab) ∧ V.cell? ⟨g, off + k * 6 + 3, none⟩ = some (.bool x2.fi) ∧ V.cell? ⟨g, off + k * 6 + 4, none⟩ = some (.string x2.fr) ∧ V.cell? ⟨g, off + k * 6 + 5, none⟩ = some (.int .i64 x2.cd) ∧ V.cell? ⟨g2, off2 + k * 6, none⟩ = some (.string x2.nm) ∧ V.cell? ⟨g2, off2 + k * 6 + 1, none⟩ = some (.bool x2.st) ∧ V.cell? ⟨g2, off2 + k * 6 + 2, none⟩ = some (.bool x2.ab) ∧ V.cell? ⟨g2, off2 + k * 6 + 3, none⟩ = some (.bool x2.fi) ∧ V.cell? ⟨g2, off2 + k * 6 + 4, none⟩ = some (.string x2.fr) ∧ V.cell? ⟨g2, off2 + k * 6 + 5, none⟩ = some (.int .i64 x2.cd))) (by kernel_rfl) (by exact HSX.out _ HD.out) (fun hHeld => ?_); refine tk 0 ?_; refine tk 1 ?_; refine tk 2 ?_; refine tk 3 ?_; refine tk 4 ?_; refine tk 5 ?_; refine tk 6 ?_; refine tk 7 ?_; refine tk 8 ?_; refine tk 9 ?_; refine tk 10 ?_; refine dn (NoPanic.normal ?_); have A3 := Hd A1.out.drew; go_wp2_with fail; go_roundw
        case rel => exact ⟨k + 1, Hlt.out, by go_num, A3⟩
        case measure => exact meas_lt Hlt.out
       ·obtain rfl : k = c.ms.length := by omega
        go_wp2_with fail; clear a10 b10; go_ret; exact ⟨rfl, A1.out.below⟩
end Go.Proofs.YtobjmajkcfhpoaaDoor

namespace Go.Proofs.YtobjmajkcfhpoaaDoor
open Go.RowKit
def KC.bare (d : KC) : KC := ({ d.1 with ad := [] }, { d.2 with a := ⟨none, 0, 0⟩ })
theorem bare_in {A : Nat → Prop} {w : World} {d : KC} (h : ClIn A w d.1 d.2) : ClIn A w d.bare.1 d.bare.2 := ⟨h.hf, h.ht, AdIn.nil, h.hc, h.hp, h.hm⟩
theorem bare_de {U : List ByteArray} {d : KC} (h : DeU U d.1) : DeU U d.bare.1 := ⟨h.fs, h.cs, h.ps, h.ms, fun a ha => (by cases ha), ⟨h.sm.fl, h.sm.tl, Nat.zero_le _, h.sm.cl, h.sm.pl, h.sm.ml, h.sm.nz, h.sm.qz, h.sm.fz, h.sm.tz, h.sm.cz, h.sm.pz, h.sm.mz, fun a ha => (by cases ha)⟩⟩
def wxC (b : KC) (mv pv : SV) : Array Value := #[.string b.1.nm, .int .i64 b.1.kd, .bool b.1.ab, .bool b.1.fi, .string b.1.pa, .slice b.2.f.o b.2.f.n b.2.f.c, .slice none 0 0, .slice b.2.a.o b.2.a.n b.2.a.c, .slice b.2.c.o b.2.c.n b.2.c.c, .slice pv.o pv.n pv.c, .slice mv.o mv.n mv.c]
structure WI (w3 W : World) (WB : Nat) (b : KC) (mv : SV) (ms : List MtP) (pv : SV) (ps : List PrP) : Prop where
 below : Below w3.heap.size w3 W
 ge : w3.heap.size ≤ WB
 box : W.heap[WB]? = some (.cells (wxC b mv pv) 29 (0, 0))
 om : Owns W 34 6 (.slice mv.o mv.n mv.c) (ms.map MtP.row)
 op : Owns W 45 4 (.slice pv.o pv.n pv.c) (ps.map PrP.row)
 nm : ∀ k, (Value.slice mv.o mv.n mv.c).ownBlock = some k → w3.heap.size ≤ k
 np : ∀ k, (Value.slice pv.o pv.n pv.c).ownBlock = some k → w3.heap.size ≤ k
section
variable {w3 W W1 W2 : World} {WB : Nat} {b : KC} {mv pv : SV} {ms : List MtP} {ps : List PrP}
theorem WI.same (h : WI w3 W WB b mv ms pv ps) (m : Below W.heap.size W W1) : WI w3 W1 WB b mv ms pv ps := by
 have mm := Mod.of_below (F := fun _ => False) m; exact ⟨h.below.trans (m.mono h.below.size), h.ge, mm.blk h.box (fun x => x), h.om.mod mm (fun _ _ x => x), h.op.mod mm (fun _ _ x => x), h.nm, h.np⟩
theorem WI.put_m (h : WI w3 W WB b mv ms pv ps) {v : SV} {l : List MtP} (o3 : Owns W2 34 6 (.slice v.o v.n v.c) (l.map MtP.row)) (g3 : W.grownBy W2 (Value.slice mv.o mv.n mv.c).ownBlock) (n3 : (Value.slice v.o v.n v.c).ownBlock = (Value.slice mv.o mv.n mv.c).ownBlock ∨ ∃ j, (Value.slice v.o v.n v.c).ownBlock = some j ∧ W.heap.size ≤ j) : WI w3 (W2.setCell ⟨WB, 10, none⟩ (.slice v.o v.n v.c)) WB b v l pv ps := by
 have m1 : Mod (fun j => (Value.slice mv.o mv.n mv.c).ownBlock = some j) W W2 := (Mod.refl _ W).grown g3 (fun j e _ => e); have hb := m1.blk h.box (own_nb (by decide) h.om h.box); have m2 : Mod (fun k => k = WB) W2 (W2.setCell ⟨WB, 10, none⟩ (.slice v.o v.n v.c)) := (Mod.refl _ W2).setCell ⟨WB, 10, none⟩ _ (fun _ => rfl); have op2 := h.op.mod m1 (fun k e x => own_ne (by decide) h.op h.om e x); refine ⟨?_, h.ge, ?_, o3.mod m2 (fun k e x => own_nb (by decide) o3 hb (by rw [← x]; exact e)), op2.mod m2 (fun k e x => own_nb (by decide) op2 hb (by rw [← x]; exact e)), fun k e => ?_, h.np⟩
 ·exact mod_below' (mod_below' h.below m1 h.below.size (fun k e => h.nm k e)) m2 (Nat.le_trans h.below.size m1.size) (fun k e => by have e : k = WB := e; rw [e]; exact h.ge)
 ·have := set_blk hb 10 (.slice v.o v.n v.c); simpa [wxC] using this
 ·rcases n3 with n3 | ⟨j, n3, hj⟩
  ·exact h.nm k (by rw [← n3]; exact e)
  ·rw [n3] at e; cases e; exact Nat.le_trans h.below.size hj
theorem WI.put_p (h : WI w3 W WB b mv ms pv ps) {v : SV} {l : List PrP} (o3 : Owns W2 45 4 (.slice v.o v.n v.c) (l.map PrP.row)) (g3 : W.grownBy W2 (Value.slice pv.o pv.n pv.c).ownBlock) (n3 : (Value.slice v.o v.n v.c).ownBlock = (Value.slice pv.o pv.n pv.c).ownBlock ∨ ∃ j, (Value.slice v.o v.n v.c).ownBlock = some j ∧ W.heap.size ≤ j) : WI w3 (W2.setCell ⟨WB, 9, none⟩ (.slice v.o v.n v.c)) WB b mv ms v l := by
 have m1 : Mod (fun j => (Value.slice pv.o pv.n pv.c).ownBlock = some j) W W2 := (Mod.refl _ W).grown g3 (fun j e _ => e); have hb := m1.blk h.box (own_nb (by decide) h.op h.box); have m2 : Mod (fun k => k = WB) W2 (W2.setCell ⟨WB, 9, none⟩ (.slice v.o v.n v.c)) := (Mod.refl _ W2).setCell ⟨WB, 9, none⟩ _ (fun _ => rfl); have om2 := h.om.mod m1 (fun k e x => own_ne (by decide) h.om h.op e x); refine ⟨?_, h.ge, ?_, om2.mod m2 (fun k e x => own_nb (by decide) om2 hb (by rw [← x]; exact e)), o3.mod m2 (fun k e x => own_nb (by decide) o3 hb (by rw [← x]; exact e)), h.nm, fun k e => ?_⟩
 ·exact mod_below' (mod_below' h.below m1 h.below.size (fun k e => h.np k e)) m2 (Nat.le_trans h.below.size m1.size) (fun k e => by have e : k = WB := e; rw [e]; exact h.ge)
 ·have := set_blk hb 9 (.slice v.o v.n v.c); simpa [wxC] using this
 ·rcases n3 with n3 | ⟨j, n3, hj⟩
  ·exact h.np k (by rw [← n3]; exact e)
  ·rw [n3] at e; cases e; exact Nat.le_trans h.below.size hj
end
theorem take_snoc {α : Type} {l : List α} {i : Nat} {x : α} (h : l[i]? = some x) : l.take (i + 1) = l.take i ++ [x] := by
 rw [List.take_add_one, h]; rfl
theorem place_none {l : List MtP} {n : ByteArray} (h : (methP l n).isSome = false) : placeM l n = none := by
 unfold methP fstP at h; unfold placeM; cases hi : idxP (fun m : MtP => eqB m.nm n) l with
 | none => rfl
 | some i =>
  rw [hi] at h; obtain ⟨hl, -⟩ := idxP_some hi; simp [List.getElem?_eq_getElem hl] at h
theorem wr_de {U : List ByteArray} {kn : List KC} {d : ClP} {t : KC} {tn : ByteArray} (hU : SmU U) (hD : DeU U d) (hk : KnU U t.1) (h : WrOk kn d t tn) : DeU U (wrP d t) := by
 obtain ⟨-, -, h3, h4, -⟩ := right_parts h.rightW; have hp : ∀ x ∈ (wrP d t).ps, x.nm ∈ U := fun x hx => by
  rcases List.mem_append.1 (show x ∈ t.1.ps ++ d.ps from hx) with hx | hx
  ·exact hk.ps.mem hx
  ·exact hD.ps x hx
 have hm : ∀ x ∈ (wrP d t).ms, x.nm ∈ U := fun x hx => by
  rcases List.mem_append.1 (show x ∈ t.1.ms ++ d.ms from hx) with hx | hx
  ·exact hk.ms.mem hx
  ·exact hD.ms x hx
 have lp : (wrP d t).ps.length ≤ 1048576 := by
  have h9 := nodup_len _ U (once_nodup h3) (fun n hn => by obtain ⟨x, hx, rfl⟩ := List.mem_map.1 hn; exact hp x hx); rw [List.length_map] at h9; exact Nat.le_trans h9 hU.len
 have lm : (wrP d t).ms.length ≤ 1048576 := by
  have h9 := nodup_len _ U (once_nodup h4) (fun n hn => by obtain ⟨x, hx, rfl⟩ := List.mem_map.1 hn; exact hm x hx); rw [List.length_map] at h9; exact Nat.le_trans h9 hU.len
 exact ⟨hD.fs, hD.cs, hp, hm, hD.ad, ⟨hD.sm.fl, Nat.zero_le _, hD.sm.al, hD.sm.cl, lp, lm, hD.sm.nz, hD.sm.qz, hD.sm.fz, fun s hs => absurd (show s ∈ ([] : List ByteArray) from hs) (by simp), hD.sm.cz, fun x hx => hU.size _ (hp x hx), fun x hx => hU.size _ (hm x hx), hD.sm.oz⟩⟩
def wrV (b : KC) (mv pv : SV) : VS6 := ⟨b.2.f, ⟨none, 0, 0⟩, b.2.a, b.2.c, pv, mv⟩
theorem WI.cl {A : Nat → Prop} {w3 W : World} {WB : Nat} {b t : KC} {mv pv : SV} (h : WI w3 W WB b mv (t.1.ms ++ b.1.ms) pv (t.1.ps ++ b.1.ps)) (hd : ClIn A w3 b.1 b.2) : ClIn AnyB W (wrP b.1 t) (wrV b mv pv) := by
 have h2 := (hd.under h.below).kept (B := AnyB) (fun g _ hg => ⟨rfl, hg, trivial⟩); exact ⟨h2.hf, RIn.nil, h2.ha, h2.hc, RIn.of_owns h.op (fun _ _ => trivial), RIn.of_owns h.om (fun _ _ => trivial)⟩
theorem WI.grown_m {w3 W W2 : World} {WB : Nat} {b : KC} {mv pv : SV} {ms : List MtP} {ps : List PrP} (h : WI w3 W WB b mv ms pv ps) (g3 : W.grownBy W2 (Value.slice mv.o mv.n mv.c).ownBlock) : W2.heap[WB]? = some (.cells (wxC b mv pv) 29 (0, 0)) :=
 ((Mod.refl (fun j => (Value.slice mv.o mv.n mv.c).ownBlock = some j) W).grown g3 (fun j e _ => e)).blk h.box (own_nb (by decide) h.om h.box)
theorem WI.grown_p {w3 W W2 : World} {WB : Nat} {b : KC} {mv pv : SV} {ms : List MtP} {ps : List PrP} (h : WI w3 W WB b mv ms pv ps) (g3 : W.grownBy W2 (Value.slice pv.o pv.n pv.c).ownBlock) : W2.heap[WB]? = some (.cells (wxC b mv pv) 29 (0, 0)) :=
 ((Mod.refl (fun j => (Value.slice pv.o pv.n pv.c).ownBlock = some j) W).grown g3 (fun j e _ => e)).blk h.box (own_nb (by decide) h.op h.box)
theorem cls_keep {W W2 : World} {e size TB WB i : Nat} {V : Value} {rows : List (List Value)} {c : Array Value} {v : Value} (he : e ≠ 29) (o : Owns W e size V rows) (g3 : W.grownBy W2 V.ownBlock) (hx : W.heap[TB]? = some (.cells c 29 (0, 0))) (hne : TB ≠ WB) : (W2.setCell ⟨WB, i, none⟩ v).heap[TB]? = some (.cells c 29 (0, 0)) := by
 have h1 := ((Mod.refl (fun j => V.ownBlock = some j) W).grown g3 (fun j e _ => e)).blk hx (own_nb he o hx); exact ((Mod.refl (fun k => k = WB) W2).setCell ⟨WB, i, none⟩ v (fun _ => rfl)).blk h1 hne
theorem rowM_one (l : List MtP) : ∀ r ∈ l.map MtP.row, ∀ u ∈ r, u.oneCell' = true := fun r hr u hu => by
 obtain ⟨m, -, rfl⟩ := List.mem_map.1 hr
 simp only [MtP.row, List.mem_cons, List.not_mem_nil, or_false] at hu
 rcases hu with rfl | rfl | rfl | rfl | rfl | rfl <;> rfl
theorem rowM_len (l : List MtP) : ∀ r ∈ l.map MtP.row, r.length = 6 := fun r hr => by
 obtain ⟨m, -, rfl⟩ := List.mem_map.1 hr
 rfl
theorem rowP_one (l : List PrP) : ∀ r ∈ l.map PrP.row, ∀ u ∈ r, u.oneCell' = true := fun r hr u hu => by
 obtain ⟨m, -, rfl⟩ := List.mem_map.1 hr
 simp only [PrP.row, List.mem_cons, List.not_mem_nil, or_false] at hu
 rcases hu with rfl | rfl | rfl | rfl <;> rfl
theorem rowP_len (l : List PrP) : ∀ r ∈ l.map PrP.row, r.length = 4 := fun r hr => by
 obtain ⟨m, -, rfl⟩ := List.mem_map.1 hr
 rfl
theorem rin_lies {A : Nat → Prop} {w : World} {size : Nat} {v : SV} {rows : List (List Value)} (h : RIn A w size (.slice v.o v.n v.c) rows) : v.n = rows.length ∧ (v.o = none → rows = [] ∧ v.c = 0) ∧ Lies w size v.o rows := by
 obtain ⟨ao, cap, e, hn, hl⟩ := h.form; simp only [Value.slice.injEq] at e; obtain ⟨e1, e2, e3⟩ := e; rw [e1, e3]; exact ⟨e2, hn, hl⟩
theorem nt_set {w : World} {c : ClP} {V : VS6} {AB i : Nat} {v : Value} {cs : Array Value} (h : ClIn (NT w) w c V) (hb : w.heap[AB]? = some (.cells cs 29 (0, 0))) : ClIn AnyB (w.setCell ⟨AB, i, none⟩ v) c V :=
 h.kept fun g ⟨c9, t9, fr, h1, ht⟩ hgl => by
  have hne : ¬ (g = AB) := fun e => by
   rw [e, hb] at h1
   cases h1
   exact ht rfl
  have m := (Mod.refl (fun k => k = AB) w).setCell ⟨AB, i, none⟩ v (fun _ => rfl)
  exact ⟨m.block g hgl hne, Nat.lt_of_lt_of_le hgl m.size, trivial⟩
theorem two_fits {n m : Nat} (hn : n ≤ 1048576) (hm : m ≤ 1048576) : n + m ≤ maxLen ∧ (n + m) * 48 ≤ 140737488355328 := by
 unfold maxLen; omega
theorem one_fits {n : Nat} {r : List Value} (hn : n ≤ 1048576) : n + ([r] : List (List Value)).length ≤ maxLen ∧ (n + ([r] : List (List Value)).length) * 48 ≤ 140737488355328 := two_fits hn (by simp)
end Go.Proofs.YtobjmajkcfhpoaaDoor
