/-
  The walk of the document's Right (printed by genRRight17.py).
  A slice of one class is built.
-/
import Derived.Test.YtobjmajkcfhpoaaDoorWp28
import Derived.Great.BuildSlice
namespace Go.Proofs.YtobjmajkcfhpoaaDoor
open Go.RowKit
attribute [local go_sem] yld_undef
structure CapIn (A : Nat → Prop) (w : World) (x : KC) : Prop where
 fc : x.1.fs.length ≤ x.2.f.c
 tc : x.1.ts.length ≤ x.2.t.c
 ad : ∃ xs : List (AdP × SV), xs.map (·.1) = x.1.ad ∧ RIn A w 4 (.slice x.2.a.o x.2.a.n x.2.a.c) (xs.map AdP.row) ∧ ∀ a ∈ xs, RIn A w 1 (.slice a.2.o a.2.n a.2.c) (a.1.ot.map sR) ∧ a.1.ot.length ≤ a.2.c
 az : ∀ a ∈ x.1.ad, a.nm.size ≤ 1048576 ∧ a.tr.size ≤ 1048576 ∧ ∀ s ∈ a.ot, s.size ≤ 1048576
structure RWd (d : ClP) : Prop where
 ms : ∀ m ∈ d.ms, wordP m.nm = true
 ps : ∀ p ∈ d.ps, wordP p.nm = true
 ad : ∀ a ∈ d.ad, emT a.sa = true ∨ wordP a.sa = true
 tr : d.kd = 3 → emT d.pa = true ∧ d.fs = []
theorem CapIn.under {A : Nat → Prop} {w w1 : World} {x : KC} (h : CapIn A w x) (hb : Below w.heap.size w w1) : CapIn A w1 x := by
 obtain ⟨xs, h1, h2, h3⟩ := h.ad; exact ⟨h.fc, h.tc, ⟨xs, h1, h2.under hb, fun a ha => ⟨(h3 a ha).1.under hb, (h3 a ha).2⟩⟩, h.az⟩
theorem or_words {w wr : World} {a : Option Addr} {L c : Nat} {l : List ByteArray} (h : OR w wr 9 1 (.slice a L c) (l.map sR)) (hl : l.length ≤ 1048576) (hz : ∀ s ∈ l, s.size ≤ 1048576) (V : World) (hV : Below wr.heap.size wr V) : Calls Tryd.prog 74 #[.slice a L c] V (SomeBool V (fun b => b = true → ∀ s ∈ l, rwordP s = true)) := by
 have h2 := h.same hV; have hL : L = l.length := by have := h2.len; rw [List.length_map] at this; exact this
 subst hL; obtain ⟨a9, c9, hv9, hc, -⟩ := h2.own.any; rw [List.length_map] at hc; simp only [Value.slice.injEq] at hv9; obtain ⟨-, -, rfl⟩ := hv9; exact rwords_any (RIn.of_owns (A := AnyB) h2.own (fun _ _ => trivial)) hc (by omega) hz
theorem take_all {α : Type} {p : α → Prop} {l : List α} {k : Nat} {x : α} (h : ∀ a ∈ l.take k, p a) (hx : l[k]? = some x) (hp : p x) : ∀ a ∈ l.take (k + 1), p a := by
 intro a ha; rw [List.take_add_one, hx] at ha; rcases List.mem_append.1 ha with ha | ha
 ·exact h a ha
 ·simp at ha; rw [ha]; exact hp
theorem lies_new1 (w : World) (o : Obj) (u : List Value) (t : TypeId) {size : Nat} (hs : u.length = size) : Lies ((w.alloc o).alloc (.cells u.toArray t)) size (some ⟨w.heap.size + 1, 0, none⟩) [u] := by
 have h := lies_new (w.alloc o) u t hs; have e : (w.alloc o).heap.size = w.heap.size + 1 := Array.size_push _; rw [e] at h; exact h
theorem sm2 {a b : Nat} (ha : a ≤ 1048576) (hb : b ≤ 1048576) : -9223372036854775808 ≤ (a : Int) + b ∧ (a : Int) + b ≤ 9223372036854775807 := by omega
theorem sm3 {a b c : Nat} (ha : a ≤ 1048576) (hb : b ≤ 1048576) (hc : c ≤ 1048576) : -9223372036854775808 ≤ (a : Int) + b + c ∧ (a : Int) + b + c ≤ 9223372036854775807 := by omega
theorem sum0 {a b : Nat} (h : ((a : Int) + b == 0) = true) : a = 0 := by
 have h9 : (a : Int) + b = 0 := by simpa using h
 omega
theorem st_fits2 {n k : Nat} {rows : List (List Value)} {r : List Value} (h : rows.length = k) (hk : k < n) (hn : n ≤ 1048576) : rows.length + ([r] : List (List Value)).length ≤ maxLen ∧ (rows.length + ([r] : List (List Value)).length) * 16 ≤ 140737488355328 := by
 unfold maxLen; simp only [List.length_cons, List.length_nil]; omega
set_option maxHeartbeats 25600000 in
set_option maxRecDepth 100000 in
theorem rright_any {A : Nat → Prop} (x : KC) (w : World) (hx : ClIn A w x.1 x.2) (hc : CapIn A w x) (hs : SmC x.1) :
  Calls Tryd.prog 55 #[.agg #[.string x.1.nm, .int .i64 x.1.kd, .bool x.1.ab, .bool x.1.fi, .string x.1.pa, .slice x.2.f.o x.2.f.n x.2.f.c, .slice x.2.t.o x.2.t.n x.2.t.c, .slice x.2.a.o x.2.a.n x.2.a.c, .slice x.2.c.o x.2.c.n x.2.c.c, .slice x.2.p.o x.2.p.n x.2.p.c, .slice x.2.m.o x.2.m.n x.2.m.c]] w (SomeBool w (fun y => y = true → RWd x.1)) := by
 have S0 := Hd (at1_start w (.cells #[.string x.1.nm, .int .i64 x.1.kd, .bool x.1.ab, .bool x.1.fi, .string x.1.pa, .slice x.2.f.o x.2.f.n x.2.f.c, .slice x.2.t.o x.2.t.n x.2.t.c, .slice x.2.a.o x.2.a.n x.2.a.c, .slice x.2.c.o x.2.c.n x.2.c.c, .slice x.2.p.o x.2.p.n x.2.p.c, .slice x.2.m.o x.2.m.n x.2.m.c] 29)); have nf : x.2.f.n = x.1.fs.length := by have := rin_len hx.hf; simpa using this
 have nt : x.2.t.n = x.1.ts.length := by have := rin_len hx.ht; simpa using this
 have nc : x.2.c.n = x.1.cs.length := by have := rin_len hx.hc; simpa using this
 have np : x.2.p.n = x.1.ps.length := by have := rin_len hx.hp; simpa using this
 have nm : x.2.m.n = x.1.ms.length := by have := rin_len hx.hm; simpa using this
 obtain ⟨xs, hxs, hxr, hxo⟩ := hc.ad; have na : x.2.a.n = xs.length := by have := rin_len hxr; simpa using this
 have hxl : xs.length = x.1.ad.length := by rw [← hxs, List.length_map]
 obtain ⟨q1, e1⟩ : ∃ q, q = nameP x.1.nm.toList := ⟨_, rfl⟩; obtain ⟨q2, e2⟩ : ∃ q, q = nameP x.1.pa.toList := ⟨_, rfl⟩; obtain ⟨ep, hep⟩ : ∃ q, x.1.pa.toList.isEmpty = q := ⟨_, rfl⟩; have HEP : Hid (emT x.1.pa = ep) := Hd hep; have H1 : Hid (∀ W, Calls Tryd.prog 71 #[.string x.1.nm] W fun e w' => e = .returned (.bool q1) ∧ W = w') := Hd (fun W => by rw [e1]; exact rname_any x.1.nm (Nat.le_trans hs.nz (by decide)) W); have H2 : Hid (∀ W, Calls Tryd.prog 71 #[.string x.1.pa] W fun e w' => e = .returned (.bool q2) ∧ W = w') := Hd (fun W => by rw [e2]; exact rname_any x.1.pa (Nat.le_trans hs.qz (by decide)) W); clear e1 e2; have H3 : Hid (∀ W, Below w.heap.size w W → Calls Tryd.prog 72 #[.slice x.2.f.o x.2.f.n x.2.f.c, .bool true] W (SomeBool W (fun _ => True))) := Hd (fun W h => by rw [nf]; exact rnames_any (ao := x.2.f.o) (cap := x.2.f.c) true (by have h9 := hx.hf.under h; rw [nf] at h9; exact h9) hc.fc (by have := hs.fl; omega) hs.fz); have H4 : Hid (∀ W, Below w.heap.size w W → Calls Tryd.prog 72 #[.slice x.2.t.o x.2.t.n x.2.t.c, .bool true] W (SomeBool W (fun _ => True))) := Hd (fun W h => by rw [nt]; exact rnames_any (ao := x.2.t.o) (cap := x.2.t.c) true (by have h9 := hx.ht.under h; rw [nt] at h9; exact h9) hc.tc (by have := hs.tl; omega) hs.tz); have HC := Hd hx.hc; have HP := Hd hx.hp; have HM := Hd hx.hm; have HA := Hd hxr; have HAO := Hd hxo; have HAZ : Hid (∀ a ∈ xs, a.1.nm.size ≤ 1048576 ∧ a.1.tr.size ≤ 1048576 ∧ (∀ s ∈ a.1.ot, s.size ≤ 1048576) ∧ a.1.sa.size ≤ 1048576 ∧ a.1.ot.length ≤ 1048576) := Hd (fun a ha => by
  have h9 : a.1 ∈ x.1.ad := by rw [← hxs]; exact List.mem_map_of_mem ha
  have h8 := hc.az _ h9; have h7 := hs.oz _ h9; exact ⟨h8.1, h8.2.1, h8.2.2, h7.2, h7.1⟩)
 have HXS := Hd hxs; have HSM := Hd hs; have hcl := hs.cl; have hpl := hs.pl; have hml := hs.ml; have hal := hs.al; have hfl := hs.fl; have htl := hs.tl; have HNF := Hd nf; have HNT := Hd nt; have HNC := Hd nc; have HNP := Hd np; have HNM := Hd nm; have HNA := Hd na; clear nf nt nc np nm na hx hc hs hxr hxo hxs; have b0 := cB S0.out.a 0; have b1 := cB S0.out.a 1; have b2 := cB S0.out.a 2; have b3 := cB S0.out.a 3; have b4 := cB S0.out.a 4; have b5 := cB S0.out.a 5; have b6 := cB S0.out.a 6; have b7 := cB S0.out.a 7; have b8 := cB S0.out.a 8; have b9 := cB S0.out.a 9; have b10 := cB S0.out.a 10; go_enter Tryd.func55, Tryd.ntmps55; go_upto_region 1 with fail; have HB0 : Hid (Below (w.alloc (.cells #[.string x.1.nm, .int .i64 x.1.kd, .bool x.1.ab, .bool x.1.fi, .string x.1.pa, .slice x.2.f.o x.2.f.n x.2.f.c, .slice x.2.t.o x.2.t.n x.2.t.c, .slice x.2.a.o x.2.a.n x.2.a.c, .slice x.2.c.o x.2.c.n x.2.c.c, .slice x.2.p.o x.2.p.n x.2.p.c, .slice x.2.m.o x.2.m.n x.2.m.c] 29)).heap.size (w.alloc (.cells #[.string x.1.nm, .int .i64 x.1.kd, .bool x.1.ab, .bool x.1.fi, .string x.1.pa, .slice x.2.f.o x.2.f.n x.2.f.c, .slice x.2.t.o x.2.t.n x.2.t.c, .slice x.2.a.o x.2.a.n x.2.a.c, .slice x.2.c.o x.2.c.n x.2.c.c, .slice x.2.p.o x.2.p.n x.2.p.c, .slice x.2.m.o x.2.m.n x.2.m.c] 29)) (w.alloc (.cells #[.string x.1.nm, .int .i64 x.1.kd, .bool x.1.ab, .bool x.1.fi, .string x.1.pa, .slice x.2.f.o x.2.f.n x.2.f.c, .slice x.2.t.o x.2.t.n x.2.t.c, .slice x.2.a.o x.2.a.n x.2.a.c, .slice x.2.c.o x.2.c.n x.2.c.c, .slice x.2.p.o x.2.p.n x.2.p.c, .slice x.2.m.o x.2.m.n x.2.m.c] 29))) := Hd (Below.refl _ _)
 obtain ⟨w0, hw0⟩ : ∃ w0, w0 = w.alloc (.cells #[.string x.1.nm, .int .i64 x.1.kd, .bool x.1.ab, .bool x.1.fi, .string x.1.pa, .slice x.2.f.o x.2.f.n x.2.f.c, .slice x.2.t.o x.2.t.n x.2.t.c, .slice x.2.a.o x.2.a.n x.2.a.c, .slice x.2.c.o x.2.c.n x.2.c.c, .slice x.2.p.o x.2.p.n x.2.p.c, .slice x.2.m.o x.2.m.n x.2.m.c] 29) := ⟨_, rfl⟩; rw [← hw0] at S0 HB0 ⊢ b0 b1 b2 b3 b4 b5 b6 b7 b8 b9 b10; clear hw0; go_cut [42] from 16 to 42 (fun v W9 => (∃ y : Bool, v = .bool y) ∧ Hid (Below w0.heap.size w0 W9))
 case first =>
  go_wp2_with fail; refine (H1.out _).mono ?_; rintro _ _ ⟨rfl, rfl⟩; cases q1 with
  | false =>
   go_wp2_with fail; go_meet; exact ⟨⟨_, rfl⟩, HB0⟩
  | true =>
   cases ep with
   | true =>
    go_wp2_with fail; refine (H3.out _ S0.out.below).mono ?_; rintro _ w1 ⟨y3, rfl, -, hb1⟩; have S1 := Hd (S0.out.mono hb1); have HB1 := Hd hb1; clear b0 b1 b2 b3 b4 b5 b6 b7 b8 b9 b10; have b0 := cB S1.out.a 0; have b1 := cB S1.out.a 1; have b2 := cB S1.out.a 2; have b3 := cB S1.out.a 3; have b4 := cB S1.out.a 4; have b5 := cB S1.out.a 5; have b6 := cB S1.out.a 6; have b7 := cB S1.out.a 7; have b8 := cB S1.out.a 8; have b9 := cB S1.out.a 9; have b10 := cB S1.out.a 10; clear hb1; cases y3 with
    | false =>
     go_wp2_with fail; go_meet; exact ⟨⟨_, rfl⟩, HB1⟩
    | true =>
     go_wp2_with fail; refine (H4.out _ S1.out.below).mono ?_; rintro _ w2 ⟨y4, rfl, -, hb2⟩; have HB2 := Hd (HB1.out.trans (hb2.mono HB1.out.size)); clear hb2; go_wp2_with fail; go_meet; exact ⟨⟨_, rfl⟩, HB2⟩
   | false =>
    go_wp2_with fail; refine (H2.out _).mono ?_; rintro _ _ ⟨rfl, rfl⟩; cases q2 with
    | false =>
     go_wp2_with fail; go_meet; exact ⟨⟨_, rfl⟩, HB0⟩
    | true =>
     go_wp2_with fail; refine (H3.out _ S0.out.below).mono ?_; rintro _ w1 ⟨y3, rfl, -, hb1⟩; have S1 := Hd (S0.out.mono hb1); have HB1 := Hd hb1; clear b0 b1 b2 b3 b4 b5 b6 b7 b8 b9 b10; have b0 := cB S1.out.a 0; have b1 := cB S1.out.a 1; have b2 := cB S1.out.a 2; have b3 := cB S1.out.a 3; have b4 := cB S1.out.a 4; have b5 := cB S1.out.a 5; have b6 := cB S1.out.a 6; have b7 := cB S1.out.a 7; have b8 := cB S1.out.a 8; have b9 := cB S1.out.a 9; have b10 := cB S1.out.a 10; clear hb1; cases y3 with
     | false =>
      go_wp2_with fail; go_meet; exact ⟨⟨_, rfl⟩, HB1⟩
     | true =>
      go_wp2_with fail; refine (H4.out _ S1.out.below).mono ?_; rintro _ w2 ⟨y4, rfl, -, hb2⟩; have HB2 := Hd (HB1.out.trans (hb2.mono HB1.out.size)); clear hb2; go_wp2_with fail; go_meet; exact ⟨⟨_, rfl⟩, HB2⟩
 case rest =>
  obtain ⟨⟨y, rfl⟩, HB⟩ := hcut; have S1 := Hd (S0.out.mono HB.out); clear b0 b1 b2 b3 b4 b5 b6 b7 b8 b9 b10; clear H1 H2 H3 H4 HB HB0 S0; cases y with
  | true =>
   go_wp2_with fail; go_ret; exact ⟨false, rfl, (fun h => by cases h), S1.out.below⟩
  | false =>
   go_wp2_with fail; obtain ⟨wA, hwA⟩ : ∃ wA, wA = wc := ⟨_, rfl⟩; rw [← hwA] at S1 ⊢; clear hwA; have O0 : Hid (OR wA wA 9 1 (.slice none 0 0) (((x.1.cs.take 0).map CoP.nm).map sR)) := Hd OR.nil; go_loopw [3, 8] (fun ov kv wr => ∃ (k : Nat) (uo : Option Addr) (L uc : Nat), k ≤ x.1.cs.length ∧ kv = .int .i64 k ∧ ov = .slice uo L uc ∧ Hid (OR wA wr 9 1 (.slice uo L uc) (((x.1.cs.take k).map CoP.nm).map sR))) (fun _ kv _ => x.1.cs.length - (intOf kv).toNat)
   case atStart => exact ⟨0, none, 0, 0, Nat.zero_le _, rfl, rfl, O0⟩
   case round =>
    clear O0; obtain ⟨k, uo, L, uc, hk, rfl, rfl, HO⟩ := hrel; have S2 := Hd (S1.out.mono HO.out.below); have b8 : wr.cell? ⟨w.heap.size, 8, none⟩ = some (.slice x.2.c.o x.1.cs.length x.2.c.c) := by rw [← HNC.out]; exact cB S2.out.a 8
    by_cases hlt : k < x.1.cs.length
    ·have hi : (k : Int) < (x.1.cs.length : Int) := by omega
     obtain ⟨hw', hw⟩ := wr_sm (x := (k : Int) + 1) (by omega) (by omega); obtain ⟨y, g, off, cp, hy, -, -, e, -, -, hc⟩ := co_cells (HC.out.under S2.out.below) hlt; simp only [Value.slice.injEq] at e; obtain ⟨e1, -, -⟩ := e; rw [e1] at b8; obtain ⟨c0, c1, c2⟩ := hc wr (Below.refl _ _); have HRW : Hid (((x.1.cs.take (k + 1)).map CoP.nm).map sR = ((x.1.cs.take k).map CoP.nm).map sR ++ [[.string y.nm]]) := Hd (by rw [take_map_snoc hy, sR_snoc]); have HFT := Hd (st_fits2 (rows := ((x.1.cs.take k).map CoP.nm).map sR) (r := [.string y.nm]) (by simp; omega) hlt hcl); have O3 := Hd (HO.out.same (below_alloc1 wr (.cells #[.string y.nm] 9))); have hL := Hd (lies_new wr [.string y.nm] 9 (size := 1) rfl); have HLT := Hd hlt; clear hc hy hlt e1 HO S2; go_wp2_with (at_builtin; refine wpList_append_rows rfl (.tmp 50) (.tmp 57) 23 rfl 9 _ 1 16 Tryd.underlying23 info9 rfl (by decide) (.slice uo L uc) (((x.1.cs.take k).map CoP.nm).map sR) (by rfl) O3.out.own (some ⟨wr.heap.size, 0, none⟩) 1 1 ([[.string y.nm]] : List (List Value)) (by rfl) rfl (fun e => by cases e) hL.out (by simp [Value.oneCell']) (by simp) HFT.out.1 (by have h := HFT.out.2; omega) ?_; intro v3 w3 o3 g3 n3; have R7 := O3.out.next o3 g3 n3; rw [← HRW.out] at R7; obtain ⟨a8, L8, c8, hv8, -⟩ := R7.slice; subst hv8; have R8 := Hd R7; clear o3 g3 n3 R7); go_roundw
     case rel => exact ⟨k + 1, _, _, _, HLT.out, by go_num, rfl, R8⟩
     case measure => exact meas_lt HLT.out
    ·obtain rfl : k = x.1.cs.length := by omega
     have HO : Hid (OR wA wr 9 1 (.slice uo L uc) ((x.1.cs.map CoP.nm).map sR)) := Hd (by have := HO.out; rw [List.take_length] at this; exact this); obtain ⟨co, hco⟩ : ∃ o, o = uo := ⟨_, rfl⟩; obtain ⟨cL, hcL⟩ : ∃ o, o = L := ⟨_, rfl⟩; obtain ⟨cc, hcc⟩ : ∃ o, o = uc := ⟨_, rfl⟩; rw [← hco, ← hcL, ← hcc] at HO ⊢; clear hco hcL hcc; have OC := HO; have SC := S2; go_wp2_with fail; clear b8 HO S2 S1; obtain ⟨wB, hwB⟩ : ∃ wB, wB = wr := ⟨_, rfl⟩; rw [← hwB] at OC SC ⊢; clear hwB; have O0 : Hid (OR wB wB 9 1 (.slice none 0 0) (((x.1.ps.take 0).map PrP.nm).map sR)) := Hd OR.nil; go_loopw [4, 9] (fun ov kv wr => ∃ (k : Nat) (uo : Option Addr) (L uc : Nat), k ≤ x.1.ps.length ∧ kv = .int .i64 k ∧ ov = .slice uo L uc ∧ Hid (OR wB wr 9 1 (.slice uo L uc) (((x.1.ps.take k).map PrP.nm).map sR))) (fun _ kv _ => x.1.ps.length - (intOf kv).toNat)
     case atStart => exact ⟨0, none, 0, 0, Nat.zero_le _, rfl, rfl, O0⟩
     case round =>
      clear O0; obtain ⟨k, uo, L, uc, hk, rfl, rfl, HO⟩ := hrel; have S2 := Hd (SC.out.mono HO.out.below); have b9 : wr.cell? ⟨w.heap.size, 9, none⟩ = some (.slice x.2.p.o x.1.ps.length x.2.p.c) := by rw [← HNP.out]; exact cB S2.out.a 9
      by_cases hlt : k < x.1.ps.length
      ·have hi : (k : Int) < (x.1.ps.length : Int) := by omega
       obtain ⟨hw', hw⟩ := wr_sm (x := (k : Int) + 1) (by omega) (by omega); obtain ⟨y, g, off, cp, hy, -, -, e, -, -, hc⟩ := pr_cells (HP.out.under S2.out.below) hlt; simp only [Value.slice.injEq] at e; obtain ⟨e1, -, -⟩ := e; rw [e1] at b9; obtain ⟨c0, c1, c2, c3⟩ := hc wr (Below.refl _ _); have HRW : Hid (((x.1.ps.take (k + 1)).map PrP.nm).map sR = ((x.1.ps.take k).map PrP.nm).map sR ++ [[.string y.nm]]) := Hd (by rw [take_map_snoc hy, sR_snoc]); have HFT := Hd (st_fits2 (rows := ((x.1.ps.take k).map PrP.nm).map sR) (r := [.string y.nm]) (by simp; omega) hlt hpl); have O3 := Hd (HO.out.same (below_alloc1 wr (.cells #[.string y.nm] 9))); have hL := Hd (lies_new wr [.string y.nm] 9 (size := 1) rfl); have HLT := Hd hlt; clear hc hy hlt e1 HO S2; go_wp2_with (at_builtin; refine wpList_append_rows rfl (.tmp 66) (.tmp 73) 23 rfl 9 _ 1 16 Tryd.underlying23 info9 rfl (by decide) (.slice uo L uc) (((x.1.ps.take k).map PrP.nm).map sR) (by rfl) O3.out.own (some ⟨wr.heap.size, 0, none⟩) 1 1 ([[.string y.nm]] : List (List Value)) (by rfl) rfl (fun e => by cases e) hL.out (by simp [Value.oneCell']) (by simp) HFT.out.1 (by have h := HFT.out.2; omega) ?_; intro v3 w3 o3 g3 n3; have R7 := O3.out.next o3 g3 n3; rw [← HRW.out] at R7; obtain ⟨a8, L8, c8, hv8, -⟩ := R7.slice; subst hv8; have R8 := Hd R7; clear o3 g3 n3 R7); go_roundw
       case rel => exact ⟨k + 1, _, _, _, HLT.out, by go_num, rfl, R8⟩
       case measure => exact meas_lt HLT.out
      ·obtain rfl : k = x.1.ps.length := by omega
       have HO : Hid (OR wB wr 9 1 (.slice uo L uc) ((x.1.ps.map PrP.nm).map sR)) := Hd (by have := HO.out; rw [List.take_length] at this; exact this); obtain ⟨po, hpo⟩ : ∃ o, o = uo := ⟨_, rfl⟩; obtain ⟨pL, hpL⟩ : ∃ o, o = L := ⟨_, rfl⟩; obtain ⟨pc, hpc⟩ : ∃ o, o = uc := ⟨_, rfl⟩; rw [← hpo, ← hpL, ← hpc] at HO ⊢; clear hpo hpL hpc; have OP := HO; have SP := S2; have HBP := Hd HO.out.below; go_wp2_with fail; clear b9 HO S2; obtain ⟨wC, hwC⟩ : ∃ wC, wC = wr := ⟨_, rfl⟩; rw [← hwC] at OP SP HBP ⊢; clear hwC; have O0 : Hid (OR wC wC 9 1 (.slice none 0 0) (((x.1.ms.take 0).map MtP.nm).map sR)) := Hd OR.nil; go_loopw [5, 6, 7, 10, 11] (fun ov v6 v7 kv _ wr => ∃ (k : Nat) (uo : Option Addr) (L uc : Nat) (y6 y7 : Bool), k ≤ x.1.ms.length ∧ kv = .int .i64 k ∧ ov = .slice uo L uc ∧ v6 = .bool y6 ∧ v7 = .bool y7 ∧ Hid (OR wC wr 9 1 (.slice uo L uc) (((x.1.ms.take k).map MtP.nm).map sR))) (fun _ _ _ kv _ _ => x.1.ms.length - (intOf kv).toNat)
       case atStart => exact ⟨0, none, 0, 0, false, false, Nat.zero_le _, rfl, rfl, rfl, rfl, O0⟩
       case round =>
        clear O0; obtain ⟨k, uo, L, uc, y6, y7, hk, rfl, rfl, rfl, rfl, HO⟩ := hrel; have S2 := Hd (SP.out.mono HO.out.below); have b10 : wr.cell? ⟨w.heap.size, 10, none⟩ = some (.slice x.2.m.o x.1.ms.length x.2.m.c) := by rw [← HNM.out]; exact cB S2.out.a 10
        by_cases hlt : k < x.1.ms.length
        ·have hi : (k : Int) < (x.1.ms.length : Int) := by omega
         obtain ⟨hw', hw⟩ := wr_sm (x := (k : Int) + 1) (by omega) (by omega); obtain ⟨⟨yn, ys, ya, yi, yf, yc⟩, g, off, cp, hy, -, -, e, -, -, hc⟩ := mt_cells (HM.out.under S2.out.below) hlt; simp only at hc; simp only [Value.slice.injEq] at e; obtain ⟨e1, -, -⟩ := e; rw [e1] at b10; obtain ⟨c0, c1, c2, c3, c4, c5⟩ := hc wr (Below.refl _ _); have HRW : Hid (((x.1.ms.take (k + 1)).map MtP.nm).map sR = ((x.1.ms.take k).map MtP.nm).map sR ++ [[.string yn]]) := Hd (by rw [take_map_snoc hy, sR_snoc]); have HFT := Hd (st_fits2 (rows := ((x.1.ms.take k).map MtP.nm).map sR) (r := [.string yn]) (by simp; omega) hlt hml); have O3 := Hd ((HO.out.same (below_alloc1 wr (.cells #[.string yn, .bool ys, .bool ya, .bool yi, .string yf, .int .i64 yc] 34))).same (below_alloc1 (wr.alloc (.cells #[.string yn, .bool ys, .bool ya, .bool yi, .string yf, .int .i64 yc] 34)) (.cells #[.string yn] 9))); have hL := Hd (lies_new1 wr (.cells #[.string yn, .bool ys, .bool ya, .bool yi, .string yf, .int .i64 yc] 34) [.string yn] 9 (size := 1) rfl); have HX : Hid (((wr.alloc (.cells #[.string yn, .bool ys, .bool ya, .bool yi, .string yf, .int .i64 yc] 34)).alloc (.cells #[.string yn] 9)).heap[wr.heap.size]? = some (.cells #[.string yn, .bool ys, .bool ya, .bool yi, .string yf, .int .i64 yc] 34 (0, 0))) := Hd (alloc_blk (heap_alloc_new wr _) _); have HNE : Hid ((Value.slice uo L uc).ownBlock ≠ some wr.heap.size) := Hd (fun e => by have := Owns.lt HO.out.own e; omega); have HLT := Hd hlt; clear hc hy hlt e1 HO S2; go_upto_region 18 with (at_builtin; refine wpList_append_rows rfl (.tmp 87) (.tmp 90) 23 rfl 9 _ 1 16 Tryd.underlying23 info9 rfl (by decide) (.slice uo L uc) (((x.1.ms.take k).map MtP.nm).map sR) (by rfl) O3.out.own (some ⟨wr.heap.size + 1, 0, none⟩) 1 1 ([[.string yn]] : List (List Value)) (by rfl) rfl (fun e => by cases e) hL.out (by simp [Value.oneCell']) (by simp) HFT.out.1 (by have h := HFT.out.2; omega) ?_; intro v3 w3 o3 g3 n3; have R7 := O3.out.next o3 g3 n3; rw [← HRW.out] at R7; have X3 : w3.heap[wr.heap.size]? = some (.cells #[.string yn, .bool ys, .bool ya, .bool yi, .string yf, .int .i64 yc] 34 (0, 0)) := (g3.block _ (lt_of_block HX.out) (fun e => HNE.out e.symm)).trans HX.out; obtain ⟨a8, L8, c8, hv8, -⟩ := R7.slice; subst hv8; have R8 := Hd R7; have X8 := Hd X3; clear o3 g3 n3 R7 X3)
         have m2 := cB X8.out 2; have m3 := cB X8.out 3; clear b10 c0 c1 c2 c3 c4 c5; have HBL : Hid (Below w.heap.size w w3) := Hd ((SP.out.mono R8.out.below).below); cases ya with
         | true =>
          cases yi with
          | true =>
           cases y6 <;> cases y7 <;> (go_wp2_with fail; go_ret; exact ⟨false, rfl, (fun h => by cases h), HBL.out⟩)
          | false =>
           cases y6 <;> cases y7 <;> (go_wp2_with fail; go_roundw; (case rel => exact ⟨k + 1, _, _, _, _, _, HLT.out, by go_num, rfl, rfl, rfl, R8⟩); (case measure => exact meas_lt HLT.out))
         | false =>
          cases y6 <;> cases y7 <;> (go_wp2_with fail; go_roundw; (case rel => exact ⟨k + 1, _, _, _, _, _, HLT.out, by go_num, rfl, rfl, rfl, R8⟩); (case measure => exact meas_lt HLT.out))
        ·obtain rfl : k = x.1.ms.length := by omega
         have HO : Hid (OR wC wr 9 1 (.slice uo L uc) ((x.1.ms.map MtP.nm).map sR)) := Hd (by have := HO.out; rw [List.take_length] at this; exact this); obtain ⟨mo, hmo⟩ : ∃ o, o = uo := ⟨_, rfl⟩; obtain ⟨mL, hmL⟩ : ∃ o, o = L := ⟨_, rfl⟩; obtain ⟨mc, hmc⟩ : ∃ o, o = uc := ⟨_, rfl⟩; rw [← hmo, ← hmL, ← hmc] at HO ⊢; clear hmo hmL hmc; have OM := HO; have SM := S2; have HBM := Hd HO.out.below; go_wp2_with fail; clear b10 HO S2; obtain ⟨wD, hwD⟩ : ∃ wD, wD = wr := ⟨_, rfl⟩; rw [← hwD] at OM SM HBM ⊢; clear hwD; have HB0 : Hid (Below wD.heap.size wD wD) := Hd (Below.refl _ _); have HP0 : Hid (∀ a ∈ xs.take 0, emT a.1.sa = true ∨ wordP a.1.sa = true) := Hd (fun a ha => by simp at ha); go_loopw [12, 13, 14, 15] (fun kv _ _ _ wr => ∃ k : Nat, k ≤ xs.length ∧ kv = .int .i64 k ∧ Hid (Below wD.heap.size wD wr) ∧ Hid (∀ a ∈ xs.take k, emT a.1.sa = true ∨ wordP a.1.sa = true)) (fun kv _ _ _ _ => xs.length - (intOf kv).toNat)
         case atStart => exact ⟨0, Nat.zero_le _, rfl, HB0, HP0⟩
         case round =>
          clear HB0 HP0; obtain ⟨k, hk, rfl, HB, HPX⟩ := hrel; have S2 := Hd (SM.out.mono HB.out); have b7 : wr.cell? ⟨w.heap.size, 7, none⟩ = some (.slice x.2.a.o xs.length x.2.a.c) := by rw [← HNA.out]; exact cB S2.out.a 7
          by_cases hlt : k < xs.length
          ·have hi : (k : Int) < (xs.length : Int) := by omega
           obtain ⟨hw', hw⟩ := wr_sm (x := (k : Int) + 1) (by omega) (by omega); obtain ⟨a, g, off, cp, ha, ham, -, e, -, -, hc⟩ := ad_cells (HA.out.under S2.out.below) hlt; simp only [Value.slice.injEq] at e; obtain ⟨e1, -, -⟩ := e; rw [e1] at b7; have hao := HAO.out a ham; have haz := HAZ.out a ham; have HNX : Hid ((emT a.1.sa = true ∨ wordP a.1.sa = true) → ∀ a ∈ xs.take (k + 1), emT a.1.sa = true ∨ wordP a.1.sa = true) := Hd (fun h => take_all HPX.out ha h); obtain ⟨⟨atr, anm, aot, asa⟩, ⟨so, sn, sc⟩⟩ := a; simp only at hc hao haz HNX; obtain ⟨c0, c1, c2, c3⟩ := hc wr (Below.refl _ _); have HLT := Hd hlt; have X1 : Hid ((wr.alloc (.cells #[.string atr, .string anm, .slice so sn sc, .string asa] 54)).heap[wr.heap.size]? = some (.cells #[.string atr, .string anm, .slice so sn sc, .string asa] 54 (0, 0))) := Hd (heap_alloc_new wr _); have HB1 := Hd (HB.out.trans ((below_alloc1 wr (.cells #[.string atr, .string anm, .slice so sn sc, .string asa] 54)).mono HB.out.size)); clear hc ha ham hlt e1 HB HPX; go_upto_region 26 with fail; clear b7 c0 c1 c2 c3; obtain ⟨w1, hw1⟩ : ∃ w1, w1 = (wr.alloc (.cells #[.string atr, .string anm, .slice so sn sc, .string asa] 54)) := ⟨_, rfl⟩; rw [← hw1] at X1 HB1 ⊢; clear hw1; obtain ⟨es, hes⟩ : ∃ z, asa.toList.isEmpty = z := ⟨_, rfl⟩; obtain ⟨et, het⟩ : ∃ z, atr.toList.isEmpty = z := ⟨_, rfl⟩; have HES : Hid (emT asa = es) := Hd hes; have hsn : sn = aot.length := by have := rin_len hao.1; simpa using this
           have HNM9 : Hid (∀ W, Below w.heap.size w W → Calls Tryd.prog 72 #[.slice so sn sc, .bool false] W (SomeBool W (fun _ => True))) := Hd (fun W h => by rw [hsn]; exact rnames_any false (by have h9 := hao.1.under h; rw [hsn] at h9; exact h9) hao.2 (by have := haz.2.2.2.2; omega) haz.2.2.1); obtain ⟨q, hq⟩ : ∃ q, q = rwordP asa := ⟨_, rfl⟩; have HQ := Hd hq; have HWS : Hid (∀ W, Calls Tryd.prog 73 #[.string asa] W (BoolPost W q)) := Hd (fun W => by rw [hq]; exact rword_any asa haz.2.2.2.1 W); obtain ⟨qn, hqn⟩ : ∃ q, q = rwordP anm := ⟨_, rfl⟩; have HWN : Hid (∀ W, Calls Tryd.prog 73 #[.string anm] W (BoolPost W qn)) := Hd (fun W => by rw [hqn]; exact rword_any anm haz.1 W); obtain ⟨qt, hqt⟩ : ∃ q, q = nameP atr.toList := ⟨_, rfl⟩; have HWT : Hid (∀ W, Calls Tryd.prog 71 #[.string atr] W fun e w' => e = .returned (.bool qt) ∧ W = w') := Hd (fun W => by rw [hqt]; exact rname_any atr (Nat.le_trans haz.2.1 (by decide)) W); clear hq hqn hqt hao haz hsn; have HBW : Hid (Below w.heap.size w w1) := Hd (SM.out.below.trans (HB1.out.mono SM.out.below.size)); go_cut [14] from 109 to 172 (fun v W9 => ∃ y : Bool, v = .bool y ∧ Hid (y = true → emT asa = true) ∧ Hid (Below w1.heap.size w1 W9))
           case first =>
            have d0 := cB X1.out 0; have d2 := cB X1.out 2; have d3 := cB X1.out 3; rcases Nat.eq_zero_or_pos sn with h0 | h0
            ·subst h0; go_wp2_with fail; go_meet; exact ⟨_, rfl, Hd (fun h => by cases h), Hd (Below.refl _ _)⟩
            ·have hd : decide (0 < sn) = true := decide_eq_true h0; cases es with
             | false =>
              go_wp2_with fail; go_meet; exact ⟨_, rfl, Hd (fun h => by cases h), Hd (Below.refl _ _)⟩
             | true =>
              cases et <;> (go_wp2_with fail; go_meet; exact ⟨_, rfl, Hd (fun _ => HES.out), Hd (Below.refl _ _)⟩)
           case rest =>
            obtain ⟨ov, rfl, HOV, HC1⟩ := hcut; have X2 : Hid (wc.heap[wr.heap.size]? = some (.cells #[.string atr, .string anm, .slice so sn sc, .string asa] 54 (0, 0))) := Hd ((HC1.out.block _ (lt_of_block X1.out)).trans X1.out); have HB2 := Hd (HB1.out.trans (HC1.out.mono HB1.out.size)); have HBW2 := Hd (HBW.out.trans (HC1.out.mono HBW.out.size)); obtain ⟨w2, hw2⟩ : ∃ w2, w2 = wc := ⟨_, rfl⟩; rw [← hw2] at X2 HB2 HBW2 ⊢; clear hw2 X1 HB1 HC1 HBW; go_upto_region 27 with fail; go_cut [15] from 109 to 172 (fun v W9 => ∃ y : Bool, v = .bool y ∧ Hid (y = true → rwordP asa = true) ∧ Hid (Below w2.heap.size w2 W9))
            case first =>
             have d2 := cB X2.out 2; have d3 := cB X2.out 3; rcases Nat.eq_zero_or_pos sn with h0 | h0
             ·subst h0; go_wp2_with fail; refine (HWS.out _).mono ?_; rintro _ w3 ⟨rfl, hb3⟩; have HB3 := Hd hb3; have HQ2 : Hid (q = true → rwordP asa = true) := Hd (fun h => by rw [← HQ.out]; exact h); clear hb3 d2 d3; go_wp2_with fail; go_meet; exact ⟨_, rfl, HQ2, HB3⟩
             ·have hd : ((sn : Int) == 0) = false := by simp; omega
              go_wp2_with fail; go_meet; exact ⟨_, rfl, Hd (fun h => by cases h), Hd (Below.refl _ _)⟩
            case rest =>
             obtain ⟨asb, rfl, HAS, HC2⟩ := hcut; have X3 : Hid (wc.heap[wr.heap.size]? = some (.cells #[.string atr, .string anm, .slice so sn sc, .string asa] 54 (0, 0))) := Hd ((HC2.out.block _ (lt_of_block X2.out)).trans X2.out); have HB3 := Hd (HB2.out.trans (HC2.out.mono HB2.out.size)); have HBW3 := Hd (HBW2.out.trans (HC2.out.mono HBW2.out.size)); obtain ⟨w3, hw3⟩ : ∃ w3, w3 = wc := ⟨_, rfl⟩; rw [← hw3] at X3 HB3 HBW3 ⊢; clear hw3 X2 HB2 HC2 HBW2; go_upto_region 28 with fail; go_cut [172] from 109 to 172 (fun v W9 => ∃ y : Bool, v = .bool y ∧ Hid (y = false → ov = true ∨ asb = true) ∧ Hid (Below w3.heap.size w3 W9))
             case first =>
              have d0 := cB X3.out 0; have d1 := cB X3.out 1; have d2 := cB X3.out 2; go_wp2_with fail; refine (HWN.out _).mono ?_; rintro _ w4 ⟨rfl, hb4⟩; have HB4 := Hd hb4; have X4 : Hid (w4.heap[wr.heap.size]? = some (.cells #[.string atr, .string anm, .slice so sn sc, .string asa] 54 (0, 0))) := Hd ((hb4.block _ (lt_of_block X3.out)).trans X3.out); have HBW4 := Hd (HBW3.out.trans (hb4.mono HBW3.out.size)); clear d0 d1 d2 hb4; have d0 := cB X4.out 0; have d2 := cB X4.out 2; cases qn with
              | false =>
               go_wp2_with fail; go_meet; exact ⟨_, rfl, Hd (fun h => by cases h), HB4⟩
              | true =>
               cases et with
               | true =>
                go_wp2_with fail; refine (HNM9.out _ HBW4.out).mono ?_; rintro _ w5 ⟨y5, rfl, -, hb5⟩; have HB5 := Hd (HB4.out.trans (hb5.mono HB4.out.size)); clear hb5 d0 d2; cases y5 with
                | false =>
                 go_wp2_with fail; go_meet; exact ⟨_, rfl, Hd (fun h => by cases h), HB5⟩
                | true =>
                 cases ov with
                 | true =>
                  go_wp2_with fail; go_meet; exact ⟨_, rfl, Hd (by simp), HB5⟩
                 | false =>
                  cases asb with
                  | true =>
                   go_wp2_with fail; go_meet; exact ⟨_, rfl, Hd (by simp), HB5⟩
                  | false =>
                   go_wp2_with fail; go_meet; exact ⟨_, rfl, Hd (fun h => by cases h), HB5⟩
               | false =>
                go_wp2_with fail; refine (HWT.out _).mono ?_; rintro _ _ ⟨rfl, rfl⟩; cases qt with
                | false =>
                 go_wp2_with fail; go_meet; exact ⟨_, rfl, Hd (fun h => by cases h), HB4⟩
                | true =>
                 go_wp2_with fail; refine (HNM9.out _ HBW4.out).mono ?_; rintro _ w5 ⟨y5, rfl, -, hb5⟩; have HB5 := Hd (HB4.out.trans (hb5.mono HB4.out.size)); clear hb5 d0 d2; cases y5 with
                 | false =>
                  go_wp2_with fail; go_meet; exact ⟨_, rfl, Hd (fun h => by cases h), HB5⟩
                 | true =>
                  cases ov with
                  | true =>
                   go_wp2_with fail; go_meet; exact ⟨_, rfl, Hd (by simp), HB5⟩
                  | false =>
                   cases asb with
                   | true =>
                    go_wp2_with fail; go_meet; exact ⟨_, rfl, Hd (by simp), HB5⟩
                   | false =>
                    go_wp2_with fail; go_meet; exact ⟨_, rfl, Hd (fun h => by cases h), HB5⟩
             case rest =>
              obtain ⟨y, rfl, HY, HC3⟩ := hcut; have HB4 := Hd (HB3.out.trans (HC3.out.mono HB3.out.size)); have HBW4 := Hd (HBW3.out.trans (HC3.out.mono HBW3.out.size)); clear HB3 HBW3 HC3 X3 S2; cases y with
              | true =>
               go_wp2_with fail; go_ret; exact ⟨false, rfl, (fun h => by cases h), HBW4.out⟩
              | false =>
               have HPN := Hd (HNX.out ((HY.out rfl).elim (fun h => .inl (HOV.out h)) (fun h => .inr (word_of (HAS.out h))))); go_wp2_with fail; go_roundw
               case rel => exact ⟨k + 1, HLT.out, by go_num, HB4, HPN⟩
               case measure => exact meas_lt HLT.out
          ·obtain rfl : k = xs.length := by omega
           have HAD : Hid (∀ a ∈ x.1.ad, emT a.sa = true ∨ wordP a.sa = true) := Hd (by
            have h9 := HPX.out; rw [List.take_length] at h9; intro a ha; rw [← HXS.out] at ha; obtain ⟨b, hb, rfl⟩ := List.mem_map.1 ha; exact h9 b hb)
           have BC : Hid (Below wB.heap.size wB wr) := Hd ((HBP.out.trans (HBM.out.mono HBP.out.size)).trans (HB.out.mono (HBP.out.trans (HBM.out.mono HBP.out.size)).size)); have BP : Hid (Below wC.heap.size wC wr) := Hd (HBM.out.trans (HB.out.mono HBM.out.size)); have WC := Hd (or_words OC.out (by rw [List.length_map]; exact hcl) (fun s hs => by obtain ⟨y, hy, rfl⟩ := List.mem_map.1 hs; exact HSM.out.cz y hy)); have WP := Hd (or_words OP.out (by rw [List.length_map]; exact hpl) (fun s hs => by obtain ⟨y, hy, rfl⟩ := List.mem_map.1 hs; exact HSM.out.pz y hy)); have WM := Hd (or_words OM.out (by rw [List.length_map]; exact hml) (fun s hs => by obtain ⟨y, hy, rfl⟩ := List.mem_map.1 hs; exact HSM.out.mz y hy)); go_wp2_with fail; refine (WC.out _ BC.out).mono ?_; rintro _ w1 ⟨y1, rfl, -, hb1⟩; have B1 := Hd hb1; have S3 := Hd (S2.out.mono hb1); clear hb1 WC BC OC b7; cases y1 with
           | false =>
            go_wp2_with fail; go_ret; exact ⟨false, rfl, (fun h => by cases h), S3.out.below⟩
           | true =>
            go_wp2_with fail; refine (WP.out _ (BP.out.trans (B1.out.mono BP.out.size))).mono ?_; rintro _ w2 ⟨y2, rfl, hy2, hb2⟩; have HY2 := Hd hy2; have B2 := Hd (B1.out.trans (hb2.mono B1.out.size)); have S4 := Hd (S3.out.mono hb2); clear hb2 hy2 WP OP BP; cases y2 with
            | false =>
             go_wp2_with fail; go_ret; exact ⟨false, rfl, (fun h => by cases h), S4.out.below⟩
            | true =>
             have HY2T := Hd (HY2.out rfl); clear HY2; go_wp2_with fail; refine (WM.out _ (HB.out.trans (B2.out.mono HB.out.size))).mono ?_; rintro _ w3 ⟨y3, rfl, hy3, hb3⟩; have HY3 := Hd hy3; have S5 := Hd (S4.out.mono hb3); clear hb3 hy3 WM OM; cases y3 with
             | false =>
              go_wp2_with fail; go_ret; exact ⟨false, rfl, (fun h => by cases h), S5.out.below⟩
             | true =>
              have HRW : Hid ((x.1.kd = 3 → emT x.1.pa = true ∧ x.1.fs = []) → RWd x.1) := Hd (fun h => ⟨fun m hm => word_of (HY3.out rfl _ (List.mem_map_of_mem hm)), fun p hp => word_of (HY2T.out _ (List.mem_map_of_mem hp)), HAD.out, h⟩); clear HY2T HY3 HAD; have b1 := cB S5.out.a 1; have b4 := cB S5.out.a 4; have b5 := cB S5.out.a 5; have b6 := cB S5.out.a 6; have b7 := cB S5.out.a 7; have b8 := cB S5.out.a 8; have b9 := cB S5.out.a 9; obtain ⟨ab, hab⟩ : ∃ z, x.1.ab = z := ⟨_, rfl⟩; obtain ⟨fi, hfi⟩ : ∃ z, x.1.fi = z := ⟨_, rfl⟩; have b2 : w3.cell? ⟨w.heap.size, 2, none⟩ = some (.bool ab) := by rw [← hab]; exact cB S5.out.a 2
              have b3 : w3.cell? ⟨w.heap.size, 3, none⟩ = some (.bool fi) := by rw [← hfi]; exact cB S5.out.a 3
              obtain ⟨kd, hkd⟩ : ∃ z, x.1.kd = z := ⟨_, rfl⟩; rw [hkd] at b1; have HKD := Hd hkd; have HBL := Hd S5.out.below; have HN1 := HNP.out; have HN2 := HNT.out; have HN3 := HNA.out; have HN4 := HNF.out; have HN5 := HNC.out; obtain ⟨n1, hn1⟩ : ∃ n, n = x.2.p.n := ⟨_, rfl⟩; obtain ⟨n2, hn2⟩ : ∃ n, n = x.2.t.n := ⟨_, rfl⟩; obtain ⟨n3, hn3⟩ : ∃ n, n = x.2.a.n := ⟨_, rfl⟩; obtain ⟨n4, hn4⟩ : ∃ n, n = x.2.f.n := ⟨_, rfl⟩; obtain ⟨n5, hn5⟩ : ∃ n, n = x.2.c.n := ⟨_, rfl⟩; rw [← hn1] at b9 HN1; rw [← hn2] at b6 HN2; rw [← hn3] at b7 HN3; rw [← hn4] at b5 HN4; rw [← hn5] at b8 HN5; have hq1 : n1 ≤ 1048576 := HN1 ▸ hpl; have hq2 : n2 ≤ 1048576 := HN2 ▸ htl; have hq3 : n3 ≤ 1048576 := HN3 ▸ (hxl ▸ hal); have hq4 : n4 ≤ 1048576 := HN4 ▸ hfl; have hq5 : n5 ≤ 1048576 := HN5 ▸ hcl; obtain ⟨wa', wa⟩ := wr_sm (sm2 hq1 hq2).1 (sm2 hq1 hq2).2; obtain ⟨wb', wb⟩ := wr_sm (sm3 hq1 hq2 hq3).1 (sm3 hq1 hq2 hq3).2; obtain ⟨wc', wc⟩ := wr_sm (sm2 hq4 hq5).1 (sm2 hq4 hq5).2; have HQ4 := Hd HN4; clear HN1 HN2 HN3 HN4 HN5 hn1 hn2 hn3 hn4 hn5 hab hfi hkd hq1 hq2 hq3 hq4 hq5; by_cases k1 : kd = 1
              ·subst k1; have HRX : Hid (RWd x.1) := Hd (HRW.out (fun h => by rw [HKD.out] at h; cases h)); clear wa wa' wb wb' wc wc'; cases ab <;> cases fi <;> cases y6 <;> (go_wp2_with fail; go_ret; exact ⟨_, rfl, fun _ => HRX.out, HBL.out⟩)
              ·have k1' : (kd == 1) = false := by simpa using k1
               by_cases k2 : kd = 2
               ·subst k2; have HRX : Hid (RWd x.1) := Hd (HRW.out (fun h => by rw [HKD.out] at h; cases h)); obtain ⟨z, hz⟩ : ∃ z, ((n1 : Int) + n2 + n3 == 0) = z := ⟨_, rfl⟩; clear wc wc' k1; cases ab <;> cases fi <;> cases ep <;> first | (cases z <;> cases y7 <;> (go_wp2_with fail; go_ret; exact ⟨_, rfl, fun _ => HRX.out, HBL.out⟩))
               ·have k2' : (kd == 2) = false := by simpa using k2
                by_cases k3 : kd = 3
                ·subst k3; have HF0 : Hid (((n4 : Int) + n5 == 0) = true → x.1.fs = []) := Hd (fun h => List.eq_nil_of_length_eq_zero (HQ4.out ▸ sum0 h)); obtain ⟨z, hz⟩ : ∃ z, ((n4 : Int) + n5 == 0) = z := ⟨_, rfl⟩; have HZ := Hd hz; clear wa wa' wb wb' k1 k2; cases ab with
                 | true =>
                  go_wp2_with fail; go_ret; exact ⟨false, rfl, (fun h => by cases h), HBL.out⟩
                 | false =>
                  cases fi with
                  | true =>
                   go_wp2_with fail; go_ret; exact ⟨false, rfl, (fun h => by cases h), HBL.out⟩
                  | false =>
                   cases ep with
                   | false =>
                    go_wp2_with fail; go_ret; exact ⟨false, rfl, (fun h => by cases h), HBL.out⟩
                   | true =>
                    have HRX : Hid (z = true → RWd x.1) := Hd (fun h => HRW.out (fun _ => ⟨HEP.out, HF0.out (by rw [HZ.out, h])⟩)); cases z with
                    | false =>
                     go_wp2_with fail; go_ret; exact ⟨false, rfl, (fun h => by cases h), HBL.out⟩
                    | true =>
                     have HRT := Hd (HRX.out rfl); clear HRX; go_wp2_with fail; go_ret; exact ⟨_, rfl, fun _ => HRT.out, HBL.out⟩
                ·have k3' : (kd == 3) = false := by simpa using k3
                 clear wa wa' wb wb' wc wc' k1 k2 k3; go_wp2_with fail; go_ret; exact ⟨false, rfl, (fun h => by cases h), HBL.out⟩
end Go.Proofs.YtobjmajkcfhpoaaDoor

namespace Go.Proofs.YtobjmajkcfhpoaaDoor
open Go.RowKit
theorem step_build1 {P : Program} {w : World} {ops : Array Oper} {o : Oper} {a : Act} {K : Act → World → Prop} {Q : Exit → Act → World → Prop} {E : Prop} (hgd : o.guard = none) (t e : TypeId) (x : Operand) (ho : o.op = .buildSlice t 1 #[(0, x)])
  (v : Value) (row : Array Value) (hx : a.eval x = v) (ie : TypeInfo) (z : Value)
  (hu : P.underlying t = some (.slice e)) (hie : P.info? e = some ie) (hz : ie.zero = some z) (hsmall : ¬ 1 * ie.size > 2 ^ 24) (hpos : ¬ 1 * ie.size = 0)
  (hf : Instr.fill (fun i => some (i * ie.size, ie.size)) ((Array.range (1 * ie.size)).map (z.cells[· % z.cells.size]!)) [(0, v)] = some row)
  (h : K (a.put o.dst (.slice (some ⟨w.heap.size, 0, none⟩) 1 1)) (w.alloc (.cells row e))) :
  if Region.wanted o (yielded ops a.tmps) = true then Oper.wp P o a w K Q else E := by
 rw [if_pos (by simp [Region.wanted, hgd])]; refine wp_buildSlice t e 1 #[(0, x)] ho row ie z hu hie hz hsmall hpos ?_ h; subst hx; have e1 : (#[((0 : Nat), x)].map fun (i, x) => (i, a.eval x)).toList = [((0 : Nat), a.eval x)] := by simp
 rw [e1]; exact hf
set_option maxRecDepth 100000 in
theorem step_build29 {w : World} {ops : Array Oper} {o : Oper} {a : Act} {K : Act → World → Prop} {Q : Exit → Act → World → Prop} {E : Prop} (hgd : o.guard = none) (x : Operand) (ho : o.op = .buildSlice 22 1 #[(0, x)])
  (c0 c1 c2 c3 c4 c5 c6 c7 c8 c9 c10 : Value) (hx : a.eval x = .agg #[c0, c1, c2, c3, c4, c5, c6, c7, c8, c9, c10])
  (h : K (a.put o.dst (.slice (some ⟨w.heap.size, 0, none⟩) 1 1)) (w.alloc (.cells #[c0, c1, c2, c3, c4, c5, c6, c7, c8, c9, c10] 29))) :
  if Region.wanted o (yielded ops a.tmps) = true then Oper.wp Tryd.prog o a w K Q else E := by
 have hi := info29; cases hie : Tryd.prog.info? 29 with
 | none => rw [hie] at hi; cases hi
 | some ie =>
  rw [hie] at hi; simp only [Option.map_some, Option.some.injEq, Prod.mk.injEq] at hi; obtain ⟨hz, hs, -⟩ := hi; refine step_build1 hgd 22 29 x ho _ _ hx ie _ Tryd.underlying22 hie hz (by rw [hs]; decide) (by rw [hs]; decide) ?_ h; rw [hs]; kernel_rfl
end Go.Proofs.YtobjmajkcfhpoaaDoor
