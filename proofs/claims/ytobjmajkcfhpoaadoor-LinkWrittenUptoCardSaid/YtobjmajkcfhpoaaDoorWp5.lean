/-
  The closures of chapter 17 and what calls them: slices.IndexFunc, ContainsFunc; place, find, Method (printed by genFun17.py).
-/
import Derived.Test.YtobjmajkcfhpoaaDoorWp3
namespace Go.Proofs.YtobjmajkcfhpoaaDoor
open Go.RowKit
attribute [local go_sem] yld_undef
set_option maxRecDepth 100000 in
theorem name_co (x : CoP) (w : World) : Calls Tryd.prog 27 #[.agg #[.string x.nm, .string x.fr, .int .i64 x.cd]] w (fun e w' => e = .returned (.string x.nm) ∧ Below w.heap.size w w') := by
 have HB := Hd (below_alloc1 w (.cells #[.string x.nm, .string x.fr, .int .i64 x.cd] 66)); go_enter Tryd.func27, Tryd.ntmps27; go_wp2_with fail; go_ret; exact ⟨rfl, HB.out⟩
set_option maxRecDepth 100000 in
theorem name_pr (x : PrP) (w : World) : Calls Tryd.prog 30 #[.agg #[.string x.nm, .bool x.st, .string x.fr, .int .i64 x.cd]] w (fun e w' => e = .returned (.string x.nm) ∧ Below w.heap.size w w') := by
 have HB := Hd (below_alloc1 w (.cells #[.string x.nm, .bool x.st, .string x.fr, .int .i64 x.cd] 45)); go_enter Tryd.func30, Tryd.ntmps30; go_wp2_with fail; go_ret; exact ⟨rfl, HB.out⟩
set_option maxRecDepth 100000 in
theorem name_mt (x : MtP) (w : World) : Calls Tryd.prog 21 #[.agg #[.string x.nm, .bool x.st, .bool x.ab, .bool x.fi, .string x.fr, .int .i64 x.cd]] w (fun e w' => e = .returned (.string x.nm) ∧ Below w.heap.size w w') := by
 have HB := Hd (below_alloc1 w (.cells #[.string x.nm, .bool x.st, .bool x.ab, .bool x.fi, .string x.fr, .int .i64 x.cd] 34)); go_enter Tryd.func21, Tryd.ntmps21; go_wp2_with fail; go_ret; exact ⟨rfl, HB.out⟩
set_option maxHeartbeats 1600000 in
set_option maxRecDepth 100000 in
theorem plcl_co (x : CoP) (s : ByteArray) (w : World) (c1 c2 : Nat) (h1 : w.cell? ⟨c1, 0, none⟩ = some (.func (.func 27) #[] #[])) (h2 : w.cell? ⟨c2, 0, none⟩ = some (.string s)) :
  Calls Tryd.prog 68 #[.agg #[.string x.nm, .string x.fr, .int .i64 x.cd], .pointer (some ⟨c1, 0, none⟩), .pointer (some ⟨c2, 0, none⟩)] w (BoolPost w (eqB x.nm s)) := by
 obtain ⟨q, hq⟩ : ∃ q, (x.nm.toList == s.toList) = q := ⟨_, rfl⟩; have hqe : eqB x.nm s = q := hq; rw [hqe]; have HB := Hd (below_alloc1 w (.cells #[.string x.nm, .string x.fr, .int .i64 x.cd] 66)); have HX := Hd (heap_alloc_new w (.cells #[.string x.nm, .string x.fr, .int .i64 x.cd] 66)); have HD0 : Hid (Below (w.alloc (.cells #[.string x.nm, .string x.fr, .int .i64 x.cd] 66)).heap.size (w.alloc (.cells #[.string x.nm, .string x.fr, .int .i64 x.cd] 66)) (w.alloc (.cells #[.string x.nm, .string x.fr, .int .i64 x.cd] 66)).drew) := Hd (Below.refl _ _).drew; have six : ∀ {V : World}, Below (w.alloc (.cells #[.string x.nm, .string x.fr, .int .i64 x.cd] 66)).heap.size (w.alloc (.cells #[.string x.nm, .string x.fr, .int .i64 x.cd] 66)) V → (fun V => V.cell? ⟨c1, 0, none⟩ = some (.func (.func 27) #[] #[]) ∧ V.cell? ⟨c2, 0, none⟩ = some (.string s) ∧ V.cell? ⟨w.heap.size, 0, none⟩ = some (.string x.nm) ∧ V.cell? ⟨w.heap.size, 1, none⟩ = some (.string x.fr) ∧ V.cell? ⟨w.heap.size, 2, none⟩ = some (.int .i64 x.cd)) V := fun {V} hb => by
  have hbw : Below w.heap.size w V := HB.out.trans (hb.mono HB.out.size); have hx := (hb.block _ (lt_of_block HX.out)).trans HX.out; exact ⟨(hbw.cell (p := ⟨c1, 0, none⟩) (cell_lt h1)).trans h1, (hbw.cell (p := ⟨c2, 0, none⟩) (cell_lt h2)).trans h2, cB hx 0, cB hx 1, cB hx 2⟩
 have HSX := @Hd _ @six; have HS0 := Hd (six HD0.out); clear h1 h2 six hqe; go_enter Tryd.func68, Tryd.ntmps68; go_wp2_with fail; refine wp_region_noPanic ?_; refine wp_region_held_drew (S := (fun V => V.cell? ⟨c1, 0, none⟩ = some (.func (.func 27) #[] #[]) ∧ V.cell? ⟨c2, 0, none⟩ = some (.string s) ∧ V.cell? ⟨w.heap.size, 0, none⟩ = some (.string x.nm) ∧ V.cell? ⟨w.heap.size, 1, none⟩ = some (.string x.fr) ∧ V.cell? ⟨w.heap.size, 2, none⟩ = some (.int .i64 x.cd))) (by kernel_rfl) (by exact HS0.out) (fun hHeld => ?_); refine tk 0 ?_; refine tk 1 ?_; refine tk 3 ?_; refine rd 2 (fun K hK => ?_); go_simp; refine (name_co x _).mono ?_; rintro _ w1 ⟨rfl, hb⟩; have HD1 := Hd (HD0.out.trans (hb.mono HD0.out.size)); clear hb; refine hK.out _ _ (HSX.out HD1.out) (fun hHeld2 => ?_); clear hK K; (try simp only [Act.put, pA, pZ, pS]); refine tk 4 ?_; refine tk 5 ?_; refine dn (NoPanic.normal ?_); go_wp2_with fail; go_ret; exact ⟨rfl, HB.out.trans (HD1.out.mono HB.out.size)⟩
set_option maxHeartbeats 1600000 in
set_option maxRecDepth 100000 in
theorem plcl_pr (x : PrP) (s : ByteArray) (w : World) (c1 c2 : Nat) (h1 : w.cell? ⟨c1, 0, none⟩ = some (.func (.func 30) #[] #[])) (h2 : w.cell? ⟨c2, 0, none⟩ = some (.string s)) :
  Calls Tryd.prog 84 #[.agg #[.string x.nm, .bool x.st, .string x.fr, .int .i64 x.cd], .pointer (some ⟨c1, 0, none⟩), .pointer (some ⟨c2, 0, none⟩)] w (BoolPost w (eqB x.nm s)) := by
 obtain ⟨q, hq⟩ : ∃ q, (x.nm.toList == s.toList) = q := ⟨_, rfl⟩; have hqe : eqB x.nm s = q := hq; rw [hqe]; have HB := Hd (below_alloc1 w (.cells #[.string x.nm, .bool x.st, .string x.fr, .int .i64 x.cd] 45)); have HX := Hd (heap_alloc_new w (.cells #[.string x.nm, .bool x.st, .string x.fr, .int .i64 x.cd] 45)); have HD0 : Hid (Below (w.alloc (.cells #[.string x.nm, .bool x.st, .string x.fr, .int .i64 x.cd] 45)).heap.size (w.alloc (.cells #[.string x.nm, .bool x.st, .string x.fr, .int .i64 x.cd] 45)) (w.alloc (.cells #[.string x.nm, .bool x.st, .string x.fr, .int .i64 x.cd] 45)).drew) := Hd (Below.refl _ _).drew; have six : ∀ {V : World}, Below (w.alloc (.cells #[.string x.nm, .bool x.st, .string x.fr, .int .i64 x.cd] 45)).heap.size (w.alloc (.cells #[.string x.nm, .bool x.st, .string x.fr, .int .i64 x.cd] 45)) V → (fun V => V.cell? ⟨c1, 0, none⟩ = some (.func (.func 30) #[] #[]) ∧ V.cell? ⟨c2, 0, none⟩ = some (.string s) ∧ V.cell? ⟨w.heap.size, 0, none⟩ = some (.string x.nm) ∧ V.cell? ⟨w.heap.size, 1, none⟩ = some (.bool x.st) ∧ V.cell? ⟨w.heap.size, 2, none⟩ = some (.string x.fr) ∧ V.cell? ⟨w.heap.size, 3, none⟩ = some (.int .i64 x.cd)) V := fun {V} hb => by
  have hbw : Below w.heap.size w V := HB.out.trans (hb.mono HB.out.size); have hx := (hb.block _ (lt_of_block HX.out)).trans HX.out; exact ⟨(hbw.cell (p := ⟨c1, 0, none⟩) (cell_lt h1)).trans h1, (hbw.cell (p := ⟨c2, 0, none⟩) (cell_lt h2)).trans h2, cB hx 0, cB hx 1, cB hx 2, cB hx 3⟩
 have HSX := @Hd _ @six; have HS0 := Hd (six HD0.out); clear h1 h2 six hqe; go_enter Tryd.func84, Tryd.ntmps84; go_wp2_with fail; refine wp_region_noPanic ?_; refine wp_region_held_drew (S := (fun V => V.cell? ⟨c1, 0, none⟩ = some (.func (.func 30) #[] #[]) ∧ V.cell? ⟨c2, 0, none⟩ = some (.string s) ∧ V.cell? ⟨w.heap.size, 0, none⟩ = some (.string x.nm) ∧ V.cell? ⟨w.heap.size, 1, none⟩ = some (.bool x.st) ∧ V.cell? ⟨w.heap.size, 2, none⟩ = some (.string x.fr) ∧ V.cell? ⟨w.heap.size, 3, none⟩ = some (.int .i64 x.cd))) (by kernel_rfl) (by exact HS0.out) (fun hHeld => ?_); refine tk 0 ?_; refine tk 1 ?_; refine tk 3 ?_; refine rd 2 (fun K hK => ?_); go_simp; refine (name_pr x _).mono ?_; rintro _ w1 ⟨rfl, hb⟩; have HD1 := Hd (HD0.out.trans (hb.mono HD0.out.size)); clear hb; refine hK.out _ _ (HSX.out HD1.out) (fun hHeld2 => ?_); clear hK K; (try simp only [Act.put, pA, pZ, pS]); refine tk 4 ?_; refine tk 5 ?_; refine dn (NoPanic.normal ?_); go_wp2_with fail; go_ret; exact ⟨rfl, HB.out.trans (HD1.out.mono HB.out.size)⟩
set_option maxHeartbeats 1600000 in
set_option maxRecDepth 100000 in
theorem plcl_mt (x : MtP) (s : ByteArray) (w : World) (c1 c2 : Nat) (h1 : w.cell? ⟨c1, 0, none⟩ = some (.func (.func 21) #[] #[])) (h2 : w.cell? ⟨c2, 0, none⟩ = some (.string s)) :
  Calls Tryd.prog 53 #[.agg #[.string x.nm, .bool x.st, .bool x.ab, .bool x.fi, .string x.fr, .int .i64 x.cd], .pointer (some ⟨c1, 0, none⟩), .pointer (some ⟨c2, 0, none⟩)] w (BoolPost w (eqB x.nm s)) := by
 obtain ⟨q, hq⟩ : ∃ q, (x.nm.toList == s.toList) = q := ⟨_, rfl⟩; have hqe : eqB x.nm s = q := hq; rw [hqe]; have HB := Hd (below_alloc1 w (.cells #[.string x.nm, .bool x.st, .bool x.ab, .bool x.fi, .string x.fr, .int .i64 x.cd] 34)); have HX := Hd (heap_alloc_new w (.cells #[.string x.nm, .bool x.st, .bool x.ab, .bool x.fi, .string x.fr, .int .i64 x.cd] 34)); have HD0 : Hid (Below (w.alloc (.cells #[.string x.nm, .bool x.st, .bool x.ab, .bool x.fi, .string x.fr, .int .i64 x.cd] 34)).heap.size (w.alloc (.cells #[.string x.nm, .bool x.st, .bool x.ab, .bool x.fi, .string x.fr, .int .i64 x.cd] 34)) (w.alloc (.cells #[.string x.nm, .bool x.st, .bool x.ab, .bool x.fi, .string x.fr, .int .i64 x.cd] 34)).drew) := Hd (Below.refl _ _).drew; have six : ∀ {V : World}, Below (w.alloc (.cells #[.string x.nm, .bool x.st, .bool x.ab, .bool x.fi, .string x.fr, .int .i64 x.cd] 34)).heap.size (w.alloc (.cells #[.string x.nm, .bool x.st, .bool x.ab, .bool x.fi, .string x.fr, .int .i64 x.cd] 34)) V → (fun V => V.cell? ⟨c1, 0, none⟩ = some (.func (.func 21) #[] #[]) ∧ V.cell? ⟨c2, 0, none⟩ = some (.string s) ∧ V.cell? ⟨w.heap.size, 0, none⟩ = some (.string x.nm) ∧ V.cell? ⟨w.heap.size, 1, none⟩ = some (.bool x.st) ∧ V.cell? ⟨w.heap.size, 2, none⟩ = some (.bool x.ab) ∧ V.cell? ⟨w.heap.size, 3, none⟩ = some (.bool x.fi) ∧ V.cell? ⟨w.heap.size, 4, none⟩ = some (.string x.fr) ∧ V.cell? ⟨w.heap.size, 5, none⟩ = some (.int .i64 x.cd)) V := fun {V} hb => by
  have hbw : Below w.heap.size w V := HB.out.trans (hb.mono HB.out.size); have hx := (hb.block _ (lt_of_block HX.out)).trans HX.out; exact ⟨(hbw.cell (p := ⟨c1, 0, none⟩) (cell_lt h1)).trans h1, (hbw.cell (p := ⟨c2, 0, none⟩) (cell_lt h2)).trans h2, cB hx 0, cB hx 1, cB hx 2, cB hx 3, cB hx 4, cB hx 5⟩
 have HSX := @Hd _ @six; have HS0 := Hd (six HD0.out); clear h1 h2 six hqe; go_enter Tryd.func53, Tryd.ntmps53; go_wp2_with fail; refine wp_region_noPanic ?_; refine wp_region_held_drew (S := (fun V => V.cell? ⟨c1, 0, none⟩ = some (.func (.func 21) #[] #[]) ∧ V.cell? ⟨c2, 0, none⟩ = some (.string s) ∧ V.cell? ⟨w.heap.size, 0, none⟩ = some (.string x.nm) ∧ V.cell? ⟨w.heap.size, 1, none⟩ = some (.bool x.st) ∧ V.cell? ⟨w.heap.size, 2, none⟩ = some (.bool x.ab) ∧ V.cell? ⟨w.heap.size, 3, none⟩ = some (.bool x.fi) ∧ V.cell? ⟨w.heap.size, 4, none⟩ = some (.string x.fr) ∧ V.cell? ⟨w.heap.size, 5, none⟩ = some (.int .i64 x.cd))) (by kernel_rfl) (by exact HS0.out) (fun hHeld => ?_); refine tk 0 ?_; refine tk 1 ?_; refine tk 3 ?_; refine rd 2 (fun K hK => ?_); go_simp; refine (name_mt x _).mono ?_; rintro _ w1 ⟨rfl, hb⟩; have HD1 := Hd (HD0.out.trans (hb.mono HD0.out.size)); clear hb; refine hK.out _ _ (HSX.out HD1.out) (fun hHeld2 => ?_); clear hK K; (try simp only [Act.put, pA, pZ, pS]); refine tk 4 ?_; refine tk 5 ?_; refine dn (NoPanic.normal ?_); go_wp2_with fail; go_ret; exact ⟨rfl, HB.out.trans (HD1.out.mono HB.out.size)⟩
set_option maxRecDepth 100000 in
theorem mcl_36 (x : MtP) (w : World) : Calls Tryd.prog 36 #[.agg #[.string x.nm, .bool x.st, .bool x.ab, .bool x.fi, .string x.fr, .int .i64 x.cd]] w (BoolPost w (x.ab && x.fi)) := by
 have HB := Hd (below_alloc1 w (.cells #[.string x.nm, .bool x.st, .bool x.ab, .bool x.fi, .string x.fr, .int .i64 x.cd] 34)); obtain ⟨nm, st, ab, fi, fr, cd⟩ := x; simp only at HB ⊢; cases ab <;> cases fi <;> (go_enter Tryd.func36, Tryd.ntmps36; go_wp2_with fail; go_ret; exact ⟨rfl, HB.out⟩)
set_option maxRecDepth 100000 in
theorem mcl_37 (x : MtP) (w : World) : Calls Tryd.prog 37 #[.agg #[.string x.nm, .bool x.st, .bool x.ab, .bool x.fi, .string x.fr, .int .i64 x.cd]] w (BoolPost w (x.ab)) := by
 have HB := Hd (below_alloc1 w (.cells #[.string x.nm, .bool x.st, .bool x.ab, .bool x.fi, .string x.fr, .int .i64 x.cd] 34)); obtain ⟨nm, st, ab, fi, fr, cd⟩ := x; simp only at HB ⊢; cases ab <;> cases fi <;> (go_enter Tryd.func37, Tryd.ntmps37; go_wp2_with fail; go_ret; exact ⟨rfl, HB.out⟩)
set_option maxRecDepth 100000 in
theorem mcl_38 (x : MtP) (w : World) : Calls Tryd.prog 38 #[.agg #[.string x.nm, .bool x.st, .bool x.ab, .bool x.fi, .string x.fr, .int .i64 x.cd]] w (BoolPost w (!x.ab)) := by
 have HB := Hd (below_alloc1 w (.cells #[.string x.nm, .bool x.st, .bool x.ab, .bool x.fi, .string x.fr, .int .i64 x.cd] 34)); obtain ⟨nm, st, ab, fi, fr, cd⟩ := x; simp only at HB ⊢; cases ab <;> cases fi <;> (go_enter Tryd.func38, Tryd.ntmps38; go_wp2_with fail; go_ret; exact ⟨rfl, HB.out⟩)
set_option maxRecDepth 100000 in
theorem mcl_51 (x : MtP) (w : World) : Calls Tryd.prog 51 #[.agg #[.string x.nm, .bool x.st, .bool x.ab, .bool x.fi, .string x.fr, .int .i64 x.cd]] w (BoolPost w (x.ab)) := by
 have HB := Hd (below_alloc1 w (.cells #[.string x.nm, .bool x.st, .bool x.ab, .bool x.fi, .string x.fr, .int .i64 x.cd] 34)); obtain ⟨nm, st, ab, fi, fr, cd⟩ := x; simp only at HB ⊢; cases ab <;> cases fi <;> (go_enter Tryd.func51, Tryd.ntmps51; go_wp2_with fail; go_ret; exact ⟨rfl, HB.out⟩)
set_option maxRecDepth 100000 in
theorem fcl_any (x : KC) (s : ByteArray) (w : World) (c : Nat) (h : w.cell? ⟨c, 0, none⟩ = some (.string s)) : Calls Tryd.prog 41 #[.agg #[.string x.1.nm, .int .i64 x.1.kd, .bool x.1.ab, .bool x.1.fi, .string x.1.pa, .slice x.2.f.o x.2.f.n x.2.f.c, .slice x.2.t.o x.2.t.n x.2.t.c, .slice x.2.a.o x.2.a.n x.2.a.c, .slice x.2.c.o x.2.c.n x.2.c.c, .slice x.2.p.o x.2.p.n x.2.p.c, .slice x.2.m.o x.2.m.n x.2.m.c], .pointer (some ⟨c, 0, none⟩)] w (BoolPost w (eqB x.1.nm s)) := by
 have HB := Hd (below_alloc1 w (.cells #[.string x.1.nm, .int .i64 x.1.kd, .bool x.1.ab, .bool x.1.fi, .string x.1.pa, .slice x.2.f.o x.2.f.n x.2.f.c, .slice x.2.t.o x.2.t.n x.2.t.c, .slice x.2.a.o x.2.a.n x.2.a.c, .slice x.2.c.o x.2.c.n x.2.c.c, .slice x.2.p.o x.2.p.n x.2.p.c, .slice x.2.m.o x.2.m.n x.2.m.c] 29)); obtain ⟨q, hq⟩ : ∃ q, (x.1.nm.toList == s.toList) = q := ⟨_, rfl⟩; have hqe : eqB x.1.nm s = q := hq; have h1 := (HB.out.cell (p := ⟨c, 0, none⟩) (cell_lt h)).trans h; rw [hqe]; clear h hqe; go_enter Tryd.func41, Tryd.ntmps41; go_wp2_with fail; go_ret; exact ⟨rfl, HB.out⟩
set_option maxHeartbeats 1600000 in
set_option maxRecDepth 100000 in
theorem idx_find {A : Nat → Prop} {v : Value} {l : List (KC)} {w : World} (s : ByteArray) (c : Nat) (h : w.cell? ⟨c, 0, none⟩ = some (.string s)) (hv : RIn A w 11 v (l.map KC.row)) (hl : l.length ≤ 1073741824) :
  Calls Tryd.prog 40 #[v, .func (.func 41) #[] #[.pointer (some ⟨c, 0, none⟩)]] w (IntPost w (idxI (idxP (fun x => eqB x.1.nm s) l))) := by
 obtain ⟨ao, cap, rfl, -, -⟩ := hv.form; rw [List.length_map] at hv ⊢; have HV := Hd hv; obtain ⟨p, hp⟩ : ∃ p : KC → Bool, p = fun x => eqB x.1.nm s := ⟨_, rfl⟩
 rw [← hp]; have HCL : Hid (∀ (x : KC) W, Below w.heap.size w W → Calls Tryd.prog 41 #[.agg #[.string x.1.nm, .int .i64 x.1.kd, .bool x.1.ab, .bool x.1.fi, .string x.1.pa, .slice x.2.f.o x.2.f.n x.2.f.c, .slice x.2.t.o x.2.t.n x.2.t.c, .slice x.2.a.o x.2.a.n x.2.a.c, .slice x.2.c.o x.2.c.n x.2.c.c, .slice x.2.p.o x.2.p.n x.2.p.c, .slice x.2.m.o x.2.m.n x.2.m.c], .pointer (some ⟨c, 0, none⟩)] W (BoolPost W (p x))) := Hd (fun x W hb => by rw [hp]; exact fcl_any x s W c ((hb.cell (p := ⟨c, 0, none⟩) (cell_lt h)).trans h)); obtain ⟨r, hr⟩ : ∃ r, r = idxI (idxP p l) := ⟨_, rfl⟩; rw [← hr]; have HR := Hd hr; clear hv hr hp h; go_enter Tryd.func40, Tryd.ntmps40; go_wp2_with fail; go_loopw [5, 8] (fun _ kv wr => ∃ k : Nat, k ≤ l.length ∧ kv = .int .i64 k ∧ Hid (Below w.heap.size w wr) ∧ Hid (∀ j (hj : j < l.length), j < k → p l[j] = false)) (fun _ kv _ => l.length - (intOf kv).toNat)
 case atStart => exact ⟨0, Nat.zero_le _, rfl, Hd (Below.refl _ _), Hd (fun j _ h => absurd h (Nat.not_lt_zero j))⟩
 case round =>
  obtain ⟨k, hk, rfl, HB, HA⟩ := hrel; by_cases hlt : k < l.length
  ·have hi : (k : Int) < (l.length : Int) := by omega
   obtain ⟨hw', hw⟩ := wr_sm (x := (k : Int) + 1) (by omega) (by omega); obtain ⟨x, g, off, cp, -, -, hx, e, hg, -, hc⟩ := kc_cells HV.out hlt; cases e; obtain ⟨c0, c1, c2, c3, c4, c5, c6, c7, c8, c9, c10⟩ := hc wr HB.out; obtain ⟨q, hq⟩ : ∃ q, p x = q := ⟨_, rfl⟩; have HQ : Hid (p l[k] = q) := Hd (by rw [← hx]; exact hq); have HP := HCL.out x wr HB.out; rw [hq] at HP; have HLT := Hd hlt; clear hc hx hq; cases q with
   | true =>
    have hre : r = (k : Int) := by rw [HR.out, idxP_at HLT.out HQ.out HA.out]; rfl
    subst hre; go_wp2_with fail; refine HP.mono ?_; rintro _ w1 ⟨rfl, hb⟩; have B1 := Hd (HB.out.trans (hb.mono HB.out.size)); clear hb HP; go_wp2_with fail; go_ret; exact ⟨rfl, B1.out⟩
   | false =>
    have HA2 : Hid (∀ j (hj : j < l.length), j < k + 1 → p l[j] = false) := Hd (fun j hj h => by
     rcases Nat.lt_succ_iff_lt_or_eq.1 h with h' | rfl
     ·exact HA.out j hj h'
     ·exact HQ.out)
    go_wp2_with fail; refine HP.mono ?_; rintro _ w1 ⟨rfl, hb⟩; have B1 := Hd (HB.out.trans (hb.mono HB.out.size)); clear hb HP; go_wp2_with fail; go_roundw
    case rel => exact ⟨k + 1, HLT.out, by go_num, B1, HA2⟩
    case measure => have := HLT.out; simp [intOf]; omega
  ·obtain rfl : k = l.length := by omega
   have hre : r = -1 := by rw [HR.out, idxP_no (fun j hj => HA.out j hj hj)]; rfl
   subst hre; go_wp2_with fail; go_ret; exact ⟨rfl, HB.out⟩
set_option maxHeartbeats 1600000 in
set_option maxRecDepth 100000 in
theorem idx_pl_co {A : Nat → Prop} {v : Value} {l : List (CoP)} {w : World} (s : ByteArray) (c1 c2 : Nat) (h1 : w.cell? ⟨c1, 0, none⟩ = some (.func (.func 27) #[] #[])) (h2 : w.cell? ⟨c2, 0, none⟩ = some (.string s)) (hv : RIn A w 3 v (l.map CoP.row)) (hl : l.length ≤ 1073741824) :
  Calls Tryd.prog 67 #[v, .func (.func 68) #[] #[.pointer (some ⟨c1, 0, none⟩), .pointer (some ⟨c2, 0, none⟩)]] w (IntPost w (idxI (idxP (fun x => eqB x.nm s) l))) := by
 obtain ⟨ao, cap, rfl, -, -⟩ := hv.form; rw [List.length_map] at hv ⊢; have HV := Hd hv; obtain ⟨p, hp⟩ : ∃ p : CoP → Bool, p = fun x => eqB x.nm s := ⟨_, rfl⟩
 rw [← hp]; have HCL : Hid (∀ (x : CoP) W, Below w.heap.size w W → Calls Tryd.prog 68 #[.agg #[.string x.nm, .string x.fr, .int .i64 x.cd], .pointer (some ⟨c1, 0, none⟩), .pointer (some ⟨c2, 0, none⟩)] W (BoolPost W (p x))) := Hd (fun x W hb => by rw [hp]; exact plcl_co x s W c1 c2 ((hb.cell (p := ⟨c1, 0, none⟩) (cell_lt h1)).trans h1) ((hb.cell (p := ⟨c2, 0, none⟩) (cell_lt h2)).trans h2)); obtain ⟨r, hr⟩ : ∃ r, r = idxI (idxP p l) := ⟨_, rfl⟩; rw [← hr]; have HR := Hd hr; clear hv hr hp h1 h2; go_enter Tryd.func67, Tryd.ntmps67; go_wp2_with fail; go_loopw [5, 8] (fun _ kv wr => ∃ k : Nat, k ≤ l.length ∧ kv = .int .i64 k ∧ Hid (Below w.heap.size w wr) ∧ Hid (∀ j (hj : j < l.length), j < k → p l[j] = false)) (fun _ kv _ => l.length - (intOf kv).toNat)
 case atStart => exact ⟨0, Nat.zero_le _, rfl, Hd (Below.refl _ _), Hd (fun j _ h => absurd h (Nat.not_lt_zero j))⟩
 case round =>
  obtain ⟨k, hk, rfl, HB, HA⟩ := hrel; by_cases hlt : k < l.length
  ·have hi : (k : Int) < (l.length : Int) := by omega
   obtain ⟨hw', hw⟩ := wr_sm (x := (k : Int) + 1) (by omega) (by omega); obtain ⟨x, g, off, cp, -, -, hx, e, hg, -, hc⟩ := co_cells HV.out hlt; cases e; obtain ⟨c0, c1, c2⟩ := hc wr HB.out; obtain ⟨q, hq⟩ : ∃ q, p x = q := ⟨_, rfl⟩; have HQ : Hid (p l[k] = q) := Hd (by rw [← hx]; exact hq); have HP := HCL.out x wr HB.out; rw [hq] at HP; have HLT := Hd hlt; clear hc hx hq; cases q with
   | true =>
    have hre : r = (k : Int) := by rw [HR.out, idxP_at HLT.out HQ.out HA.out]; rfl
    subst hre; go_wp2_with fail; refine HP.mono ?_; rintro _ w1 ⟨rfl, hb⟩; have B1 := Hd (HB.out.trans (hb.mono HB.out.size)); clear hb HP; go_wp2_with fail; go_ret; exact ⟨rfl, B1.out⟩
   | false =>
    have HA2 : Hid (∀ j (hj : j < l.length), j < k + 1 → p l[j] = false) := Hd (fun j hj h => by
     rcases Nat.lt_succ_iff_lt_or_eq.1 h with h' | rfl
     ·exact HA.out j hj h'
     ·exact HQ.out)
    go_wp2_with fail; refine HP.mono ?_; rintro _ w1 ⟨rfl, hb⟩; have B1 := Hd (HB.out.trans (hb.mono HB.out.size)); clear hb HP; go_wp2_with fail; go_roundw
    case rel => exact ⟨k + 1, HLT.out, by go_num, B1, HA2⟩
    case measure => have := HLT.out; simp [intOf]; omega
  ·obtain rfl : k = l.length := by omega
   have hre : r = -1 := by rw [HR.out, idxP_no (fun j hj => HA.out j hj hj)]; rfl
   subst hre; go_wp2_with fail; go_ret; exact ⟨rfl, HB.out⟩
set_option maxHeartbeats 1600000 in
set_option maxRecDepth 100000 in
theorem idx_pl_pr {A : Nat → Prop} {v : Value} {l : List (PrP)} {w : World} (s : ByteArray) (c1 c2 : Nat) (h1 : w.cell? ⟨c1, 0, none⟩ = some (.func (.func 30) #[] #[])) (h2 : w.cell? ⟨c2, 0, none⟩ = some (.string s)) (hv : RIn A w 4 v (l.map PrP.row)) (hl : l.length ≤ 1073741824) :
  Calls Tryd.prog 83 #[v, .func (.func 84) #[] #[.pointer (some ⟨c1, 0, none⟩), .pointer (some ⟨c2, 0, none⟩)]] w (IntPost w (idxI (idxP (fun x => eqB x.nm s) l))) := by
 obtain ⟨ao, cap, rfl, -, -⟩ := hv.form; rw [List.length_map] at hv ⊢; have HV := Hd hv; obtain ⟨p, hp⟩ : ∃ p : PrP → Bool, p = fun x => eqB x.nm s := ⟨_, rfl⟩
 rw [← hp]; have HCL : Hid (∀ (x : PrP) W, Below w.heap.size w W → Calls Tryd.prog 84 #[.agg #[.string x.nm, .bool x.st, .string x.fr, .int .i64 x.cd], .pointer (some ⟨c1, 0, none⟩), .pointer (some ⟨c2, 0, none⟩)] W (BoolPost W (p x))) := Hd (fun x W hb => by rw [hp]; exact plcl_pr x s W c1 c2 ((hb.cell (p := ⟨c1, 0, none⟩) (cell_lt h1)).trans h1) ((hb.cell (p := ⟨c2, 0, none⟩) (cell_lt h2)).trans h2)); obtain ⟨r, hr⟩ : ∃ r, r = idxI (idxP p l) := ⟨_, rfl⟩; rw [← hr]; have HR := Hd hr; clear hv hr hp h1 h2; go_enter Tryd.func83, Tryd.ntmps83; go_wp2_with fail; go_loopw [5, 8] (fun _ kv wr => ∃ k : Nat, k ≤ l.length ∧ kv = .int .i64 k ∧ Hid (Below w.heap.size w wr) ∧ Hid (∀ j (hj : j < l.length), j < k → p l[j] = false)) (fun _ kv _ => l.length - (intOf kv).toNat)
 case atStart => exact ⟨0, Nat.zero_le _, rfl, Hd (Below.refl _ _), Hd (fun j _ h => absurd h (Nat.not_lt_zero j))⟩
 case round =>
  obtain ⟨k, hk, rfl, HB, HA⟩ := hrel; by_cases hlt : k < l.length
  ·have hi : (k : Int) < (l.length : Int) := by omega
   obtain ⟨hw', hw⟩ := wr_sm (x := (k : Int) + 1) (by omega) (by omega); obtain ⟨x, g, off, cp, -, -, hx, e, hg, -, hc⟩ := pr_cells HV.out hlt; cases e; obtain ⟨c0, c1, c2, c3⟩ := hc wr HB.out; obtain ⟨q, hq⟩ : ∃ q, p x = q := ⟨_, rfl⟩; have HQ : Hid (p l[k] = q) := Hd (by rw [← hx]; exact hq); have HP := HCL.out x wr HB.out; rw [hq] at HP; have HLT := Hd hlt; clear hc hx hq; cases q with
   | true =>
    have hre : r = (k : Int) := by rw [HR.out, idxP_at HLT.out HQ.out HA.out]; rfl
    subst hre; go_wp2_with fail; refine HP.mono ?_; rintro _ w1 ⟨rfl, hb⟩; have B1 := Hd (HB.out.trans (hb.mono HB.out.size)); clear hb HP; go_wp2_with fail; go_ret; exact ⟨rfl, B1.out⟩
   | false =>
    have HA2 : Hid (∀ j (hj : j < l.length), j < k + 1 → p l[j] = false) := Hd (fun j hj h => by
     rcases Nat.lt_succ_iff_lt_or_eq.1 h with h' | rfl
     ·exact HA.out j hj h'
     ·exact HQ.out)
    go_wp2_with fail; refine HP.mono ?_; rintro _ w1 ⟨rfl, hb⟩; have B1 := Hd (HB.out.trans (hb.mono HB.out.size)); clear hb HP; go_wp2_with fail; go_roundw
    case rel => exact ⟨k + 1, HLT.out, by go_num, B1, HA2⟩
    case measure => have := HLT.out; simp [intOf]; omega
  ·obtain rfl : k = l.length := by omega
   have hre : r = -1 := by rw [HR.out, idxP_no (fun j hj => HA.out j hj hj)]; rfl
   subst hre; go_wp2_with fail; go_ret; exact ⟨rfl, HB.out⟩
set_option maxHeartbeats 1600000 in
set_option maxRecDepth 100000 in
theorem idx_pl_mt {A : Nat → Prop} {v : Value} {l : List (MtP)} {w : World} (s : ByteArray) (c1 c2 : Nat) (h1 : w.cell? ⟨c1, 0, none⟩ = some (.func (.func 21) #[] #[])) (h2 : w.cell? ⟨c2, 0, none⟩ = some (.string s)) (hv : RIn A w 6 v (l.map MtP.row)) (hl : l.length ≤ 1073741824) :
  Calls Tryd.prog 52 #[v, .func (.func 53) #[] #[.pointer (some ⟨c1, 0, none⟩), .pointer (some ⟨c2, 0, none⟩)]] w (IntPost w (idxI (idxP (fun x => eqB x.nm s) l))) := by
 obtain ⟨ao, cap, rfl, -, -⟩ := hv.form; rw [List.length_map] at hv ⊢; have HV := Hd hv; obtain ⟨p, hp⟩ : ∃ p : MtP → Bool, p = fun x => eqB x.nm s := ⟨_, rfl⟩
 rw [← hp]; have HCL : Hid (∀ (x : MtP) W, Below w.heap.size w W → Calls Tryd.prog 53 #[.agg #[.string x.nm, .bool x.st, .bool x.ab, .bool x.fi, .string x.fr, .int .i64 x.cd], .pointer (some ⟨c1, 0, none⟩), .pointer (some ⟨c2, 0, none⟩)] W (BoolPost W (p x))) := Hd (fun x W hb => by rw [hp]; exact plcl_mt x s W c1 c2 ((hb.cell (p := ⟨c1, 0, none⟩) (cell_lt h1)).trans h1) ((hb.cell (p := ⟨c2, 0, none⟩) (cell_lt h2)).trans h2)); obtain ⟨r, hr⟩ : ∃ r, r = idxI (idxP p l) := ⟨_, rfl⟩; rw [← hr]; have HR := Hd hr; clear hv hr hp h1 h2; go_enter Tryd.func52, Tryd.ntmps52; go_wp2_with fail; go_loopw [5, 8] (fun _ kv wr => ∃ k : Nat, k ≤ l.length ∧ kv = .int .i64 k ∧ Hid (Below w.heap.size w wr) ∧ Hid (∀ j (hj : j < l.length), j < k → p l[j] = false)) (fun _ kv _ => l.length - (intOf kv).toNat)
 case atStart => exact ⟨0, Nat.zero_le _, rfl, Hd (Below.refl _ _), Hd (fun j _ h => absurd h (Nat.not_lt_zero j))⟩
 case round =>
  obtain ⟨k, hk, rfl, HB, HA⟩ := hrel; by_cases hlt : k < l.length
  ·have hi : (k : Int) < (l.length : Int) := by omega
   obtain ⟨hw', hw⟩ := wr_sm (x := (k : Int) + 1) (by omega) (by omega); obtain ⟨x, g, off, cp, -, -, hx, e, hg, -, hc⟩ := mt_cells HV.out hlt; cases e; obtain ⟨c0, c1, c2, c3, c4, c5⟩ := hc wr HB.out; obtain ⟨q, hq⟩ : ∃ q, p x = q := ⟨_, rfl⟩; have HQ : Hid (p l[k] = q) := Hd (by rw [← hx]; exact hq); have HP := HCL.out x wr HB.out; rw [hq] at HP; have HLT := Hd hlt; clear hc hx hq; cases q with
   | true =>
    have hre : r = (k : Int) := by rw [HR.out, idxP_at HLT.out HQ.out HA.out]; rfl
    subst hre; go_wp2_with fail; refine HP.mono ?_; rintro _ w1 ⟨rfl, hb⟩; have B1 := Hd (HB.out.trans (hb.mono HB.out.size)); clear hb HP; go_wp2_with fail; go_ret; exact ⟨rfl, B1.out⟩
   | false =>
    have HA2 : Hid (∀ j (hj : j < l.length), j < k + 1 → p l[j] = false) := Hd (fun j hj h => by
     rcases Nat.lt_succ_iff_lt_or_eq.1 h with h' | rfl
     ·exact HA.out j hj h'
     ·exact HQ.out)
    go_wp2_with fail; refine HP.mono ?_; rintro _ w1 ⟨rfl, hb⟩; have B1 := Hd (HB.out.trans (hb.mono HB.out.size)); clear hb HP; go_wp2_with fail; go_roundw
    case rel => exact ⟨k + 1, HLT.out, by go_num, B1, HA2⟩
    case measure => have := HLT.out; simp [intOf]; omega
  ·obtain rfl : k = l.length := by omega
   have hre : r = -1 := by rw [HR.out, idxP_no (fun j hj => HA.out j hj hj)]; rfl
   subst hre; go_wp2_with fail; go_ret; exact ⟨rfl, HB.out⟩
set_option maxHeartbeats 1600000 in
set_option maxRecDepth 100000 in
theorem idx_m36 {A : Nat → Prop} {v : Value} {l : List (MtP)} {w : World}  (hv : RIn A w 6 v (l.map MtP.row)) (hl : l.length ≤ 1073741824) :
  Calls Tryd.prog 52 #[v, .func (.func 36) #[] #[]] w (IntPost w (idxI (idxP (fun x => x.ab && x.fi) l))) := by
 obtain ⟨ao, cap, rfl, -, -⟩ := hv.form; rw [List.length_map] at hv ⊢; have HV := Hd hv; obtain ⟨p, hp⟩ : ∃ p : MtP → Bool, p = fun x => x.ab && x.fi := ⟨_, rfl⟩
 rw [← hp]; have HCL : Hid (∀ (x : MtP) W, Below w.heap.size w W → Calls Tryd.prog 36 #[.agg #[.string x.nm, .bool x.st, .bool x.ab, .bool x.fi, .string x.fr, .int .i64 x.cd]] W (BoolPost W (p x))) := Hd (fun x W hb => by rw [hp]; exact mcl_36 x W); obtain ⟨r, hr⟩ : ∃ r, r = idxI (idxP p l) := ⟨_, rfl⟩; rw [← hr]; have HR := Hd hr; clear hv hr hp ; go_enter Tryd.func52, Tryd.ntmps52; go_wp2_with fail; go_loopw [5, 8] (fun _ kv wr => ∃ k : Nat, k ≤ l.length ∧ kv = .int .i64 k ∧ Hid (Below w.heap.size w wr) ∧ Hid (∀ j (hj : j < l.length), j < k → p l[j] = false)) (fun _ kv _ => l.length - (intOf kv).toNat)
 case atStart => exact ⟨0, Nat.zero_le _, rfl, Hd (Below.refl _ _), Hd (fun j _ h => absurd h (Nat.not_lt_zero j))⟩
 case round =>
  obtain ⟨k, hk, rfl, HB, HA⟩ := hrel; by_cases hlt : k < l.length
  ·have hi : (k : Int) < (l.length : Int) := by omega
   obtain ⟨hw', hw⟩ := wr_sm (x := (k : Int) + 1) (by omega) (by omega); obtain ⟨x, g, off, cp, -, -, hx, e, hg, -, hc⟩ := mt_cells HV.out hlt; cases e; obtain ⟨c0, c1, c2, c3, c4, c5⟩ := hc wr HB.out; obtain ⟨q, hq⟩ : ∃ q, p x = q := ⟨_, rfl⟩; have HQ : Hid (p l[k] = q) := Hd (by rw [← hx]; exact hq); have HP := HCL.out x wr HB.out; rw [hq] at HP; have HLT := Hd hlt; clear hc hx hq; cases q with
   | true =>
    have hre : r = (k : Int) := by rw [HR.out, idxP_at HLT.out HQ.out HA.out]; rfl
    subst hre; go_wp2_with fail; refine HP.mono ?_; rintro _ w1 ⟨rfl, hb⟩; have B1 := Hd (HB.out.trans (hb.mono HB.out.size)); clear hb HP; go_wp2_with fail; go_ret; exact ⟨rfl, B1.out⟩
   | false =>
    have HA2 : Hid (∀ j (hj : j < l.length), j < k + 1 → p l[j] = false) := Hd (fun j hj h => by
     rcases Nat.lt_succ_iff_lt_or_eq.1 h with h' | rfl
     ·exact HA.out j hj h'
     ·exact HQ.out)
    go_wp2_with fail; refine HP.mono ?_; rintro _ w1 ⟨rfl, hb⟩; have B1 := Hd (HB.out.trans (hb.mono HB.out.size)); clear hb HP; go_wp2_with fail; go_roundw
    case rel => exact ⟨k + 1, HLT.out, by go_num, B1, HA2⟩
    case measure => have := HLT.out; simp [intOf]; omega
  ·obtain rfl : k = l.length := by omega
   have hre : r = -1 := by rw [HR.out, idxP_no (fun j hj => HA.out j hj hj)]; rfl
   subst hre; go_wp2_with fail; go_ret; exact ⟨rfl, HB.out⟩
set_option maxHeartbeats 800000 in
set_option maxRecDepth 100000 in
theorem any_m36 {A : Nat → Prop} {v : Value} {l : List MtP} {w : World} (hv : RIn A w 6 v (l.map MtP.row)) (hl : l.length ≤ 1073741824) :
  Calls Tryd.prog 35 #[v, .func (.func 36) #[] #[]] w (BoolPost w (l.any fun x => x.ab && x.fi)) := by
 obtain ⟨ao, cap, rfl, -, -⟩ := hv.form; rw [List.length_map] at hv ⊢; have HI := idx_m36 hv hl; have hd := idxI_nonneg (idxP (fun x : MtP => x.ab && x.fi) l); rw [idxP_isSome] at hd; obtain ⟨r, hr⟩ : ∃ r, r = idxI (idxP (fun x : MtP => x.ab && x.fi) l) := ⟨_, rfl⟩; obtain ⟨b, hb⟩ : ∃ b, b = (l.any fun x => x.ab && x.fi) := ⟨_, rfl⟩; rw [← hr] at HI hd; rw [← hb] at hd ⊢; clear hr hb hv; go_enter Tryd.func35, Tryd.ntmps35; go_wp2_with fail; refine HI.mono ?_; rintro _ w1 ⟨rfl, hb1⟩; have B1 := Hd hb1; clear hb1 HI; go_wp2_with fail; go_ret; exact ⟨rfl, B1.out⟩
set_option maxHeartbeats 1600000 in
set_option maxRecDepth 100000 in
theorem idx_m37 {A : Nat → Prop} {v : Value} {l : List (MtP)} {w : World}  (hv : RIn A w 6 v (l.map MtP.row)) (hl : l.length ≤ 1073741824) :
  Calls Tryd.prog 52 #[v, .func (.func 37) #[] #[]] w (IntPost w (idxI (idxP (fun x => x.ab) l))) := by
 obtain ⟨ao, cap, rfl, -, -⟩ := hv.form; rw [List.length_map] at hv ⊢; have HV := Hd hv; obtain ⟨p, hp⟩ : ∃ p : MtP → Bool, p = fun x => x.ab := ⟨_, rfl⟩
 rw [← hp]; have HCL : Hid (∀ (x : MtP) W, Below w.heap.size w W → Calls Tryd.prog 37 #[.agg #[.string x.nm, .bool x.st, .bool x.ab, .bool x.fi, .string x.fr, .int .i64 x.cd]] W (BoolPost W (p x))) := Hd (fun x W hb => by rw [hp]; exact mcl_37 x W); obtain ⟨r, hr⟩ : ∃ r, r = idxI (idxP p l) := ⟨_, rfl⟩; rw [← hr]; have HR := Hd hr; clear hv hr hp ; go_enter Tryd.func52, Tryd.ntmps52; go_wp2_with fail; go_loopw [5, 8] (fun _ kv wr => ∃ k : Nat, k ≤ l.length ∧ kv = .int .i64 k ∧ Hid (Below w.heap.size w wr) ∧ Hid (∀ j (hj : j < l.length), j < k → p l[j] = false)) (fun _ kv _ => l.length - (intOf kv).toNat)
 case atStart => exact ⟨0, Nat.zero_le _, rfl, Hd (Below.refl _ _), Hd (fun j _ h => absurd h (Nat.not_lt_zero j))⟩
 case round =>
  obtain ⟨k, hk, rfl, HB, HA⟩ := hrel; by_cases hlt : k < l.length
  ·have hi : (k : Int) < (l.length : Int) := by omega
   obtain ⟨hw', hw⟩ := wr_sm (x := (k : Int) + 1) (by omega) (by omega); obtain ⟨x, g, off, cp, -, -, hx, e, hg, -, hc⟩ := mt_cells HV.out hlt; cases e; obtain ⟨c0, c1, c2, c3, c4, c5⟩ := hc wr HB.out; obtain ⟨q, hq⟩ : ∃ q, p x = q := ⟨_, rfl⟩; have HQ : Hid (p l[k] = q) := Hd (by rw [← hx]; exact hq); have HP := HCL.out x wr HB.out; rw [hq] at HP; have HLT := Hd hlt; clear hc hx hq; cases q with
   | true =>
    have hre : r = (k : Int) := by rw [HR.out, idxP_at HLT.out HQ.out HA.out]; rfl
    subst hre; go_wp2_with fail; refine HP.mono ?_; rintro _ w1 ⟨rfl, hb⟩; have B1 := Hd (HB.out.trans (hb.mono HB.out.size)); clear hb HP; go_wp2_with fail; go_ret; exact ⟨rfl, B1.out⟩
   | false =>
    have HA2 : Hid (∀ j (hj : j < l.length), j < k + 1 → p l[j] = false) := Hd (fun j hj h => by
     rcases Nat.lt_succ_iff_lt_or_eq.1 h with h' | rfl
     ·exact HA.out j hj h'
     ·exact HQ.out)
    go_wp2_with fail; refine HP.mono ?_; rintro _ w1 ⟨rfl, hb⟩; have B1 := Hd (HB.out.trans (hb.mono HB.out.size)); clear hb HP; go_wp2_with fail; go_roundw
    case rel => exact ⟨k + 1, HLT.out, by go_num, B1, HA2⟩
    case measure => have := HLT.out; simp [intOf]; omega
  ·obtain rfl : k = l.length := by omega
   have hre : r = -1 := by rw [HR.out, idxP_no (fun j hj => HA.out j hj hj)]; rfl
   subst hre; go_wp2_with fail; go_ret; exact ⟨rfl, HB.out⟩
set_option maxHeartbeats 800000 in
set_option maxRecDepth 100000 in
theorem any_m37 {A : Nat → Prop} {v : Value} {l : List MtP} {w : World} (hv : RIn A w 6 v (l.map MtP.row)) (hl : l.length ≤ 1073741824) :
  Calls Tryd.prog 35 #[v, .func (.func 37) #[] #[]] w (BoolPost w (l.any fun x => x.ab)) := by
 obtain ⟨ao, cap, rfl, -, -⟩ := hv.form; rw [List.length_map] at hv ⊢; have HI := idx_m37 hv hl; have hd := idxI_nonneg (idxP (fun x : MtP => x.ab) l); rw [idxP_isSome] at hd; obtain ⟨r, hr⟩ : ∃ r, r = idxI (idxP (fun x : MtP => x.ab) l) := ⟨_, rfl⟩; obtain ⟨b, hb⟩ : ∃ b, b = (l.any fun x => x.ab) := ⟨_, rfl⟩; rw [← hr] at HI hd; rw [← hb] at hd ⊢; clear hr hb hv; go_enter Tryd.func35, Tryd.ntmps35; go_wp2_with fail; refine HI.mono ?_; rintro _ w1 ⟨rfl, hb1⟩; have B1 := Hd hb1; clear hb1 HI; go_wp2_with fail; go_ret; exact ⟨rfl, B1.out⟩
set_option maxHeartbeats 1600000 in
set_option maxRecDepth 100000 in
theorem idx_m38 {A : Nat → Prop} {v : Value} {l : List (MtP)} {w : World}  (hv : RIn A w 6 v (l.map MtP.row)) (hl : l.length ≤ 1073741824) :
  Calls Tryd.prog 52 #[v, .func (.func 38) #[] #[]] w (IntPost w (idxI (idxP (fun x => !x.ab) l))) := by
 obtain ⟨ao, cap, rfl, -, -⟩ := hv.form; rw [List.length_map] at hv ⊢; have HV := Hd hv; obtain ⟨p, hp⟩ : ∃ p : MtP → Bool, p = fun x => !x.ab := ⟨_, rfl⟩
 rw [← hp]; have HCL : Hid (∀ (x : MtP) W, Below w.heap.size w W → Calls Tryd.prog 38 #[.agg #[.string x.nm, .bool x.st, .bool x.ab, .bool x.fi, .string x.fr, .int .i64 x.cd]] W (BoolPost W (p x))) := Hd (fun x W hb => by rw [hp]; exact mcl_38 x W); obtain ⟨r, hr⟩ : ∃ r, r = idxI (idxP p l) := ⟨_, rfl⟩; rw [← hr]; have HR := Hd hr; clear hv hr hp ; go_enter Tryd.func52, Tryd.ntmps52; go_wp2_with fail; go_loopw [5, 8] (fun _ kv wr => ∃ k : Nat, k ≤ l.length ∧ kv = .int .i64 k ∧ Hid (Below w.heap.size w wr) ∧ Hid (∀ j (hj : j < l.length), j < k → p l[j] = false)) (fun _ kv _ => l.length - (intOf kv).toNat)
 case atStart => exact ⟨0, Nat.zero_le _, rfl, Hd (Below.refl _ _), Hd (fun j _ h => absurd h (Nat.not_lt_zero j))⟩
 case round =>
  obtain ⟨k, hk, rfl, HB, HA⟩ := hrel; by_cases hlt : k < l.length
  ·have hi : (k : Int) < (l.length : Int) := by omega
   obtain ⟨hw', hw⟩ := wr_sm (x := (k : Int) + 1) (by omega) (by omega); obtain ⟨x, g, off, cp, -, -, hx, e, hg, -, hc⟩ := mt_cells HV.out hlt; cases e; obtain ⟨c0, c1, c2, c3, c4, c5⟩ := hc wr HB.out; obtain ⟨q, hq⟩ : ∃ q, p x = q := ⟨_, rfl⟩; have HQ : Hid (p l[k] = q) := Hd (by rw [← hx]; exact hq); have HP := HCL.out x wr HB.out; rw [hq] at HP; have HLT := Hd hlt; clear hc hx hq; cases q with
   | true =>
    have hre : r = (k : Int) := by rw [HR.out, idxP_at HLT.out HQ.out HA.out]; rfl
    subst hre; go_wp2_with fail; refine HP.mono ?_; rintro _ w1 ⟨rfl, hb⟩; have B1 := Hd (HB.out.trans (hb.mono HB.out.size)); clear hb HP; go_wp2_with fail; go_ret; exact ⟨rfl, B1.out⟩
   | false =>
    have HA2 : Hid (∀ j (hj : j < l.length), j < k + 1 → p l[j] = false) := Hd (fun j hj h => by
     rcases Nat.lt_succ_iff_lt_or_eq.1 h with h' | rfl
     ·exact HA.out j hj h'
     ·exact HQ.out)
    go_wp2_with fail; refine HP.mono ?_; rintro _ w1 ⟨rfl, hb⟩; have B1 := Hd (HB.out.trans (hb.mono HB.out.size)); clear hb HP; go_wp2_with fail; go_roundw
    case rel => exact ⟨k + 1, HLT.out, by go_num, B1, HA2⟩
    case measure => have := HLT.out; simp [intOf]; omega
  ·obtain rfl : k = l.length := by omega
   have hre : r = -1 := by rw [HR.out, idxP_no (fun j hj => HA.out j hj hj)]; rfl
   subst hre; go_wp2_with fail; go_ret; exact ⟨rfl, HB.out⟩
set_option maxHeartbeats 800000 in
set_option maxRecDepth 100000 in
theorem any_m38 {A : Nat → Prop} {v : Value} {l : List MtP} {w : World} (hv : RIn A w 6 v (l.map MtP.row)) (hl : l.length ≤ 1073741824) :
  Calls Tryd.prog 35 #[v, .func (.func 38) #[] #[]] w (BoolPost w (l.any fun x => !x.ab)) := by
 obtain ⟨ao, cap, rfl, -, -⟩ := hv.form; rw [List.length_map] at hv ⊢; have HI := idx_m38 hv hl; have hd := idxI_nonneg (idxP (fun x : MtP => !x.ab) l); rw [idxP_isSome] at hd; obtain ⟨r, hr⟩ : ∃ r, r = idxI (idxP (fun x : MtP => !x.ab) l) := ⟨_, rfl⟩; obtain ⟨b, hb⟩ : ∃ b, b = (l.any fun x => !x.ab) := ⟨_, rfl⟩; rw [← hr] at HI hd; rw [← hb] at hd ⊢; clear hr hb hv; go_enter Tryd.func35, Tryd.ntmps35; go_wp2_with fail; refine HI.mono ?_; rintro _ w1 ⟨rfl, hb1⟩; have B1 := Hd hb1; clear hb1 HI; go_wp2_with fail; go_ret; exact ⟨rfl, B1.out⟩
set_option maxHeartbeats 1600000 in
set_option maxRecDepth 100000 in
theorem idx_m51 {A : Nat → Prop} {v : Value} {l : List (MtP)} {w : World}  (hv : RIn A w 6 v (l.map MtP.row)) (hl : l.length ≤ 1073741824) :
  Calls Tryd.prog 52 #[v, .func (.func 51) #[] #[]] w (IntPost w (idxI (idxP (fun x => x.ab) l))) := by
 obtain ⟨ao, cap, rfl, -, -⟩ := hv.form; rw [List.length_map] at hv ⊢; have HV := Hd hv; obtain ⟨p, hp⟩ : ∃ p : MtP → Bool, p = fun x => x.ab := ⟨_, rfl⟩
 rw [← hp]; have HCL : Hid (∀ (x : MtP) W, Below w.heap.size w W → Calls Tryd.prog 51 #[.agg #[.string x.nm, .bool x.st, .bool x.ab, .bool x.fi, .string x.fr, .int .i64 x.cd]] W (BoolPost W (p x))) := Hd (fun x W hb => by rw [hp]; exact mcl_51 x W); obtain ⟨r, hr⟩ : ∃ r, r = idxI (idxP p l) := ⟨_, rfl⟩; rw [← hr]; have HR := Hd hr; clear hv hr hp ; go_enter Tryd.func52, Tryd.ntmps52; go_wp2_with fail; go_loopw [5, 8] (fun _ kv wr => ∃ k : Nat, k ≤ l.length ∧ kv = .int .i64 k ∧ Hid (Below w.heap.size w wr) ∧ Hid (∀ j (hj : j < l.length), j < k → p l[j] = false)) (fun _ kv _ => l.length - (intOf kv).toNat)
 case atStart => exact ⟨0, Nat.zero_le _, rfl, Hd (Below.refl _ _), Hd (fun j _ h => absurd h (Nat.not_lt_zero j))⟩
 case round =>
  obtain ⟨k, hk, rfl, HB, HA⟩ := hrel; by_cases hlt : k < l.length
  ·have hi : (k : Int) < (l.length : Int) := by omega
   obtain ⟨hw', hw⟩ := wr_sm (x := (k : Int) + 1) (by omega) (by omega); obtain ⟨x, g, off, cp, -, -, hx, e, hg, -, hc⟩ := mt_cells HV.out hlt; cases e; obtain ⟨c0, c1, c2, c3, c4, c5⟩ := hc wr HB.out; obtain ⟨q, hq⟩ : ∃ q, p x = q := ⟨_, rfl⟩; have HQ : Hid (p l[k] = q) := Hd (by rw [← hx]; exact hq); have HP := HCL.out x wr HB.out; rw [hq] at HP; have HLT := Hd hlt; clear hc hx hq; cases q with
   | true =>
    have hre : r = (k : Int) := by rw [HR.out, idxP_at HLT.out HQ.out HA.out]; rfl
    subst hre; go_wp2_with fail; refine HP.mono ?_; rintro _ w1 ⟨rfl, hb⟩; have B1 := Hd (HB.out.trans (hb.mono HB.out.size)); clear hb HP; go_wp2_with fail; go_ret; exact ⟨rfl, B1.out⟩
   | false =>
    have HA2 : Hid (∀ j (hj : j < l.length), j < k + 1 → p l[j] = false) := Hd (fun j hj h => by
     rcases Nat.lt_succ_iff_lt_or_eq.1 h with h' | rfl
     ·exact HA.out j hj h'
     ·exact HQ.out)
    go_wp2_with fail; refine HP.mono ?_; rintro _ w1 ⟨rfl, hb⟩; have B1 := Hd (HB.out.trans (hb.mono HB.out.size)); clear hb HP; go_wp2_with fail; go_roundw
    case rel => exact ⟨k + 1, HLT.out, by go_num, B1, HA2⟩
    case measure => have := HLT.out; simp [intOf]; omega
  ·obtain rfl : k = l.length := by omega
   have hre : r = -1 := by rw [HR.out, idxP_no (fun j hj => HA.out j hj hj)]; rfl
   subst hre; go_wp2_with fail; go_ret; exact ⟨rfl, HB.out⟩
set_option maxHeartbeats 800000 in
set_option maxRecDepth 100000 in
theorem any_m51 {A : Nat → Prop} {v : Value} {l : List MtP} {w : World} (hv : RIn A w 6 v (l.map MtP.row)) (hl : l.length ≤ 1073741824) :
  Calls Tryd.prog 35 #[v, .func (.func 51) #[] #[]] w (BoolPost w (l.any fun x => x.ab)) := by
 obtain ⟨ao, cap, rfl, -, -⟩ := hv.form; rw [List.length_map] at hv ⊢; have HI := idx_m51 hv hl; have hd := idxI_nonneg (idxP (fun x : MtP => x.ab) l); rw [idxP_isSome] at hd; obtain ⟨r, hr⟩ : ∃ r, r = idxI (idxP (fun x : MtP => x.ab) l) := ⟨_, rfl⟩; obtain ⟨b, hb⟩ : ∃ b, b = (l.any fun x => x.ab) := ⟨_, rfl⟩; rw [← hr] at HI hd; rw [← hb] at hd ⊢; clear hr hb hv; go_enter Tryd.func35, Tryd.ntmps35; go_wp2_with fail; refine HI.mono ?_; rintro _ w1 ⟨rfl, hb1⟩; have B1 := Hd hb1; clear hb1 HI; go_wp2_with fail; go_ret; exact ⟨rfl, B1.out⟩
set_option maxHeartbeats 1600000 in
set_option maxRecDepth 100000 in
theorem place_co {A : Nat → Prop} {v : Value} {l : List CoP} {w : World} (s : ByteArray) (hv : RIn A w 3 v (l.map CoP.row)) (hl : l.length ≤ 1073741824) :
  Calls Tryd.prog 45 #[v, .func (.func 27) #[] #[], .string s] w (IntPost w (idxI (placeC l s))) := by
 obtain ⟨ao, cap, rfl, -, -⟩ := hv.form; rw [List.length_map] at hv ⊢; obtain ⟨W, hW⟩ : ∃ W, W = (w.alloc (.cells #[.func (.func 27) #[] #[]] 67)).alloc (.cells #[.string s] 9) := ⟨_, rfl⟩; have A2 := at2_start w (.cells #[.func (.func 27) #[] #[]] 67) (.cells #[.string s] 9); rw [← hW] at A2; have HI := idx_pl_co (w := W) s w.heap.size (w.heap.size + 1) (cB A2.a 0) (cB A2.b 0) (hv.under A2.below) hl; have HA := Hd A2; have HW := Hd hW; unfold placeC; obtain ⟨r, hr⟩ : ∃ r, r = idxI (idxP (fun x : CoP => eqB x.nm s) l) := ⟨_, rfl⟩; rw [← hr] at HI ⊢; clear hr hv A2 hW; go_enter Tryd.func45, Tryd.ntmps45; go_wp2_with fail; rw [← HW.out]; refine HI.mono ?_; rintro _ w1 ⟨rfl, hb1⟩; have B1 := Hd ((HA.out.mono hb1).below); clear hb1 HI; go_wp2_with fail; go_ret; exact ⟨rfl, B1.out⟩
set_option maxHeartbeats 1600000 in
set_option maxRecDepth 100000 in
theorem place_pr {A : Nat → Prop} {v : Value} {l : List PrP} {w : World} (s : ByteArray) (hv : RIn A w 4 v (l.map PrP.row)) (hl : l.length ≤ 1073741824) :
  Calls Tryd.prog 69 #[v, .func (.func 30) #[] #[], .string s] w (IntPost w (idxI (placeP l s))) := by
 obtain ⟨ao, cap, rfl, -, -⟩ := hv.form; rw [List.length_map] at hv ⊢; obtain ⟨W, hW⟩ : ∃ W, W = (w.alloc (.cells #[.func (.func 30) #[] #[]] 69)).alloc (.cells #[.string s] 9) := ⟨_, rfl⟩; have A2 := at2_start w (.cells #[.func (.func 30) #[] #[]] 69) (.cells #[.string s] 9); rw [← hW] at A2; have HI := idx_pl_pr (w := W) s w.heap.size (w.heap.size + 1) (cB A2.a 0) (cB A2.b 0) (hv.under A2.below) hl; have HA := Hd A2; have HW := Hd hW; unfold placeP; obtain ⟨r, hr⟩ : ∃ r, r = idxI (idxP (fun x : PrP => eqB x.nm s) l) := ⟨_, rfl⟩; rw [← hr] at HI ⊢; clear hr hv A2 hW; go_enter Tryd.func69, Tryd.ntmps69; go_wp2_with fail; rw [← HW.out]; refine HI.mono ?_; rintro _ w1 ⟨rfl, hb1⟩; have B1 := Hd ((HA.out.mono hb1).below); clear hb1 HI; go_wp2_with fail; go_ret; exact ⟨rfl, B1.out⟩
set_option maxHeartbeats 1600000 in
set_option maxRecDepth 100000 in
theorem place_mt {A : Nat → Prop} {v : Value} {l : List MtP} {w : World} (s : ByteArray) (hv : RIn A w 6 v (l.map MtP.row)) (hl : l.length ≤ 1073741824) :
  Calls Tryd.prog 20 #[v, .func (.func 21) #[] #[], .string s] w (IntPost w (idxI (placeM l s))) := by
 obtain ⟨ao, cap, rfl, -, -⟩ := hv.form; rw [List.length_map] at hv ⊢; obtain ⟨W, hW⟩ : ∃ W, W = (w.alloc (.cells #[.func (.func 21) #[] #[]] 58)).alloc (.cells #[.string s] 9) := ⟨_, rfl⟩; have A2 := at2_start w (.cells #[.func (.func 21) #[] #[]] 58) (.cells #[.string s] 9); rw [← hW] at A2; have HI := idx_pl_mt (w := W) s w.heap.size (w.heap.size + 1) (cB A2.a 0) (cB A2.b 0) (hv.under A2.below) hl; have HA := Hd A2; have HW := Hd hW; unfold placeM; obtain ⟨r, hr⟩ : ∃ r, r = idxI (idxP (fun x : MtP => eqB x.nm s) l) := ⟨_, rfl⟩; rw [← hr] at HI ⊢; clear hr hv A2 hW; go_enter Tryd.func20, Tryd.ntmps20; go_wp2_with fail; rw [← HW.out]; refine HI.mono ?_; rintro _ w1 ⟨rfl, hb1⟩; have B1 := Hd ((HA.out.mono hb1).below); clear hb1 HI; go_wp2_with fail; go_ret; exact ⟨rfl, B1.out⟩
end Go.Proofs.YtobjmajkcfhpoaaDoor
