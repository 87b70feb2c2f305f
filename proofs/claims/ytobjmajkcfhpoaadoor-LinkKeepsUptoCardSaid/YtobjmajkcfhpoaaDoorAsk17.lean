/-
  find, Method and Is (printed by genAsk17.py).
-/
import Derived.Test.YtobjmajkcfhpoaaDoorFun17
namespace Go.Proofs.YtobjmajkcfhpoaaDoor
open Go.RowKit

attribute [local go_sem] yld_undef
theorem wpList_store_row {P : Program} {ops : Array Oper} {rest : List Oper} {op : Oper} {a : Act} {w : World} {Q : Exit → Act → World → Prop} (hgd : op.guard = none) (ty : TypeId) (x y : Operand) (ho : op.op = .store ty x y)
    (g : Nat) (cells : Array Value) (hx : a.eval x = .pointer (some ⟨g, 0, none⟩)) (hy : a.eval y = .agg cells)
    (t : TypeId) (old : Array Value) (hg : w.heap[g]? = some (.cells old t (0, 0))) (hi : (P.info? ty).map (·.size) = some cells.size)
    (hold : old.size = cells.size) (h1 : cells.all (·.oneCell') = true)
    (h : ∀ w', w'.heap[g]? = some (.cells cells t (0, 0)) → Mod (fun k => k = g) w w' → wpList P ops Q rest (a.put op.dst undef) w') : wpList P ops Q (op :: rest) a w :=
  wpList_plain hgd fun _ hK => wp_store_row ty x y ho g cells hx hy t old hg hi hold h1 (hK _ _ (h _ (setRow_heap _ _ _ _ _ _ hg) ⟨rfl, rfl, rfl, by simp, fun k _ hne => setRow_other _ _ _ _ hne⟩))
theorem size29 : (Tryd.prog.info? 29).map (·.size) = some 11 := by kernel_rfl
theorem size34 : (Tryd.prog.info? 34).map (·.size) = some 6 := by kernel_rfl
theorem mod_below' {w W0 w1 : World} {F : Nat → Prop} {g : Nat} (h : Below g w W0) (m : Mod F W0 w1) (hg : g ≤ W0.heap.size) (hF : ∀ k, F k → g ≤ k) : Below g w w1 :=
  ⟨m.os.trans h.os, m.tape.trans h.tape, m.output.trans h.output, Nat.le_trans h.size m.size, fun k hk => (m.block k (by omega) (fun e => by have := hF k e; omega)).trans (h.block k hk)⟩
/-- What find answers. -/
def FindPost (w : World) (r : Option KC) (e : Ending) (w' : World) : Prop := Below w.heap.size w w' ∧ e = .returned (.tuple #[KC.v (r.getD KC.nil), .bool r.isSome])
def MethPost (w : World) (r : Option MtP) (e : Ending) (w' : World) : Prop := Below w.heap.size w w' ∧ e = .returned (.tuple #[MtP.v (r.getD ⟨⟨#[]⟩, false, false, false, ⟨#[]⟩, 0⟩), .bool r.isSome])
theorem fstP_some {α : Type} {p : α → Bool} {l : List α} {i : Nat} (h : idxP p l = some i) : fstP p l = l[i]? := by unfold fstP; rw [h]; rfl
theorem fstP_none {α : Type} {p : α → Bool} {l : List α} (h : idxP p l = none) : fstP p l = none := by unfold fstP; rw [h]; rfl
set_option maxHeartbeats 3200000 in
set_option maxRecDepth 100000 in
theorem find_any {A : Nat → Prop} {v : Value} {kn : List KC} {w : World} (s : ByteArray) (hv : RIn A w 11 v (kn.map KC.row)) (hl : kn.length ≤ 1073741824) :
    Calls Tryd.prog 14 #[v, .string s] w (FindPost w (findK kn s)) := by
  obtain ⟨ao, cap, rfl, -, -⟩ := hv.form
  rw [List.length_map] at hv ⊢
  obtain ⟨W, hW⟩ : ∃ W, W = (w.alloc (.cells #[.string s] 9)).alloc (.cells #[.string ⟨#[]⟩, .int .i64 0, .bool false, .bool false, .string ⟨#[]⟩, .slice none 0 0, .slice none 0 0, .slice none 0 0, .slice none 0 0, .slice none 0 0, .slice none 0 0] 29) := ⟨_, rfl⟩
  have A2 := at2_start w (.cells #[.string s] 9) (.cells #[.string ⟨#[]⟩, .int .i64 0, .bool false, .bool false, .string ⟨#[]⟩, .slice none 0 0, .slice none 0 0, .slice none 0 0, .slice none 0 0, .slice none 0 0, .slice none 0 0] 29)
  rw [← hW] at A2
  have HI := idx_find (w := W) s w.heap.size (cell_blk A2.a 0) (hv.under A2.below) hl
  have HA := Lib.hid A2
  have HW := Lib.hid hW
  have HV := Lib.hid hv
  obtain ⟨q, hq⟩ : ∃ q, q = idxP (fun x : KC => eqB x.1.nm s) kn := ⟨_, rfl⟩
  rw [← hq] at HI
  have HQ := Lib.hid hq
  clear hq hv A2 hW
  go_enter Tryd.func14, Tryd.ntmps14
  go_wp2_with fail
  rw [← HW.out]
  refine HI.mono ?_
  rintro _ w1 ⟨rfl, hb1⟩
  have A3 := Lib.hid (HA.out.mono hb1)
  clear hb1 HI
  cases q with
  | none =>
    have hn : idxI none < 0 := by decide
    have hrn : findK kn s = none := fstP_none HQ.out.symm
    have HRN := Lib.hid hrn
    clear hrn
    go_wp2_with (refine wpList_store_row rfl 29 (.tmp 4) (.tmp 12) rfl (w.heap.size + 1) #[.string ⟨#[]⟩, .int .i64 0, .bool false, .bool false, .string ⟨#[]⟩, .slice none 0 0, .slice none 0 0, .slice none 0 0, .slice none 0 0, .slice none 0 0, .slice none 0 0] (by rfl) (by rfl) 29 #[.string ⟨#[]⟩, .int .i64 0, .bool false, .bool false, .string ⟨#[]⟩, .slice none 0 0, .slice none 0 0, .slice none 0 0, .slice none 0 0, .slice none 0 0, .slice none 0 0] A3.out.b size29 rfl (by simp [Value.oneCell']) ?_; intro w2 hx2 hm2; have HX := Lib.hid hx2; have HM := Lib.hid hm2; clear hx2 hm2)
    go_wp2_with fail
    have c0 := cell_blk HX.out 0; have c1 := cell_blk HX.out 1; have c2 := cell_blk HX.out 2; have c3 := cell_blk HX.out 3; have c4 := cell_blk HX.out 4; have c5 := cell_blk HX.out 5; have c6 := cell_blk HX.out 6; have c7 := cell_blk HX.out 7; have c8 := cell_blk HX.out 8; have c9 := cell_blk HX.out 9; have c10 := cell_blk HX.out 10
    exact bodyPost_ret (v := .tuple #[KC.v KC.nil, .bool false]) (by simp [results, Tryd.results14, go_sem, KC.v, KC.nil, ClP.nil, VS6.nil, c0, c1, c2, c3, c4, c5, c6, c7, c8, c9, c10]) rfl ⟨mod_below' A3.out.below HM.out A3.out.below.size (fun k e => by have e : k = w.heap.size + 1 := e; omega), by rw [HRN.out]; rfl⟩
  | some i =>
    obtain ⟨hi, -, -⟩ := idxP_some HQ.out.symm
    obtain ⟨x, g, off, cp, hx, -, -, e, hg, -, hc⟩ := kc_cells HV.out hi
    cases e
    have hrn : findK kn s = some x := by rw [findK, fstP_some HQ.out.symm, hx]
    have HRN := Lib.hid hrn
    clear hrn
    obtain ⟨d0, d1, d2, d3, d4, d5, d6, d7, d8, d9, d10⟩ := hc w1 A3.out.below
    have hlt : (i : Int) < (kn.length : Int) := by omega
    have hii : idxI (some i) = (i : Int) := rfl
    clear hx hc HQ
    go_wp2_with (refine wpList_store_row rfl 29 (.tmp 4) (.tmp 16) rfl (w.heap.size + 1) #[.string x.1.nm, .int .i64 x.1.kd, .bool x.1.ab, .bool x.1.fi, .string x.1.pa, .slice x.2.f.o x.2.f.n x.2.f.c, .slice x.2.t.o x.2.t.n x.2.t.c, .slice x.2.a.o x.2.a.n x.2.a.c, .slice x.2.c.o x.2.c.n x.2.c.c, .slice x.2.p.o x.2.p.n x.2.p.c, .slice x.2.m.o x.2.m.n x.2.m.c] (by rfl) (by rfl) 29 #[.string ⟨#[]⟩, .int .i64 0, .bool false, .bool false, .string ⟨#[]⟩, .slice none 0 0, .slice none 0 0, .slice none 0 0, .slice none 0 0, .slice none 0 0, .slice none 0 0] A3.out.b size29 rfl (by simp [Value.oneCell']) ?_; intro w2 hx2 hm2; have HX := Lib.hid hx2; have HM := Lib.hid hm2; clear hx2 hm2)
    go_wp2_with fail
    have c0 := cell_blk HX.out 0; have c1 := cell_blk HX.out 1; have c2 := cell_blk HX.out 2; have c3 := cell_blk HX.out 3; have c4 := cell_blk HX.out 4; have c5 := cell_blk HX.out 5; have c6 := cell_blk HX.out 6; have c7 := cell_blk HX.out 7; have c8 := cell_blk HX.out 8; have c9 := cell_blk HX.out 9; have c10 := cell_blk HX.out 10
    exact bodyPost_ret (v := .tuple #[KC.v x, .bool true]) (by simp [results, Tryd.results14, go_sem, KC.v, c0, c1, c2, c3, c4, c5, c6, c7, c8, c9, c10]) rfl ⟨mod_below' A3.out.below HM.out A3.out.below.size (fun k e => by have e : k = w.heap.size + 1 := e; omega), by rw [HRN.out]; rfl⟩
set_option maxHeartbeats 3200000 in
set_option maxRecDepth 100000 in
theorem method_any {A : Nat → Prop} {x : KC} {w : World} (s : ByteArray) (hx : ClIn A w x.1 x.2) (hl : x.1.ms.length ≤ 1073741824) :
    Calls Tryd.prog 6 #[.agg #[.string x.1.nm, .int .i64 x.1.kd, .bool x.1.ab, .bool x.1.fi, .string x.1.pa, .slice x.2.f.o x.2.f.n x.2.f.c, .slice x.2.t.o x.2.t.n x.2.t.c, .slice x.2.a.o x.2.a.n x.2.a.c, .slice x.2.c.o x.2.c.n x.2.c.c, .slice x.2.p.o x.2.p.n x.2.p.c, .slice x.2.m.o x.2.m.n x.2.m.c], .string s] w (MethPost w (methP x.1.ms s)) := by
  obtain ⟨W, hW⟩ : ∃ W, W = (w.alloc (.cells #[.string x.1.nm, .int .i64 x.1.kd, .bool x.1.ab, .bool x.1.fi, .string x.1.pa, .slice x.2.f.o x.2.f.n x.2.f.c, .slice x.2.t.o x.2.t.n x.2.t.c, .slice x.2.a.o x.2.a.n x.2.a.c, .slice x.2.c.o x.2.c.n x.2.c.c, .slice x.2.p.o x.2.p.n x.2.p.c, .slice x.2.m.o x.2.m.n x.2.m.c] 29)).alloc (.cells #[.string ⟨#[]⟩, .bool false, .bool false, .bool false, .string ⟨#[]⟩, .int .i64 0] 34) := ⟨_, rfl⟩
  have A2 := at2_start w (.cells #[.string x.1.nm, .int .i64 x.1.kd, .bool x.1.ab, .bool x.1.fi, .string x.1.pa, .slice x.2.f.o x.2.f.n x.2.f.c, .slice x.2.t.o x.2.t.n x.2.t.c, .slice x.2.a.o x.2.a.n x.2.a.c, .slice x.2.c.o x.2.c.n x.2.c.c, .slice x.2.p.o x.2.p.n x.2.p.c, .slice x.2.m.o x.2.m.n x.2.m.c] 29) (.cells #[.string ⟨#[]⟩, .bool false, .bool false, .bool false, .string ⟨#[]⟩, .int .i64 0] 34)
  rw [← hW] at A2
  have hv := hx.hm
  obtain ⟨ao, cap, hvf, -, -⟩ := hv.form
  have HI := place_mt (w := W) s (hv.under A2.below) hl
  have HA := Lib.hid A2
  have HW := Lib.hid hW
  have HV := Lib.hid hv
  obtain ⟨q, hq⟩ : ∃ q, q = placeM x.1.ms s := ⟨_, rfl⟩
  rw [← hq] at HI
  have HQ := Lib.hid hq
  have z0 := cell_blk A2.a 0; have z1 := cell_blk A2.a 1; have z2 := cell_blk A2.a 2; have z3 := cell_blk A2.a 3; have z4 := cell_blk A2.a 4; have z5 := cell_blk A2.a 5; have z6 := cell_blk A2.a 6; have z7 := cell_blk A2.a 7; have z8 := cell_blk A2.a 8; have z9 := cell_blk A2.a 9; have z10 := cell_blk A2.a 10
  rw [hW] at z10
  clear hq hv A2 hx hvf z0 z1 z2 z3 z4 z5 z6 z7 z8 z9
  go_enter Tryd.func6, Tryd.ntmps6
  go_wp2_with fail
  rw [← HW.out]
  refine HI.mono ?_
  rintro _ w1 ⟨rfl, hb1⟩
  have A3 := Lib.hid (HA.out.mono hb1)
  have z10 := cell_blk A3.out.a 10
  clear hb1 HI
  cases q with
  | none =>
    have hn : idxI none < 0 := by decide
    have HRN : Hid (methP x.1.ms s = none) := Lib.hid (fstP_none HQ.out.symm)
    go_wp2_with (refine wpList_store_row rfl 34 (.tmp 4) (.tmp 13) rfl (w.heap.size + 1) #[.string ⟨#[]⟩, .bool false, .bool false, .bool false, .string ⟨#[]⟩, .int .i64 0] (by rfl) (by rfl) 34 #[.string ⟨#[]⟩, .bool false, .bool false, .bool false, .string ⟨#[]⟩, .int .i64 0] A3.out.b size34 rfl (by simp [Value.oneCell']) ?_; intro w2 hx2 hm2; have HX := Lib.hid hx2; have HM := Lib.hid hm2; clear hx2 hm2)
    go_wp2_with fail
    have c0 := cell_blk HX.out 0; have c1 := cell_blk HX.out 1; have c2 := cell_blk HX.out 2; have c3 := cell_blk HX.out 3; have c4 := cell_blk HX.out 4; have c5 := cell_blk HX.out 5
    exact bodyPost_ret (v := .tuple #[MtP.v ⟨⟨#[]⟩, false, false, false, ⟨#[]⟩, 0⟩, .bool false]) (by simp [results, Tryd.results6, go_sem, MtP.v, c0, c1, c2, c3, c4, c5]) rfl ⟨mod_below' A3.out.below HM.out A3.out.below.size (fun k e => by have e : k = w.heap.size + 1 := e; omega), by rw [HRN.out]; rfl⟩
  | some i =>
    obtain ⟨hi, -, -⟩ := idxP_some HQ.out.symm
    obtain ⟨m, g, off, cp, hx, -, -, e, hg, -, hc⟩ := mt_cells HV.out hi
    have HRN : Hid (methP x.1.ms s = some m) := Lib.hid (by rw [methP, fstP_some HQ.out.symm, hx])
    obtain ⟨d0, d1, d2, d3, d4, d5⟩ := hc w1 A3.out.below
    simp only [Value.slice.injEq] at e
    obtain ⟨e1, e2, e3⟩ := e
    rw [e1, e2] at z10
    have hlt : (i : Int) < (x.1.ms.length : Int) := by omega
    have hii : idxI (some i) = (i : Int) := rfl
    clear hx hc HQ
    go_wp2_with (refine wpList_store_row rfl 34 (.tmp 4) (.tmp 18) rfl (w.heap.size + 1) #[.string m.nm, .bool m.st, .bool m.ab, .bool m.fi, .string m.fr, .int .i64 m.cd] (by rfl) (by rfl) 34 #[.string ⟨#[]⟩, .bool false, .bool false, .bool false, .string ⟨#[]⟩, .int .i64 0] A3.out.b size34 rfl (by simp [Value.oneCell']) ?_; intro w2 hx2 hm2; have HX := Lib.hid hx2; have HM := Lib.hid hm2; clear hx2 hm2)
    go_wp2_with fail
    have c0 := cell_blk HX.out 0; have c1 := cell_blk HX.out 1; have c2 := cell_blk HX.out 2; have c3 := cell_blk HX.out 3; have c4 := cell_blk HX.out 4; have c5 := cell_blk HX.out 5
    exact bodyPost_ret (v := .tuple #[MtP.v m, .bool true]) (by simp [results, Tryd.results6, go_sem, MtP.v, c0, c1, c2, c3, c4, c5]) rfl ⟨mod_below' A3.out.below HM.out A3.out.below.size (fun k e => by have e : k = w.heap.size + 1 := e; omega), by rw [HRN.out]; rfl⟩
end Go.Proofs.YtobjmajkcfhpoaaDoor
