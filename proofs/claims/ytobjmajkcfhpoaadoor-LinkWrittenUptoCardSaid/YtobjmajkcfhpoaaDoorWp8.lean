/-
  The walk of Is (printed by genIs17.py).
  A cell of a row that is owned turns. Of no program.
  The linker in memory (printed by genLk17.py).
-/
import Derived.Test.YtobjmajkcfhpoaaDoorWp7
import Derived.Test.YtobjmajkcfhpoaaDoorWp1
import Derived.Deep.MidRow
namespace Go.Proofs.YtobjmajkcfhpoaaDoor
open Go.RowKit
attribute [local go_sem] yld_undef
theorem findK_mem {kn : List KC} {s : ByteArray} {x : KC} (h : findK kn s = some x) : x ∈ kn ∧ x.1.nm = s := by
 unfold findK fstP at h; cases hq : idxP (fun x : KC => eqB x.1.nm s) kn with
 | none => rw [hq] at h; cases h
 | some i =>
  rw [hq] at h; obtain ⟨hi, h1, -⟩ := idxP_some hq; have h : kn[i]? = some x := h; rw [List.getElem?_eq_getElem hi] at h; cases h; exact ⟨List.getElem_mem hi, eqB_iff.1 h1⟩
def isStep (kn : List KC) (of : ByteArray) (f : Nat) (e : Bool) (o : Option KC) : Bool :=
 if e = true then true else match o with | none => false | some c => if hasB c.1.fs of = true then true else if emT c.1.pa = true then false else isP kn of f c.1.pa
theorem isP_succ (kn : List KC) (of : ByteArray) (f : Nat) (nm : ByteArray) : isP kn of (f + 1) nm = isStep kn of f (eqB nm of) (findK kn nm) := by rw [isP]; rfl
set_option maxHeartbeats 3200000 in
set_option maxRecDepth 100000 in
theorem is_any {A B : Nat → Prop} {v : Value} {kn : List KC} {w : World} (name of : ByteArray) (hv : KnIn A B w v kn) (hl : kn.length ≤ 1073741824) (hf : ∀ x ∈ kn, x.1.fs.length ≤ 1073741824) :
  Calls Tryd.prog 7 #[.string name, .string of, v] w (BoolPost w (isP kn of (kn.length + 1) name)) := by
 obtain ⟨ao, cap, rfl, -, -⟩ := hv.rows.form; rw [List.length_map] at hv ⊢; have HV := Hd hv; have HL := Hd hl; have HF := Hd hf; obtain ⟨r, hr⟩ : ∃ r, r = isP kn of (kn.length + 1) name := ⟨_, rfl⟩; rw [← hr]; have HR0 : Hid (r = isP kn of (kn.length + 1 - 0) name) := Hd hr; obtain ⟨hn', hn⟩ := wr_sm (x := (kn.length : Int) + 1) (by omega) (by omega); clear hv hr hf; go_enter Tryd.func7, Tryd.ntmps7; go_wp2_with fail; go_loopw [0, 7, 8, 12, 20, 31] (fun nv _ _ kv _ _ wr => ∃ (j : Nat) (nm : ByteArray), j ≤ kn.length + 1 ∧ nv = .string nm ∧ kv = .int .i64 j ∧ Hid (Below w.heap.size w wr) ∧ Hid (r = isP kn of (kn.length + 1 - j) nm)) (fun _ _ _ kv _ _ _ => kn.length + 1 - (intOf kv).toNat)
 case atStart => exact ⟨0, name, by omega, rfl, rfl, Hd (Below.refl _ _), HR0⟩
 case round =>
  clear HR0; obtain ⟨j, nm, hj, rfl, rfl, HB, HX⟩ := hrel; by_cases hlt : j < kn.length + 1
  ·have hi : (j : Int) < (kn.length : Int) + 1 := by omega
   obtain ⟨hw', hw⟩ := wr_sm (x := (j : Int) + 1) (by omega) (by omega); have HFI := Hd (find_any nm (HV.out.rows.under HB.out) HL.out); obtain ⟨e, he⟩ : ∃ e, (nm.toList == of.toList) = e := ⟨_, rfl⟩; obtain ⟨o, ho⟩ : ∃ o, o = findK kn nm := ⟨_, rfl⟩; rw [← ho] at HFI; have HO := Hd ho; have hstep : isP kn of (kn.length + 1 - j) nm = isStep kn of (kn.length + 1 - (j + 1)) e o := by
    rw [show kn.length + 1 - j = (kn.length + 1 - (j + 1)) + 1 by omega, isP_succ, ← ho]; rw [show eqB nm of = e from he]
   have HXN := Hd (HX.out.trans hstep); have HLT := Hd hlt; clear hstep ho hlt HX; cases o with
   | none =>
    go_wp2_with fail; refine HFI.out.mono ?_; rintro _ w1 ⟨hb, rfl⟩; have B1 := Hd (HB.out.trans (hb.mono HB.out.size)); have B2 : Hid (Below w.heap.size w (w1.alloc (.cells #[.string ⟨#[]⟩, .int .i64 0, .bool false, .bool false, .string ⟨#[]⟩, .slice none 0 0, .slice none 0 0, .slice none 0 0, .slice none 0 0, .slice none 0 0, .slice none 0 0] 29))) := Hd (B1.out.alloc B1.out.size _); clear hb; simp only [Option.getD_none, Option.isSome_none, KC.v, KC.nil, ClP.nil, VS6.nil]; cases e with
    | true =>
     have hrt : r = true := HXN.out; subst hrt; go_wp2_with fail; go_ret; exact ⟨rfl, B2.out⟩
    | false =>
     have hrt : r = false := HXN.out; subst hrt; go_wp2_with fail; go_ret; exact ⟨rfl, B2.out⟩
   | some x =>
    obtain ⟨hxm, -⟩ := findK_mem HO.out.symm; have HC := Hd (HV.out.cls x hxm); have HFX := Hd (HF.out x hxm); clear hxm; go_wp2_with fail; refine HFI.out.mono ?_; rintro _ w1 ⟨hb, rfl⟩; have B1 := Hd (HB.out.trans (hb.mono HB.out.size)); obtain ⟨w2, hw2⟩ : ∃ w2, w2 = w1.alloc (.cells #[.string x.1.nm, .int .i64 x.1.kd, .bool x.1.ab, .bool x.1.fi, .string x.1.pa, .slice x.2.f.o x.2.f.n x.2.f.c, .slice x.2.t.o x.2.t.n x.2.t.c, .slice x.2.a.o x.2.a.n x.2.a.c, .slice x.2.c.o x.2.c.n x.2.c.c, .slice x.2.p.o x.2.p.n x.2.p.c, .slice x.2.m.o x.2.m.n x.2.m.c] 29) := ⟨_, rfl⟩; have hb2 : Below w.heap.size w w2 := hw2 ▸ B1.out.alloc B1.out.size _; have hx2 : w2.heap[w1.heap.size]? = some (.cells #[.string x.1.nm, .int .i64 x.1.kd, .bool x.1.ab, .bool x.1.fi, .string x.1.pa, .slice x.2.f.o x.2.f.n x.2.f.c, .slice x.2.t.o x.2.t.n x.2.t.c, .slice x.2.a.o x.2.a.n x.2.a.c, .slice x.2.c.o x.2.c.n x.2.c.c, .slice x.2.p.o x.2.p.n x.2.p.c, .slice x.2.m.o x.2.m.n x.2.m.c] 29 (0, 0)) := hw2 ▸ heap_alloc_new w1 _; have B2 := Hd hb2; have HX2 := Hd hx2; have HW2 := Hd hw2; have HCO := Hd (contains_any of (HC.out.hf.under hb2) HFX.out); clear hb hb2 hx2 hw2; simp only [Option.getD_some, Option.isSome_some, KC.v]; cases e with
    | true =>
     have hrt : r = true := HXN.out; subst hrt; have B3 : Hid (Below w.heap.size w (w1.alloc (.cells #[.string x.1.nm, .int .i64 x.1.kd, .bool x.1.ab, .bool x.1.fi, .string x.1.pa, .slice x.2.f.o x.2.f.n x.2.f.c, .slice x.2.t.o x.2.t.n x.2.t.c, .slice x.2.a.o x.2.a.n x.2.a.c, .slice x.2.c.o x.2.c.n x.2.c.c, .slice x.2.p.o x.2.p.n x.2.p.c, .slice x.2.m.o x.2.m.n x.2.m.c] 29))) := Hd (by rw [← HW2.out]; exact B2.out); go_wp2_with fail; go_ret; exact ⟨rfl, B3.out⟩
    | false =>
     obtain ⟨h, hh⟩ : ∃ h, h = hasB x.1.fs of := ⟨_, rfl⟩; have HXH : Hid (r = if h = true then true else if emT x.1.pa = true then false else isP kn of (kn.length + 1 - (j + 1)) x.1.pa) := Hd (by rw [hh]; exact HXN.out); rw [← hh] at HCO; clear hh HXN; go_wp2_with fail; rw [← HW2.out]; refine HCO.out.mono ?_; rintro _ w3 ⟨rfl, hw3⟩; subst hw3; cases h with
     | true =>
      have hrt : r = true := HXH.out; subst hrt; go_wp2_with fail; go_ret; exact ⟨rfl, B2.out⟩
     | false =>
      have c4 := cB HX2.out 4; obtain ⟨p, hp⟩ : ∃ p, x.1.pa.toList.isEmpty = p := ⟨_, rfl⟩; have HXP : Hid (r = if p = true then false else isP kn of (kn.length + 1 - (j + 1)) x.1.pa) := Hd (by rw [← hp]; exact HXH.out); cases p with
      | true =>
       have hrt : r = false := HXP.out; subst hrt; go_wp2_with fail; go_ret; exact ⟨rfl, B2.out⟩
      | false =>
       have HX3 : Hid (r = isP kn of (kn.length + 1 - (j + 1)) x.1.pa) := Hd HXP.out; go_wp2_with fail; go_roundw
       case rel => exact ⟨j + 1, x.1.pa, HLT.out, rfl, by go_num, B2, HX3⟩
       case measure => have := HLT.out; simp [intOf]; omega
  ·obtain rfl : j = kn.length + 1 := by omega
   have hrt : r = false := by rw [HX.out, Nat.sub_self, isP]
   subst hrt; have hi : ¬ (((kn.length + 1 : Nat) : Int) < (kn.length : Int) + 1) := by omega
   go_wp2_with fail; go_ret; exact ⟨rfl, HB.out⟩
end Go.Proofs.YtobjmajkcfhpoaaDoor

namespace Go.Proofs.YtobjmajkcfhpoaaDoor
open Go.RowKit
theorem flatten_set (size : Nat) : ∀ (rows : List (List Value)) (k : Nat) (r : List Value) (j : Nat) (u : Value), (∀ r ∈ rows, r.length = size) → rows[k]? = some r → j < size →
  (rows.set k (r.set j u)).flatten = rows.flatten.set (k * size + j) u
 | [], k, r, j, u, _, hk, _ => by simp at hk
 | x :: rest, 0, r, j, u, h, hk, hj => by
  simp at hk; subst hk
  rw [List.set_cons_zero, List.flatten_cons, List.flatten_cons, Nat.zero_mul, Nat.zero_add, List.set_append_left _ _ (by rw [h x (by simp)]; exact hj)]
 | x :: rest, k + 1, r, j, u, h, hk, hj => by
  have hx := h x (by simp)
  rw [List.set_cons_succ, List.flatten_cons, List.flatten_cons, List.set_append_right _ _ (by rw [hx, Nat.add_mul]; omega), hx,
   show (k + 1) * size + j - size = k * size + j by rw [Nat.add_mul]; omega,
   flatten_set size rest k r j u (fun y hy => h y (by simp [hy])) (by simpa using hk) hj]
theorem Owns.setRow {w : World} {e : TypeId} {size g n cap : Nat} {rows : List (List Value)} (h : Owns w e size (.slice (some ⟨g, 0, none⟩) n cap) rows) {k : Nat} {r : List Value} (hk : rows[k]? = some r) (j : Nat) (hj : j < size) (u : Value) (hu : u.oneCell' = true) :
  Owns (w.setCell ⟨g, k * size + j, none⟩ u) e size (.slice (some ⟨g, 0, none⟩) n cap) (rows.set k (r.set j u)) ∧ w.grownBy (w.setCell ⟨g, k * size + j, none⟩ u) (some g) := by
 have hn : n = rows.length := by
  obtain ⟨ao, cap', hv, _⟩ := h.any; cases hv; rfl
 subst hn; obtain ⟨h1, h2⟩ := h.row.stored (k * size + j) u; have hmem := List.mem_of_getElem? hk; refine ⟨⟨by rw [List.length_set, flatten_set size rows k r j u h.len hk hj]; exact h1, fun x hx => ?_, fun x hx y hy => ?_⟩, h2⟩
 ·rcases List.mem_or_eq_of_mem_set hx with hx | rfl
  ·exact h.len x hx
  ·rw [List.length_set]; exact h.len r hmem
 ·rcases List.mem_or_eq_of_mem_set hx with hx | rfl
  ·exact h.one x hx y hy
  ·rcases List.mem_or_eq_of_mem_set hy with hy | rfl
   ·exact h.one r hmem y hy
   ·exact hu
end Go.Proofs.YtobjmajkcfhpoaaDoor

namespace Go.Proofs.YtobjmajkcfhpoaaDoor
open Go.RowKit
structure LS where
 d : KC
 p : KC
 K : SV
 kn : List KC
 f : SV
 fs : List ByteArray
 t : SV
 a : SV
 c : SV
 cs : List CoP
 q : SV
 ps : List PrP
 m : SV
 ms : List MtP
 r : SV
 rs : List KC
 h : SV
 hs : List ByteArray
 g : Nat
 G : List (ByteArray × Bool)
 gn : Nat
 l : Nat
 L : List ByteArray
 ln : Nat
 x : SV
 xs : List MtP
def gvF (G : List (ByteArray × Bool)) : ByteArray → Option Bool := fun n => (fstP (fun x => eqB x.1 n) G).map Prod.snd
def LF (b g l : Nat) : Nat → Prop := fun k => k = b ∨ k = g ∨ k = l
def NF (b g l : Nat) : Nat → Prop := fun k => ¬ LF b g l k
def LS.cells (s : LS) : Array Value := #[.string s.d.1.nm, .int .i64 s.d.1.kd, .bool s.d.1.ab, .bool s.d.1.fi, .string s.d.1.pa, .slice s.d.2.f.o s.d.2.f.n s.d.2.f.c, .slice s.d.2.t.o s.d.2.t.n s.d.2.t.c, .slice s.d.2.a.o s.d.2.a.n s.d.2.a.c, .slice s.d.2.c.o s.d.2.c.n s.d.2.c.c, .slice s.d.2.p.o s.d.2.p.n s.d.2.p.c, .slice s.d.2.m.o s.d.2.m.n s.d.2.m.c, .string s.d.1.nm, .int .i64 s.d.1.kd, .bool s.d.1.ab, .bool s.d.1.fi, .string s.d.1.pa, .slice s.f.o s.f.n s.f.c, .slice s.t.o s.t.n s.t.c, .slice s.a.o s.a.n s.a.c, .slice s.c.o s.c.n s.c.c, .slice s.q.o s.q.n s.q.c, .slice s.m.o s.m.n s.m.c, .string s.p.1.nm, .int .i64 s.p.1.kd, .bool s.p.1.ab, .bool s.p.1.fi, .string s.p.1.pa, .slice s.p.2.f.o s.p.2.f.n s.p.2.f.c, .slice s.p.2.t.o s.p.2.t.n s.p.2.t.c, .slice s.p.2.a.o s.p.2.a.n s.p.2.a.c, .slice s.p.2.c.o s.p.2.c.n s.p.2.c.c, .slice s.p.2.p.o s.p.2.p.n s.p.2.p.c, .slice s.p.2.m.o s.p.2.m.n s.p.2.m.c, .slice s.K.o s.K.n s.K.c, .slice s.r.o s.r.n s.r.c, .slice s.h.o s.h.n s.h.c, .map (some s.g), .map (some s.l)]
theorem own_ty {w : World} {e : TypeId} {size : Nat} {v : Value} {rows : List (List Value)} (h : Owns w e size v rows) {k : Nat} (hk : v.ownBlock = some k) : ∃ cur, w.heap[k]? = some (.cells cur e (0, 0)) := by
 rcases h.row.2 with ⟨rfl, -⟩ | ⟨g, cap, cur, rfl, -, hg, -⟩
 ·cases hk
 ·cases hk; exact ⟨cur, hg⟩
theorem own_ne {w : World} {e e' : TypeId} (he : e ≠ e') {size size' : Nat} {v v' : Value} {rows rows' : List (List Value)} (h : Owns w e size v rows) (h' : Owns w e' size' v' rows') {k : Nat} (hk : v.ownBlock = some k) (hk' : v'.ownBlock = some k) : False := by
 obtain ⟨c, h1⟩ := own_ty h hk; obtain ⟨c', h2⟩ := own_ty h' hk'; rw [h1] at h2; cases h2; exact he rfl
theorem own_nb {w : World} {e e' : TypeId} (he : e ≠ e') {size : Nat} {v : Value} {rows : List (List Value)} (h : Owns w e size v rows) {b : Nat} {c : Array Value} {fr : Nat × Nat} (hb : w.heap[b]? = some (.cells c e' fr)) : v.ownBlock ≠ some b := by
 intro hk; obtain ⟨c', h1⟩ := own_ty h hk; rw [h1] at hb; cases hb; exact he rfl
theorem own_nm {w : World} {e : TypeId} {size : Nat} {v : Value} {rows : List (List Value)} (h : Owns w e size v rows) {b n : Nat} {F : ByteArray → Option Bool} (hb : mSB.Is w b F n) : v.ownBlock ≠ some b := by
 intro hk; obtain ⟨c', h1⟩ := own_ty h hk; obtain ⟨D, ⟨es, clock, h2, -⟩, -⟩ := hb; rw [h1] at h2; cases h2
structure LkO (w0 W : World) (b : Nat) (s : LS) : Prop where
 hb : ∃ c, W.heap[b]? = some (.cells c 51 (0, 0))
 mod : Mod (LF b s.g s.l) w0 W
 dIn : ClIn (NF b s.g s.l) w0 s.d.1 s.d.2
 pIn : ClIn (NF b s.g s.l) w0 s.p.1 s.p.2
 kIn : KnIn (NF b s.g s.l) (NF b s.g s.l) w0 (.slice s.K.o s.K.n s.K.c) s.kn
 rIn : ∀ x ∈ s.rs, ClIn (NF b s.g s.l) w0 x.1 x.2
 tIn : RIn (NF b s.g s.l) w0 1 (.slice s.t.o s.t.n s.t.c) (s.d.1.ts.map sR)
 aIn : AdIn (NF b s.g s.l) w0 (.slice s.a.o s.a.n s.a.c) s.d.1.ad
 gl : s.g ≠ s.l
 gm : mSB.Is W s.g (gvF s.G) s.gn
 lm : mSB.Is W s.l (metF s.L) s.ln
 of : Owns W 9 1 (.slice s.f.o s.f.n s.f.c) (s.fs.map sR)
 oh : Owns W 9 1 (.slice s.h.o s.h.n s.h.c) (s.hs.map sR)
 oc : Owns W 66 3 (.slice s.c.o s.c.n s.c.c) (s.cs.map CoP.row)
 oq : Owns W 45 4 (.slice s.q.o s.q.n s.q.c) (s.ps.map PrP.row)
 om : Owns W 34 6 (.slice s.m.o s.m.n s.m.c) (s.ms.map MtP.row)
 or : Owns W 29 11 (.slice s.r.o s.r.n s.r.c) (s.rs.map KC.row)
 nf : ∀ k, (.slice s.f.o s.f.n s.f.c : Value).ownBlock = some k → w0.heap.size ≤ k
 nh : ∀ k, (.slice s.h.o s.h.n s.h.c : Value).ownBlock = some k → w0.heap.size ≤ k
 nc : ∀ k, (.slice s.c.o s.c.n s.c.c : Value).ownBlock = some k → w0.heap.size ≤ k
 nq : ∀ k, (.slice s.q.o s.q.n s.q.c : Value).ownBlock = some k → w0.heap.size ≤ k
 nm : ∀ k, (.slice s.m.o s.m.n s.m.c : Value).ownBlock = some k → w0.heap.size ≤ k
 nr : ∀ k, (.slice s.r.o s.r.n s.r.c : Value).ownBlock = some k → w0.heap.size ≤ k
 fh : ∀ k, (.slice s.f.o s.f.n s.f.c : Value).ownBlock = some k → (.slice s.h.o s.h.n s.h.c : Value).ownBlock ≠ some k
 ox : Owns W 34 6 (.slice s.x.o s.x.n s.x.c) (s.xs.map MtP.row)
 mx : ∀ k, (.slice s.x.o s.x.n s.x.c : Value).ownBlock = some k → (.slice s.m.o s.m.n s.m.c : Value).ownBlock ≠ some k
structure LkIs (w0 W : World) (b : Nat) (s : LS) : Prop where
 own : LkO w0 W b s
 blk : W.heap[b]? = some (.cells s.cells 51 (0, 0))
section
variable {w0 W W1 W3 : World} {b : Nat} {s : LS}
theorem LkO.same (h : LkO w0 W b s) (m : Below W.heap.size W W1) : LkO w0 W1 b s := by
 have mm := Mod.of_below (F := fun _ => False) m; obtain ⟨c, hc⟩ := h.hb; exact ⟨⟨c, mm.blk hc (fun x => x)⟩, h.mod.trans' mm (fun _ _ x => x.elim), h.dIn, h.pIn, h.kIn, h.rIn, h.tIn, h.aIn, h.gl, h.gm.under m, h.lm.under m, h.of.mod mm (fun _ _ x => x), h.oh.mod mm (fun _ _ x => x), h.oc.mod mm (fun _ _ x => x), h.oq.mod mm (fun _ _ x => x), h.om.mod mm (fun _ _ x => x), h.or.mod mm (fun _ _ x => x), h.nf, h.nh, h.nc, h.nq, h.nm, h.nr, h.fh, h.ox.mod mm (fun _ _ x => x), h.mx⟩
theorem LkIs.same (h : LkIs w0 W b s) (m : Below W.heap.size W W1) : LkIs w0 W1 b s := ⟨h.own.same m, (Mod.of_below (F := fun _ => False) m).blk h.blk (fun x => x)⟩
theorem LkO.set (h : LkO w0 W b s) (i : Nat) (u : Value) : LkO w0 (W.setCell ⟨b, i, none⟩ u) b s := by
 obtain ⟨c, hc⟩ := h.hb; have mm : Mod (fun k => k = b) W (W.setCell ⟨b, i, none⟩ u) := (Mod.refl _ W).setCell ⟨b, i, none⟩ u (fun _ => rfl); have hg : s.g ≠ b := fun e => by
  obtain ⟨D, ⟨es, clock, h2, -⟩, -⟩ := h.gm; rw [e, hc] at h2; cases h2
 have hl : s.l ≠ b := fun e => by
  obtain ⟨D, ⟨es, clock, h2, -⟩, -⟩ := h.lm; rw [e, hc] at h2; cases h2
 exact ⟨⟨_, set_blk hc i u⟩, h.mod.trans' mm (fun _ _ x => .inl x), h.dIn, h.pIn, h.kIn, h.rIn, h.tIn, h.aIn, h.gl, h.gm.mod mm hg, h.lm.mod mm hl, h.of.mod mm (fun k e x => own_nb (by decide) h.of hc (by rw [← x]; exact e)), h.oh.mod mm (fun k e x => own_nb (by decide) h.oh hc (by rw [← x]; exact e)), h.oc.mod mm (fun k e x => own_nb (by decide) h.oc hc (by rw [← x]; exact e)), h.oq.mod mm (fun k e x => own_nb (by decide) h.oq hc (by rw [← x]; exact e)), h.om.mod mm (fun k e x => own_nb (by decide) h.om hc (by rw [← x]; exact e)), h.or.mod mm (fun k e x => own_nb (by decide) h.or hc (by rw [← x]; exact e)), h.nf, h.nh, h.nc, h.nq, h.nm, h.nr, h.fh, h.ox.mod mm (fun k e x => own_nb (by decide) h.ox hc (by rw [← x]; exact e)), h.mx⟩
theorem LkO.turn_f (h : LkO w0 W b s) {v : SV} {l : List ByteArray} (o3 : Owns W3 9 1 (.slice v.o v.n v.c) (l.map sR)) (g3 : W.grownBy W3 (.slice s.f.o s.f.n s.f.c : Value).ownBlock) (n3 : (Value.slice v.o v.n v.c).ownBlock = (.slice s.f.o s.f.n s.f.c : Value).ownBlock ∨ ∃ j, (Value.slice v.o v.n v.c).ownBlock = some j ∧ W.heap.size ≤ j) : LkO w0 W3 b { s with f := v, fs := l } := by
 obtain ⟨c, hc⟩ := h.hb; have mm : Mod (fun j => (.slice s.f.o s.f.n s.f.c : Value).ownBlock = some j) W W3 := (Mod.refl _ W).grown g3 (fun j e _ => e); exact ⟨⟨c, mm.blk hc (own_nb (by decide) h.of hc)⟩, h.mod.trans' mm (fun j hj x => by have := h.nf j x; omega), h.dIn, h.pIn, h.kIn, h.rIn, h.tIn, h.aIn, h.gl, h.gm.mod mm (own_nm h.of h.gm), h.lm.mod mm (own_nm h.of h.lm), o3, h.oh.mod mm (fun k e x => h.fh k x e), h.oc.mod mm (fun k e x => own_ne (by decide) h.oc h.of e x), h.oq.mod mm (fun k e x => own_ne (by decide) h.oq h.of e x), h.om.mod mm (fun k e x => own_ne (by decide) h.om h.of e x), h.or.mod mm (fun k e x => own_ne (by decide) h.or h.of e x), fun j e => (by rcases n3 with n3 | ⟨j2, n3, hj⟩ <;> rw [n3] at e <;> first | exact h.nf j e | (cases e; have := h.mod.size; omega)), h.nh, h.nc, h.nq, h.nm, h.nr, fun j e e2 => (by rcases n3 with n3 | ⟨j2, n3, hj⟩ <;> rw [n3] at e <;> first | exact h.fh j e e2 | (cases e; have := Owns.lt h.oh e2; omega)), h.ox.mod mm (fun k e x => own_ne (by decide) h.ox h.of e x), h.mx⟩
theorem LkIs.put_f (h : LkIs w0 W b s) {v : SV} {l : List ByteArray} (o3 : Owns W3 9 1 (.slice v.o v.n v.c) (l.map sR)) (g3 : W.grownBy W3 (.slice s.f.o s.f.n s.f.c : Value).ownBlock) (n3 : (Value.slice v.o v.n v.c).ownBlock = (.slice s.f.o s.f.n s.f.c : Value).ownBlock ∨ ∃ j, (Value.slice v.o v.n v.c).ownBlock = some j ∧ W.heap.size ≤ j) : LkIs w0 (W3.setCell ⟨b, 16, none⟩ (.slice v.o v.n v.c)) b { s with f := v, fs := l } := by
 have mm : Mod (fun j => (.slice s.f.o s.f.n s.f.c : Value).ownBlock = some j) W W3 := (Mod.refl _ W).grown g3 (fun j e _ => e); refine ⟨(h.own.turn_f o3 g3 n3).set 16 _, ?_⟩; have := set_blk (mm.blk h.blk (own_nb (by decide) h.own.of h.blk)) 16 (.slice v.o v.n v.c); simpa [LS.cells] using this
theorem LkIs.turn_f (h : LkIs w0 W b s) {l : List ByteArray} (o3 : Owns W3 9 1 (.slice s.f.o s.f.n s.f.c) (l.map sR)) (g3 : W.grownBy W3 (.slice s.f.o s.f.n s.f.c : Value).ownBlock) : LkIs w0 W3 b { s with fs := l } := by
 have mm : Mod (fun j => (.slice s.f.o s.f.n s.f.c : Value).ownBlock = some j) W W3 := (Mod.refl _ W).grown g3 (fun j e _ => e); exact ⟨h.own.turn_f (v := s.f) o3 g3 (.inl rfl), mm.blk h.blk (own_nb (by decide) h.own.of h.blk)⟩
theorem LkO.turn_h (h : LkO w0 W b s) {v : SV} {l : List ByteArray} (o3 : Owns W3 9 1 (.slice v.o v.n v.c) (l.map sR)) (g3 : W.grownBy W3 (.slice s.h.o s.h.n s.h.c : Value).ownBlock) (n3 : (Value.slice v.o v.n v.c).ownBlock = (.slice s.h.o s.h.n s.h.c : Value).ownBlock ∨ ∃ j, (Value.slice v.o v.n v.c).ownBlock = some j ∧ W.heap.size ≤ j) : LkO w0 W3 b { s with h := v, hs := l } := by
 obtain ⟨c, hc⟩ := h.hb; have mm : Mod (fun j => (.slice s.h.o s.h.n s.h.c : Value).ownBlock = some j) W W3 := (Mod.refl _ W).grown g3 (fun j e _ => e); exact ⟨⟨c, mm.blk hc (own_nb (by decide) h.oh hc)⟩, h.mod.trans' mm (fun j hj x => by have := h.nh j x; omega), h.dIn, h.pIn, h.kIn, h.rIn, h.tIn, h.aIn, h.gl, h.gm.mod mm (own_nm h.oh h.gm), h.lm.mod mm (own_nm h.oh h.lm), h.of.mod mm (fun k e x => h.fh k e x), o3, h.oc.mod mm (fun k e x => own_ne (by decide) h.oc h.oh e x), h.oq.mod mm (fun k e x => own_ne (by decide) h.oq h.oh e x), h.om.mod mm (fun k e x => own_ne (by decide) h.om h.oh e x), h.or.mod mm (fun k e x => own_ne (by decide) h.or h.oh e x), h.nf, fun j e => (by rcases n3 with n3 | ⟨j2, n3, hj⟩ <;> rw [n3] at e <;> first | exact h.nh j e | (cases e; have := h.mod.size; omega)), h.nc, h.nq, h.nm, h.nr, fun j e e2 => (by rcases n3 with n3 | ⟨j2, n3, hj⟩ <;> rw [n3] at e2 <;> first | exact h.fh j e e2 | (cases e2; have := Owns.lt h.of e; omega)), h.ox.mod mm (fun k e x => own_ne (by decide) h.ox h.oh e x), h.mx⟩
theorem LkIs.put_h (h : LkIs w0 W b s) {v : SV} {l : List ByteArray} (o3 : Owns W3 9 1 (.slice v.o v.n v.c) (l.map sR)) (g3 : W.grownBy W3 (.slice s.h.o s.h.n s.h.c : Value).ownBlock) (n3 : (Value.slice v.o v.n v.c).ownBlock = (.slice s.h.o s.h.n s.h.c : Value).ownBlock ∨ ∃ j, (Value.slice v.o v.n v.c).ownBlock = some j ∧ W.heap.size ≤ j) : LkIs w0 (W3.setCell ⟨b, 35, none⟩ (.slice v.o v.n v.c)) b { s with h := v, hs := l } := by
 have mm : Mod (fun j => (.slice s.h.o s.h.n s.h.c : Value).ownBlock = some j) W W3 := (Mod.refl _ W).grown g3 (fun j e _ => e); refine ⟨(h.own.turn_h o3 g3 n3).set 35 _, ?_⟩; have := set_blk (mm.blk h.blk (own_nb (by decide) h.own.oh h.blk)) 35 (.slice v.o v.n v.c); simpa [LS.cells] using this
theorem LkIs.turn_h (h : LkIs w0 W b s) {l : List ByteArray} (o3 : Owns W3 9 1 (.slice s.h.o s.h.n s.h.c) (l.map sR)) (g3 : W.grownBy W3 (.slice s.h.o s.h.n s.h.c : Value).ownBlock) : LkIs w0 W3 b { s with hs := l } := by
 have mm : Mod (fun j => (.slice s.h.o s.h.n s.h.c : Value).ownBlock = some j) W W3 := (Mod.refl _ W).grown g3 (fun j e _ => e); exact ⟨h.own.turn_h (v := s.h) o3 g3 (.inl rfl), mm.blk h.blk (own_nb (by decide) h.own.oh h.blk)⟩
theorem LkO.turn_c (h : LkO w0 W b s) {v : SV} {l : List CoP} (o3 : Owns W3 66 3 (.slice v.o v.n v.c) (l.map CoP.row)) (g3 : W.grownBy W3 (.slice s.c.o s.c.n s.c.c : Value).ownBlock) (n3 : (Value.slice v.o v.n v.c).ownBlock = (.slice s.c.o s.c.n s.c.c : Value).ownBlock ∨ ∃ j, (Value.slice v.o v.n v.c).ownBlock = some j ∧ W.heap.size ≤ j) : LkO w0 W3 b { s with c := v, cs := l } := by
 obtain ⟨c, hc⟩ := h.hb; have mm : Mod (fun j => (.slice s.c.o s.c.n s.c.c : Value).ownBlock = some j) W W3 := (Mod.refl _ W).grown g3 (fun j e _ => e); exact ⟨⟨c, mm.blk hc (own_nb (by decide) h.oc hc)⟩, h.mod.trans' mm (fun j hj x => by have := h.nc j x; omega), h.dIn, h.pIn, h.kIn, h.rIn, h.tIn, h.aIn, h.gl, h.gm.mod mm (own_nm h.oc h.gm), h.lm.mod mm (own_nm h.oc h.lm), h.of.mod mm (fun k e x => own_ne (by decide) h.of h.oc e x), h.oh.mod mm (fun k e x => own_ne (by decide) h.oh h.oc e x), o3, h.oq.mod mm (fun k e x => own_ne (by decide) h.oq h.oc e x), h.om.mod mm (fun k e x => own_ne (by decide) h.om h.oc e x), h.or.mod mm (fun k e x => own_ne (by decide) h.or h.oc e x), h.nf, h.nh, fun j e => (by rcases n3 with n3 | ⟨j2, n3, hj⟩ <;> rw [n3] at e <;> first | exact h.nc j e | (cases e; have := h.mod.size; omega)), h.nq, h.nm, h.nr, h.fh, h.ox.mod mm (fun k e x => own_ne (by decide) h.ox h.oc e x), h.mx⟩
theorem LkIs.put_c (h : LkIs w0 W b s) {v : SV} {l : List CoP} (o3 : Owns W3 66 3 (.slice v.o v.n v.c) (l.map CoP.row)) (g3 : W.grownBy W3 (.slice s.c.o s.c.n s.c.c : Value).ownBlock) (n3 : (Value.slice v.o v.n v.c).ownBlock = (.slice s.c.o s.c.n s.c.c : Value).ownBlock ∨ ∃ j, (Value.slice v.o v.n v.c).ownBlock = some j ∧ W.heap.size ≤ j) : LkIs w0 (W3.setCell ⟨b, 19, none⟩ (.slice v.o v.n v.c)) b { s with c := v, cs := l } := by
 have mm : Mod (fun j => (.slice s.c.o s.c.n s.c.c : Value).ownBlock = some j) W W3 := (Mod.refl _ W).grown g3 (fun j e _ => e); refine ⟨(h.own.turn_c o3 g3 n3).set 19 _, ?_⟩; have := set_blk (mm.blk h.blk (own_nb (by decide) h.own.oc h.blk)) 19 (.slice v.o v.n v.c); simpa [LS.cells] using this
theorem LkIs.turn_c (h : LkIs w0 W b s) {l : List CoP} (o3 : Owns W3 66 3 (.slice s.c.o s.c.n s.c.c) (l.map CoP.row)) (g3 : W.grownBy W3 (.slice s.c.o s.c.n s.c.c : Value).ownBlock) : LkIs w0 W3 b { s with cs := l } := by
 have mm : Mod (fun j => (.slice s.c.o s.c.n s.c.c : Value).ownBlock = some j) W W3 := (Mod.refl _ W).grown g3 (fun j e _ => e); exact ⟨h.own.turn_c (v := s.c) o3 g3 (.inl rfl), mm.blk h.blk (own_nb (by decide) h.own.oc h.blk)⟩
theorem LkO.turn_q (h : LkO w0 W b s) {v : SV} {l : List PrP} (o3 : Owns W3 45 4 (.slice v.o v.n v.c) (l.map PrP.row)) (g3 : W.grownBy W3 (.slice s.q.o s.q.n s.q.c : Value).ownBlock) (n3 : (Value.slice v.o v.n v.c).ownBlock = (.slice s.q.o s.q.n s.q.c : Value).ownBlock ∨ ∃ j, (Value.slice v.o v.n v.c).ownBlock = some j ∧ W.heap.size ≤ j) : LkO w0 W3 b { s with q := v, ps := l } := by
 obtain ⟨c, hc⟩ := h.hb; have mm : Mod (fun j => (.slice s.q.o s.q.n s.q.c : Value).ownBlock = some j) W W3 := (Mod.refl _ W).grown g3 (fun j e _ => e); exact ⟨⟨c, mm.blk hc (own_nb (by decide) h.oq hc)⟩, h.mod.trans' mm (fun j hj x => by have := h.nq j x; omega), h.dIn, h.pIn, h.kIn, h.rIn, h.tIn, h.aIn, h.gl, h.gm.mod mm (own_nm h.oq h.gm), h.lm.mod mm (own_nm h.oq h.lm), h.of.mod mm (fun k e x => own_ne (by decide) h.of h.oq e x), h.oh.mod mm (fun k e x => own_ne (by decide) h.oh h.oq e x), h.oc.mod mm (fun k e x => own_ne (by decide) h.oc h.oq e x), o3, h.om.mod mm (fun k e x => own_ne (by decide) h.om h.oq e x), h.or.mod mm (fun k e x => own_ne (by decide) h.or h.oq e x), h.nf, h.nh, h.nc, fun j e => (by rcases n3 with n3 | ⟨j2, n3, hj⟩ <;> rw [n3] at e <;> first | exact h.nq j e | (cases e; have := h.mod.size; omega)), h.nm, h.nr, h.fh, h.ox.mod mm (fun k e x => own_ne (by decide) h.ox h.oq e x), h.mx⟩
theorem LkIs.put_q (h : LkIs w0 W b s) {v : SV} {l : List PrP} (o3 : Owns W3 45 4 (.slice v.o v.n v.c) (l.map PrP.row)) (g3 : W.grownBy W3 (.slice s.q.o s.q.n s.q.c : Value).ownBlock) (n3 : (Value.slice v.o v.n v.c).ownBlock = (.slice s.q.o s.q.n s.q.c : Value).ownBlock ∨ ∃ j, (Value.slice v.o v.n v.c).ownBlock = some j ∧ W.heap.size ≤ j) : LkIs w0 (W3.setCell ⟨b, 20, none⟩ (.slice v.o v.n v.c)) b { s with q := v, ps := l } := by
 have mm : Mod (fun j => (.slice s.q.o s.q.n s.q.c : Value).ownBlock = some j) W W3 := (Mod.refl _ W).grown g3 (fun j e _ => e); refine ⟨(h.own.turn_q o3 g3 n3).set 20 _, ?_⟩; have := set_blk (mm.blk h.blk (own_nb (by decide) h.own.oq h.blk)) 20 (.slice v.o v.n v.c); simpa [LS.cells] using this
theorem LkIs.turn_q (h : LkIs w0 W b s) {l : List PrP} (o3 : Owns W3 45 4 (.slice s.q.o s.q.n s.q.c) (l.map PrP.row)) (g3 : W.grownBy W3 (.slice s.q.o s.q.n s.q.c : Value).ownBlock) : LkIs w0 W3 b { s with ps := l } := by
 have mm : Mod (fun j => (.slice s.q.o s.q.n s.q.c : Value).ownBlock = some j) W W3 := (Mod.refl _ W).grown g3 (fun j e _ => e); exact ⟨h.own.turn_q (v := s.q) o3 g3 (.inl rfl), mm.blk h.blk (own_nb (by decide) h.own.oq h.blk)⟩
theorem LkO.turn_m (h : LkO w0 W b s) {v : SV} {l : List MtP} (o3 : Owns W3 34 6 (.slice v.o v.n v.c) (l.map MtP.row)) (g3 : W.grownBy W3 (.slice s.m.o s.m.n s.m.c : Value).ownBlock) (n3 : (Value.slice v.o v.n v.c).ownBlock = (.slice s.m.o s.m.n s.m.c : Value).ownBlock ∨ ∃ j, (Value.slice v.o v.n v.c).ownBlock = some j ∧ W.heap.size ≤ j) : LkO w0 W3 b { s with m := v, ms := l } := by
 obtain ⟨c, hc⟩ := h.hb; have mm : Mod (fun j => (.slice s.m.o s.m.n s.m.c : Value).ownBlock = some j) W W3 := (Mod.refl _ W).grown g3 (fun j e _ => e); exact ⟨⟨c, mm.blk hc (own_nb (by decide) h.om hc)⟩, h.mod.trans' mm (fun j hj x => by have := h.nm j x; omega), h.dIn, h.pIn, h.kIn, h.rIn, h.tIn, h.aIn, h.gl, h.gm.mod mm (own_nm h.om h.gm), h.lm.mod mm (own_nm h.om h.lm), h.of.mod mm (fun k e x => own_ne (by decide) h.of h.om e x), h.oh.mod mm (fun k e x => own_ne (by decide) h.oh h.om e x), h.oc.mod mm (fun k e x => own_ne (by decide) h.oc h.om e x), h.oq.mod mm (fun k e x => own_ne (by decide) h.oq h.om e x), o3, h.or.mod mm (fun k e x => own_ne (by decide) h.or h.om e x), h.nf, h.nh, h.nc, h.nq, fun j e => (by rcases n3 with n3 | ⟨j2, n3, hj⟩ <;> rw [n3] at e <;> first | exact h.nm j e | (cases e; have := h.mod.size; omega)), h.nr, h.fh, h.ox.mod mm (fun k e x => h.mx k e x), fun j e e2 => (by rcases n3 with n3 | ⟨j2, n3, hj⟩ <;> rw [n3] at e2 <;> first | exact h.mx j e e2 | (cases e2; have := Owns.lt h.ox e; omega))⟩
theorem LkIs.put_m (h : LkIs w0 W b s) {v : SV} {l : List MtP} (o3 : Owns W3 34 6 (.slice v.o v.n v.c) (l.map MtP.row)) (g3 : W.grownBy W3 (.slice s.m.o s.m.n s.m.c : Value).ownBlock) (n3 : (Value.slice v.o v.n v.c).ownBlock = (.slice s.m.o s.m.n s.m.c : Value).ownBlock ∨ ∃ j, (Value.slice v.o v.n v.c).ownBlock = some j ∧ W.heap.size ≤ j) : LkIs w0 (W3.setCell ⟨b, 21, none⟩ (.slice v.o v.n v.c)) b { s with m := v, ms := l } := by
 have mm : Mod (fun j => (.slice s.m.o s.m.n s.m.c : Value).ownBlock = some j) W W3 := (Mod.refl _ W).grown g3 (fun j e _ => e); refine ⟨(h.own.turn_m o3 g3 n3).set 21 _, ?_⟩; have := set_blk (mm.blk h.blk (own_nb (by decide) h.own.om h.blk)) 21 (.slice v.o v.n v.c); simpa [LS.cells] using this
theorem LkIs.turn_m (h : LkIs w0 W b s) {l : List MtP} (o3 : Owns W3 34 6 (.slice s.m.o s.m.n s.m.c) (l.map MtP.row)) (g3 : W.grownBy W3 (.slice s.m.o s.m.n s.m.c : Value).ownBlock) : LkIs w0 W3 b { s with ms := l } := by
 have mm : Mod (fun j => (.slice s.m.o s.m.n s.m.c : Value).ownBlock = some j) W W3 := (Mod.refl _ W).grown g3 (fun j e _ => e); exact ⟨h.own.turn_m (v := s.m) o3 g3 (.inl rfl), mm.blk h.blk (own_nb (by decide) h.own.om h.blk)⟩
theorem LkO.turn_r (h : LkO w0 W b s) {v : SV} {l : List KC} (hr : ∀ x ∈ l, ClIn (NF b s.g s.l) w0 x.1 x.2) (o3 : Owns W3 29 11 (.slice v.o v.n v.c) (l.map KC.row)) (g3 : W.grownBy W3 (.slice s.r.o s.r.n s.r.c : Value).ownBlock) (n3 : (Value.slice v.o v.n v.c).ownBlock = (.slice s.r.o s.r.n s.r.c : Value).ownBlock ∨ ∃ j, (Value.slice v.o v.n v.c).ownBlock = some j ∧ W.heap.size ≤ j) : LkO w0 W3 b { s with r := v, rs := l } := by
 obtain ⟨c, hc⟩ := h.hb; have mm : Mod (fun j => (.slice s.r.o s.r.n s.r.c : Value).ownBlock = some j) W W3 := (Mod.refl _ W).grown g3 (fun j e _ => e); exact ⟨⟨c, mm.blk hc (own_nb (by decide) h.or hc)⟩, h.mod.trans' mm (fun j hj x => by have := h.nr j x; omega), h.dIn, h.pIn, h.kIn, hr, h.tIn, h.aIn, h.gl, h.gm.mod mm (own_nm h.or h.gm), h.lm.mod mm (own_nm h.or h.lm), h.of.mod mm (fun k e x => own_ne (by decide) h.of h.or e x), h.oh.mod mm (fun k e x => own_ne (by decide) h.oh h.or e x), h.oc.mod mm (fun k e x => own_ne (by decide) h.oc h.or e x), h.oq.mod mm (fun k e x => own_ne (by decide) h.oq h.or e x), h.om.mod mm (fun k e x => own_ne (by decide) h.om h.or e x), o3, h.nf, h.nh, h.nc, h.nq, h.nm, fun j e => (by rcases n3 with n3 | ⟨j2, n3, hj⟩ <;> rw [n3] at e <;> first | exact h.nr j e | (cases e; have := h.mod.size; omega)), h.fh, h.ox.mod mm (fun k e x => own_ne (by decide) h.ox h.or e x), h.mx⟩
theorem LkIs.put_r (h : LkIs w0 W b s) {v : SV} {l : List KC} (hr : ∀ x ∈ l, ClIn (NF b s.g s.l) w0 x.1 x.2) (o3 : Owns W3 29 11 (.slice v.o v.n v.c) (l.map KC.row)) (g3 : W.grownBy W3 (.slice s.r.o s.r.n s.r.c : Value).ownBlock) (n3 : (Value.slice v.o v.n v.c).ownBlock = (.slice s.r.o s.r.n s.r.c : Value).ownBlock ∨ ∃ j, (Value.slice v.o v.n v.c).ownBlock = some j ∧ W.heap.size ≤ j) : LkIs w0 (W3.setCell ⟨b, 34, none⟩ (.slice v.o v.n v.c)) b { s with r := v, rs := l } := by
 have mm : Mod (fun j => (.slice s.r.o s.r.n s.r.c : Value).ownBlock = some j) W W3 := (Mod.refl _ W).grown g3 (fun j e _ => e); refine ⟨(h.own.turn_r hr o3 g3 n3).set 34 _, ?_⟩; have := set_blk (mm.blk h.blk (own_nb (by decide) h.own.or h.blk)) 34 (.slice v.o v.n v.c); simpa [LS.cells] using this
theorem LkIs.turn_r (h : LkIs w0 W b s) {l : List KC} (hr : ∀ x ∈ l, ClIn (NF b s.g s.l) w0 x.1 x.2) (o3 : Owns W3 29 11 (.slice s.r.o s.r.n s.r.c) (l.map KC.row)) (g3 : W.grownBy W3 (.slice s.r.o s.r.n s.r.c : Value).ownBlock) : LkIs w0 W3 b { s with rs := l } := by
 have mm : Mod (fun j => (.slice s.r.o s.r.n s.r.c : Value).ownBlock = some j) W W3 := (Mod.refl _ W).grown g3 (fun j e _ => e); exact ⟨h.own.turn_r hr (v := s.r) o3 g3 (.inl rfl), mm.blk h.blk (own_nb (by decide) h.own.or h.blk)⟩
structure LkG (w0 W : World) (b : Nat) (s : LS) (J : LS → LS) : Prop where
 own : LkO w0 W b s
 blk : W.heap[b]? = some (.cells (J s).cells 51 (0, 0))
def LS.p0 (s : LS) : LS := { s with f := s.d.2.f, c := s.d.2.c, q := s.d.2.p, m := s.d.2.m }
def LS.p1 (s : LS) : LS := { s with c := s.d.2.c, q := s.d.2.p, m := s.d.2.m }
def LS.p2 (s : LS) : LS := { s with q := s.d.2.p, m := s.d.2.m }
def LS.p3 (s : LS) : LS := { s with m := s.d.2.m }
def LS.p4 (s : LS) : LS := s
theorem LkIs.g (h : LkIs w0 W b s) : LkG w0 W b s LS.p4 := ⟨h.own, h.blk⟩
theorem LkG.is (h : LkG w0 W b s LS.p4) : LkIs w0 W b s := ⟨h.own, h.blk⟩
theorem LkG.same {J : LS → LS} (h : LkG w0 W b s J) (m : Below W.heap.size W W1) : LkG w0 W1 b s J := ⟨h.own.same m, (Mod.of_below (F := fun _ => False) m).blk h.blk (fun x => x)⟩
theorem LkG.put_f (h : LkG w0 W b s LS.p1) {v : SV} {l : List ByteArray} (o3 : Owns W3 9 1 (.slice v.o v.n v.c) (l.map sR)) (g3 : W.grownBy W3 (.slice s.f.o s.f.n s.f.c : Value).ownBlock) (n3 : (Value.slice v.o v.n v.c).ownBlock = (.slice s.f.o s.f.n s.f.c : Value).ownBlock ∨ ∃ j, (Value.slice v.o v.n v.c).ownBlock = some j ∧ W.heap.size ≤ j) : LkG w0 (W3.setCell ⟨b, 16, none⟩ (.slice v.o v.n v.c)) b { s with f := v, fs := l } LS.p1 := by
 have mm : Mod (fun j => (.slice s.f.o s.f.n s.f.c : Value).ownBlock = some j) W W3 := (Mod.refl _ W).grown g3 (fun j e _ => e); refine ⟨(h.own.turn_f o3 g3 n3).set 16 _, ?_⟩; have := set_blk (mm.blk h.blk (own_nb (by decide) h.own.of h.blk)) 16 (.slice v.o v.n v.c); simpa [LS.cells, LS.p1, LS.p1] using this
theorem LkG.in_f (h : LkG w0 W b s LS.p0) {v : SV} {l : List ByteArray} (o3 : Owns W3 9 1 (.slice v.o v.n v.c) (l.map sR)) (g3 : W.grownBy W3 (.slice s.f.o s.f.n s.f.c : Value).ownBlock) (n3 : (Value.slice v.o v.n v.c).ownBlock = (.slice s.f.o s.f.n s.f.c : Value).ownBlock ∨ ∃ j, (Value.slice v.o v.n v.c).ownBlock = some j ∧ W.heap.size ≤ j) : LkG w0 (W3.setCell ⟨b, 16, none⟩ (.slice v.o v.n v.c)) b { s with f := v, fs := l } LS.p1 := by
 have mm : Mod (fun j => (.slice s.f.o s.f.n s.f.c : Value).ownBlock = some j) W W3 := (Mod.refl _ W).grown g3 (fun j e _ => e); refine ⟨(h.own.turn_f o3 g3 n3).set 16 _, ?_⟩; have := set_blk (mm.blk h.blk (own_nb (by decide) h.own.of h.blk)) 16 (.slice v.o v.n v.c); simpa [LS.cells, LS.p0, LS.p1] using this
theorem LkG.put_h (h : LkG w0 W b s LS.p1) {v : SV} {l : List ByteArray} (o3 : Owns W3 9 1 (.slice v.o v.n v.c) (l.map sR)) (g3 : W.grownBy W3 (.slice s.h.o s.h.n s.h.c : Value).ownBlock) (n3 : (Value.slice v.o v.n v.c).ownBlock = (.slice s.h.o s.h.n s.h.c : Value).ownBlock ∨ ∃ j, (Value.slice v.o v.n v.c).ownBlock = some j ∧ W.heap.size ≤ j) : LkG w0 (W3.setCell ⟨b, 35, none⟩ (.slice v.o v.n v.c)) b { s with h := v, hs := l } LS.p1 := by
 have mm : Mod (fun j => (.slice s.h.o s.h.n s.h.c : Value).ownBlock = some j) W W3 := (Mod.refl _ W).grown g3 (fun j e _ => e); refine ⟨(h.own.turn_h o3 g3 n3).set 35 _, ?_⟩; have := set_blk (mm.blk h.blk (own_nb (by decide) h.own.oh h.blk)) 35 (.slice v.o v.n v.c); simpa [LS.cells, LS.p1, LS.p1] using this
theorem LkG.put_c (h : LkG w0 W b s LS.p2) {v : SV} {l : List CoP} (o3 : Owns W3 66 3 (.slice v.o v.n v.c) (l.map CoP.row)) (g3 : W.grownBy W3 (.slice s.c.o s.c.n s.c.c : Value).ownBlock) (n3 : (Value.slice v.o v.n v.c).ownBlock = (.slice s.c.o s.c.n s.c.c : Value).ownBlock ∨ ∃ j, (Value.slice v.o v.n v.c).ownBlock = some j ∧ W.heap.size ≤ j) : LkG w0 (W3.setCell ⟨b, 19, none⟩ (.slice v.o v.n v.c)) b { s with c := v, cs := l } LS.p2 := by
 have mm : Mod (fun j => (.slice s.c.o s.c.n s.c.c : Value).ownBlock = some j) W W3 := (Mod.refl _ W).grown g3 (fun j e _ => e); refine ⟨(h.own.turn_c o3 g3 n3).set 19 _, ?_⟩; have := set_blk (mm.blk h.blk (own_nb (by decide) h.own.oc h.blk)) 19 (.slice v.o v.n v.c); simpa [LS.cells, LS.p2, LS.p2] using this
theorem LkG.in_c (h : LkG w0 W b s LS.p1) {v : SV} {l : List CoP} (o3 : Owns W3 66 3 (.slice v.o v.n v.c) (l.map CoP.row)) (g3 : W.grownBy W3 (.slice s.c.o s.c.n s.c.c : Value).ownBlock) (n3 : (Value.slice v.o v.n v.c).ownBlock = (.slice s.c.o s.c.n s.c.c : Value).ownBlock ∨ ∃ j, (Value.slice v.o v.n v.c).ownBlock = some j ∧ W.heap.size ≤ j) : LkG w0 (W3.setCell ⟨b, 19, none⟩ (.slice v.o v.n v.c)) b { s with c := v, cs := l } LS.p2 := by
 have mm : Mod (fun j => (.slice s.c.o s.c.n s.c.c : Value).ownBlock = some j) W W3 := (Mod.refl _ W).grown g3 (fun j e _ => e); refine ⟨(h.own.turn_c o3 g3 n3).set 19 _, ?_⟩; have := set_blk (mm.blk h.blk (own_nb (by decide) h.own.oc h.blk)) 19 (.slice v.o v.n v.c); simpa [LS.cells, LS.p1, LS.p2] using this
theorem LkG.turn_c (h : LkG w0 W b s LS.p2) {l : List CoP} (o3 : Owns W3 66 3 (.slice s.c.o s.c.n s.c.c) (l.map CoP.row)) (g3 : W.grownBy W3 (.slice s.c.o s.c.n s.c.c : Value).ownBlock) : LkG w0 W3 b { s with cs := l } LS.p2 := by
 have mm : Mod (fun j => (.slice s.c.o s.c.n s.c.c : Value).ownBlock = some j) W W3 := (Mod.refl _ W).grown g3 (fun j e _ => e); exact ⟨h.own.turn_c (v := s.c) o3 g3 (.inl rfl), mm.blk h.blk (own_nb (by decide) h.own.oc h.blk)⟩
theorem LkG.put_q (h : LkG w0 W b s LS.p3) {v : SV} {l : List PrP} (o3 : Owns W3 45 4 (.slice v.o v.n v.c) (l.map PrP.row)) (g3 : W.grownBy W3 (.slice s.q.o s.q.n s.q.c : Value).ownBlock) (n3 : (Value.slice v.o v.n v.c).ownBlock = (.slice s.q.o s.q.n s.q.c : Value).ownBlock ∨ ∃ j, (Value.slice v.o v.n v.c).ownBlock = some j ∧ W.heap.size ≤ j) : LkG w0 (W3.setCell ⟨b, 20, none⟩ (.slice v.o v.n v.c)) b { s with q := v, ps := l } LS.p3 := by
 have mm : Mod (fun j => (.slice s.q.o s.q.n s.q.c : Value).ownBlock = some j) W W3 := (Mod.refl _ W).grown g3 (fun j e _ => e); refine ⟨(h.own.turn_q o3 g3 n3).set 20 _, ?_⟩; have := set_blk (mm.blk h.blk (own_nb (by decide) h.own.oq h.blk)) 20 (.slice v.o v.n v.c); simpa [LS.cells, LS.p3, LS.p3] using this
theorem LkG.in_q (h : LkG w0 W b s LS.p2) {v : SV} {l : List PrP} (o3 : Owns W3 45 4 (.slice v.o v.n v.c) (l.map PrP.row)) (g3 : W.grownBy W3 (.slice s.q.o s.q.n s.q.c : Value).ownBlock) (n3 : (Value.slice v.o v.n v.c).ownBlock = (.slice s.q.o s.q.n s.q.c : Value).ownBlock ∨ ∃ j, (Value.slice v.o v.n v.c).ownBlock = some j ∧ W.heap.size ≤ j) : LkG w0 (W3.setCell ⟨b, 20, none⟩ (.slice v.o v.n v.c)) b { s with q := v, ps := l } LS.p3 := by
 have mm : Mod (fun j => (.slice s.q.o s.q.n s.q.c : Value).ownBlock = some j) W W3 := (Mod.refl _ W).grown g3 (fun j e _ => e); refine ⟨(h.own.turn_q o3 g3 n3).set 20 _, ?_⟩; have := set_blk (mm.blk h.blk (own_nb (by decide) h.own.oq h.blk)) 20 (.slice v.o v.n v.c); simpa [LS.cells, LS.p2, LS.p3] using this
theorem LkG.turn_q (h : LkG w0 W b s LS.p3) {l : List PrP} (o3 : Owns W3 45 4 (.slice s.q.o s.q.n s.q.c) (l.map PrP.row)) (g3 : W.grownBy W3 (.slice s.q.o s.q.n s.q.c : Value).ownBlock) : LkG w0 W3 b { s with ps := l } LS.p3 := by
 have mm : Mod (fun j => (.slice s.q.o s.q.n s.q.c : Value).ownBlock = some j) W W3 := (Mod.refl _ W).grown g3 (fun j e _ => e); exact ⟨h.own.turn_q (v := s.q) o3 g3 (.inl rfl), mm.blk h.blk (own_nb (by decide) h.own.oq h.blk)⟩
theorem LkG.in_m (h : LkG w0 W b s LS.p3) {v : SV} {l : List MtP} (o3 : Owns W3 34 6 (.slice v.o v.n v.c) (l.map MtP.row)) (g3 : W.grownBy W3 (.slice s.m.o s.m.n s.m.c : Value).ownBlock) (n3 : (Value.slice v.o v.n v.c).ownBlock = (.slice s.m.o s.m.n s.m.c : Value).ownBlock ∨ ∃ j, (Value.slice v.o v.n v.c).ownBlock = some j ∧ W.heap.size ≤ j) : LkG w0 (W3.setCell ⟨b, 21, none⟩ (.slice v.o v.n v.c)) b { s with m := v, ms := l } LS.p4 := by
 have mm : Mod (fun j => (.slice s.m.o s.m.n s.m.c : Value).ownBlock = some j) W W3 := (Mod.refl _ W).grown g3 (fun j e _ => e); refine ⟨(h.own.turn_m o3 g3 n3).set 21 _, ?_⟩; have := set_blk (mm.blk h.blk (own_nb (by decide) h.own.om h.blk)) 21 (.slice v.o v.n v.c); simpa [LS.cells, LS.p3, LS.p4] using this
theorem LkG.put_r (h : LkG w0 W b s LS.p1) {v : SV} {l : List KC} (hr : ∀ x ∈ l, ClIn (NF b s.g s.l) w0 x.1 x.2) (o3 : Owns W3 29 11 (.slice v.o v.n v.c) (l.map KC.row)) (g3 : W.grownBy W3 (.slice s.r.o s.r.n s.r.c : Value).ownBlock) (n3 : (Value.slice v.o v.n v.c).ownBlock = (.slice s.r.o s.r.n s.r.c : Value).ownBlock ∨ ∃ j, (Value.slice v.o v.n v.c).ownBlock = some j ∧ W.heap.size ≤ j) : LkG w0 (W3.setCell ⟨b, 34, none⟩ (.slice v.o v.n v.c)) b { s with r := v, rs := l } LS.p1 := by
 have mm : Mod (fun j => (.slice s.r.o s.r.n s.r.c : Value).ownBlock = some j) W W3 := (Mod.refl _ W).grown g3 (fun j e _ => e); refine ⟨(h.own.turn_r hr o3 g3 n3).set 34 _, ?_⟩; have := set_blk (mm.blk h.blk (own_nb (by decide) h.own.or h.blk)) 34 (.slice v.o v.n v.c); simpa [LS.cells, LS.p1, LS.p1] using this
theorem LkO.par (h : LkO w0 W b s) {x : KC} (hx : ClIn (NF b s.g s.l) w0 x.1 x.2) : LkO w0 W b { s with p := x } :=
 ⟨h.hb, h.mod, h.dIn, hx, h.kIn, h.rIn, h.tIn, h.aIn, h.gl, h.gm, h.lm, h.of, h.oh, h.oc, h.oq, h.om, h.or, h.nf, h.nh, h.nc, h.nq, h.nm, h.nr, h.fh, h.ox, h.mx⟩
theorem LkO.guest (h : LkO w0 W b s) {x : SV} {xs : List MtP} (ho : Owns W 34 6 (.slice x.o x.n x.c) (xs.map MtP.row)) (hd : ∀ k, (Value.slice x.o x.n x.c).ownBlock = some k → (Value.slice s.m.o s.m.n s.m.c).ownBlock ≠ some k) : LkO w0 W b { s with x := x, xs := xs } :=
 ⟨h.hb, h.mod, h.dIn, h.pIn, h.kIn, h.rIn, h.tIn, h.aIn, h.gl, h.gm, h.lm, h.of, h.oh, h.oc, h.oq, h.om, h.or, h.nf, h.nh, h.nc, h.nq, h.nm, h.nr, h.fh, ho, hd⟩
theorem LkG.put_p (h : LkG w0 W b s LS.p0) {x : KC} (hx : ClIn (NF b s.g s.l) w0 x.1 x.2) : LkG w0 (W.setCells b 22 [.string x.1.nm, .int .i64 x.1.kd, .bool x.1.ab, .bool x.1.fi, .string x.1.pa, .slice x.2.f.o x.2.f.n x.2.f.c, .slice x.2.t.o x.2.t.n x.2.t.c, .slice x.2.a.o x.2.a.n x.2.a.c, .slice x.2.c.o x.2.c.n x.2.c.c, .slice x.2.p.o x.2.p.n x.2.p.c, .slice x.2.m.o x.2.m.n x.2.m.c]) b { s with p := x } LS.p0 := by
 have own : LkO w0 (W.setCells b 22 [.string x.1.nm, .int .i64 x.1.kd, .bool x.1.ab, .bool x.1.fi, .string x.1.pa, .slice x.2.f.o x.2.f.n x.2.f.c, .slice x.2.t.o x.2.t.n x.2.t.c, .slice x.2.a.o x.2.a.n x.2.a.c, .slice x.2.c.o x.2.c.n x.2.c.c, .slice x.2.p.o x.2.p.n x.2.p.c, .slice x.2.m.o x.2.m.n x.2.m.c]) b s := by
  simp only [World.setCells]; exact ((((((((((h.own.set 22 _).set 23 _).set 24 _).set 25 _).set 26 _).set 27 _).set 28 _).set 29 _).set 30 _).set 31 _).set 32 _
 refine ⟨own.par hx, ?_⟩; have h0 := h.blk; have h1 := set_blk h0 22 (.string x.1.nm); have h2 := set_blk h1 23 (.int .i64 x.1.kd); have h3 := set_blk h2 24 (.bool x.1.ab); have h4 := set_blk h3 25 (.bool x.1.fi); have h5 := set_blk h4 26 (.string x.1.pa); have h6 := set_blk h5 27 (.slice x.2.f.o x.2.f.n x.2.f.c); have h7 := set_blk h6 28 (.slice x.2.t.o x.2.t.n x.2.t.c); have h8 := set_blk h7 29 (.slice x.2.a.o x.2.a.n x.2.a.c); have h9 := set_blk h8 30 (.slice x.2.c.o x.2.c.n x.2.c.c); have h10 := set_blk h9 31 (.slice x.2.p.o x.2.p.n x.2.p.c); have h11 := set_blk h10 32 (.slice x.2.m.o x.2.m.n x.2.m.c); simpa [World.setCells, LS.cells, LS.p0] using h11
end
end Go.Proofs.YtobjmajkcfhpoaaDoor
