/-
  The linker's methods (printed by genMeths17.py).
-/
import Derived.Test.YtobjmajkcfhpoaaDoorWp13
import Derived.Test.YtobjmajkcfhpoaaDoorWp15
namespace Go.Proofs.YtobjmajkcfhpoaaDoor
open Go.RowKit
attribute [local go_sem] yld_undef
abbrev MS := List MtP × List (ByteArray × Bool)
def mE (d : ClP) (s : MS) : Except Int (List MtP) := if (decide (d.kd = 1) && (!d.ab && s.1.any fun m => m.ab)) = true then .error 10 else .ok s.1
def exM (r : Except Int MS) (f : MS → Except Int (List MtP)) : Except Int (List MtP) :=
 match r with
 | .error e => .error e
 | .ok s => f s
def mO (d : ClP) (l : List MtP) (s : MS) : Except Int (List MtP) := exM (methodsP d false l s) (mE d)
def mG (d : ClP) (l : List MtP) (s : MS) : Except Int (List MtP) := exM (methodsP d true l s) (mO d d.ms)
def mK (d : ClP) (kn : List KC) (gs : List MtP) (l : List ByteArray) (ms : List MtP) : Except Int (List MtP) := mG d gs (facesM kn l ms, [])
def mJ (d : ClP) (kn : List KC) (gs : List MtP) (l : List ByteArray) (xs ms : List MtP) : Except Int (List MtP) := mK d kn gs l (faceM xs ms)
theorem allMs_eq (d : ClP) (kn : List KC) (p : KC) (fs : List ByteArray) (rs : List KC) : allMs d kn p fs rs = mK d kn (giftsP d.ad rs) fs p.1.ms := by
 unfold allMs mK mG exM; cases methodsP d true (giftsP d.ad rs) (facesM kn fs p.1.ms, []) with
 | error e => rfl
 | ok s =>
  simp only [mO, exM]; cases methodsP d false d.ms s <;> rfl
theorem methodsP_cons (d : ClP) (tr : Bool) (m : MtP) (l : List MtP) (s : MS) (f : MS → Except Int (List MtP)) : exM (methodsP d tr (m :: l) s) f = exM (methodP d m tr s) (fun s => exM (methodsP d tr l s) f) := by
 rw [methodsP]; cases methodP d m tr s <;> rfl
theorem methodP_ne0 {d : ClP} {m : MtP} {tr : Bool} {s : MS} {c : Int} (h : methodP d m tr s = .error c) : c ≠ 0 := by
 unfold methodP at h; simp only at h; cases hp : placeM s.1 m.nm with
 | none => rw [hp] at h; cases h
 | some i =>
  rw [hp] at h; simp only at h; have hi := (idxP_some hp).1; rw [List.getElem?_eq_getElem hi] at h; simp only at h; split at h
  ·split at h
   ·cases h
   ·split at h
    ·cases h; decide
    ·cases h
  ·split at h
   ·cases h; decide
   ·split at h
    ·cases h; decide
    ·split at h <;> cases h
def MethsQ (w0 : World) (b : Nat) (s : LS) (r : Except Int (List MtP)) (e : Ending) (w' : World) : Prop :=
 match r with
 | .error c => e = .returned (.int .i64 c) ∧ c ≠ 0 ∧ ∃ s' J, LkG w0 w' b s' J ∧ s'.g = s.g ∧ s'.l = s.l
 | .ok ms => e = .returned (.int .i64 0) ∧ ∃ v G n x xs, LkIs w0 w' b { s with m := v, ms := ms, G := G, gn := n, x := x, xs := xs }
def LS.mz (s : LS) (v : SV) (ms : List MtP) (G : List (ByteArray × Bool)) (n : Nat) (x : SV) (xs : List MtP) : LS := { s with m := v, ms := ms, G := G, gn := n, x := x, xs := xs }
theorem LkIs.guest {w0 W : World} {b : Nat} {s : LS} (h : LkIs w0 W b s) {x : SV} {xs : List MtP} (ho : Owns W 34 6 (.slice x.o x.n x.c) (xs.map MtP.row)) (hd : ∀ k, (Value.slice x.o x.n x.c).ownBlock = some k → (Value.slice s.m.o s.m.n s.m.c).ownBlock ≠ some k) : LkIs w0 W b { s with x := x, xs := xs } := ⟨h.own.guest ho hd, h.blk⟩
theorem pm_at {w0 W : World} {b : Nat} {s : LS} (h : LkO w0 W b s) : RIn (NF b s.g s.l) W 6 (.slice s.p.2.m.o s.p.2.m.n s.p.2.m.c) (s.p.1.ms.map MtP.row) :=
 h.pIn.hm.kept fun g hA hg => ⟨h.mod.block g hg hA, Nat.lt_of_lt_of_le hg h.mod.size, hA⟩
theorem mm_at {w0 W : World} {b : Nat} {s : LS} (h : LkO w0 W b s) : RIn AnyB W 6 (.slice s.m.o s.m.n s.m.c) (s.ms.map MtP.row) := RIn.of_owns h.om (fun _ _ => trivial)
theorem gx_at {w0 W : World} {b : Nat} {s : LS} (h : LkO w0 W b s) : RIn AnyB W 6 (.slice s.x.o s.x.n s.x.c) (s.xs.map MtP.row) := RIn.of_owns h.ox (fun _ _ => trivial)
theorem fs_at {w0 W : World} {b : Nat} {s : LS} (h : LkO w0 W b s) : RIn AnyB W 1 (.slice s.f.o s.f.n s.f.c) (s.fs.map sR) := RIn.of_owns h.of (fun _ _ => trivial)
theorem meas_lt {n j : Nat} (h : j < n) : n - (intOf (.int .i64 ((j : Int) + 1))).toNat < n - (intOf (.int .i64 (j : Int))).toNat := by
 simp [intOf]; omega
theorem gnA {n g j J : Nat} (h : n ≤ g + j) (hg : g ≤ 1048576) (hj : j < J) (hJ : J ≤ 2199023255552) : n ≤ 4398046511104 := by omega
theorem gnB {n m g j : Nat} (h : n ≤ g + j) (h2 : m ≤ n + 1) : m ≤ g + (j + 1) := by omega
theorem gnC {n g k j J : Nat} (h : n ≤ g + k + j) (hg : g ≤ 1048576) (hk : k ≤ 2199023255552) (hj : j < J) (hJ : J ≤ 1048576) : n ≤ 4398046511104 := by omega
set_option maxHeartbeats 51200000 in
set_option maxRecDepth 100000 in
theorem methods_any {w0 W : World} {b : Nat} {s : LS} (PI : List MtP → Prop) (h : LkG w0 W b s LS.p3) (hm0 : s.m = ⟨none, 0, 0⟩) (hG : s.G = []) (hgn : s.gn ≤ 1048576) (hfs : s.fs.length ≤ 1048576) (hkn : s.kn.length ≤ 1048576) (hkm : ∀ x ∈ s.kn, x.1.ms.length ≤ 1048576) (hdm : s.d.1.ms.length ≤ 1048576) (hpm : s.p.1.ms.length ≤ 1048576)
  (hrs : s.rs.length ≤ 1048576) (hrm : ∀ t ∈ s.rs, t.1.ms.length ≤ 1048576) (had : s.d.1.ad.length ≤ 1048576) (hot : ∀ a ∈ s.d.1.ad, a.ot.length ≤ 1048576) (hgz : ∀ m ∈ giftsP s.d.1.ad s.rs, m.nm.size ≤ 1048576) (hdz : ∀ m ∈ s.d.1.ms, m.nm.size ≤ 1048576) (hP0 : PI s.p.1.ms)
  (hface : ∀ n ∈ s.fs, ∀ m ∈ (fKC s.kn n).1.ms, ∀ ms, PI ms → placeM ms m.nm = none → PI (ms ++ [m]))
  (hstep : ∀ m tr st st', (m ∈ giftsP s.d.1.ad s.rs ∨ m ∈ s.d.1.ms) → PI st.1 → methodP s.d.1 m tr st = .ok st' → PI st'.1) (hle : ∀ l, PI l → l.length ≤ 1048576) :
  Calls Tryd.prog 19 #[.pointer (some ⟨b, 0, none⟩)] W (MethsQ w0 b s (allMs s.d.1 s.kn s.p s.fs s.rs)) := by
 obtain ⟨r, hr⟩ : ∃ r, r = allMs s.d.1 s.kn s.p s.fs s.rs := ⟨_, rfl⟩; rw [← hr]; obtain ⟨gs, hgs⟩ : ∃ gs, gs = giftsP s.d.1.ad s.rs := ⟨_, rfl⟩; have HGS := Hd hgs; have HR : Hid (r = mK s.d.1 s.kn gs (s.fs.drop 0) s.p.1.ms) := Hd (by rw [hr, allMs_eq, hgs]; rfl); have HGL : Hid (gs.length ≤ 2199023255552) := Hd (by
  rw [hgs]; unfold giftsP; have h1 := gifts1_len (ad := s.d.1.ad) (l := s.rs) hrm; have h2 := gifts2_len hrs s.d.1.ad; have h3 : s.rs.length * 1048576 ≤ 1048576 * 1048576 := Nat.mul_le_mul_right _ hrs; have h4 : s.d.1.ad.length * 1048576 ≤ 1048576 * 1048576 := Nat.mul_le_mul_right _ had; rw [List.length_append]; omega)
 rw [← hgs] at hgz hstep; have HS := Hd h; have h32 : W.cell? ⟨b, 32, none⟩ = some (.slice s.p.2.m.o s.p.2.m.n s.p.2.m.c) := cB h.blk 32; have HCL := Hd (clone_mt (pm_at h.own) (by omega)); have HKC : Hid (∀ n, (fKC s.kn n).1.ms.length ≤ 1048576) := Hd (fun n => by
  unfold fKC; cases hf : findK s.kn n with
  | none => exact Nat.zero_le _
  | some x => exact hkm x (findK_mem' hf))
 clear hr h hpm hkm hgs; go_enter Tryd.func19, Tryd.ntmps19; go_wp2_with fail; refine HCL.out.mono ?_; rintro _ w1 hcl; obtain ⟨v, rfl, ho, hb, hn⟩ := hcl.sv; have zc : w1.cell? ⟨b, 21, none⟩ = some (.slice s.d.2.m.o s.d.2.m.n s.d.2.m.c) := cB (HS.out.same hb).blk 21; have zf := free_blk (HS.out.same hb).blk 21; have HS1 : Hid (LkIs w0 (w1.setCell ⟨b, 21, none⟩ (.slice v.o v.n v.c)) b (s.mz v s.p.1.ms s.G s.gn s.x s.xs)) := Hd (HS.out.in_m ho (below_grown hb _) (by rw [hm0]; exact hn)).is; have HRN : Hid (s.f.n = s.fs.length) := Hd (by have h9 := rin_n (fs_at HS.out.own); rw [List.length_map] at h9; exact h9); have h16 : (w1.setCell ⟨b, 21, none⟩ (.slice v.o v.n v.c)).cell? ⟨b, 16, none⟩ = some (.slice s.f.o s.fs.length s.f.c) := by
  have h9 : (w1.setCell ⟨b, 21, none⟩ (.slice v.o v.n v.c)).cell? ⟨b, 16, none⟩ = some (.slice s.f.o s.f.n s.f.c) := cB HS1.out.blk 16; rw [HRN.out] at h9; exact h9
 obtain ⟨W1, hW1⟩ : ∃ W1, W1 = w1.setCell ⟨b, 21, none⟩ (.slice v.o v.n v.c) := ⟨_, rfl⟩; rw [← hW1] at HS1 h16; have HW1 := Hd hW1; clear hcl ho hb hn hm0 h32 HCL hW1; go_upto_region 2 with fail; rw [← HW1.out]; clear zc zf HW1; go_wp2_with fail; clear h16; go_loopw [4, 5, 6, 8, 31] (fun _ _ _ _ kv wr => ∃ (k : Nat) (v1 : SV) (ms1 : List MtP), k ≤ s.fs.length ∧ kv = .int .i64 k ∧ Hid (LkIs w0 wr b (s.mz v1 ms1 s.G s.gn s.x s.xs)) ∧ Hid (r = mK s.d.1 s.kn gs (s.fs.drop k) ms1) ∧ Hid (PI ms1)) (fun _ _ _ _ kv _ => s.fs.length - (intOf kv).toNat)
 case atStart => exact ⟨0, v, s.p.1.ms, Nat.zero_le _, rfl, HS1, HR, Hd hP0⟩
 case round =>
  clear HS1 HR hP0; obtain ⟨k, v1, ms1, hk, rfl, HS1, HR1, HPI1⟩ := hrel; by_cases hlt : k < s.fs.length
  ·have hi : (k : Int) < (s.fs.length : Int) := by omega
   obtain ⟨hw', hw⟩ := wr_sm (x := (k : Int) + 1) (by omega) (by omega); have HRI : Hid (RIn AnyB wr 1 (.slice s.f.o s.f.n s.f.c) (s.fs.map sR)) := Hd (fs_at (s := s.mz v1 ms1 s.G s.gn s.x s.xs) HS1.out.own); obtain ⟨n, g, off, cp, hn, hnm, -, e, hg, -, hc⟩ := s_cells HRI.out hlt; simp only [Value.slice.injEq] at e; obtain ⟨e1, -, -⟩ := e; have d0 := hc _ (Below.refl _ _); have HNM := Hd hnm; have Hkl := Hd hlt; have h33 : wr.cell? ⟨b, 33, none⟩ = some (.slice s.K.o s.K.n s.K.c) := cB HS1.out.blk 33; have HFI := Hd (find_any n (kin_at (s := s.mz v1 ms1 s.G s.gn s.x s.xs) HS1.out.own).rows (show s.kn.length ≤ _ by omega)); obtain ⟨f, hf⟩ : ∃ f, f = fKC s.kn n := ⟨_, rfl⟩; obtain ⟨is, his⟩ : ∃ is, is = (findK s.kn n).isSome := ⟨_, rfl⟩; have HF := Hd hf; have HFD : Hid (Calls Tryd.prog 14 #[.slice s.K.o s.K.n s.K.c, .string n] wr (fun e w' => Below wr.heap.size wr w' ∧ e = .returned (.tuple #[.agg #[.string f.1.nm, .int .i64 f.1.kd, .bool f.1.ab, .bool f.1.fi, .string f.1.pa, .slice f.2.f.o f.2.f.n f.2.f.c, .slice f.2.t.o f.2.t.n f.2.t.c, .slice f.2.a.o f.2.a.n f.2.a.c, .slice f.2.c.o f.2.c.n f.2.c.c, .slice f.2.p.o f.2.p.n f.2.p.c, .slice f.2.m.o f.2.m.n f.2.m.c], .bool is]))) := Hd (by rw [hf, his]; exact HFI.out); have HR2 : Hid (r = mJ s.d.1 s.kn gs (s.fs.drop (k + 1)) f.1.ms ms1) := Hd (by rw [HR1.out, drop_at hn, hf]; rfl); have HFL : Hid (f.1.ms.length ≤ 1048576) := Hd (by rw [hf]; exact HKC.out n); clear hc hn hnm hlt HR1 HRI hg hf his HFI; go_wp2_with fail; refine HFD.out.mono ?_
   rintro _ w2 ⟨hb2, rfl⟩; have HS2 := Hd (HS1.out.same hb2); clear hb2 HFD h33 d0 e1 HS1; have HS3 := Hd (HS2.out.same (below_alloc1 w2 (.cells #[.string f.1.nm, .int .i64 f.1.kd, .bool f.1.ab, .bool f.1.fi, .string f.1.pa, .slice f.2.f.o f.2.f.n f.2.f.c, .slice f.2.t.o f.2.t.n f.2.t.c, .slice f.2.a.o f.2.a.n f.2.a.c, .slice f.2.c.o f.2.c.n f.2.c.c, .slice f.2.p.o f.2.p.n f.2.p.c, .slice f.2.m.o f.2.m.n f.2.m.c] 29))); have hx8 := cB (heap_alloc_new w2 (.cells #[.string f.1.nm, .int .i64 f.1.kd, .bool f.1.ab, .bool f.1.fi, .string f.1.pa, .slice f.2.f.o f.2.f.n f.2.f.c, .slice f.2.t.o f.2.t.n f.2.t.c, .slice f.2.a.o f.2.a.n f.2.a.c, .slice f.2.c.o f.2.c.n f.2.c.c, .slice f.2.p.o f.2.p.n f.2.p.c, .slice f.2.m.o f.2.m.n f.2.m.c] 29)) 10; have HFN : Hid (f.2.m.n = f.1.ms.length) := Hd (by
    have h9 := (fk_at (s := s.mz v1 ms1 s.G s.gn s.x s.xs) HS3.out.own n).hm; rw [show fKC (s.mz v1 ms1 s.G s.gn s.x s.xs).kn n = f from HF.out.symm] at h9; have h7 := rin_n h9; rw [List.length_map] at h7; exact h7)
   go_upto_region 6 with fail
   obtain ⟨w3, hw3⟩ : ∃ w3, w3 = w2.alloc (.cells #[.string f.1.nm, .int .i64 f.1.kd, .bool f.1.ab, .bool f.1.fi, .string f.1.pa, .slice f.2.f.o f.2.f.n f.2.f.c, .slice f.2.t.o f.2.t.n f.2.t.c, .slice f.2.a.o f.2.a.n f.2.a.c, .slice f.2.c.o f.2.c.n f.2.c.c, .slice f.2.p.o f.2.p.n f.2.p.c, .slice f.2.m.o f.2.m.n f.2.m.c] 29) := ⟨_, rfl⟩; rw [← hw3] at HS3 hx8 ⊢; have x8 : w3.cell? ⟨w2.heap.size, 10, none⟩ = some (.slice f.2.m.o f.2.m.n f.2.m.c) := hx8; rw [HFN.out] at x8; clear hw3 hx8 HS2; go_wp2_with fail; clear x8; obtain ⟨wa, hwa⟩ : ∃ wa, wa = wr := ⟨_, rfl⟩; subst hwa; go_loopw [8, 47] (fun _ jv wr => ∃ (j : Nat) (v1 : SV) (ms1 : List MtP), j ≤ f.1.ms.length ∧ jv = .int .i64 j ∧ Hid (LkIs w0 wr b (s.mz v1 ms1 s.G s.gn s.x s.xs)) ∧ Hid (r = mJ s.d.1 s.kn gs (s.fs.drop (k + 1)) (f.1.ms.drop j) ms1) ∧ Hid (PI ms1)) (fun _ jv _ => f.1.ms.length - (intOf jv).toNat)
   case atStart => exact ⟨0, v1, ms1, Nat.zero_le _, rfl, HS3, HR2, HPI1⟩
   case round =>
    clear HS3 HR2 HPI1; obtain ⟨j, v1, ms1, hj, rfl, HS1, HR1, HPI1⟩ := hrel; have hfl := HFL.out; by_cases hlt : j < f.1.ms.length
    ·have hi2 : (j : Int) < (f.1.ms.length : Int) := by omega
     obtain ⟨hw2', hw2⟩ := wr_sm (x := (j : Int) + 1) (by omega) (by omega); have HRI : Hid (RIn (NF b s.g s.l) wr 6 (.slice f.2.m.o f.2.m.n f.2.m.c) (f.1.ms.map MtP.row)) := Hd (by rw [HF.out]; exact (fk_at (s := s.mz v1 ms1 s.G s.gn s.x s.xs) HS1.out.own n).hm); obtain ⟨x, g, off, cp, hx, hxm, -, e, -, -, hc⟩ := mt_cells HRI.out hlt; simp only [Value.slice.injEq] at e; obtain ⟨e1, -, -⟩ := e; obtain ⟨d0, d1, d2, d3, d4, d5⟩ := hc _ (Below.refl _ _); have Hlt := Hd hlt; have HR2 : Hid (r = mJ s.d.1 s.kn gs (s.fs.drop (k + 1)) (f.1.ms.drop (j + 1)) (if (placeM ms1 x.nm).isSome = true then ms1 else ms1 ++ [x])) := Hd (by rw [HR1.out, drop_at hx]; rfl); have HXM : Hid (x ∈ (fKC s.kn n).1.ms) := Hd (by rw [← HF.out]; exact hxm); have HS2 := Hd (HS1.out.same (below_alloc1 wr (.cells #[.string x.nm, .bool x.st, .bool x.ab, .bool x.fi, .string x.fr, .int .i64 x.cd] 34))); have X2 : Hid ((wr.alloc (.cells #[.string x.nm, .bool x.st, .bool x.ab, .bool x.fi, .string x.fr, .int .i64 x.cd] 34)).heap[wr.heap.size]? = some (.cells #[.string x.nm, .bool x.st, .bool x.ab, .bool x.fi, .string x.fr, .int .i64 x.cd] 34 (0, 0))) := Hd (heap_alloc_new wr _); have HBQ : Hid ((Value.slice v1.o v1.n v1.c).ownBlock ≠ some wr.heap.size) := Hd (fun e => by have := Owns.lt HS1.out.own.om e; omega); clear hc hx hxm hlt HR1 HRI; go_upto_region 9 with fail; clear e1 d0 d1 d2 d3 d4 d5 HS1; obtain ⟨W1, hW1⟩ : ∃ W1, W1 = wr.alloc (.cells #[.string x.nm, .bool x.st, .bool x.ab, .bool x.fi, .string x.fr, .int .i64 x.cd] 34) := ⟨_, rfl⟩
     rw [← hW1] at HS2 X2 ⊢; clear hW1; have HD0 : Hid (Below W1.heap.size W1 W1.drew) := Hd (Below.refl _ _).drew; have HSX : Hid (∀ V, Below W1.heap.size W1 V → (fun V => V.cell? ⟨b, 21, none⟩ = some (.slice v1.o v1.n v1.c) ∧ V.cell? ⟨wr.heap.size, 0, none⟩ = some (.string x.nm)) V) := Hd (fun V hb => ⟨cB (HS2.out.same hb).blk 21, cB ((hb.block _ (lt_of_block X2.out)).trans X2.out) 0⟩); have HS0 := Hd (HSX.out _ HD0.out); have HPL := Hd (fun V (hb : Below W1.heap.size W1 V) => place_mt (w := V) x.nm (mm_at (s := (s.mz v1 ms1 s.G s.gn s.x s.xs)) (HS2.out.same hb).own) (Nat.le_trans (hle _ HPI1.out) (by decide))); obtain ⟨q, hq⟩ : ∃ q, q = placeM ms1 x.nm := ⟨_, rfl⟩; have HQ := Hd hq; have HPL2 : Hid (∀ V, Below W1.heap.size W1 V → Calls Tryd.prog 20 #[.slice v1.o v1.n v1.c, .func (.func 21) #[] #[], .string x.nm] V (IntPost V (idxI q))) := Hd (fun V hb => by rw [hq]; exact HPL.out V hb); clear hq HPL; refine wp_region_noPanic ?_; refine wp_region_held_drew (S := (fun V => V.cell? ⟨b, 21, none⟩ = some (.slice v1.o v1.n v1.c) ∧ V.cell? ⟨wr.heap.size, 0, none⟩ = some (.string x.nm))) (by kernel_rfl) (by exact HS0.out) (fun hHeld => ?_); refine tk 0 ?_; refine tk 1 ?_; refine tk 2 ?_; refine tk 3 ?_; refine tk 4 ?_; refine tk 5 ?_; refine tk 6 ?_; refine rd 7 (fun K hK => ?_); go_simp; refine (HPL2.out _ HD0.out).mono ?_; rintro _ w2 ⟨rfl, hb⟩; have HD1 := Hd (HD0.out.trans (hb.mono HD0.out.size)); clear hb; refine hK.out _ _ (HSX.out _ HD1.out) (fun hHeldA7 => ?_); clear hK K; (try simp only [Act.put, pA, pZ, pS])
     refine tk 8 ?_; refine dn (NoPanic.normal ?_)
     have HS3 := Hd (HS2.out.same HD1.out); have X3 : Hid (w2.heap[wr.heap.size]? = some (.cells #[.string x.nm, .bool x.st, .bool x.ab, .bool x.fi, .string x.fr, .int .i64 x.cd] 34 (0, 0))) := Hd ((HD1.out.block _ (lt_of_block X2.out)).trans X2.out); clear HS0 HSX HPL2 HS2 X2 HD0 HD1 hHeldA7 hHeld; cases q with
     | some i =>
      have HR3 : Hid (r = mJ s.d.1 s.kn gs (s.fs.drop (k + 1)) (f.1.ms.drop (j + 1)) ms1) := Hd (by rw [HR2.out, ← HQ.out]; rfl); have hnn : ¬ idxI (some i) < 0 := by show ¬ (i : Int) < 0; omega
      go_wp2_with fail; go_roundw
      case rel => exact ⟨j + 1, v1, ms1, Hlt.out, by go_num, HS3, HR3, HPI1⟩
      case measure => exact meas_lt Hlt.out
     | none =>
      have hneg : idxI none < 0 := by decide
      have HR3 : Hid (r = mJ s.d.1 s.kn gs (s.fs.drop (k + 1)) (f.1.ms.drop (j + 1)) (ms1 ++ [x])) := Hd (by rw [HR2.out, ← HQ.out]; rfl); have HPI2 : Hid (PI (ms1 ++ [x])) := Hd (hface n HNM.out x HXM.out _ HPI1.out HQ.out.symm); go_wp2_with fail; have hq0 : w2.drew.cell? ⟨b, 21, none⟩ = some (.slice v1.o v1.n v1.c) := cB HS3.out.blk 21; have HA7 : Hid (Below w2.drew.heap.size w2.drew (w2.drew.alloc (.cells #[.string x.nm, .bool x.st, .bool x.ab, .bool x.fi, .string x.fr, .int .i64 x.cd] 34))) := Hd (below_alloc1 _ _); have HS7 : Hid (LkIs w0 (w2.drew.alloc (.cells #[.string x.nm, .bool x.st, .bool x.ab, .bool x.fi, .string x.fr, .int .i64 x.cd] 34)) b (s.mz v1 ms1 s.G s.gn s.x s.xs)) := Hd ((HS3.out.same (Below.refl _ _).drew).same HA7.out); have hq1 : (w2.drew.alloc (.cells #[.string x.nm, .bool x.st, .bool x.ab, .bool x.fi, .string x.fr, .int .i64 x.cd] 34)).cell? ⟨b, 21, none⟩ = some (.slice v1.o v1.n v1.c) := cB HS7.out.blk 21; have hq2 : (w2.alloc (.cells #[.string x.nm, .bool x.st, .bool x.ab, .bool x.fi, .string x.fr, .int .i64 x.cd] 34)).drew.cell? ⟨b, 21, none⟩ = some (.slice v1.o v1.n v1.c) := hq1; have hq3 : (w2.alloc (.cells #[.string x.nm, .bool x.st, .bool x.ab, .bool x.fi, .string x.fr, .int .i64 x.cd] 34)).cell? ⟨b, 21, none⟩ = some (.slice v1.o v1.n v1.c) := hq1; have HX7 : Hid ((w2.drew.alloc (.cells #[.string x.nm, .bool x.st, .bool x.ab, .bool x.fi, .string x.fr, .int .i64 x.cd] 34)).heap[wr.heap.size]? = some (.cells #[.string x.nm, .bool x.st, .bool x.ab, .bool x.fi, .string x.fr, .int .i64 x.cd] 34 (0, 0))) := Hd (alloc_blk X3.out _)
      have hL : Hid (Lies (w2.drew.alloc (.cells #[.string x.nm, .bool x.st, .bool x.ab, .bool x.fi, .string x.fr, .int .i64 x.cd] 34)) 6 (some ⟨w2.heap.size, 0, none⟩) ([[.string x.nm, .bool x.st, .bool x.ab, .bool x.fi, .string x.fr, .int .i64 x.cd]] : List (List Value))) := Hd (lies_new w2.drew [.string x.nm, .bool x.st, .bool x.ab, .bool x.fi, .string x.fr, .int .i64 x.cd] 34 rfl); have hR1 : Hid ((ms1.map MtP.row).length + ([[.string x.nm, .bool x.st, .bool x.ab, .bool x.fi, .string x.fr, .int .i64 x.cd]] : List (List Value)).length ≤ maxLen) := Hd (by have h0 := (hle _ HPI1.out); rw [List.length_map]; unfold maxLen; simp only [List.length_cons, List.length_nil]; omega); have hR2 : Hid (((ms1.map MtP.row).length + ([[.string x.nm, .bool x.st, .bool x.ab, .bool x.fi, .string x.fr, .int .i64 x.cd]] : List (List Value)).length) * 48 ≤ 140737488355328) := Hd (by have h0 := (hle _ HPI1.out); rw [List.length_map]; simp only [List.length_cons, List.length_nil]; omega); have hBb : Hid (wr.heap.size ≠ b) := Hd (fun e => by have h1 := X3.out; rw [e, HS3.out.blk] at h1; injection h1 with h2; injection h2 with _ h3 _; exact absurd h3 (by decide)); have hBq : Hid (((.slice v1.o v1.n v1.c) : Value).ownBlock ≠ some wr.heap.size) := Hd (fun e => HBQ.out e); refine wp_region_noPanic ?_; refine wp_region_held_drew (S := (fun V => V.heap[wr.heap.size]? = some (.cells #[.string x.nm, .bool x.st, .bool x.ab, .bool x.fi, .string x.fr, .int .i64 x.cd] 34 (0, 0)))) (by kernel_rfl) (by exact X3.out) (fun hHeld => ?_)
      refine tkb 0 ?_; refine tkb 1 ?_
      refine tkb 2 ?_; refine tkb 3 ?_
      refine tkb 4 ?_; refine tkb 6 ?_
      refine rd2 5 7 (fun K hK => ?_) (fun K hK => ?_)
      ·go_simp; refine hK.out _ _ (by exact X3.out) (fun hHeld5 => ?_); clear hK K; (try simp only [Act.put, pA, pZ, pS]); refine rd 7 (fun K hK => ?_); go_simp; refine hK.out _ _ (by exact HX7.out) (fun hHeld7 => ?_); clear hK K; (try simp only [Act.put, pA, pZ, pS]); refine rd 8 (fun K hK => ?_); refine step_append_rows rfl (.tmp 65) (.tmp 67) 27 rfl 34 _ 6 48 Tryd.underlying27 info34 rfl (by decide) (.slice v1.o v1.n v1.c) (ms1.map MtP.row) (by simp [Act.eval]) HS7.out.own.om (some ⟨w2.heap.size, 0, none⟩) 1 1 [[.string x.nm, .bool x.st, .bool x.ab, .bool x.fi, .string x.fr, .int .i64 x.cd]] (by simp [Act.eval]) rfl (fun e => by cases e) hL.out (by simp [Value.oneCell']) (by simp) hR1.out (by have h := hR2.out; omega) ?_; intro v6 w6 o6 g6 b6; obtain ⟨a6, L6, c6, hv6, -⟩ := owns_slice o6; subst hv6; have S6 : w6.heap[wr.heap.size]? = some (.cells #[.string x.nm, .bool x.st, .bool x.ab, .bool x.fi, .string x.fr, .int .i64 x.cd] 34 (0, 0)) := (g6.block _ (lt_of_block HX7.out) (fun e => hBq.out e.symm)).trans HX7.out; have B6 := Hd ((g6.block b (lt_of_block HS7.out.blk) (fun e => own_nb (by decide) HS7.out.own.om HS7.out.blk e.symm)).trans HS7.out.blk); have zc := cB B6.out 21; have zf := free_blk B6.out 21; have zc : w6.cell? ⟨b, 21, none⟩ = some (.slice v1.o v1.n v1.c) := zc; have HN := Hd (HS7.out.put_m (v := ⟨a6, L6, c6⟩) (l := ms1 ++ [x]) (by rw [List.map_append]; exact o6) g6 b6); have S8 : (w6.setCell ⟨b, 21, none⟩ (.slice a6 L6 c6)).heap[wr.heap.size]? = some (.cells #[.string x.nm, .bool x.st, .bool x.ab, .bool x.fi, .string x.fr, .int .i64 x.cd] 34 (0, 0)) := set_other S6 hBb.out
       clear o6 g6 b6; refine hK.out _ _ (by exact S6) (fun hHeld8 => ?_); clear hK K; (try simp only [Act.put, pA]); refine tkb 9 ?_; refine tkb 10 ?_; refine tkb 11 ?_; refine rd 12 (fun K hK => ?_); go_simp; refine hK.out _ _ (by exact S8) (fun hHeld12 => ?_); clear hK K; (try simp only [Act.put]); refine dn (NoPanic.normal ?_); have HN2 := HN; clear HN S8 S6 B6 zc zf; go_wp2_with fail; go_roundw
       case rel => exact ⟨j + 1, _, _, Hlt.out, by go_num, HN2, HR3, HPI2⟩
       case measure => exact meas_lt Hlt.out
      ·go_simp; refine hK.out _ _ (by exact HX7.out) (fun hHeld7 => ?_); clear hK K; (try simp only [Act.put, pA, pZ, pS]); refine rd 5 (fun K hK => ?_); go_simp; refine hK.out _ _ (by exact HX7.out) (fun hHeld5 => ?_); clear hK K; (try simp only [Act.put, pA, pZ, pS]); refine rd 8 (fun K hK => ?_); refine step_append_rows rfl (.tmp 65) (.tmp 67) 27 rfl 34 _ 6 48 Tryd.underlying27 info34 rfl (by decide) (.slice v1.o v1.n v1.c) (ms1.map MtP.row) (by simp [Act.eval]) HS7.out.own.om (some ⟨w2.heap.size, 0, none⟩) 1 1 [[.string x.nm, .bool x.st, .bool x.ab, .bool x.fi, .string x.fr, .int .i64 x.cd]] (by simp [Act.eval]) rfl (fun e => by cases e) hL.out (by simp [Value.oneCell']) (by simp) hR1.out (by have h := hR2.out; omega) ?_; intro v6 w6 o6 g6 b6; obtain ⟨a6, L6, c6, hv6, -⟩ := owns_slice o6; subst hv6; have S6 : w6.heap[wr.heap.size]? = some (.cells #[.string x.nm, .bool x.st, .bool x.ab, .bool x.fi, .string x.fr, .int .i64 x.cd] 34 (0, 0)) := (g6.block _ (lt_of_block HX7.out) (fun e => hBq.out e.symm)).trans HX7.out; have B6 := Hd ((g6.block b (lt_of_block HS7.out.blk) (fun e => own_nb (by decide) HS7.out.own.om HS7.out.blk e.symm)).trans HS7.out.blk); have zc := cB B6.out 21; have zf := free_blk B6.out 21; have zc : w6.cell? ⟨b, 21, none⟩ = some (.slice v1.o v1.n v1.c) := zc; have HN := Hd (HS7.out.put_m (v := ⟨a6, L6, c6⟩) (l := ms1 ++ [x]) (by rw [List.map_append]; exact o6) g6 b6); have S8 : (w6.setCell ⟨b, 21, none⟩ (.slice a6 L6 c6)).heap[wr.heap.size]? = some (.cells #[.string x.nm, .bool x.st, .bool x.ab, .bool x.fi, .string x.fr, .int .i64 x.cd] 34 (0, 0)) := set_other S6 hBb.out
       clear o6 g6 b6; refine hK.out _ _ (by exact S6) (fun hHeld8 => ?_); clear hK K; (try simp only [Act.put, pA]); refine tkb 9 ?_; refine tkb 10 ?_; refine tkb 11 ?_; refine rd 12 (fun K hK => ?_); go_simp; refine hK.out _ _ (by exact S8) (fun hHeld12 => ?_); clear hK K; (try simp only [Act.put]); refine dn (NoPanic.normal ?_); have HN2 := HN; clear HN S8 S6 B6 zc zf; go_wp2_with fail; go_roundw
       case rel => exact ⟨j + 1, _, _, Hlt.out, by go_num, HN2, HR3, HPI2⟩
       case measure => exact meas_lt Hlt.out
    ·obtain rfl : j = f.1.ms.length := by omega
     have HR3 : Hid (r = mK s.d.1 s.kn gs (s.fs.drop (k + 1)) ms1) := Hd (by rw [HR1.out, List.drop_length]; rfl); go_wp2_with fail; go_roundw
     case rel => exact ⟨k + 1, _, _, Hkl.out, by go_num, HS1, HR3, HPI1⟩
     case measure => exact meas_lt Hkl.out
  ·obtain rfl : k = s.fs.length := by omega
   have HR3 : Hid (r = mG s.d.1 (gs.drop 0) (ms1, s.G)) := Hd (by rw [HR1.out, List.drop_length, hG]; rfl); have HGI : Hid (Calls Tryd.prog 49 #[.pointer (some ⟨b, 0, none⟩)] wr (MethsPost wr gs)) := Hd (by
    rw [HGS.out]; exact gifts_any (s := s.mz v1 ms1 s.G s.gn s.x s.xs) HS1.out.own (cB HS1.out.blk 7) (cB HS1.out.blk 34) hrs hrm had hot)
   go_wp2_with fail; refine HGI.out.mono ?_; rintro _ w4 ⟨ga, gc, rfl, hor⟩; have HS4 : Hid (LkIs w0 w4 b (s.mz v1 ms1 s.G s.gn ⟨ga, gs.length, gc⟩ gs)) := Hd ((HS1.out.same hor.below).guest (x := ⟨ga, gs.length, gc⟩) hor.own (fun k hk e => by have := hor.fresh k hk; have := Owns.lt HS1.out.own.om e; omega)); have HNN : Hid (s.gn ≤ s.gn + 0) := Hd (Nat.le_refl _); clear hor HGI HS1 HR1; go_wp2_with fail; obtain ⟨wa, hwa⟩ : ∃ wa, wa = wr := ⟨_, rfl⟩; subst hwa; go_loopw [10, 11, 77] (fun _ _ jv wr => ∃ (j : Nat) (v1 : SV) (ms1 : List MtP) (G1 : List (ByteArray × Bool)) (n1 : Nat), j ≤ gs.length ∧ jv = .int .i64 j ∧ Hid (LkIs w0 wr b (s.mz v1 ms1 G1 n1 ⟨ga, gs.length, gc⟩ gs)) ∧ Hid (r = mG s.d.1 (gs.drop j) (ms1, G1)) ∧ Hid (PI ms1) ∧ Hid (n1 ≤ s.gn + j)) (fun _ _ jv _ => gs.length - (intOf jv).toNat)
   case atStart => exact ⟨0, v1, ms1, s.G, s.gn, Nat.zero_le _, rfl, HS4, HR3, HPI1, HNN⟩
   case round =>
    clear HS4 HR3 HPI1 HNN; obtain ⟨j, v1, ms1, G1, n1, hj, rfl, HS1, HR1, HPI1, HN1⟩ := hrel; have hgl := HGL.out; by_cases hlt : j < gs.length
    ·have hi2 : (j : Int) < (gs.length : Int) := by omega
     obtain ⟨hw2', hw2⟩ := wr_sm (x := (j : Int) + 1) (by omega) (by omega); have HX : Hid (RIn AnyB wr 6 (.slice ga gs.length gc) (gs.map MtP.row)) := Hd (gx_at (s := s.mz v1 ms1 G1 n1 ⟨ga, gs.length, gc⟩ gs) HS1.out.own); obtain ⟨x, g, off, cp, hx, hxm, -, e, -, -, hc⟩ := mt_cells HX.out hlt; simp only [Value.slice.injEq] at e; obtain ⟨e1, -, -⟩ := e; obtain ⟨d0, d1, d2, d3, d4, d5⟩ := hc _ (Below.refl _ _); have Hlt := Hd hlt; obtain ⟨q, hq⟩ : ∃ q, q = methodP s.d.1 x true (ms1, G1) := ⟨_, rfl⟩; have HQ := Hd hq; have HPR : Hid (r = exM q (fun st => mG s.d.1 (gs.drop (j + 1)) st)) := Hd (by rw [HR1.out, drop_at hx, hq]; exact methodsP_cons _ _ _ _ _ _); have HCA : Hid (Calls Tryd.prog 50 #[.pointer (some ⟨b, 0, none⟩), .agg #[.string x.nm, .bool x.st, .bool x.ab, .bool x.fi, .string x.fr, .int .i64 x.cd], .bool true] (wr.alloc (.cells #[.string x.nm, .bool x.st, .bool x.ab, .bool x.fi, .string x.fr, .int .i64 x.cd] 34)) (LMethPost w0 b (s.mz v1 ms1 G1 n1 ⟨ga, gs.length, gc⟩ gs) q)) := Hd (by
      have h := lmethod_any (s := s.mz v1 ms1 G1 n1 ⟨ga, gs.length, gc⟩ gs) (HS1.out.same (below_alloc1 _ (.cells #[.string x.nm, .bool x.st, .bool x.ab, .bool x.fi, .string x.fr, .int .i64 x.cd] 34))) x.nm x.st x.ab x.fi x.fr x.cd true (Nat.le_trans (hle _ HPI1.out) (by decide)) (Nat.le_trans hdm (by decide)) (gnA HN1.out hgn Hlt.out HGL.out) (hgz x hxm); rw [hq]; exact h)
     have HST : Hid (∀ st, q = .ok st → PI st.1) := Hd (fun st e => hstep x true _ st (.inl hxm) HPI1.out (by rw [← hq]; exact e)); clear hx hc hq HX; go_wp2_with fail; refine HCA.out.mono ?_; clear d0 d1 d2 d3 d4 d5 e1 HCA; cases q with
     | error c =>
      rintro _ w5 ⟨rfl, s5, h5, h5g, h5l⟩; have hc0 : (c != 0) = true := by simpa using methodP_ne0 HQ.out.symm
      have hc1 : (c == 0) = false := by simpa using methodP_ne0 HQ.out.symm
      have HE : Hid (r = .error c ∧ LkG w0 w5 b s5 LS.p4 ∧ s5.g = s.g ∧ s5.l = s.l) := Hd ⟨HPR.out, h5.g, h5g, h5l⟩; clear h5 h5g h5l; go_wp2_with fail; go_ret; rw [HE.out.1]; exact ⟨rfl, by simpa using hc1, s5, _, HE.out.2⟩
     | ok st =>
      obtain ⟨ms3, G3⟩ := st; rintro _ w5 ⟨rfl, v3, n3, h5, hn⟩; have HS3 : Hid (LkIs w0 w5 b (s.mz v3 ms3 G3 n3 ⟨ga, gs.length, gc⟩ gs)) := Hd h5; have HR3 : Hid (r = (fun st => mG s.d.1 (gs.drop (j + 1)) st) (ms3, G3)) := Hd HPR.out; have HPI3 : Hid (PI ms3) := Hd (HST.out _ rfl); have HN3 : Hid (n3 ≤ n1 + 1) := Hd hn; clear h5 hn; go_wp2_with fail; go_roundw
      case rel => exact ⟨j + 1, v3, ms3, G3, n3, Hlt.out, by go_num, HS3, HR3, HPI3, Hd (gnB HN1.out HN3.out)⟩
      case measure => exact meas_lt Hlt.out
    ·obtain rfl : j = gs.length := by omega
     have HR3 : Hid (r = mO s.d.1 (s.d.1.ms.drop 0) (ms1, G1)) := Hd (by rw [HR1.out, List.drop_length]; rfl); have HDN : Hid (s.d.2.m.n = s.d.1.ms.length) := Hd (by have h9 := rin_n (dm_at (s := s.mz v1 ms1 G1 n1 ⟨ga, gs.length, gc⟩ gs) HS1.out.own); rw [List.length_map] at h9; exact h9); have h10 : wr.cell? ⟨b, 10, none⟩ = some (.slice s.d.2.m.o s.d.1.ms.length s.d.2.m.c) := by
      have h9 : wr.cell? ⟨b, 10, none⟩ = some (.slice s.d.2.m.o s.d.2.m.n s.d.2.m.c) := cB HS1.out.blk 10; rw [HDN.out] at h9; exact h9
     obtain ⟨x1, hx1⟩ : ∃ x1 : SV, x1 = ⟨ga, gs.length, gc⟩ := ⟨_, rfl⟩; obtain ⟨xs1, hxs1⟩ : ∃ xs1, xs1 = gs := ⟨_, rfl⟩; have HS2 : Hid (LkIs w0 wr b (s.mz v1 ms1 G1 n1 x1 xs1)) := Hd (by rw [hx1, hxs1]; exact HS1.out); have HNN : Hid (n1 ≤ s.gn + gs.length + 0) := Hd HN1.out; clear hx1 hxs1 HR1 HS1 HN1; go_wp2_with fail; clear h10; obtain ⟨wb, hwb⟩ : ∃ wb, wb = wr := ⟨_, rfl⟩; subst hwb; go_loopw [13, 14, 94] (fun _ _ jv wr => ∃ (j : Nat) (v1 : SV) (ms1 : List MtP) (G1 : List (ByteArray × Bool)) (n1 : Nat), j ≤ s.d.1.ms.length ∧ jv = .int .i64 j ∧ Hid (LkIs w0 wr b (s.mz v1 ms1 G1 n1 x1 xs1)) ∧ Hid (r = mO s.d.1 (s.d.1.ms.drop j) (ms1, G1)) ∧ Hid (PI ms1) ∧ Hid (n1 ≤ s.gn + gs.length + j)) (fun _ _ jv _ => s.d.1.ms.length - (intOf jv).toNat)
     case atStart => exact ⟨0, v1, ms1, G1, n1, Nat.zero_le _, rfl, HS2, HR3, HPI1, HNN⟩
     case round =>
      clear HS2 HR3 HPI1 HNN; obtain ⟨j, v1, ms1, G1, n1, hj, rfl, HS1, HR1, HPI1, HN1⟩ := hrel; by_cases hlt : j < s.d.1.ms.length
      ·have hi2 : (j : Int) < (s.d.1.ms.length : Int) := by omega
       obtain ⟨hw2', hw2⟩ := wr_sm (x := (j : Int) + 1) (by omega) (by omega); have HX : Hid (RIn AnyB wr 6 (.slice s.d.2.m.o s.d.2.m.n s.d.2.m.c) (s.d.1.ms.map MtP.row)) := Hd (dm_at (s := s.mz v1 ms1 G1 n1 x1 xs1) HS1.out.own); obtain ⟨x, g, off, cp, hx, hxm, -, e, -, -, hc⟩ := mt_cells HX.out hlt; simp only [Value.slice.injEq] at e; obtain ⟨e1, -, -⟩ := e; obtain ⟨d0, d1, d2, d3, d4, d5⟩ := hc _ (Below.refl _ _); have Hlt := Hd hlt; obtain ⟨q, hq⟩ : ∃ q, q = methodP s.d.1 x false (ms1, G1) := ⟨_, rfl⟩; have HQ := Hd hq; have HPR : Hid (r = exM q (fun st => mO s.d.1 (s.d.1.ms.drop (j + 1)) st)) := Hd (by rw [HR1.out, drop_at hx, hq]; exact methodsP_cons _ _ _ _ _ _); have HCA : Hid (Calls Tryd.prog 50 #[.pointer (some ⟨b, 0, none⟩), .agg #[.string x.nm, .bool x.st, .bool x.ab, .bool x.fi, .string x.fr, .int .i64 x.cd], .bool false] (wr.alloc (.cells #[.string x.nm, .bool x.st, .bool x.ab, .bool x.fi, .string x.fr, .int .i64 x.cd] 34)) (LMethPost w0 b (s.mz v1 ms1 G1 n1 x1 xs1) q)) := Hd (by
        have h := lmethod_any (s := s.mz v1 ms1 G1 n1 x1 xs1) (HS1.out.same (below_alloc1 _ (.cells #[.string x.nm, .bool x.st, .bool x.ab, .bool x.fi, .string x.fr, .int .i64 x.cd] 34))) x.nm x.st x.ab x.fi x.fr x.cd false (Nat.le_trans (hle _ HPI1.out) (by decide)) (Nat.le_trans hdm (by decide)) (gnC HN1.out hgn HGL.out Hlt.out hdm) (hdz x hxm); rw [hq]; exact h)
       have HST : Hid (∀ st, q = .ok st → PI st.1) := Hd (fun st e => hstep x false _ st (.inr hxm) HPI1.out (by rw [← hq]; exact e)); clear hx hc hq HX; go_wp2_with fail; refine HCA.out.mono ?_; clear d0 d1 d2 d3 d4 d5 e1 HCA; cases q with
       | error c =>
        rintro _ w5 ⟨rfl, s5, h5, h5g, h5l⟩; have hc0 : (c != 0) = true := by simpa using methodP_ne0 HQ.out.symm
        have hc1 : (c == 0) = false := by simpa using methodP_ne0 HQ.out.symm
        have HE : Hid (r = .error c ∧ LkG w0 w5 b s5 LS.p4 ∧ s5.g = s.g ∧ s5.l = s.l) := Hd ⟨HPR.out, h5.g, h5g, h5l⟩; clear h5 h5g h5l; go_wp2_with fail; go_ret; rw [HE.out.1]; exact ⟨rfl, by simpa using hc1, s5, _, HE.out.2⟩
       | ok st =>
        obtain ⟨ms3, G3⟩ := st; rintro _ w5 ⟨rfl, v3, n3, h5, hn⟩; have HS3 : Hid (LkIs w0 w5 b (s.mz v3 ms3 G3 n3 x1 xs1)) := Hd h5; have HR3 : Hid (r = (fun st => mO s.d.1 (s.d.1.ms.drop (j + 1)) st) (ms3, G3)) := Hd HPR.out; have HPI3 : Hid (PI ms3) := Hd (HST.out _ rfl); have HN3 : Hid (n3 ≤ n1 + 1) := Hd hn; clear h5 hn; go_wp2_with fail; go_roundw
        case rel => exact ⟨j + 1, v3, ms3, G3, n3, Hlt.out, by go_num, HS3, HR3, HPI3, Hd (gnB HN1.out HN3.out)⟩
        case measure => exact meas_lt Hlt.out
      ·obtain rfl : j = s.d.1.ms.length := by omega
       obtain ⟨y1, hy1⟩ : ∃ y, (s.d.1.kd == 1) = y := ⟨_, rfl⟩; obtain ⟨y2, hy2⟩ : ∃ y, s.d.1.ab = y := ⟨_, rfl⟩; obtain ⟨y3, hy3⟩ : ∃ y, y = ms1.any (fun m => m.ab) := ⟨_, rfl⟩; have HR3 : Hid (r = if (y1 && (!y2 && y3)) = true then .error 10 else .ok ms1) := Hd (by
        rw [HR1.out, List.drop_length]; show mE s.d.1 (ms1, G1) = _
        unfold mE; simp only; rw [← hy3, hy2, ← hy1]; have h9 : decide (s.d.1.kd = 1) = (s.d.1.kd == 1) := by rw [Bool.eq_iff_iff, decide_eq_true_iff, beq_iff_eq]
        rw [h9])
       have h1 : wr.cell? ⟨b, 1, none⟩ = some (.int .i64 s.d.1.kd) := cB HS1.out.blk 1; have h2 : wr.cell? ⟨b, 2, none⟩ = some (.bool y2) := by rw [← hy2]; exact cB HS1.out.blk 2
       have h21 : wr.cell? ⟨b, 21, none⟩ = some (.slice v1.o v1.n v1.c) := cB HS1.out.blk 21; have HAN : Hid (Calls Tryd.prog 35 #[.slice v1.o v1.n v1.c, .func (.func 51) #[] #[]] wr (BoolPost wr y3)) := Hd (by rw [hy3]; exact any_m51 (mm_at (s := s.mz v1 ms1 G1 n1 x1 xs1) HS1.out.own) (Nat.le_trans (hle _ HPI1.out) (by decide))); clear hy2 hy3 HR1; cases y1 with
       | false =>
        have HF : Hid (r = .ok ms1) := Hd HR3.out; go_wp2_with fail; go_ret; rw [HF.out]; exact ⟨rfl, _, _, _, _, _, HS1.out⟩
       | true =>
        cases y2 with
        | true =>
         have HF : Hid (r = .ok ms1) := Hd HR3.out; go_wp2_with fail; go_ret; rw [HF.out]; exact ⟨rfl, _, _, _, _, _, HS1.out⟩
        | false =>
         go_wp2_with fail; refine HAN.out.mono ?_; rintro _ w6 ⟨rfl, hb⟩; have HS6 := Hd (HS1.out.same hb); clear hb HAN; cases y3 with
         | true =>
          have HF : Hid (r = .error 10) := Hd HR3.out; go_wp2_with fail; go_ret; rw [HF.out]; exact ⟨rfl, by decide, _, _, HS6.out.g, rfl, rfl⟩
         | false =>
          have HF : Hid (r = .ok ms1) := Hd HR3.out; go_wp2_with fail; go_ret; rw [HF.out]; exact ⟨rfl, _, _, _, _, _, HS6.out⟩
end Go.Proofs.YtobjmajkcfhpoaaDoor
