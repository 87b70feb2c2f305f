/-
  The linker's props (printed by genProps17.py).
-/
import Derived.Test.YtobjmajkcfhpoaaDoorWp11
import Derived.Deep.Cut
namespace Go.Proofs.YtobjmajkcfhpoaaDoor
open Go.RowKit
attribute [local go_sem] yld_undef
def psK (d : ClP) (rs : List KC) (s : List PrP × List ByteArray) : Except Int (List PrP × List ByteArray) :=
 match traitPs d.nm rs s with
 | .error e => .error e
 | .ok s => propsP d.nm false d.ps s
def psJ (d : ClP) (rs : List KC) (xs : List PrP) (s : List PrP × List ByteArray) : Except Int (List PrP × List ByteArray) :=
 match propsP d.nm true xs s with
 | .error e => .error e
 | .ok s => psK d rs s
theorem psK_cons (d : ClP) (t : KC) (rs : List KC) (s : List PrP × List ByteArray) : psK d (t :: rs) s = psJ d rs t.1.ps s := by
 unfold psK psJ; rw [traitPs]; cases propsP d.nm true t.1.ps s <;> rfl
def exJ (r : Except Int (List PrP × List ByteArray)) (f : List PrP × List ByteArray → Except Int (List PrP × List ByteArray)) : Except Int (List PrP × List ByteArray) :=
 match r with
 | .error e => .error e
 | .ok s => f s
theorem psJ_cons (d : ClP) (rs : List KC) (x : PrP) (xs : List PrP) (s : List PrP × List ByteArray) : psJ d rs (x :: xs) s = exJ (propP d.nm x true s) (psJ d rs xs) := by
 unfold psJ exJ; rw [propsP]; cases propP d.nm x true s <;> rfl
theorem propsP_cons (nm : ByteArray) (x : PrP) (xs : List PrP) (tr : Bool) (s : List PrP × List ByteArray) : propsP nm tr (x :: xs) s = exJ (propP nm x tr s) (propsP nm tr xs) := by
 unfold exJ; rw [propsP]; cases propP nm x tr s <;> rfl
theorem drop_at {α : Type} {l : List α} {k : Nat} {x : α} (h : l[k]? = some x) : l.drop k = x :: l.drop (k + 1) := by
 obtain ⟨hk, e⟩ := List.getElem?_eq_some_iff.1 h; rw [List.drop_eq_getElem_cons hk, e]
def PropsPost (w0 : World) (b : Nat) (s : LS) (r : Except Int (List PrP × List ByteArray)) (e : Ending) (w' : World) : Prop :=
 match r with
 | .error c => e = .returned (.int .i64 c) ∧ c ≠ 0 ∧ ∃ s', LkG w0 w' b s' LS.p3 ∧ s'.g = s.g ∧ s'.l = s.l
 | .ok t => e = .returned (.int .i64 0) ∧ ∃ v n, LkG w0 w' b { s with q := v, ps := t.1, L := t.2, ln := n } LS.p3
theorem propP_err {nm : ByteArray} {x : PrP} {tr : Bool} {s : List PrP × List ByteArray} {c : Int} (h : propP nm x tr s = .error c) (hx : ∀ i, placeP s.1 x.nm = some i → i < s.1.length) : c ≠ 0 := by
 unfold propP at h; cases hp : placeP s.1 x.nm with
 | none => rw [hp] at h; cases h
 | some i =>
  rw [hp] at h; have hi := hx i hp; simp only at h; rw [List.getElem?_eq_getElem hi] at h; simp only at h; split at h
  ·cases h; decide
  ·split at h
   ·cases h
   ·split at h
    ·cases h; decide
    ·cases h
theorem propP_ne0 {nm : ByteArray} {x : PrP} {tr : Bool} {s : List PrP × List ByteArray} {c : Int} (h : propP nm x tr s = .error c) : c ≠ 0 := propP_err h (fun _ hp => (idxP_some hp).1)
theorem trp_at {w0 W : World} {b : Nat} {s : LS} (h : LkO w0 W b s) {x : KC} (hx : x ∈ s.rs) : RIn (NF b s.g s.l) W 4 (.slice x.2.p.o x.2.p.n x.2.p.c) (x.1.ps.map PrP.row) :=
 (h.rIn x hx).hp.kept fun g hA hg => ⟨h.mod.block g hg hA, Nat.lt_of_lt_of_le hg h.mod.size, hA⟩
theorem dp_at {w0 W : World} {b : Nat} {s : LS} (h : LkO w0 W b s) : RIn (NF b s.g s.l) W 4 (.slice s.d.2.p.o s.d.2.p.n s.d.2.p.c) (s.d.1.ps.map PrP.row) :=
 h.dIn.hp.kept fun g hA hg => ⟨h.mod.block g hg hA, Nat.lt_of_lt_of_le hg h.mod.size, hA⟩
theorem pp_at {w0 W : World} {b : Nat} {s : LS} (h : LkO w0 W b s) : RIn (NF b s.g s.l) W 4 (.slice s.p.2.p.o s.p.2.p.n s.p.2.p.c) (s.p.1.ps.map PrP.row) :=
 h.pIn.hp.kept fun g hA hg => ⟨h.mod.block g hg hA, Nat.lt_of_lt_of_le hg h.mod.size, hA⟩
theorem lnA {n k R j J : Nat} (h : n ≤ 1048576 + k * 1048576 + j) (hk : k ≤ R) (hR : R ≤ 1048576) (hj : j < J) (hJ : J ≤ 1048576) : n ≤ 4398046511104 := by omega
theorem lnB {n m k j : Nat} (h : n ≤ 1048576 + k * 1048576 + j) (h2 : m ≤ n + 1) : m ≤ 1048576 + k * 1048576 + (j + 1) := by omega
theorem lnC {n k J : Nat} (h : n ≤ 1048576 + k * 1048576 + J) (hJ : J ≤ 1048576) : n ≤ 1048576 + (k + 1) * 1048576 := by omega
theorem lnD {n k : Nat} (h : n ≤ 1048576 + k * 1048576) : n ≤ 1048576 + k * 1048576 + 0 := by omega
theorem ln0 {n : Nat} (h : n ≤ 1048576) : n ≤ 1048576 + 0 * 1048576 := by omega
def LS.pz (s : LS) (v : SV) (ps : List PrP) (L : List ByteArray) (n : Nat) : LS := { s with q := v, ps := ps, L := L, ln := n }
theorem ClonePost.sv {w : World} {e0 : TypeId} {size : Nat} {rows : List (List Value)} {e : Ending} {w' : World} (h : ClonePost w e0 size rows e w') :
  ∃ v : SV, e = .returned (.slice v.o v.n v.c) ∧ Owns w' e0 size (.slice v.o v.n v.c) rows ∧ Below w.heap.size w w' ∧ ((Value.slice v.o v.n v.c).ownBlock = none ∨ ∃ j, (Value.slice v.o v.n v.c).ownBlock = some j ∧ w.heap.size ≤ j) := by
 obtain ⟨v, rfl, ho, hb, hf⟩ := h; obtain ⟨a, L, c, rfl, -⟩ := owns_slice ho; refine ⟨⟨a, L, c⟩, rfl, ho, hb, ?_⟩; cases hk : (Value.slice a L c).ownBlock with
 | none => exact .inl rfl
 | some j => exact .inr ⟨j, rfl, hf j hk⟩
theorem below_grown {w w' : World} (h : Below w.heap.size w w') (r : Option Nat) : w.grownBy w' r := ⟨h.os, h.tape, h.output, h.size, fun k hk _ => h.block k hk⟩
theorem rin_n {A : Nat → Prop} {w : World} {size : Nat} {v : SV} {rows : List (List Value)} (h : RIn A w size (.slice v.o v.n v.c) rows) : v.n = rows.length := by
 obtain ⟨ao, cap, e, -⟩ := h; cases v; cases e; rfl
theorem rr_at {w0 W : World} {b : Nat} {s : LS} (h : LkO w0 W b s) : RIn AnyB W 11 (.slice s.r.o s.r.n s.r.c) (s.rs.map KC.row) := RIn.of_owns h.or (fun _ _ => trivial)
set_option maxHeartbeats 25600000 in
set_option maxRecDepth 100000 in
theorem props_any {w0 W : World} {b : Nat} {s : LS} (PI : List PrP → Prop) (h : LkG w0 W b s LS.p2) (hq0 : s.q = ⟨none, 0, 0⟩) (hrs : s.rs.length ≤ 1048576) (hdp : s.d.1.ps.length ≤ 1048576) (hdx : ∀ x ∈ s.d.1.ps, x.nm.size ≤ 1048576) (htp : ∀ t ∈ s.rs, t.1.ps.length ≤ 1048576 ∧ ∀ x ∈ t.1.ps, x.nm.size ≤ 1048576) (hpp : s.p.1.ps.length ≤ 1048576) (hP0 : PI s.p.1.ps)
  (hstep : ∀ x tr st st', (x ∈ s.d.1.ps ∨ ∃ t ∈ s.rs, x ∈ t.1.ps) → PI st.1 → propP s.d.1.nm x tr st = .ok st' → PI st'.1) (hle : ∀ l, PI l → l.length ≤ 1048576) (hln : s.ln ≤ 1048576) :
  Calls Tryd.prog 18 #[.pointer (some ⟨b, 0, none⟩)] W (PropsPost w0 b s (psK s.d.1 s.rs (s.p.1.ps, s.L))) := by
 obtain ⟨r, hr⟩ : ∃ r, r = psK s.d.1 s.rs (s.p.1.ps, s.L) := ⟨_, rfl⟩; rw [← hr]; have HR := Hd hr; have HS := Hd h; have HB := Hd hln; have h31 : W.cell? ⟨b, 31, none⟩ = some (.slice s.p.2.p.o s.p.2.p.n s.p.2.p.c) := cB h.blk 31; have HCL := Hd (clone_pr (pp_at h.own) (by omega)); clear hr h hpp; go_enter Tryd.func18, Tryd.ntmps18; go_wp2_with fail; refine HCL.out.mono ?_; rintro _ w1 hcl; obtain ⟨v, rfl, ho, hb, hn⟩ := hcl.sv; have zc : w1.cell? ⟨b, 20, none⟩ = some (.slice s.d.2.p.o s.d.2.p.n s.d.2.p.c) := cB (HS.out.same hb).blk 20; have zf := free_blk (HS.out.same hb).blk 20; have HS1 : Hid (LkG w0 (w1.setCell ⟨b, 20, none⟩ (.slice v.o v.n v.c)) b (s.pz v s.p.1.ps s.L s.ln) LS.p3) := Hd (HS.out.in_q ho (below_grown hb _) (by rw [hq0]; exact hn)); have HRN : Hid (s.r.n = s.rs.length) := Hd (by have h9 := rin_n (rr_at HS.out.own); rw [List.length_map] at h9; exact h9); have h34 : (w1.setCell ⟨b, 20, none⟩ (.slice v.o v.n v.c)).cell? ⟨b, 34, none⟩ = some (.slice s.r.o s.rs.length s.r.c) := by
  have h9 : (w1.setCell ⟨b, 20, none⟩ (.slice v.o v.n v.c)).cell? ⟨b, 34, none⟩ = some (.slice s.r.o s.r.n s.r.c) := cB HS1.out.blk 34; rw [HRN.out] at h9; exact h9
 obtain ⟨W1, hW1⟩ : ∃ W1, W1 = w1.setCell ⟨b, 20, none⟩ (.slice v.o v.n v.c) := ⟨_, rfl⟩; rw [← hW1] at HS1 h34; have HW1 := Hd hW1; clear hcl ho hb hn hq0 h31 HCL hW1; go_upto_region 2 with fail; rw [← HW1.out]; clear zc zf HW1; go_wp2_with fail; clear h34; go_loopw [4, 6, 7, 26] (fun _ _ _ kv wr => ∃ (k : Nat) (v1 : SV) (ps1 : List PrP) (L1 : List ByteArray) (n1 : Nat), k ≤ s.rs.length ∧ kv = .int .i64 k ∧ Hid (LkG w0 wr b (s.pz v1 ps1 L1 n1) LS.p3) ∧ Hid (r = psK s.d.1 (s.rs.drop k) (ps1, L1)) ∧ Hid (PI ps1) ∧ Hid (n1 ≤ 1048576 + k * 1048576)) (fun _ _ _ kv _ => s.rs.length - (intOf kv).toNat)
 case atStart => exact ⟨0, v, s.p.1.ps, s.L, s.ln, Nat.zero_le _, rfl, HS1, Hd HR.out, Hd hP0, Hd (ln0 HB.out)⟩
 case round =>
  clear HS1 HR hP0; obtain ⟨k, v1, ps1, L1, n1, hk, rfl, HS1, HR1, HPI1, HN1⟩ := hrel; by_cases hlt : k < s.rs.length
  ·have hi : (k : Int) < (s.rs.length : Int) := by omega
   obtain ⟨hw', hw⟩ := wr_sm (x := (k : Int) + 1) (by omega) (by omega); have HRI : Hid (RIn AnyB wr 11 (.slice s.r.o s.r.n s.r.c) (s.rs.map KC.row)) := Hd (rr_at (s := s.pz v1 ps1 L1 n1) HS1.out.own); obtain ⟨t, g, off, cp, ht, htm, -, e, hg, -, hc⟩ := kc_cells HRI.out hlt; simp only [Value.slice.injEq] at e; obtain ⟨e1, -, -⟩ := e; obtain ⟨d0, d1, d2, d3, d4, d5, d6, d7, d8, d9, d10⟩ := hc _ (Below.refl _ _); have HTN : Hid (t.2.p.n = t.1.ps.length) := Hd (by have h9 := rin_n (trp_at HS1.out.own (s := s.pz v1 ps1 L1 n1) htm); rw [List.length_map] at h9; exact h9); rw [HTN.out] at d9; have HT := Hd (htp t htm); have HTM := Hd htm; have HR2 : Hid (r = psJ s.d.1 (s.rs.drop (k + 1)) t.1.ps (ps1, L1)) := Hd (by rw [HR1.out, drop_at ht, psK_cons]); have Hkl := Hd hlt; have HSB : Hid (LkG w0 (wr.alloc (.cells #[.string t.1.nm, .int .i64 t.1.kd, .bool t.1.ab, .bool t.1.fi, .string t.1.pa, .slice t.2.f.o t.2.f.n t.2.f.c, .slice t.2.t.o t.2.t.n t.2.t.c, .slice t.2.a.o t.2.a.n t.2.a.c, .slice t.2.c.o t.2.c.n t.2.c.c, .slice t.2.p.o t.1.ps.length t.2.p.c, .slice t.2.m.o t.2.m.n t.2.m.c] 29)) b (s.pz v1 ps1 L1 n1) LS.p3) := Hd (HS1.out.same (below_alloc1 _ _)); clear hc ht htm hlt HR1 HRI hg; go_upto_region 5 with fail; clear d0 d1 d2 d3 d4 d5 d6 d7 d8 d9 d10 e1; go_wp2_with fail; obtain ⟨wa, hwa⟩ : ∃ wa, wa = wr := ⟨_, rfl⟩; subst hwa; go_loopw [6, 7, 33] (fun _ _ jv wr => ∃ (j : Nat) (v2 : SV) (ps2 : List PrP) (L2 : List ByteArray) (n2 : Nat), j ≤ t.1.ps.length ∧ jv = .int .i64 j ∧ Hid (LkG w0 wr b (s.pz v2 ps2 L2 n2) LS.p3) ∧ Hid (r = psJ s.d.1 (s.rs.drop (k + 1)) (t.1.ps.drop j) (ps2, L2)) ∧ Hid (PI ps2) ∧ Hid (n2 ≤ 1048576 + k * 1048576 + j)) (fun _ _ jv _ => t.1.ps.length - (intOf jv).toNat)
   case atStart => exact ⟨0, v1, ps1, L1, n1, Nat.zero_le _, rfl, HSB, HR2, HPI1, Hd (lnD HN1.out)⟩
   case round =>
    clear HSB HR2 HPI1 HN1; obtain ⟨j, v2, ps2, L2, n2, hj, rfl, HS2, HR2, HPI2, HN2⟩ := hrel; by_cases hlt : j < t.1.ps.length
    ·have hi2 : (j : Int) < (t.1.ps.length : Int) := by omega
     have HTB := HT.out.1; obtain ⟨hw2', hw2⟩ := wr_sm (x := (j : Int) + 1) (by omega) (by omega); have Hlt := Hd hlt; have HX : Hid (RIn (NF b s.g s.l) wr 4 (.slice t.2.p.o t.2.p.n t.2.p.c) (t.1.ps.map PrP.row)) := Hd (trp_at (s := s.pz v2 ps2 L2 n2) HS2.out.own HTM.out); obtain ⟨x, g, off, cp, hx, hxm, -, e, -, -, hc⟩ := pr_cells HX.out hlt; simp only [Value.slice.injEq] at e; obtain ⟨e1, -, -⟩ := e; obtain ⟨c0, c1, c2, c3⟩ := hc _ (Below.refl _ _); obtain ⟨q, hq⟩ : ∃ q, q = propP s.d.1.nm x true (ps2, L2) := ⟨_, rfl⟩; have HQ := Hd hq; have HPR : Hid (r = exJ q (psJ s.d.1 (s.rs.drop (k + 1)) (t.1.ps.drop (j + 1)))) := Hd (by rw [HR2.out, drop_at hx, psJ_cons, hq]); have HCA : Hid (Calls Tryd.prog 47 #[.pointer (some ⟨b, 0, none⟩), .agg #[.string x.nm, .bool x.st, .string x.fr, .int .i64 x.cd], .bool true] (wr.alloc (.cells #[.string x.nm, .bool x.st, .string x.fr, .int .i64 x.cd] 45)) (PropPost w0 b (s.pz v2 ps2 L2 n2) q)) := Hd (by
      have h := prop_any (HS2.out.same (below_alloc1 _ (.cells #[.string x.nm, .bool x.st, .string x.fr, .int .i64 x.cd] 45))) x.nm x.st x.fr x.cd true (hle _ HPI2.out) (lnA HN2.out (Nat.le_of_lt Hkl.out) hrs Hlt.out HT.out.1) (HT.out.2 x hxm); rw [hq]; exact h)
     have HST : Hid (∀ st, q = .ok st → PI st.1) := Hd (fun st e => hstep x true _ st (.inr ⟨t, HTM.out, hxm⟩) HPI2.out (by rw [← hq]; exact e)); clear hx hc hq HX; go_wp2_with fail; refine HCA.out.mono ?_; clear c0 c1 c2 c3 e1 HCA; cases q with
     | error c =>
      rintro _ w5 ⟨rfl, s5, h5, h5g, h5l⟩; have hc0 : (c != 0) = true := by simpa using propP_ne0 HQ.out.symm
      have hc1 : (c == 0) = false := by simpa using propP_ne0 HQ.out.symm
      have HE : Hid (r = .error c ∧ LkG w0 w5 b s5 LS.p3 ∧ s5.g = s.g ∧ s5.l = s.l) := Hd ⟨HPR.out, h5, h5g, h5l⟩; clear h5 h5g h5l; go_wp2_with fail; go_ret; rw [HE.out.1]; exact ⟨rfl, by simpa using hc1, s5, HE.out.2⟩
     | ok st =>
      obtain ⟨ps3, L3⟩ := st; rintro _ w5 ⟨rfl, v3, n3, h5, hn⟩; have HS3 : Hid (LkG w0 w5 b (s.pz v3 ps3 L3 n3) LS.p3) := Hd h5; have HR3 : Hid (r = psJ s.d.1 (s.rs.drop (k + 1)) (t.1.ps.drop (j + 1)) (ps3, L3)) := Hd HPR.out; have HPI3 : Hid (PI ps3) := Hd (HST.out _ rfl); have HN3 : Hid (n3 ≤ n2 + 1) := Hd hn; clear h5 hn; go_wp2_with fail; go_roundw
      case rel => exact ⟨j + 1, v3, ps3, L3, n3, Hlt.out, by go_num, HS3, HR3, HPI3, Hd (lnB HN2.out HN3.out)⟩
      case measure => have := Hlt.out; simp [intOf]; omega
    ·obtain rfl : j = t.1.ps.length := by omega
     have HR3 : Hid (r = psK s.d.1 (s.rs.drop (k + 1)) (ps2, L2)) := Hd (by rw [HR2.out, List.drop_length]; rfl); go_wp2_with fail; go_roundw
     case rel => exact ⟨k + 1, v2, ps2, L2, n2, Hkl.out, by go_num, HS2, HR3, HPI2, Hd (lnC HN2.out HT.out.1)⟩
     case measure => have := Hkl.out; simp [intOf]; omega
  ·obtain rfl : k = s.rs.length := by omega
   have HR3 : Hid (r = propsP s.d.1.nm false s.d.1.ps (ps1, L1)) := Hd (by rw [HR1.out, List.drop_length]; rfl); have HDN : Hid (s.d.2.p.n = s.d.1.ps.length) := Hd (by have h9 := rin_n (dp_at HS1.out.own (s := s.pz v1 ps1 L1 n1)); rw [List.length_map] at h9; exact h9); have h9 : wr.cell? ⟨b, 9, none⟩ = some (.slice s.d.2.p.o s.d.1.ps.length s.d.2.p.c) := by
    have h9 : wr.cell? ⟨b, 9, none⟩ = some (.slice s.d.2.p.o s.d.2.p.n s.d.2.p.c) := cB HS1.out.blk 9; rw [HDN.out] at h9; exact h9
   go_wp2_with fail; clear h9; obtain ⟨wa, hwa⟩ : ∃ wa, wa = wr := ⟨_, rfl⟩; subst hwa; go_loopw [9, 10, 51] (fun _ _ jv wr => ∃ (j : Nat) (v2 : SV) (ps2 : List PrP) (L2 : List ByteArray) (n2 : Nat), j ≤ s.d.1.ps.length ∧ jv = .int .i64 j ∧ Hid (LkG w0 wr b (s.pz v2 ps2 L2 n2) LS.p3) ∧ Hid (r = propsP s.d.1.nm false (s.d.1.ps.drop j) (ps2, L2)) ∧ Hid (PI ps2) ∧ Hid (n2 ≤ 1048576 + s.rs.length * 1048576 + j)) (fun _ _ jv _ => s.d.1.ps.length - (intOf jv).toNat)
   case atStart => exact ⟨0, v1, ps1, L1, n1, Nat.zero_le _, rfl, HS1, HR3, HPI1, Hd (lnD HN1.out)⟩
   case round =>
    clear HS1 HR3 HPI1 HN1; obtain ⟨j, v2, ps2, L2, n2, hj, rfl, HS2, HR2, HPI2, HN2⟩ := hrel; by_cases hlt : j < s.d.1.ps.length
    ·have hi2 : (j : Int) < (s.d.1.ps.length : Int) := by omega
     obtain ⟨hw2', hw2⟩ := wr_sm (x := (j : Int) + 1) (by omega) (by omega); have Hlt := Hd hlt; have HX : Hid (RIn (NF b s.g s.l) wr 4 (.slice s.d.2.p.o s.d.2.p.n s.d.2.p.c) (s.d.1.ps.map PrP.row)) := Hd (dp_at (s := s.pz v2 ps2 L2 n2) HS2.out.own); obtain ⟨x, g, off, cp, hx, hxm, -, e, -, -, hc⟩ := pr_cells HX.out hlt; simp only [Value.slice.injEq] at e; obtain ⟨e1, -, -⟩ := e; obtain ⟨c0, c1, c2, c3⟩ := hc _ (Below.refl _ _); obtain ⟨q, hq⟩ : ∃ q, q = propP s.d.1.nm x false (ps2, L2) := ⟨_, rfl⟩; have HQ := Hd hq; have HPR : Hid (r = exJ q (propsP s.d.1.nm false (s.d.1.ps.drop (j + 1)))) := Hd (by rw [HR2.out, drop_at hx, propsP_cons, hq]); have HCA : Hid (Calls Tryd.prog 47 #[.pointer (some ⟨b, 0, none⟩), .agg #[.string x.nm, .bool x.st, .string x.fr, .int .i64 x.cd], .bool false] (wr.alloc (.cells #[.string x.nm, .bool x.st, .string x.fr, .int .i64 x.cd] 45)) (PropPost w0 b (s.pz v2 ps2 L2 n2) q)) := Hd (by
      have h := prop_any (HS2.out.same (below_alloc1 _ (.cells #[.string x.nm, .bool x.st, .string x.fr, .int .i64 x.cd] 45))) x.nm x.st x.fr x.cd false (hle _ HPI2.out) (lnA HN2.out (Nat.le_refl _) hrs Hlt.out hdp) (hdx x hxm); rw [hq]; exact h)
     have HST : Hid (∀ st, q = .ok st → PI st.1) := Hd (fun st e => hstep x false _ st (.inl hxm) HPI2.out (by rw [← hq]; exact e)); clear hx hc hq HX; go_wp2_with fail; refine HCA.out.mono ?_; clear c0 c1 c2 c3 e1 HCA; cases q with
     | error c =>
      rintro _ w5 ⟨rfl, s5, h5, h5g, h5l⟩; have hc0 : (c != 0) = true := by simpa using propP_ne0 HQ.out.symm
      have hc1 : (c == 0) = false := by simpa using propP_ne0 HQ.out.symm
      have HE : Hid (r = .error c ∧ LkG w0 w5 b s5 LS.p3 ∧ s5.g = s.g ∧ s5.l = s.l) := Hd ⟨HPR.out, h5, h5g, h5l⟩; clear h5 h5g h5l; go_wp2_with fail; go_ret; rw [HE.out.1]; exact ⟨rfl, by simpa using hc1, s5, HE.out.2⟩
     | ok st =>
      obtain ⟨ps3, L3⟩ := st; rintro _ w5 ⟨rfl, v3, n3, h5, hn⟩; have HS3 : Hid (LkG w0 w5 b (s.pz v3 ps3 L3 n3) LS.p3) := Hd h5; have HR3 : Hid (r = propsP s.d.1.nm false (s.d.1.ps.drop (j + 1)) (ps3, L3)) := Hd HPR.out; have HPI3 : Hid (PI ps3) := Hd (HST.out _ rfl); have HN3 : Hid (n3 ≤ n2 + 1) := Hd hn; clear h5 hn; go_wp2_with fail; go_roundw
      case rel => exact ⟨j + 1, v3, ps3, L3, n3, Hlt.out, by go_num, HS3, HR3, HPI3, Hd (lnB HN2.out HN3.out)⟩
      case measure => have := Hlt.out; simp [intOf]; omega
    ·obtain rfl : j = s.d.1.ps.length := by omega
     have HR3 : Hid (r = .ok (ps2, L2)) := Hd (by rw [HR2.out, List.drop_length]; rfl); go_wp2_with fail; go_ret; rw [HR3.out]; exact ⟨rfl, v2, n2, HS2.out⟩
end Go.Proofs.YtobjmajkcfhpoaaDoor
