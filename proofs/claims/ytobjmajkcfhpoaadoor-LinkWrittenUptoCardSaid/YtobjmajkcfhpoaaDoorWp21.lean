/-
  The document's fails, one, uses, face (printed by genRMet17.py).
  The document's word, words, names (printed by genRWord17.py).
  The document's face and uses (printed by genRFace17.py).
-/
import Derived.Test.YtobjmajkcfhpoaaDoorWp20
import Derived.Test.YtobjmajkcfhpoaaDoorWp18
import Derived.Test.YtobjmajkcfhpoaaDoorWp17
import Derived.Deep.Cut
namespace Go.Proofs.YtobjmajkcfhpoaaDoor
open Go.RowKit
attribute [local go_sem] yld_undef
def failE (e c : Int) : Int := if e = 0 then c else e
theorem failE_0 {e c : Int} (h : failE e c = 0) (hc : c ≠ 0) : False := by
 unfold failE at h; split at h
 ·exact hc h
 ·rename_i h2; exact h2 h
def FailPost (w0 W : World) (b : Nat) (s : RS) (J : RS → RS) (c : Int) (e : Ending) (w' : World) : Prop := e = .returned (.tuple #[]) ∧ RG w0 w' b { s with e := failE s.e c } J ∧ Mod (fun k => k = b) W w'
theorem RS.e_eta {s : RS} {x : Int} (h : s.e = x) : { s with e := x } = s := by subst h; rfl
set_option maxRecDepth 100000 in
theorem fails_any {w0 W : World} {b : Nat} {s : RS} {J : RS → RS} (h : RG w0 W b s J) (hJ : PhE J) (c : Int) :
  Calls Tryd.prog 57 #[.pointer (some ⟨b, 0, none⟩), .int .i64 c] W (FailPost w0 W b s J c) := by
 have h38 : W.cell? ⟨b, 38, none⟩ = some (.int .i64 s.e) := (cB h.blk 38).trans (hJ.at38 s); have f38 := free_blk h.blk 38; have HS := Hd h; obtain ⟨z, hz⟩ : ∃ z, (s.e == 0) = z := ⟨_, rfl⟩; have HZ := Hd hz; cases z with
 | true =>
  have HF : Hid (RG w0 (W.setCell ⟨b, 38, none⟩ (.int .i64 c)) b { s with e := failE s.e c } J) := Hd (by
   have he : s.e = 0 := by simpa using HZ.out
   have e9 : failE s.e c = c := by unfold failE; rw [if_pos he]
   rw [e9]; exact HS.out.put_e hJ c)
  clear h; go_enter Tryd.func57, Tryd.ntmps57; go_wp2_with fail; go_end0; exact ⟨rfl, HF.out, (Mod.refl (fun k => k = b) W).setCell ⟨b, 38, none⟩ (.int .i64 c) (fun _ => rfl)⟩
 | false =>
  have HF : Hid (RG w0 W b { s with e := failE s.e c } J) := Hd (by
   have he : s.e ≠ 0 := by simpa using HZ.out
   have e9 : failE s.e c = s.e := by unfold failE; rw [if_neg he]
   rw [e9]; exact HS.out)
  clear h; go_enter Tryd.func57, Tryd.ntmps57; go_wp2_with fail; go_end0; exact ⟨rfl, HF.out, Mod.refl _ _⟩
theorem RG.same29 {w0 W W1 : World} {b g : Nat} {s : RS} {J : RS → RS} {old new : Array Value} (h : RG w0 W b s J) (hg : W.heap[g]? = some (.cells old 29 (0, 0))) (_hn : W1.heap[g]? = some (.cells new 29 (0, 0))) (hm : Mod (fun k => k = g) W W1) (h0 : w0.heap.size ≤ g) (hr : (Value.slice s.r.o s.r.n s.r.c).ownBlock ≠ some g) : RG w0 W1 b s J := by
 have hb : b ≠ g := fun e => by have h1 := h.blk; rw [e, hg] at h1; injection h1 with h1; injection h1 with _ h2 _; exact absurd h2 (by decide)
 have no : ∀ {e : TypeId} {size : Nat} {v : Value} {rows : List (List Value)}, e ≠ 29 → Owns W e size v rows → Owns W1 e size v rows := fun he o => o.mod hm (fun k e x => own_nb he o hg (by rw [← x]; exact e))
 have k := h.own; have hblk := hm.blk h.blk hb; exact ⟨⟨⟨_, hblk⟩, k.mod.trans' hm (fun i hi e => by omega), k.dIn, k.pIn, k.kIn, k.rIn, no (by decide) k.of, no (by decide) k.oh, no (by decide) k.ov, no (by decide) k.ou, no (by decide) k.oc, no (by decide) k.oq, no (by decide) k.om, k.or.mod hm (fun j e x => hr (by rw [← x]; exact e)), k.nf, k.nh, k.nv, k.nu, k.nc, k.nq, k.nm, k.nr, k.dfh, k.dfv, k.dfu, k.dhv, k.dhu, k.dvu, no (by decide) k.ox, k.mx⟩, hblk⟩
def ROne (w0 W : World) (b : Nat) (s : RS) (J : RS → RS) (kind : Int) (e : Ending) (w' : World) : Prop :=
 ∃ (x : KC) (c : Int), e = .returned (.agg #[.string x.1.nm, .int .i64 x.1.kd, .bool x.1.ab, .bool x.1.fi, .string x.1.pa, .slice x.2.f.o x.2.f.n x.2.f.c, .slice x.2.t.o x.2.t.n x.2.t.c, .slice x.2.a.o x.2.a.n x.2.a.c, .slice x.2.c.o x.2.c.n x.2.c.c, .slice x.2.p.o x.2.p.n x.2.p.c, .slice x.2.m.o x.2.m.n x.2.m.c]) ∧ (x = KC.nil ∨ x ∈ s.kn) ∧ RG w0 w' b { s with e := c } J ∧ (c = 0 → s.e = 0 ∧ x ∈ s.kn ∧ x.1.kd = kind) ∧ Mod (fun k => k = b) W w'
set_option maxHeartbeats 6400000 in
set_option maxRecDepth 100000 in
theorem rone_any {w0 W : World} {b : Nat} {s : RS} {J : RS → RS} (h : RG w0 W b s J) (hJ : PhE J) (hl : s.kn.length ≤ 1048576) (name : ByteArray) (kind : Int) :
  Calls Tryd.prog 56 #[.pointer (some ⟨b, 0, none⟩), .string name, .int .i64 kind] W (ROne w0 W b s J kind) := by
 have A0 := Hd (at1_start W (.cells #[.string ⟨#[]⟩, .int .i64 0, .bool false, .bool false, .string ⟨#[]⟩, .slice none 0 0, .slice none 0 0, .slice none 0 0, .slice none 0 0, .slice none 0 0, .slice none 0 0] 29)); have HS := Hd (h.same A0.out.below); have h33 : (W.alloc (.cells #[.string ⟨#[]⟩, .int .i64 0, .bool false, .bool false, .string ⟨#[]⟩, .slice none 0 0, .slice none 0 0, .slice none 0 0, .slice none 0 0, .slice none 0 0, .slice none 0 0] 29)).cell? ⟨b, 33, none⟩ = some (.slice s.K.o s.K.n s.K.c) := (cB HS.out.blk 33).trans (hJ.at33 s); have HB : Hid (b ≠ W.heap.size) := Hd (Nat.ne_of_lt (lt_of_block h.blk)); obtain ⟨q, hq⟩ : ∃ q, q = findK s.kn name := ⟨_, rfl⟩; have HQ := Hd hq; have HF : Hid (Calls Tryd.prog 11 #[.slice s.K.o s.K.n s.K.c, .string name] (W.alloc (.cells #[.string ⟨#[]⟩, .int .i64 0, .bool false, .bool false, .string ⟨#[]⟩, .slice none 0 0, .slice none 0 0, .slice none 0 0, .slice none 0 0, .slice none 0 0, .slice none 0 0] 29)) (FindPost (W.alloc (.cells #[.string ⟨#[]⟩, .int .i64 0, .bool false, .bool false, .string ⟨#[]⟩, .slice none 0 0, .slice none 0 0, .slice none 0 0, .slice none 0 0, .slice none 0 0, .slice none 0 0] 29)) q)) := Hd (by rw [hq]; exact rfind_any name (rK_at HS.out.own).rows (by omega)); have HJ := Hd hJ; have HW0 : Hid (w0.heap.size ≤ W.heap.size) := Hd h.own.mod.size; have HRW : Hid ((Value.slice s.r.o s.r.n s.r.c).ownBlock ≠ some W.heap.size) := Hd (fun e => by have := Owns.lt h.own.or e; omega); clear h hq; go_enter Tryd.func56, Tryd.ntmps56
 go_wp2_with fail; refine HF.out.mono ?_; rintro _ w1 ⟨hb, rfl⟩; have HS1 := Hd (HS.out.same hb); have A1 := Hd (A0.out.mono hb); clear hb h33 HF A0 HS; cases q with
 | none =>
  simp only [Option.getD_none, Option.isSome_none, KC.v, KC.nil, ClP.nil, VS6.nil]; have HS2 := Hd (HS1.out.same (below_alloc1 w1 (.cells #[.string ⟨#[]⟩, .int .i64 0, .bool false, .bool false, .string ⟨#[]⟩, .slice none 0 0, .slice none 0 0, .slice none 0 0, .slice none 0 0, .slice none 0 0, .slice none 0 0] 29))); have HFA := Hd (fails_any HS2.out HJ.out 6); have A2 := Hd (A1.out.mono (below_alloc1 w1 (.cells #[.string ⟨#[]⟩, .int .i64 0, .bool false, .bool false, .string ⟨#[]⟩, .slice none 0 0, .slice none 0 0, .slice none 0 0, .slice none 0 0, .slice none 0 0, .slice none 0 0] 29))); have X2 : Hid ((w1.alloc (.cells #[.string ⟨#[]⟩, .int .i64 0, .bool false, .bool false, .string ⟨#[]⟩, .slice none 0 0, .slice none 0 0, .slice none 0 0, .slice none 0 0, .slice none 0 0, .slice none 0 0] 29)).heap[w1.heap.size]? = some (.cells #[.string ⟨#[]⟩, .int .i64 0, .bool false, .bool false, .string ⟨#[]⟩, .slice none 0 0, .slice none 0 0, .slice none 0 0, .slice none 0 0, .slice none 0 0, .slice none 0 0] 29 (0, 0))) := Hd (heap_alloc_new w1 _); have HBX : Hid (w1.heap.size ≠ b) := Hd (fun e => Nat.ne_of_lt (lt_of_block HS1.out.blk) e.symm); go_wp2_with fail; refine HFA.out.mono ?_; rintro _ w3 ⟨rfl, hs3, hm3⟩; have HS3 := Hd hs3; have R3 : Hid (w3.heap[W.heap.size]? = some (.cells #[.string ⟨#[]⟩, .int .i64 0, .bool false, .bool false, .string ⟨#[]⟩, .slice none 0 0, .slice none 0 0, .slice none 0 0, .slice none 0 0, .slice none 0 0, .slice none 0 0] 29 (0, 0))) := Hd (hm3.blk A2.out.a (fun e => HB.out e.symm))
  have X3 : Hid (w3.heap[w1.heap.size]? = some (.cells #[.string ⟨#[]⟩, .int .i64 0, .bool false, .bool false, .string ⟨#[]⟩, .slice none 0 0, .slice none 0 0, .slice none 0 0, .slice none 0 0, .slice none 0 0, .slice none 0 0] 29 (0, 0))) := Hd (hm3.blk X2.out HBX.out); have HM3 : Hid (Mod (fun k => k = b) W w3) := Hd ((Mod.of_below A2.out.below).trans' hm3 (fun _ _ e => e)); clear hs3 hm3 HFA X2 A2 HS2; have c0 := cB X3.out 0; have c1 := cB X3.out 1; have c2 := cB X3.out 2; have c3 := cB X3.out 3; have c4 := cB X3.out 4; have c5 := cB X3.out 5; have c6 := cB X3.out 6; have c7 := cB X3.out 7; have c8 := cB X3.out 8; have c9 := cB X3.out 9; have c10 := cB X3.out 10; go_wp2_with (refine wpList_store_row rfl 29 (.tmp 6) (.tmp 28) rfl W.heap.size #[.string ⟨#[]⟩, .int .i64 0, .bool false, .bool false, .string ⟨#[]⟩, .slice none 0 0, .slice none 0 0, .slice none 0 0, .slice none 0 0, .slice none 0 0, .slice none 0 0] (by rfl) (by rfl) 29 #[.string ⟨#[]⟩, .int .i64 0, .bool false, .bool false, .string ⟨#[]⟩, .slice none 0 0, .slice none 0 0, .slice none 0 0, .slice none 0 0, .slice none 0 0, .slice none 0 0] R3.out size29 rfl (by simp [Value.oneCell']) ?_; intro w4 hx4 hm4; have HX := Hd hx4; have HM := Hd hm4; clear hx4 hm4); go_wp2_with fail; have q0 := cB HX.out 0; have q1 := cB HX.out 1; have q2 := cB HX.out 2; have q3 := cB HX.out 3; have q4 := cB HX.out 4; have q5 := cB HX.out 5; have q6 := cB HX.out 6; have q7 := cB HX.out 7; have q8 := cB HX.out 8; have q9 := cB HX.out 9; have q10 := cB HX.out 10
  refine bodyPost_ret (v := .agg #[.string ⟨#[]⟩, .int .i64 0, .bool false, .bool false, .string ⟨#[]⟩, .slice none 0 0, .slice none 0 0, .slice none 0 0, .slice none 0 0, .slice none 0 0, .slice none 0 0]) (by simp [results, Tryd.results56, go_sem, q0, q1, q2, q3, q4, q5, q6, q7, q8, q9, q10]) rfl ?_; refine ⟨KC.nil, failE s.e 6, rfl, .inl rfl, (HS3.out.same29 R3.out HX.out HM.out HW0.out HRW.out), fun h => (failE_0 h (by decide)).elim, ?_⟩
  exact HM3.out.trans' HM.out (fun k hk e => by omega)
 | some x =>
  simp only [Option.getD_some, Option.isSome_some, KC.v]; have HXM : Hid (x ∈ s.kn) := Hd (findK_mem' HQ.out.symm); have HS2 := Hd (HS1.out.same (below_alloc1 w1 (.cells #[.string x.1.nm, .int .i64 x.1.kd, .bool x.1.ab, .bool x.1.fi, .string x.1.pa, .slice x.2.f.o x.2.f.n x.2.f.c, .slice x.2.t.o x.2.t.n x.2.t.c, .slice x.2.a.o x.2.a.n x.2.a.c, .slice x.2.c.o x.2.c.n x.2.c.c, .slice x.2.p.o x.2.p.n x.2.p.c, .slice x.2.m.o x.2.m.n x.2.m.c] 29))); have A2 := Hd (A1.out.mono (below_alloc1 w1 (.cells #[.string x.1.nm, .int .i64 x.1.kd, .bool x.1.ab, .bool x.1.fi, .string x.1.pa, .slice x.2.f.o x.2.f.n x.2.f.c, .slice x.2.t.o x.2.t.n x.2.t.c, .slice x.2.a.o x.2.a.n x.2.a.c, .slice x.2.c.o x.2.c.n x.2.c.c, .slice x.2.p.o x.2.p.n x.2.p.c, .slice x.2.m.o x.2.m.n x.2.m.c] 29))); have X2 : Hid ((w1.alloc (.cells #[.string x.1.nm, .int .i64 x.1.kd, .bool x.1.ab, .bool x.1.fi, .string x.1.pa, .slice x.2.f.o x.2.f.n x.2.f.c, .slice x.2.t.o x.2.t.n x.2.t.c, .slice x.2.a.o x.2.a.n x.2.a.c, .slice x.2.c.o x.2.c.n x.2.c.c, .slice x.2.p.o x.2.p.n x.2.p.c, .slice x.2.m.o x.2.m.n x.2.m.c] 29)).heap[w1.heap.size]? = some (.cells #[.string x.1.nm, .int .i64 x.1.kd, .bool x.1.ab, .bool x.1.fi, .string x.1.pa, .slice x.2.f.o x.2.f.n x.2.f.c, .slice x.2.t.o x.2.t.n x.2.t.c, .slice x.2.a.o x.2.a.n x.2.a.c, .slice x.2.c.o x.2.c.n x.2.c.c, .slice x.2.p.o x.2.p.n x.2.p.c, .slice x.2.m.o x.2.m.n x.2.m.c] 29 (0, 0))) := Hd (heap_alloc_new w1 _); have HBX : Hid (w1.heap.size ≠ b) := Hd (fun e => Nat.ne_of_lt (lt_of_block HS1.out.blk) e.symm)
  go_upto_region 2 with fail
  obtain ⟨w2, hw2⟩ : ∃ w2, w2 = w1.alloc (.cells #[.string x.1.nm, .int .i64 x.1.kd, .bool x.1.ab, .bool x.1.fi, .string x.1.pa, .slice x.2.f.o x.2.f.n x.2.f.c, .slice x.2.t.o x.2.t.n x.2.t.c, .slice x.2.a.o x.2.a.n x.2.a.c, .slice x.2.c.o x.2.c.n x.2.c.c, .slice x.2.p.o x.2.p.n x.2.p.c, .slice x.2.m.o x.2.m.n x.2.m.c] 29) := ⟨_, rfl⟩; rw [← hw2] at HS2 A2 X2 ⊢; clear hw2; obtain ⟨z, hz⟩ : ∃ z, (x.1.kd == kind) = z := ⟨_, rfl⟩; have hz2 : (x.1.kd != kind) = !z := by rw [← hz]; rfl
  have HZ := Hd hz; have x1 := cB X2.out 1; cases z with
  | true =>
   clear x1; have x1 := cB X2.out 1; have c0 := cB X2.out 0; have c2 := cB X2.out 2; have c3 := cB X2.out 3; have c4 := cB X2.out 4; have c5 := cB X2.out 5; have c6 := cB X2.out 6; have c7 := cB X2.out 7; have c8 := cB X2.out 8; have c9 := cB X2.out 9; have c10 := cB X2.out 10; go_wp2_with (refine wpList_store_row rfl 29 (.tmp 6) (.tmp 28) rfl W.heap.size #[.string x.1.nm, .int .i64 x.1.kd, .bool x.1.ab, .bool x.1.fi, .string x.1.pa, .slice x.2.f.o x.2.f.n x.2.f.c, .slice x.2.t.o x.2.t.n x.2.t.c, .slice x.2.a.o x.2.a.n x.2.a.c, .slice x.2.c.o x.2.c.n x.2.c.c, .slice x.2.p.o x.2.p.n x.2.p.c, .slice x.2.m.o x.2.m.n x.2.m.c] (by rfl) (by rfl) 29 #[.string ⟨#[]⟩, .int .i64 0, .bool false, .bool false, .string ⟨#[]⟩, .slice none 0 0, .slice none 0 0, .slice none 0 0, .slice none 0 0, .slice none 0 0, .slice none 0 0] A2.out.a size29 rfl (by simp [Value.oneCell']) ?_; intro w4 hx4 hm4; have HX := Hd hx4; have HM := Hd hm4; clear hx4 hm4); go_wp2_with fail; have q0 := cB HX.out 0; have q1 := cB HX.out 1; have q2 := cB HX.out 2; have q3 := cB HX.out 3; have q4 := cB HX.out 4; have q5 := cB HX.out 5; have q6 := cB HX.out 6; have q7 := cB HX.out 7; have q8 := cB HX.out 8; have q9 := cB HX.out 9; have q10 := cB HX.out 10; refine bodyPost_ret (v := .agg #[.string x.1.nm, .int .i64 x.1.kd, .bool x.1.ab, .bool x.1.fi, .string x.1.pa, .slice x.2.f.o x.2.f.n x.2.f.c, .slice x.2.t.o x.2.t.n x.2.t.c, .slice x.2.a.o x.2.a.n x.2.a.c, .slice x.2.c.o x.2.c.n x.2.c.c, .slice x.2.p.o x.2.p.n x.2.p.c, .slice x.2.m.o x.2.m.n x.2.m.c]) (by simp [results, Tryd.results56, go_sem, q0, q1, q2, q3, q4, q5, q6, q7, q8, q9, q10]) rfl ?_
   refine ⟨x, s.e, rfl, .inr HXM.out, (by rw [RS.e_eta rfl]; exact HS2.out.same29 A2.out.a HX.out HM.out HW0.out HRW.out), fun h => ⟨h, HXM.out, by simpa using HZ.out⟩, ?_⟩; exact (Mod.of_below A2.out.below).trans' HM.out (fun k hk e => by omega)
  | false =>
   have HFA := Hd (fails_any HS2.out HJ.out 20); go_wp2_with fail; refine HFA.out.mono ?_; rintro _ w3 ⟨rfl, hs3, hm3⟩; have HS3 := Hd hs3; have R3 : Hid (w3.heap[W.heap.size]? = some (.cells #[.string ⟨#[]⟩, .int .i64 0, .bool false, .bool false, .string ⟨#[]⟩, .slice none 0 0, .slice none 0 0, .slice none 0 0, .slice none 0 0, .slice none 0 0, .slice none 0 0] 29 (0, 0))) := Hd (hm3.blk A2.out.a (fun e => HB.out e.symm)); have X3 : Hid (w3.heap[w1.heap.size]? = some (.cells #[.string x.1.nm, .int .i64 x.1.kd, .bool x.1.ab, .bool x.1.fi, .string x.1.pa, .slice x.2.f.o x.2.f.n x.2.f.c, .slice x.2.t.o x.2.t.n x.2.t.c, .slice x.2.a.o x.2.a.n x.2.a.c, .slice x.2.c.o x.2.c.n x.2.c.c, .slice x.2.p.o x.2.p.n x.2.p.c, .slice x.2.m.o x.2.m.n x.2.m.c] 29 (0, 0))) := Hd (hm3.blk X2.out HBX.out); have HM3 : Hid (Mod (fun k => k = b) W w3) := Hd ((Mod.of_below A2.out.below).trans' hm3 (fun _ _ e => e)); clear hs3 hm3 HFA X2 A2 HS2 x1; have c0 := cB X3.out 0; have c1 := cB X3.out 1; have c2 := cB X3.out 2; have c3 := cB X3.out 3; have c4 := cB X3.out 4; have c5 := cB X3.out 5; have c6 := cB X3.out 6; have c7 := cB X3.out 7; have c8 := cB X3.out 8; have c9 := cB X3.out 9; have c10 := cB X3.out 10; go_wp2_with (refine wpList_store_row rfl 29 (.tmp 6) (.tmp 28) rfl W.heap.size #[.string x.1.nm, .int .i64 x.1.kd, .bool x.1.ab, .bool x.1.fi, .string x.1.pa, .slice x.2.f.o x.2.f.n x.2.f.c, .slice x.2.t.o x.2.t.n x.2.t.c, .slice x.2.a.o x.2.a.n x.2.a.c, .slice x.2.c.o x.2.c.n x.2.c.c, .slice x.2.p.o x.2.p.n x.2.p.c, .slice x.2.m.o x.2.m.n x.2.m.c] (by rfl) (by rfl) 29 #[.string ⟨#[]⟩, .int .i64 0, .bool false, .bool false, .string ⟨#[]⟩, .slice none 0 0, .slice none 0 0, .slice none 0 0, .slice none 0 0, .slice none 0 0, .slice none 0 0] R3.out size29 rfl (by simp [Value.oneCell']) ?_; intro w4 hx4 hm4; have HX := Hd hx4; have HM := Hd hm4; clear hx4 hm4)
   go_wp2_with fail; have q0 := cB HX.out 0; have q1 := cB HX.out 1; have q2 := cB HX.out 2; have q3 := cB HX.out 3; have q4 := cB HX.out 4; have q5 := cB HX.out 5; have q6 := cB HX.out 6; have q7 := cB HX.out 7; have q8 := cB HX.out 8; have q9 := cB HX.out 9; have q10 := cB HX.out 10; refine bodyPost_ret (v := .agg #[.string x.1.nm, .int .i64 x.1.kd, .bool x.1.ab, .bool x.1.fi, .string x.1.pa, .slice x.2.f.o x.2.f.n x.2.f.c, .slice x.2.t.o x.2.t.n x.2.t.c, .slice x.2.a.o x.2.a.n x.2.a.c, .slice x.2.c.o x.2.c.n x.2.c.c, .slice x.2.p.o x.2.p.n x.2.p.c, .slice x.2.m.o x.2.m.n x.2.m.c]) (by simp [results, Tryd.results56, go_sem, q0, q1, q2, q3, q4, q5, q6, q7, q8, q9, q10]) rfl ?_; refine ⟨x, failE s.e 20, rfl, .inr HXM.out, (HS3.out.same29 R3.out HX.out HM.out HW0.out HRW.out), fun h => (failE_0 h (by decide)).elim, ?_⟩; exact HM3.out.trans' HM.out (fun k hk e => by omega)
end Go.Proofs.YtobjmajkcfhpoaaDoor

namespace Go.Proofs.YtobjmajkcfhpoaaDoor
open Go.RowKit
attribute [local go_sem] yld_undef
def no92 (l : List UInt8) : Bool := l.all fun c => !(((c.toNat : Nat) : Int) == 92)
def rwordP (s : ByteArray) : Bool := no92 s.toList && nameP s.toList
set_option maxHeartbeats 3200000 in
set_option maxRecDepth 100000 in
theorem rword_any (s : ByteArray) (hs : s.size ≤ 1048576) (w : World) : Calls Tryd.prog 73 #[.string s] w (BoolPost w (rwordP s)) := by
 obtain ⟨n, hn⟩ : ∃ n, n = nameP s.toList := ⟨_, rfl⟩; obtain ⟨r, hr⟩ : ∃ r, r = rwordP s := ⟨_, rfl⟩; rw [← hr]; have HR : Hid (r = (no92 (s.toList.drop 0) && n)) := Hd (by rw [hr, hn]; rfl); have HN : Hid (∀ W, Calls Tryd.prog 71 #[.string s] W fun e w' => e = .returned (.bool n) ∧ W = w') := Hd (fun W => by rw [hn]; exact rname_any s (Nat.le_trans hs (by decide)) W); clear hr hn; go_enter Tryd.func73, Tryd.ntmps73; go_wp2_with fail; go_loopw [3] (fun iv wr => ∃ p : Nat, p ≤ s.size ∧ iv = .int .i64 p ∧ Hid (r = (no92 (s.toList.drop p) && n)) ∧ w = wr) (fun iv _ => s.size - (intOf iv).toNat)
 case atStart => exact ⟨0, Nat.zero_le _, rfl, HR, rfl⟩
 case round =>
  clear HR; obtain ⟨p, hp, rfl, HR, rfl⟩ := hrel; by_cases hlt : p < s.size
  ·have hi : (p : Int) < (s.size : Int) := by omega
   obtain ⟨hw', hw⟩ := wr_sm (x := (p : Int) + 1) (by omega) (by omega); have hdr : s.toList.drop p = s[p] :: s.toList.drop (p + 1) := by
    rw [List.drop_eq_getElem_cons (by rw [size_toList]; exact hlt), toList_at hlt]
   obtain ⟨z, hz⟩ : ∃ z, (((s[p].toNat : Nat) : Int) == 92) = z := ⟨_, rfl⟩; have HR2 : Hid (r = ((!z && no92 (s.toList.drop (p + 1))) && n)) := Hd (by
    rw [HR.out, hdr, ← hz]; unfold no92; rw [List.all_cons])
   have HLT := Hd hlt; clear hdr HR; cases z with
   | true =>
    have HF : Hid (r = false) := Hd HR2.out; go_wp2_with fail; go_ret; rw [HF.out]; exact ⟨rfl, Below.refl _ _⟩
   | false =>
    have HR3 : Hid (r = (no92 (s.toList.drop (p + 1)) && n)) := Hd HR2.out; go_wp2_with fail; go_roundw
    case rel => exact ⟨p + 1, HLT.out, by go_num, HR3, trivial⟩
    case measure => exact meas_lt HLT.out
  ·obtain rfl : p = s.size := by omega
   have HF : Hid (r = n) := Hd (by rw [HR.out, List.drop_of_length_le (by rw [size_toList]; exact Nat.le_refl _)]; rfl); go_wp2_with fail; refine (HN.out _).mono ?_; rintro _ _ ⟨rfl, rfl⟩; go_wp2_with fail; go_ret; rw [HF.out]; exact ⟨rfl, Below.refl _ _⟩
theorem idx92_none : ∀ {l : List UInt8}, (∀ c ∈ l, c ≠ 92) → Lib.indexByte l 92 = -1
 | [], _ => rfl
 | x :: l, h => by
  have hx := h x (by simp)
  have hl := idx92_none (l := l) (fun c hc => h c (by simp [hc]))
  unfold Lib.indexByte
  simp [hx, hl]
theorem word_of {s : ByteArray} (h : rwordP s = true) : wordP s = true := by
 unfold rwordP at h; unfold wordP; rw [Bool.and_eq_true] at h; rw [h.2, Bool.true_and]; have h92 : ∀ c ∈ s.data.toList, c ≠ 92 := by
  intro c hc e; have h1 := h.1; unfold no92 at h1; rw [bl_eq, List.all_eq_true] at h1; have := h1 c hc; rw [e] at this; exact absurd this (by decide)
 have h3 := idx92_none h92; rw [h3]; rfl
def SomeBool (w : World) (P : Bool → Prop) (e : Ending) (w' : World) : Prop := ∃ b, e = .returned (.bool b) ∧ P b ∧ Below w.heap.size w w'
theorem RIn.take {A : Nat → Prop} {w : World} {size n cap k : Nat} {ao : Option Addr} {rows : List (List Value)} (h : RIn A w size (.slice ao n cap) rows) (hk : k ≤ rows.length) : RIn A w size (.slice ao k cap) (rows.take k) := by
 obtain ⟨ao', cap', hv, hl, ha, hn⟩ := h; cases hv; refine ⟨ao, cap, by rw [List.length_take, Nat.min_eq_left hk], fun i r hi => ?_, fun g off e hne => ha g off e (fun h0 => hne (by rw [h0, List.take_nil])), fun e => ⟨by rw [(hn e).1, List.take_nil], (hn e).2⟩⟩; have hi2 : rows[i]? = some r := by
  rcases Nat.lt_or_ge i k with h1 | h1
  ·rw [List.getElem?_take_of_lt h1] at hi; exact hi
  ·rw [List.getElem?_eq_none (by rw [List.length_take]; omega)] at hi; cases hi
 exact hl i r hi2
set_option maxHeartbeats 6400000 in
set_option maxRecDepth 100000 in
theorem rwords_any {A : Nat → Prop} {ao : Option Addr} {cap : Nat} {l : List ByteArray} {w : World} (hv : RIn A w 1 (.slice ao l.length cap) (l.map sR)) (hcap : l.length ≤ cap) (hl : l.length ≤ 8796093022208) (hz : ∀ s ∈ l, s.size ≤ 1048576) :
  Calls Tryd.prog 74 #[.slice ao l.length cap] w (SomeBool w (fun b => b = true → ∀ s ∈ l, rwordP s = true)) := by
 have HV := Hd hv; have HZ := Hd hz; have HB : Hid (Below w.heap.size w w) := Hd (Below.refl _ _); have HI : Hid (∀ s ∈ l.take 0, rwordP s = true) := Hd (fun s hs => by rw [List.take_zero] at hs; cases hs); clear hv hz; go_enter Tryd.func74, Tryd.ntmps74; go_wp2_with fail; go_loopw [3] (fun kv wr => ∃ k : Nat, k ≤ l.length ∧ kv = .int .i64 k ∧ Hid (∀ s ∈ l.take k, rwordP s = true) ∧ Hid (Below w.heap.size w wr)) (fun kv _ => l.length - (intOf kv).toNat)
 case atStart => exact ⟨0, Nat.zero_le _, rfl, HI, HB⟩
 case round =>
  clear HB HI; obtain ⟨k, hk, rfl, HI, HB⟩ := hrel; by_cases hlt : k < l.length
  ·have hi : (k : Int) < (l.length : Int) := by omega
   have hk0 : (0 : Int) ≤ (k : Int) := by omega
   have hkc : k ≤ cap := by omega
   obtain ⟨hw', hw⟩ := wr_sm (x := (k : Int) + 1) (by omega) (by omega); obtain ⟨x, g, off, cp, hx, hxm, -, e, hg, -, hc⟩ := s_cells HV.out hlt; cases e; have Hlt := Hd hlt; have HXM := Hd hxm; have HX := Hd hx; have HSX : Hid (∀ V, Below w.heap.size w V → (fun Vw => Vw.cell? ⟨g, off + k, none⟩ = some (.string x)) V) := Hd (fun V hb => hc V hb); have HB0 := Hd (HB.out.drew); have HHS : Hid (∀ V, Below w.heap.size w V → Calls Tryd.prog 75 #[.slice (some ⟨g, off, none⟩) k cap, .string x] V (BoolPost V (hasB (l.take k) x))) := Hd (fun V hb => rhas_any x (by have h9 := (HV.out.under hb).take (k := k) (by rw [List.length_map]; exact Nat.le_of_lt Hlt.out); rw [← List.map_take] at h9; exact h9) (by rw [List.length_take]; omega)); obtain ⟨q2, hq2⟩ : ∃ q, q = hasB (l.take k) x := ⟨_, rfl⟩; rw [← hq2] at HHS; clear hc hx hxm hg hlt hq2; obtain ⟨q1, hq1⟩ : ∃ q, q = rwordP x := ⟨_, rfl⟩; have HQ1 := Hd hq1; have HW : Hid (∀ V, Calls Tryd.prog 73 #[.string x] V (BoolPost V q1)) := Hd (fun V => by rw [hq1]; exact rword_any x (HZ.out x HXM.out) V); clear hq1; go_upto_region 4 with fail; refine wp_region_noPanic ?_; refine wp_region_held_drew (S := (fun Vw => Vw.cell? ⟨g, off + k, none⟩ = some (.string x))) (by kernel_rfl) (by exact HSX.out _ HB0.out) (fun hHeld => ?_); refine tk 0 ?_; refine tk 1 ?_; refine tk 2 ?_; refine tk 3 ?_; refine rd 4 (fun K hK => ?_); go_simp; refine (HW.out _).mono ?_; rintro _ w4 ⟨rfl, hb4⟩; have HB1 := Hd (HB0.out.trans (hb4.mono HB0.out.size)); clear hb4; refine hK.out _ _ (by exact HSX.out _ HB1.out) (fun hHeld4 => ?_)
   clear hK K; (try simp only [Act.put, pA, pZ, pS]); cases q1 with
   | false =>
    refine tk 5 ?_; refine tk 6 ?_
    refine ts 7 ?_; refine ts 8 ?_
    refine ts 9 ?_; refine ts 10 ?_
    refine ts 11 ?_; refine ts 12 ?_
    refine ts 13 ?_; refine ts 14 ?_
    refine tk 15 ?_; refine dn (NoPanic.normal ?_)
    go_wp2_with fail; go_ret; exact ⟨false, rfl, fun h => (by cases h), HB1.out⟩
   | true =>
    refine tk 5 ?_; refine tk 6 ?_
    refine tk 7 ?_; refine tk 8 ?_
    refine tk 9 ?_; refine tk 10 ?_
    refine tk 11 ?_; refine tk 12 ?_
    refine tk 13 ?_; refine rd 14 (fun K hK => ?_)
    go_simp; refine (HHS.out _ HB1.out).mono ?_; rintro _ w5 ⟨rfl, hb5⟩; have HB5 := Hd (HB1.out.trans (hb5.mono HB1.out.size)); clear hb5; refine hK.out _ _ (by exact HSX.out _ HB5.out) (fun hHeld14 => ?_); clear hK K; (try simp only [Act.put, pA, pZ, pS]); refine tk 15 ?_; refine dn (NoPanic.normal ?_); have HI2 : Hid (∀ s ∈ l.take (k + 1), rwordP s = true) := Hd (fun s hs => by
     rw [List.take_add_one, HX.out] at hs; rcases List.mem_append.1 hs with hs | hs
     ·exact HI.out s hs
     ·have hs : s = x := by simpa using hs
      rw [hs]; exact HQ1.out.symm)
    cases q2 with
    | true =>
     go_wp2_with fail; go_ret; exact ⟨false, rfl, fun h => (by cases h), HB5.out⟩
    | false =>
     go_wp2_with fail; go_roundw
     case rel => exact ⟨k + 1, Hlt.out, by go_num, HI2, HB5⟩
     case measure => exact meas_lt Hlt.out
  ·obtain rfl : k = l.length := by omega
   go_wp2_with fail; go_ret; exact ⟨true, rfl, fun _ s hs => HI.out s (by rw [List.take_length]; exact hs), HB.out⟩
set_option maxHeartbeats 6400000 in
set_option maxRecDepth 100000 in
theorem rnames_any {A : Nat → Prop} {ao : Option Addr} {cap : Nat} {l : List ByteArray} {w : World} (once : Bool) (hv : RIn A w 1 (.slice ao l.length cap) (l.map sR)) (hcap : l.length ≤ cap) (hl : l.length ≤ 8796093022208) (hz : ∀ s ∈ l, s.size ≤ 1048576) :
  Calls Tryd.prog 72 #[.slice ao l.length cap, .bool once] w (SomeBool w (fun _b => True)) := by
 have HV := Hd hv; have HZ := Hd hz; have HB : Hid (Below w.heap.size w w) := Hd (Below.refl _ _); clear hv hz; go_enter Tryd.func72, Tryd.ntmps72; go_wp2_with fail; go_loopw [5] (fun kv wr => ∃ k : Nat, k ≤ l.length ∧ kv = .int .i64 k ∧ Hid (Below w.heap.size w wr)) (fun kv _ => l.length - (intOf kv).toNat)
 case atStart => exact ⟨0, Nat.zero_le _, rfl, HB⟩
 case round =>
  clear HB; obtain ⟨k, hk, rfl, HB⟩ := hrel; by_cases hlt : k < l.length
  ·have hi : (k : Int) < (l.length : Int) := by omega
   have hk0 : (0 : Int) ≤ (k : Int) := by omega
   have hkc : k ≤ cap := by omega
   obtain ⟨hw', hw⟩ := wr_sm (x := (k : Int) + 1) (by omega) (by omega); obtain ⟨x, g, off, cp, hx, hxm, -, e, hg, -, hc⟩ := s_cells HV.out hlt; cases e; have Hlt := Hd hlt; have HXM := Hd hxm; have HX := Hd hx; have HSX : Hid (∀ V, Below w.heap.size w V → (fun Vw => Vw.cell? ⟨g, off + k, none⟩ = some (.string x)) V) := Hd (fun V hb => hc V hb); have HB0 := Hd (HB.out.drew); have HHS : Hid (∀ V, Below w.heap.size w V → Calls Tryd.prog 75 #[.slice (some ⟨g, off, none⟩) k cap, .string x] V (BoolPost V (hasB (l.take k) x))) := Hd (fun V hb => rhas_any x (by have h9 := (HV.out.under hb).take (k := k) (by rw [List.length_map]; exact Nat.le_of_lt Hlt.out); rw [← List.map_take] at h9; exact h9) (by rw [List.length_take]; omega)); obtain ⟨q2, hq2⟩ : ∃ q, q = hasB (l.take k) x := ⟨_, rfl⟩; rw [← hq2] at HHS; clear hc hx hxm hg hlt hq2; obtain ⟨q1, hq1⟩ : ∃ q, q = nameP x.toList := ⟨_, rfl⟩; have HW : Hid (∀ V, Calls Tryd.prog 71 #[.string x] V fun e w' => e = .returned (.bool q1) ∧ V = w') := Hd (fun V => by rw [hq1]; exact rname_any x (Nat.le_trans (HZ.out x HXM.out) (by decide)) V); clear hq1; go_upto_region 4 with fail; refine wp_region_noPanic ?_; refine wp_region_held_drew (S := (fun Vw => Vw.cell? ⟨g, off + k, none⟩ = some (.string x))) (by kernel_rfl) (by exact HSX.out _ HB0.out) (fun hHeld => ?_); refine tk 0 ?_; refine tk 1 ?_; refine tk 2 ?_; refine tk 3 ?_; refine rd 4 (fun K hK => ?_); go_simp; refine (HW.out _).mono ?_; rintro _ w4 ⟨rfl, rfl⟩; have HB1 := Hd HB0.out; refine hK.out _ _ (by exact HSX.out _ HB1.out) (fun hHeld4 => ?_)
   clear hK K; (try simp only [Act.put, pA, pZ, pS]); cases q1 with
   | false =>
    refine tk 5 ?_; refine tk 6 ?_
    refine ts 7 ?_; refine ts 8 ?_
    refine ts 9 ?_; refine ts 10 ?_
    refine ts 11 ?_; refine ts 12 ?_
    refine ts 13 ?_; refine ts 14 ?_
    refine ts 15 ?_; refine ts 16 ?_
    refine ts 17 ?_; refine tk 18 ?_
    refine dn (NoPanic.normal ?_); go_wp2_with fail; go_ret; exact ⟨false, rfl, trivial, HB1.out⟩
   | true =>
    refine tk 5 ?_; refine tk 6 ?_
    cases once with
    | false =>
     refine tk 7 ?_; refine tk 8 ?_
     refine ts 9 ?_; refine ts 10 ?_
     refine ts 11 ?_; refine ts 12 ?_
     refine ts 13 ?_; refine ts 14 ?_
     refine ts 15 ?_; refine ts 16 ?_
     refine tk 17 ?_; refine tk 18 ?_
     refine dn (NoPanic.normal ?_); go_wp2_with fail; go_roundw
     case rel => exact ⟨k + 1, Hlt.out, by go_num, HB1⟩
     case measure => exact meas_lt Hlt.out
    | true =>
     refine tk 7 ?_; refine tk 8 ?_
     refine tk 9 ?_; refine tk 10 ?_
     refine tk 11 ?_; refine tk 12 ?_
     refine tk 13 ?_; refine tk 14 ?_
     refine tk 15 ?_; refine rd 16 (fun K hK => ?_)
     go_simp; refine (HHS.out _ HB1.out).mono ?_; rintro _ w5 ⟨rfl, hb5⟩; have HB5 := Hd (HB1.out.trans (hb5.mono HB1.out.size)); clear hb5; refine hK.out _ _ (by exact HSX.out _ HB5.out) (fun hHeld16 => ?_); clear hK K; (try simp only [Act.put, pA, pZ, pS]); refine tk 17 ?_; refine tk 18 ?_; refine dn (NoPanic.normal ?_); cases q2 with
     | true =>
      go_wp2_with fail; go_ret; exact ⟨false, rfl, trivial, HB5.out⟩
     | false =>
      go_wp2_with fail; go_roundw
      case rel => exact ⟨k + 1, Hlt.out, by go_num, HB5⟩
      case measure => exact meas_lt Hlt.out
  ·obtain rfl : k = l.length := by omega
   go_wp2_with fail; go_ret; exact ⟨true, rfl, trivial, HB.out⟩
end Go.Proofs.YtobjmajkcfhpoaaDoor

namespace Go.Proofs.YtobjmajkcfhpoaaDoor
open Go.RowKit
attribute [local go_sem] yld_undef
theorem OR.n3 {w wr : World} {e : TypeId} {size : Nat} {v : Value} {rows : List (List Value)} (h : OR w wr e size v rows) : v.ownBlock = none ∨ ∃ j, v.ownBlock = some j ∧ w.heap.size ≤ j := by
 cases hk : v.ownBlock with
 | none => exact .inl rfl
 | some j => exact .inr ⟨j, rfl, h.fresh j hk⟩
theorem OR.new {w wr : World} {e : TypeId} {size : Nat} {v : Value} {rows : List (List Value)} (h : OR w wr e size v rows) (hr : rows ≠ []) : ∃ j, v.ownBlock = some j ∧ w.heap.size ≤ j := by
 obtain ⟨g, cap, rfl, -⟩ := h.own.addr hr; exact ⟨g, rfl, h.fresh g rfl⟩
theorem grown_below {w w' : World} {r : Option Nat} (h : Below w.heap.size w w') : w.grownBy w' r := ⟨h.os, h.tape, h.output, h.size, fun k hk _ => h.block k hk⟩
theorem lies_of_rin {A : Nat → Prop} {w : World} {size n c : Nat} {ao : Option Addr} {rows : List (List Value)} (h : RIn A w size (.slice ao n c) rows) : Lies w size ao rows ∧ n = rows.length ∧ (ao = none → rows = [] ∧ c = 0) := by
 obtain ⟨ao', c', e, hl, -, hn⟩ := h; cases e; exact ⟨hl, rfl, hn⟩
theorem RG.stays {w0 W W3 : World} {b : Nat} {s : RS} {J : RS → RS} (h : RG w0 W b s J) {e : TypeId} {size : Nat} {v : Value} {rows : List (List Value)} (he : e ≠ 88) (o : Owns W e size v rows) (g : W.grownBy W3 v.ownBlock) : W3.heap[b]? = some (.cells (J s).cells 88 (0, 0)) :=
 ((Mod.refl (fun j => v.ownBlock = some j) W).grown g (fun _ e _ => e)).blk h.blk (own_nb he o h.blk)
theorem rff_at {w0 W : World} {b : Nat} {s : RS} (h : RO w0 W b s) : RIn AnyB W 1 (.slice s.f.o s.f.n s.f.c) (s.fs.map sR) := RIn.of_owns h.of (fun _ _ => trivial)
def FacePost (w0 W : World) (b : Nat) (s : RS) (st : List ByteArray × List ByteArray) (e : Ending) (w' : World) : Prop :=
 e = .returned (.tuple #[]) ∧ ∃ f h, RG w0 w' b { s with f := f, fs := st.1, h := h, hs := st.2 } RS.r1 ∧ Mod (fun k => k = b ∨ (Value.slice s.h.o s.h.n s.h.c).ownBlock = some k) W w'
set_option maxHeartbeats 6400000 in
set_option maxRecDepth 100000 in
theorem face_any {w0 W : World} {b : Nat} {s : RS} (h : RG w0 W b s RS.r1) (x : ByteArray) (hfs : s.fs.length ≤ 1048576) (hhs : s.hs.length ≤ 1048576) :
  Calls Tryd.prog 58 #[.pointer (some ⟨b, 0, none⟩), .string x] W (FacePost w0 W b s (putF [x] (s.fs, s.hs))) := by
 have h16 : W.cell? ⟨b, 16, none⟩ = some (.slice s.f.o s.f.n s.f.c) := cB h.blk 16; have HS := Hd h; obtain ⟨z, hz⟩ : ∃ z, z = hasB s.fs x := ⟨_, rfl⟩; have HCT : Hid (Calls Tryd.prog 75 #[.slice s.f.o s.f.n s.f.c, .string x] W (BoolPost W z)) := Hd (by rw [hz]; exact rhas_any x (rff_at h.own) (by omega)); have HZ : Hid (putF [x] (s.fs, s.hs) = if z = true then (s.fs, s.hs) else (s.fs ++ [x], s.hs ++ [x])) := Hd (by rw [putF_cons, hz]; rfl); obtain ⟨st, hst⟩ : ∃ st, st = putF [x] (s.fs, s.hs) := ⟨_, rfl⟩; rw [← hst]; have HST := Hd hst; have HFN := Hd (lies_of_rin (rff_at h.own)); clear h hz hst; go_enter Tryd.func58, Tryd.ntmps58; go_wp2_with fail; refine HCT.out.mono ?_; rintro _ w1 ⟨rfl, hb⟩; have HS1 := Hd (HS.out.same hb); have HB1 := Hd hb; clear hb HCT h16; cases z with
 | true =>
  have HE : Hid (st = (s.fs, s.hs)) := Hd (by rw [HST.out, HZ.out]; rfl); go_wp2_with fail; go_end0; rw [HE.out]; exact ⟨rfl, s.f, s.h, HS1.out, Mod.of_below HB1.out⟩
 | false =>
  have HE : Hid (st = (s.fs ++ [x], s.hs ++ [x])) := Hd (by rw [HST.out, HZ.out]; rfl); clear HST HZ; have h16 : w1.cell? ⟨b, 16, none⟩ = some (.slice s.f.o s.fs.length s.f.c) := by
   have h9 : w1.cell? ⟨b, 16, none⟩ = some (.slice s.f.o s.f.n s.f.c) := cB HS1.out.blk 16; have h8 := HFN.out.2.1; rw [List.length_map] at h8; rw [h8] at h9; exact h9
  have O0 : Hid (OR w1 w1 9 1 (.slice none 0 0) []) := Hd OR.nil; have HL1 := Hd (lies_of_rin (rff_at HS1.out.own)).1; have HN1 : Hid (s.fs.length = (s.fs.map sR).length) := Hd (List.length_map _).symm; have HF1 : Hid (([] : List (List Value)).length + (s.fs.map sR).length ≤ maxLen ∧ (([] : List (List Value)).length + (s.fs.map sR).length) * 16 ≤ 140737488355328) := Hd (by rw [List.length_map]; unfold maxLen; simp; omega); have HF2 : Hid (((s.fs.map sR).length + ([[.string x]] : List (List Value)).length ≤ maxLen ∧ ((s.fs.map sR).length + ([[.string x]] : List (List Value)).length) * 16 ≤ 140737488355328)) := Hd (st_fits (by rw [List.length_map]; omega)); go_upto_region 2 with (first
   | (at_builtin; refine wpList_append_rows rfl (.const (.slice none 0 0)) (.tmp 17) 23 rfl 9 _ 1 16 Tryd.underlying23 info9 rfl (by decide) (.slice none 0 0) [] (by rfl) O0.out.own s.f.o s.fs.length s.f.c (s.fs.map sR) (by rfl) HN1.out HFN.out.2.2 HL1.out (sR_one _) (sR_len _) HF1.out.1 (by have h := HF1.out.2; omega) ?_; intro v2 w2 o2 g2 n2; have O2 := Hd (O0.out.next o2 g2 n2); obtain ⟨a2, L2, c2, hv2, hl2⟩ := owns_slice o2; subst hv2; clear o2 g2 n2 hl2)
   | (at_builtin; refine wpList_append_rows rfl (.tmp 18) (.tmp 20) 23 rfl 9 _ 1 16 Tryd.underlying23 info9 rfl (by decide) (.slice a2 L2 c2) (s.fs.map sR) (by rfl) (O2.out.same (below_alloc1 w2 (.cells #[.string x] 9))).own (some ⟨w2.heap.size, 0, none⟩) 1 1 ([[.string x]] : List (List Value)) (by rfl) rfl (fun e => by cases e) (lies_new w2 [.string x] 9 (size := 1) rfl) (by simp [Value.oneCell']) (by simp) HF2.out.1 (by have h := HF2.out.2; omega) ?_; intro v3 w3 o3 g3 n3; have O3 := Hd ((O2.out.same (below_alloc1 w2 (.cells #[.string x] 9))).next o3 g3 n3); obtain ⟨a3, L3, c3, hv3, hl3⟩ := owns_slice o3; subst hv3; have HS3 := Hd (HS1.out.same O3.out.below); have f16 := free_blk HS3.out.blk 16; have k16 : w3.cell? ⟨b, 16, none⟩ = some (.slice s.f.o s.f.n s.f.c) := cB HS3.out.blk 16; clear o3 g3 n3 hl3 h16))
  obtain ⟨w4, hw4⟩ : ∃ w4, w4 = w3.setCell ⟨b, 16, none⟩ (.slice a3 L3 c3) := ⟨_, rfl⟩; have HS4 : Hid (RG w0 w4 b { s with f := ⟨a3, L3, c3⟩, fs := s.fs ++ [x] } RS.r1) := Hd (by
   rw [hw4]; refine HS1.out.put_f (v := ⟨a3, L3, c3⟩) (l := s.fs ++ [x]) ?_ (grown_below O3.out.below) ?_
   ·rw [sR_snoc]; exact O3.out.own
   ·exact .inr (O3.out.new (by simp)))
  have HM4 : Hid (Mod (fun k => k = b) W w4) := Hd (by
   rw [hw4]; exact (((Mod.of_below HB1.out).trans' (Mod.of_below O3.out.below) (fun _ _ e => e))).setCell ⟨b, 16, none⟩ _ (fun _ => rfl))
  rw [← hw4]; clear hw4 f16 k16 HS3 O0 O2 O3 HL1 HN1 HF1 HF2 HS1 HB1; have h35 : w4.cell? ⟨b, 35, none⟩ = some (.slice s.h.o s.h.n s.h.c) := cB HS4.out.blk 35; have HS5 := Hd (HS4.out.same (below_alloc1 w4 (.cells #[.string x] 9))); have f35 := free_blk HS4.out.blk 35; have HFH : Hid (((s.hs.map sR).length + ([[.string x]] : List (List Value)).length ≤ maxLen ∧ ((s.hs.map sR).length + ([[.string x]] : List (List Value)).length) * 16 ≤ 140737488355328)) := Hd (st_fits (by rw [List.length_map]; omega)); go_wp2_with (at_builtin; refine wpList_append_rows rfl (.tmp 29) (.tmp 31) 23 rfl 9 _ 1 16 Tryd.underlying23 info9 rfl (by decide) (.slice s.h.o s.h.n s.h.c) (s.hs.map sR) (by rfl) HS5.out.own.oh (some ⟨w4.heap.size, 0, none⟩) 1 1 ([[.string x]] : List (List Value)) (by rfl) rfl (fun e => by cases e) (lies_new w4 [.string x] 9 (size := 1) rfl) (by simp [Value.oneCell']) (by simp) HFH.out.1 (by have h := HFH.out.2; omega) ?_; intro v6 w6 o6 g6 n6; obtain ⟨a6, L6, c6, hv6, hl6⟩ := owns_slice o6; subst hv6; have G6 := Hd (⟨o6, g6, n6⟩ : _ ∧ _ ∧ _); clear f35; have f35 := free_blk (HS5.out.stays (by decide) HS5.out.own.oh g6) 35; have k35 : w6.cell? ⟨b, 35, none⟩ = some (.slice s.h.o s.h.n s.h.c) := cB (HS5.out.stays (by decide) HS5.out.own.oh g6) 35; clear o6 g6 n6 hl6); go_end0; rw [HE.out]; refine ⟨rfl, ⟨a3, L3, c3⟩, ⟨a6, L6, c6⟩, HS5.out.put_h (v := ⟨a6, L6, c6⟩) (l := s.hs ++ [x]) (by rw [sR_snoc]; exact G6.out.1) G6.out.2.1 G6.out.2.2, ?_⟩; have m5 : Mod (fun k => k = b ∨ (Value.slice s.h.o s.h.n s.h.c).ownBlock = some k) W (w4.alloc (.cells #[.string x] 9)) := (HM4.out.mono (fun _ _ e => .inl e)).alloc _
  exact (m5.grown G6.out.2.1 (fun k e _ => .inr e)).setCell ⟨b, 35, none⟩ _ (fun _ => .inl rfl)
end Go.Proofs.YtobjmajkcfhpoaaDoor
