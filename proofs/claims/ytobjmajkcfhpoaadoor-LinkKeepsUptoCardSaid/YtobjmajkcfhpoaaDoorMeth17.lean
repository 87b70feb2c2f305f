/-
  The linker's method (printed by genMeth17.py).
-/
import Derived.Test.YtobjmajkcfhpoaaDoorOne17
import Derived.Deep.MidRow
namespace Go.Proofs.YtobjmajkcfhpoaaDoor
open Go.RowKit

attribute [local go_sem] yld_undef
theorem LkIs.put_g {w0 W W3 : World} {b : Nat} {s : LS} (h : LkIs w0 W b s) {G : List (ByteArray × Bool)} {n : Nat} (hm : mSB.Is W3 s.g (gvF G) n) (g3 : W.grownBy W3 (some s.g)) : LkIs w0 W3 b { s with G := G, gn := n } := by
  have mm : Mod (fun j => j = s.g) W W3 := (Mod.refl _ W).grown g3 (fun j e _ => (Option.some.inj e).symm)
  have hlb : b ≠ s.g := fun e => by
    obtain ⟨D, ⟨es, clock, h2, -⟩, -⟩ := h.own.gm
    rw [← e, h.blk] at h2
    cases h2
  have hb := mm.blk h.blk hlb
  have k := h.own
  exact ⟨⟨⟨_, hb⟩, k.mod.trans' mm (fun _ _ e => .inr (.inl e)), k.dIn, k.pIn, k.kIn, k.rIn, k.tIn, k.aIn, k.gl, hm, k.lm.mod mm (fun e => k.gl e.symm), k.of.mod mm (fun j e x => own_nm k.of k.gm (by rw [← x]; exact e)), k.oh.mod mm (fun j e x => own_nm k.oh k.gm (by rw [← x]; exact e)), k.oc.mod mm (fun j e x => own_nm k.oc k.gm (by rw [← x]; exact e)), k.oq.mod mm (fun j e x => own_nm k.oq k.gm (by rw [← x]; exact e)), k.om.mod mm (fun j e x => own_nm k.om k.gm (by rw [← x]; exact e)), k.or.mod mm (fun j e x => own_nm k.or k.gm (by rw [← x]; exact e)), k.nf, k.nh, k.nc, k.nq, k.nm, k.nr, k.fh, k.ox.mod mm (fun j e x => own_nm k.ox k.gm (by rw [← x]; exact e)), k.mx⟩, hb⟩
theorem step_store_mid {P : Program} {w : World} {ops : Array Oper} {o : Oper} {a : Act} {K : Act → World → Prop} {Q : Exit → Act → World → Prop} {E : Prop} (hgd : o.guard = none) (ty : TypeId) (x y : Operand) (ho : o.op = .store ty x y)
    (g i : Nat) (cells : Array Value) (hx : a.eval x = .pointer (some ⟨g, i, none⟩)) (hy : a.eval y = .agg cells)
    (ht : w.there g i cells.size) (hi : (P.info? ty).map (·.size) = some cells.size) (h1 : cells.all (·.oneCell') = true)
    (h : K (a.put o.dst undef) (w.setCells g i cells.toList)) :
    if Region.wanted o (yielded ops a.tmps) = true then Oper.wp P o a w K Q else E := by
  rw [if_pos (by simp [Region.wanted, hgd])]
  exact wp_store_mid ty x y ho g i cells hx hy ht hi h1 h
theorem gvF_cons (G : List (ByteArray × Bool)) (q : ByteArray) (t : Bool) : (fun y => if y = q then some t else gvF G y) = gvF ((q, t) :: G) := by
  funext y
  unfold gvF fstP
  simp only [idxP]
  by_cases h : y = q
  · subst h
    rw [if_pos rfl, if_pos (eqB_self y)]
    rfl
  · rw [if_neg h, if_neg (by rw [eqB_ne.2 (fun e => h e.symm)]; decide)]
    cases idxP (fun x => eqB x.1 y) G with
    | none => rfl
    | some i => rfl
theorem gvF_given (G : List (ByteArray × Bool)) (n : ByteArray) : (gvF G n).getD false = givenP G n := by
  unfold givenP
  show (gvF G n).getD false = (gvF G n == some true)
  cases gvF G n with
  | none => rfl
  | some e => cases e <;> rfl
/-- What method answers. -/
def LMethPost (w0 : World) (b : Nat) (s : LS) (r : Except Int (List MtP × List (ByteArray × Bool))) (e : Ending) (w' : World) : Prop :=
  match r with
  | .error c => e = .returned (.int .i64 c) ∧ ∃ s', LkIs w0 w' b s' ∧ s'.g = s.g ∧ s'.l = s.l
  | .ok t => e = .returned (.int .i64 0) ∧ ∃ v n, LkIs w0 w' b { s with m := v, ms := t.1, G := t.2, gn := n } ∧ n ≤ s.gn + 1
/-- One row of six cells is written over. -/
theorem owns_put6 {w : World} {e g n cap : Nat} {rows : List (List Value)} (h : Owns w e 6 (.slice (some ⟨g, 0, none⟩) n cap) rows) {i : Nat} {a0 a1 a2 a3 a4 a5 : Value} (hi : rows[i]? = some [a0, a1, a2, a3, a4, a5]) {u0 u1 u2 u3 u4 u5 : Value} (h0 : u0.oneCell' = true) (h1 : u1.oneCell' = true) (h2 : u2.oneCell' = true) (h3 : u3.oneCell' = true) (h4 : u4.oneCell' = true) (h5 : u5.oneCell' = true) :
    Owns ((((((w.setCell ⟨g, i * 6, none⟩ (u0)).setCell ⟨g, i * 6 + 1, none⟩ (u1)).setCell ⟨g, i * 6 + 2, none⟩ (u2)).setCell ⟨g, i * 6 + 3, none⟩ (u3)).setCell ⟨g, i * 6 + 4, none⟩ (u4)).setCell ⟨g, i * 6 + 5, none⟩ (u5)) e 6 (.slice (some ⟨g, 0, none⟩) n cap) (rows.set i [u0, u1, u2, u3, u4, u5]) ∧
      w.grownBy ((((((w.setCell ⟨g, i * 6, none⟩ (u0)).setCell ⟨g, i * 6 + 1, none⟩ (u1)).setCell ⟨g, i * 6 + 2, none⟩ (u2)).setCell ⟨g, i * 6 + 3, none⟩ (u3)).setCell ⟨g, i * 6 + 4, none⟩ (u4)).setCell ⟨g, i * 6 + 5, none⟩ (u5)) (some g) := by
  have hlt : i < rows.length := (List.getElem?_eq_some_iff.1 hi).1
  have tr : ∀ {a b c : World}, a.grownBy b (some g) → b.grownBy c (some g) → a.grownBy c (some g) := fun p q => ⟨q.os.trans p.os, q.tape.trans p.tape, q.output.trans p.output, Nat.le_trans p.size q.size, fun k hk hne => (q.block k (Nat.lt_of_lt_of_le hk p.size) hne).trans (p.block k hk hne)⟩
  have k0 := h.setRow hi 0 (by decide) u0 h0
  have e0 : (rows.set i ([a0, a1, a2, a3, a4, a5].set 0 u0))[i]? = some [u0, a1, a2, a3, a4, a5] := by rw [List.getElem?_set_self (by simpa using hlt)]; rfl
  have k1 := k0.1.setRow e0 1 (by decide) u1 h1
  have e1 : ((rows.set i ([a0, a1, a2, a3, a4, a5].set 0 u0)).set i ([u0, a1, a2, a3, a4, a5].set 1 u1))[i]? = some [u0, u1, a2, a3, a4, a5] := by rw [List.getElem?_set_self (by simpa using hlt)]; rfl
  have k2 := k1.1.setRow e1 2 (by decide) u2 h2
  have e2 : (((rows.set i ([a0, a1, a2, a3, a4, a5].set 0 u0)).set i ([u0, a1, a2, a3, a4, a5].set 1 u1)).set i ([u0, u1, a2, a3, a4, a5].set 2 u2))[i]? = some [u0, u1, u2, a3, a4, a5] := by rw [List.getElem?_set_self (by simpa using hlt)]; rfl
  have k3 := k2.1.setRow e2 3 (by decide) u3 h3
  have e3 : ((((rows.set i ([a0, a1, a2, a3, a4, a5].set 0 u0)).set i ([u0, a1, a2, a3, a4, a5].set 1 u1)).set i ([u0, u1, a2, a3, a4, a5].set 2 u2)).set i ([u0, u1, u2, a3, a4, a5].set 3 u3))[i]? = some [u0, u1, u2, u3, a4, a5] := by rw [List.getElem?_set_self (by simpa using hlt)]; rfl
  have k4 := k3.1.setRow e3 4 (by decide) u4 h4
  have e4 : (((((rows.set i ([a0, a1, a2, a3, a4, a5].set 0 u0)).set i ([u0, a1, a2, a3, a4, a5].set 1 u1)).set i ([u0, u1, a2, a3, a4, a5].set 2 u2)).set i ([u0, u1, u2, a3, a4, a5].set 3 u3)).set i ([u0, u1, u2, u3, a4, a5].set 4 u4))[i]? = some [u0, u1, u2, u3, u4, a5] := by rw [List.getElem?_set_self (by simpa using hlt)]; rfl
  have k5 := k4.1.setRow e4 5 (by decide) u5 h5
  refine ⟨?_, tr (tr (tr (tr (tr k0.2 k1.2) k2.2) k3.2) k4.2) k5.2⟩
  have := k5.1
  simp only [List.set_set] at this
  exact this
theorem dm_at {w0 W : World} {b : Nat} {s : LS} (h : LkO w0 W b s) : RIn AnyB W 6 (.slice s.d.2.m.o s.d.2.m.n s.d.2.m.c) (s.d.1.ms.map MtP.row) :=
  h.dIn.hm.kept (fun g hA hg => ⟨h.mod.block g hg hA, Nat.lt_of_lt_of_le hg h.mod.size, trivial⟩)
set_option maxHeartbeats 51200000 in
set_option maxRecDepth 100000 in
theorem lmethod_any {w0 W : World} {b : Nat} {s : LS} (h : LkIs w0 W b s) (xn : ByteArray) (xs xa xi : Bool) (xf : ByteArray) (xc : Int) (trait : Bool) (hbd0 : s.ms.length ≤ 1073741824) (hdm0 : s.d.1.ms.length ≤ 1073741824) (hgn0 : s.gn ≤ 4398046511104) (hxz : xn.size ≤ 1048576) :
    Calls Tryd.prog 50 #[.pointer (some ⟨b, 0, none⟩), .agg #[.string xn, .bool xs, .bool xa, .bool xi, .string xf, .int .i64 xc], .bool trait] W (LMethPost w0 b s (methodP s.d.1 ⟨xn, xs, xa, xi, xf, xc⟩ trait (s.ms, s.G))) := by
  have A0 := Lib.hid (at1_start W (.cells #[.string xn, .bool xs, .bool xa, .bool xi, .string xf, .int .i64 xc] 34))
  have A1 := Lib.hid (at1_start W (.cells #[.string xn, .bool xs, .bool xa, .bool xi, .string s.d.1.nm, .int .i64 xc] 34))
  have hS := h.same A0.out.below
  have HS := Lib.hid (h.same A1.out.below)
  have h0 : (W.alloc (.cells #[.string xn, .bool xs, .bool xa, .bool xi, .string xf, .int .i64 xc] 34)).cell? ⟨b, 0, none⟩ = some (.string s.d.1.nm) := cell_blk hS.blk 0
  have HBQ : Hid ((Value.slice s.m.o s.m.n s.m.c).ownBlock ≠ some W.heap.size) := Lib.hid (fun e => by have := Owns.lt h.own.om e; omega)
  have hbd := Lib.hid hbd0
  have HDM := Lib.hid hdm0
  have HGN := Lib.hid hgn0
  have HXZ : Hid (xn.size ≤ maxLen) := Lib.hid (by unfold maxLen; omega)
  obtain ⟨r, hr⟩ : ∃ r, r = methodP s.d.1 ⟨xn, xs, xa, xi, xf, xc⟩ trait (s.ms, s.G) := ⟨_, rfl⟩
  obtain ⟨ge, hge⟩ : ∃ e, e = givenP s.G xn := ⟨_, rfl⟩
  obtain ⟨q, hq⟩ : ∃ q, q = placeM s.ms xn := ⟨_, rfl⟩
  obtain ⟨z, hz⟩ : ∃ q, q = placeM s.d.1.ms xn := ⟨_, rfl⟩
  rw [← hr]
  have HR := Lib.hid hr
  have HQ := Lib.hid hq
  have HZ := Lib.hid hz
  have HGV := Lib.hid hge
  clear h hS hbd0 hdm0 hgn0 hxz hr hz hge
  go_enter Tryd.func50, Tryd.ntmps50
  go_wp2_with fail
  obtain ⟨W1, hW1⟩ : ∃ W1, W1 = W.alloc (.cells #[.string xn, .bool xs, .bool xa, .bool xi, .string s.d.1.nm, .int .i64 xc] 34) := ⟨_, rfl⟩
  rw [← hW1] at A1 HS ⊢
  clear hW1 A0
  have HD0 : Hid (Below W1.heap.size W1 W1.drew) := Lib.hid (Below.refl _ _).drew
  have six : ∀ {V : World}, Below W1.heap.size W1 V → (fun V => V.cell? ⟨b, 21, none⟩ = some (.slice s.m.o s.m.n s.m.c) ∧ V.cell? ⟨W.heap.size, 0, none⟩ = some (.string xn)) V := fun {V} hb => ⟨cell_blk (HS.out.same hb).blk 21, cell_blk (A1.out.mono hb).a 0⟩
  have HSX := @Lib.hid _ @six
  have HS0 := Lib.hid (six HD0.out)
  have HPL := Lib.hid (fun V (hb : Below W1.heap.size W1 V) => place_mt (w := V) xn (RIn.of_owns (A := AnyB) (HS.out.same hb).own.om (fun _ _ => trivial)) hbd.out)
  rw [← hq] at HPL
  clear six hq
  refine wp_region_noPanic ?_
  refine wp_region_held_drew (S := (fun V => V.cell? ⟨b, 21, none⟩ = some (.slice s.m.o s.m.n s.m.c) ∧ V.cell? ⟨W.heap.size, 0, none⟩ = some (.string xn))) (by kernel_rfl) (by exact HS0.out) (fun hHeld => ?_)
  refine wpAnyH_take (i := 0) (oi := ?oA0) (v := ?vA0) ?hiA0 (by kernel_rfl) (by kernel_rfl) (by kernel_rfl) (fun _ _ _ h => h) ?hyA0 (by assumption) ?restA0
  case hiA0 => simp only [gA, gZ]; rfl
  case hyA0 =>
    refine Or.inl ⟨by rfl, ?_⟩
    intro w hSw; (try dsimp only at hSw); go_simp <;> (with_reducible rfl)
  (try simp only [Act.put, pA, pZ, pS])
  refine wpAnyH_take (i := 1) (oi := ?oA1) (v := ?vA1) ?hiA1 (by kernel_rfl) (by kernel_rfl) (by kernel_rfl) (fun _ _ _ h => h) ?hyA1 (by assumption) ?restA1
  case hiA1 => simp only [gA, gS, gZ]; rfl
  case hyA1 =>
    refine Or.inl ⟨by rfl, ?_⟩
    intro w hSw; (try dsimp only at hSw); go_simp <;> (with_reducible rfl)
  (try simp only [Act.put, pA, pZ, pS])
  refine wpAnyH_take (i := 2) (oi := ?oA2) (v := ?vA2) ?hiA2 (by kernel_rfl) (by kernel_rfl) (by kernel_rfl) (fun _ _ _ h => h) ?hyA2 (by assumption) ?restA2
  case hiA2 => simp only [gA, gS, gZ]; rfl
  case hyA2 =>
    refine Or.inl ⟨by rfl, ?_⟩
    intro w hSw; (try dsimp only at hSw); go_simp <;> (with_reducible rfl)
  (try simp only [Act.put, pA, pZ, pS])
  refine wpAnyH_take (i := 3) (oi := ?oA3) (v := ?vA3) ?hiA3 (by kernel_rfl) (by kernel_rfl) (by kernel_rfl) (fun _ _ _ h => h) ?hyA3 (by assumption) ?restA3
  case hiA3 => simp only [gA, gS, gZ]; rfl
  case hyA3 =>
    refine Or.inl ⟨by rfl, ?_⟩
    intro w hSw; (try dsimp only at hSw); go_simp <;> (with_reducible rfl)
  (try simp only [Act.put, pA, pZ, pS])
  refine wpAnyH_take (i := 4) (oi := ?oA4) (v := ?vA4) ?hiA4 (by kernel_rfl) (by kernel_rfl) (by kernel_rfl) (fun _ _ _ h => h) ?hyA4 (by assumption) ?restA4
  case hiA4 => simp only [gA, gS, gZ]; rfl
  case hyA4 =>
    refine Or.inl ⟨by rfl, ?_⟩
    intro w hSw; (try dsimp only at hSw); go_simp <;> (with_reducible rfl)
  (try simp only [Act.put, pA, pZ, pS])
  refine wpAnyH_take (i := 5) (oi := ?oA5) (v := ?vA5) ?hiA5 (by kernel_rfl) (by kernel_rfl) (by kernel_rfl) (fun _ _ _ h => h) ?hyA5 (by assumption) ?restA5
  case hiA5 => simp only [gA, gS, gZ]; rfl
  case hyA5 =>
    refine Or.inl ⟨by rfl, ?_⟩
    intro w hSw; (try dsimp only at hSw); go_simp <;> (with_reducible rfl)
  (try simp only [Act.put, pA, pZ, pS])
  refine wpAnyH_take (i := 6) (oi := ?oA6) (v := ?vA6) ?hiA6 (by kernel_rfl) (by kernel_rfl) (by kernel_rfl) (fun _ _ _ h => h) ?hyA6 (by assumption) ?restA6
  case hiA6 => simp only [gA, gS, gZ]; rfl
  case hyA6 =>
    refine Or.inl ⟨by rfl, ?_⟩
    intro w hSw; (try dsimp only at hSw); go_simp <;> (with_reducible rfl)
  (try simp only [Act.put, pA, pZ, pS])
  refine wpAnyH_ready (rs := [7]) (by kernel_rfl) (by simp) ?_
  refine AllReadyH.cons rfl (fun K hK => ?_) AllReadyH.nil
  go_simp
  refine (HPL.out _ HD0.out).mono ?_
  rintro _ w2 ⟨rfl, hb⟩
  have HD1 := Lib.hid (HD0.out.trans (hb.mono HD0.out.size))
  clear hb
  refine hK.out _ _ (HSX.out HD1.out) (fun hHeldA7 => ?_)
  clear hK K
  (try simp only [Act.put, pA, pZ, pS])
  refine wpAnyH_take (i := 8) (oi := ?oA8) (v := ?vA8) ?hiA8 (by kernel_rfl) (by kernel_rfl) (by kernel_rfl) (fun _ _ _ h => h) ?hyA8 (by assumption) ?restA8
  case hiA8 => simp only [gA, gS, gZ]; rfl
  case hyA8 =>
    refine Or.inl ⟨by rfl, ?_⟩
    intro w hSw; (try dsimp only at hSw); go_simp <;> (with_reducible rfl)
  (try simp only [Act.put, pA, pZ, pS])
  refine wpAnyH_done (by kernel_rfl) ?_ _
  refine NoPanic.normal ?_
  have HS2 := Lib.hid (HS.out.same HD1.out)
  have A2 := Lib.hid (A1.out.mono HD1.out)
  clear HS0 HSX HPL HS A1 HD0 HD1 hHeldA7 hHeld
  have HBX : Hid (w2.heap[W.heap.size]? = some (.cells #[.string xn, .bool xs, .bool xa, .bool xi, .string s.d.1.nm, .int .i64 xc] 34 (0, 0))) := Lib.hid A2.out.a
  clear A2
  cases q with
  | none =>
    have HRE : Hid (r = .ok (s.ms ++ [⟨xn, xs, xa, xi, s.d.1.nm, xc⟩], (xn, trait) :: s.G)) := Lib.hid (by rw [HR.out]; unfold methodP; simp only; rw [← HQ.out])
    have hneg : idxI none < 0 := by decide
    go_wp2_with fail
    have hq0 : w2.drew.cell? ⟨b, 21, none⟩ = some (.slice s.m.o s.m.n s.m.c) := cell_blk HS2.out.blk 21
    have HA7 : Hid (Below w2.drew.heap.size w2.drew (w2.drew.alloc (.cells #[.string xn, .bool xs, .bool xa, .bool xi, .string s.d.1.nm, .int .i64 xc] 34))) := Lib.hid (below_alloc1 _ _)
    have HS7 : Hid (LkIs w0 (w2.drew.alloc (.cells #[.string xn, .bool xs, .bool xa, .bool xi, .string s.d.1.nm, .int .i64 xc] 34)) b s) := Lib.hid ((HS2.out.same (Below.refl _ _).drew).same HA7.out)
    have hq1 : (w2.drew.alloc (.cells #[.string xn, .bool xs, .bool xa, .bool xi, .string s.d.1.nm, .int .i64 xc] 34)).cell? ⟨b, 21, none⟩ = some (.slice s.m.o s.m.n s.m.c) := cell_blk HS7.out.blk 21
    have hq2 : (w2.alloc (.cells #[.string xn, .bool xs, .bool xa, .bool xi, .string s.d.1.nm, .int .i64 xc] 34)).drew.cell? ⟨b, 21, none⟩ = some (.slice s.m.o s.m.n s.m.c) := hq1
    have hq3 : (w2.alloc (.cells #[.string xn, .bool xs, .bool xa, .bool xi, .string s.d.1.nm, .int .i64 xc] 34)).cell? ⟨b, 21, none⟩ = some (.slice s.m.o s.m.n s.m.c) := hq1
    have HX7 : Hid ((w2.drew.alloc (.cells #[.string xn, .bool xs, .bool xa, .bool xi, .string s.d.1.nm, .int .i64 xc] 34)).heap[W.heap.size]? = some (.cells #[.string xn, .bool xs, .bool xa, .bool xi, .string s.d.1.nm, .int .i64 xc] 34 (0, 0))) := Lib.hid (alloc_blk HBX.out _)
    have hL : Hid (Lies (w2.drew.alloc (.cells #[.string xn, .bool xs, .bool xa, .bool xi, .string s.d.1.nm, .int .i64 xc] 34)) 6 (some ⟨w2.heap.size, 0, none⟩) ([[.string xn, .bool xs, .bool xa, .bool xi, .string s.d.1.nm, .int .i64 xc]] : List (List Value))) := Lib.hid (lies_new w2.drew [.string xn, .bool xs, .bool xa, .bool xi, .string s.d.1.nm, .int .i64 xc] 34 rfl)
    have hR1 : Hid ((s.ms.map MtP.row).length + ([[.string xn, .bool xs, .bool xa, .bool xi, .string s.d.1.nm, .int .i64 xc]] : List (List Value)).length ≤ maxLen) := Lib.hid (by have h0 := hbd.out; rw [List.length_map]; unfold maxLen; simp only [List.length_cons, List.length_nil]; omega)
    have hR2 : Hid (((s.ms.map MtP.row).length + ([[.string xn, .bool xs, .bool xa, .bool xi, .string s.d.1.nm, .int .i64 xc]] : List (List Value)).length) * 48 ≤ 140737488355328) := Lib.hid (by have h0 := hbd.out; rw [List.length_map]; simp only [List.length_cons, List.length_nil]; omega)
    have hBb : Hid (W.heap.size ≠ b) := Lib.hid (fun e => by have h1 := HBX.out; rw [e, HS2.out.blk] at h1; injection h1 with h2; injection h2 with _ h3 _; exact absurd h3 (by decide))
    have hBq : Hid (((.slice s.m.o s.m.n s.m.c) : Value).ownBlock ≠ some W.heap.size) := Lib.hid (fun e => HBQ.out e)
    refine wp_region_noPanic ?_
    refine wp_region_held_drew (S := (fun V => V.heap[W.heap.size]? = some (.cells #[.string xn, .bool xs, .bool xa, .bool xi, .string s.d.1.nm, .int .i64 xc] 34 (0, 0)))) (by kernel_rfl) (by exact HBX.out) (fun hHeld => ?_)
    refine wpAnyH_take (i := 0) (oi := ?oz1_) (v := ?vz1_) ?hiz1_ (by kernel_rfl) (by kernel_rfl) (by kernel_rfl) (fun _ _ _ h => h) ?hyz1_ (by assumption) ?restz1_
    case hiz1_ => simp only [gA, gZ]; rfl
    case hyz1_ =>
      refine Or.inl ⟨by rfl, ?_⟩
      intro w hSw; (try dsimp only at hSw); have u0 := cell_blk hSw 0; have u1 := cell_blk hSw 1; have u2 := cell_blk hSw 2; have u3 := cell_blk hSw 3; have u4 := cell_blk hSw 4; have u5 := cell_blk hSw 5; go_simp <;> (with_reducible rfl)
    (try simp only [Act.put, pA, pZ, pS])
    refine wpAnyH_take (i := 1) (oi := ?oz2_) (v := ?vz2_) ?hiz2_ (by kernel_rfl) (by kernel_rfl) (by kernel_rfl) (fun _ _ _ h => h) ?hyz2_ (by assumption) ?restz2_
    case hiz2_ => simp only [gA, gS, gZ]; rfl
    case hyz2_ =>
      refine Or.inl ⟨by rfl, ?_⟩
      intro w hSw; (try dsimp only at hSw); have u0 := cell_blk hSw 0; have u1 := cell_blk hSw 1; have u2 := cell_blk hSw 2; have u3 := cell_blk hSw 3; have u4 := cell_blk hSw 4; have u5 := cell_blk hSw 5; go_simp <;> (with_reducible rfl)
    (try simp only [Act.put, pA, pZ, pS])
    refine wpAnyH_take (i := 2) (oi := ?oz3_) (v := ?vz3_) ?hiz3_ (by kernel_rfl) (by kernel_rfl) (by kernel_rfl) (fun _ _ _ h => h) ?hyz3_ (by assumption) ?restz3_
    case hiz3_ => simp only [gA, gS, gZ]; rfl
    case hyz3_ =>
      refine Or.inl ⟨by rfl, ?_⟩
      intro w hSw; (try dsimp only at hSw); have u0 := cell_blk hSw 0; have u1 := cell_blk hSw 1; have u2 := cell_blk hSw 2; have u3 := cell_blk hSw 3; have u4 := cell_blk hSw 4; have u5 := cell_blk hSw 5; go_simp <;> (with_reducible rfl)
    (try simp only [Act.put, pA, pZ, pS])
    refine wpAnyH_take (i := 3) (oi := ?oz4_) (v := ?vz4_) ?hiz4_ (by kernel_rfl) (by kernel_rfl) (by kernel_rfl) (fun _ _ _ h => h) ?hyz4_ (by assumption) ?restz4_
    case hiz4_ => simp only [gA, gS, gZ]; rfl
    case hyz4_ =>
      refine Or.inl ⟨by rfl, ?_⟩
      intro w hSw; (try dsimp only at hSw); have u0 := cell_blk hSw 0; have u1 := cell_blk hSw 1; have u2 := cell_blk hSw 2; have u3 := cell_blk hSw 3; have u4 := cell_blk hSw 4; have u5 := cell_blk hSw 5; go_simp <;> (with_reducible rfl)
    (try simp only [Act.put, pA, pZ, pS])
    refine wpAnyH_take (i := 4) (oi := ?oz5_) (v := ?vz5_) ?hiz5_ (by kernel_rfl) (by kernel_rfl) (by kernel_rfl) (fun _ _ _ h => h) ?hyz5_ (by assumption) ?restz5_
    case hiz5_ => simp only [gA, gS, gZ]; rfl
    case hyz5_ =>
      refine Or.inl ⟨by rfl, ?_⟩
      intro w hSw; (try dsimp only at hSw); have u0 := cell_blk hSw 0; have u1 := cell_blk hSw 1; have u2 := cell_blk hSw 2; have u3 := cell_blk hSw 3; have u4 := cell_blk hSw 4; have u5 := cell_blk hSw 5; go_simp <;> (with_reducible rfl)
    (try simp only [Act.put, pA, pZ, pS])
    refine wpAnyH_take (i := 6) (oi := ?oz6_) (v := ?vz6_) ?hiz6_ (by kernel_rfl) (by kernel_rfl) (by kernel_rfl) (fun _ _ _ h => h) ?hyz6_ (by assumption) ?restz6_
    case hiz6_ => simp only [gA, gS, gZ]; rfl
    case hyz6_ =>
      refine Or.inl ⟨by rfl, ?_⟩
      intro w hSw; (try dsimp only at hSw); have u0 := cell_blk hSw 0; have u1 := cell_blk hSw 1; have u2 := cell_blk hSw 2; have u3 := cell_blk hSw 3; have u4 := cell_blk hSw 4; have u5 := cell_blk hSw 5; go_simp <;> (with_reducible rfl)
    (try simp only [Act.put, pA, pZ, pS])
    refine wpAnyH_ready (rs := [5, 7]) (by kernel_rfl) (by simp) ?_
    refine AllReadyH.cons rfl (fun K hK => ?_) (AllReadyH.cons rfl (fun K hK => ?_) AllReadyH.nil)
    · go_simp
      refine hK.out _ _ (by exact HBX.out) (fun hHeld5 => ?_)
      clear hK K
      (try simp only [Act.put, pA, pZ, pS])
      refine wpAnyH_ready (rs := [7]) (by kernel_rfl) (by simp) ?_
      refine AllReadyH.cons rfl (fun K hK => ?_) AllReadyH.nil
      go_simp
      refine hK.out _ _ (by exact HX7.out) (fun hHeld7 => ?_)
      clear hK K
      (try simp only [Act.put, pA, pZ, pS])
      refine wpAnyH_ready (rs := [8]) (by kernel_rfl) (by simp) ?_
      refine AllReadyH.cons rfl (fun K hK => ?_) AllReadyH.nil
      refine step_append_rows rfl (.tmp 30) (.tmp 32) 27 rfl 34 _ 6 48 Tryd.underlying27 info34 rfl (by decide) (.slice s.m.o s.m.n s.m.c) (s.ms.map MtP.row) (by simp [Act.eval]) HS7.out.own.om (some ⟨w2.heap.size, 0, none⟩) 1 1 [[.string xn, .bool xs, .bool xa, .bool xi, .string s.d.1.nm, .int .i64 xc]] (by simp [Act.eval]) rfl (fun e => by cases e) hL.out (by simp [Value.oneCell']) (by simp) hR1.out (by have h := hR2.out; omega) ?_
      intro v6 w6 o6 g6 b6
      obtain ⟨a6, L6, c6, hv6, -⟩ := owns_slice o6
      subst hv6
      have S6 : w6.heap[W.heap.size]? = some (.cells #[.string xn, .bool xs, .bool xa, .bool xi, .string s.d.1.nm, .int .i64 xc] 34 (0, 0)) := (g6.block _ (lt_of_block HX7.out) (fun e => hBq.out e.symm)).trans HX7.out
      have B6 := Lib.hid ((g6.block b (lt_of_block HS7.out.blk) (fun e => own_nb (by decide) HS7.out.own.om HS7.out.blk e.symm)).trans HS7.out.blk)
      have zc := cell_blk B6.out 21; have zf := free_blk B6.out 21
      have zc : w6.cell? ⟨b, 21, none⟩ = some (.slice s.m.o s.m.n s.m.c) := zc
      have HN := Lib.hid (HS7.out.put_m (v := ⟨a6, L6, c6⟩) (l := s.ms ++ [⟨xn, xs, xa, xi, s.d.1.nm, xc⟩]) (by rw [List.map_append]; exact o6) g6 b6)
      have S8 : (w6.setCell ⟨b, 21, none⟩ (.slice a6 L6 c6)).heap[W.heap.size]? = some (.cells #[.string xn, .bool xs, .bool xa, .bool xi, .string s.d.1.nm, .int .i64 xc] 34 (0, 0)) := set_other S6 hBb.out
      clear o6 g6 b6
      refine hK.out _ _ (by exact S6) (fun hHeld8 => ?_)
      clear hK K
      (try simp only [Act.put, pA])
      refine wpAnyH_take (i := 9) (oi := ?oz7_) (v := ?vz7_) ?hiz7_ (by kernel_rfl) (by kernel_rfl) (by kernel_rfl) (fun _ _ _ h => h) ?hyz7_ (by assumption) ?restz7_
      case hiz7_ => simp only [gA, gS, gZ]; rfl
      case hyz7_ =>
        refine Or.inl ⟨by rfl, ?_⟩
        intro w hSw; (try dsimp only at hSw); have u0 := cell_blk hSw 0; have u1 := cell_blk hSw 1; have u2 := cell_blk hSw 2; have u3 := cell_blk hSw 3; have u4 := cell_blk hSw 4; have u5 := cell_blk hSw 5; go_simp <;> (with_reducible rfl)
      (try simp only [Act.put])
      refine wpAnyH_take (i := 10) (oi := ?oz8_) (v := ?vz8_) ?hiz8_ (by kernel_rfl) (by kernel_rfl) (by kernel_rfl) (fun _ _ _ h => h) ?hyz8_ (by assumption) ?restz8_
      case hiz8_ => simp only [gA, gS, gZ]; rfl
      case hyz8_ =>
        refine Or.inl ⟨by rfl, ?_⟩
        intro w hSw; (try dsimp only at hSw); have u0 := cell_blk hSw 0; have u1 := cell_blk hSw 1; have u2 := cell_blk hSw 2; have u3 := cell_blk hSw 3; have u4 := cell_blk hSw 4; have u5 := cell_blk hSw 5; go_simp <;> (with_reducible rfl)
      (try simp only [Act.put])
      refine wpAnyH_take (i := 11) (oi := ?oz9_) (v := ?vz9_) ?hiz9_ (by kernel_rfl) (by kernel_rfl) (by kernel_rfl) (fun _ _ _ h => h) ?hyz9_ (by assumption) ?restz9_
      case hiz9_ => simp only [gA, gS, gZ]; rfl
      case hyz9_ =>
        refine Or.inl ⟨by rfl, ?_⟩
        intro w hSw; (try dsimp only at hSw); have u0 := cell_blk hSw 0; have u1 := cell_blk hSw 1; have u2 := cell_blk hSw 2; have u3 := cell_blk hSw 3; have u4 := cell_blk hSw 4; have u5 := cell_blk hSw 5; go_simp <;> (with_reducible rfl)
      (try simp only [Act.put])
      refine wpAnyH_ready (rs := [12]) (by kernel_rfl) (by simp) ?_
      refine AllReadyH.cons rfl (fun K hK => ?_) AllReadyH.nil
      go_simp
      refine hK.out _ _ (by exact S8) (fun hHeld12 => ?_)
      clear hK K
      (try simp only [Act.put])
      refine wpAnyH_done (by kernel_rfl) ?_ _
      refine NoPanic.normal ?_
      have HN2 := HN
      have HX2 : Hid ((w6.setCell ⟨b, 21, none⟩ (.slice a6 L6 c6)).heap[W.heap.size]? = some (.cells #[.string xn, .bool xs, .bool xa, .bool xi, .string s.d.1.nm, .int .i64 xc] 34 (0, 0))) := Lib.hid S8
      go_wp2_with fail
      obtain ⟨w7, hw7⟩ : ∃ w7, w7 = w6.setCell ⟨b, 21, none⟩ (.slice a6 L6 c6) := ⟨_, rfl⟩
      rw [← hw7] at HN2 HX2 ⊢
      clear hw7 HN S8 S6 B6 zc zf
      have HSE : Hid ((fun V => V.cell? ⟨b, 36, none⟩ = some (.map (some s.g)) ∧ V.cell? ⟨W.heap.size, 0, none⟩ = some (.string xn)) w7.drew) := Lib.hid ⟨cell_blk (HN2.out.same (Below.refl _ _).drew).blk 36, cell_blk (w := w7.drew) HX2.out 0⟩
      obtain ⟨w5, hrun, hm5, hg5⟩ := (HN2.out.same (Below.refl _ _).drew).own.gm.put (by have h9 : s.gn ≤ 4398046511104 := HGN.out; show s.gn < maxLen; unfold maxLen; omega) (x := xn) HXZ.out (a := trait) trivial
      rw [gvF_cons] at hm5
      have hrun : (Instr.mapUpdate 49 (.map (some s.g)) (.string xn) (.bool trait)).run Tryd.prog w7.drew = .ok () w5 := hrun
      have HS5 := Lib.hid ((HN2.out.same (Below.refl _ _).drew).put_g hm5 hg5)
      have A5 : Hid ((fun V => V.cell? ⟨b, 36, none⟩ = some (.map (some s.g)) ∧ V.cell? ⟨W.heap.size, 0, none⟩ = some (.string xn)) w5) := Lib.hid (by
        have hlx : W.heap.size ≠ s.g := fun e => by
          obtain ⟨D, ⟨es, clock, h2, -⟩, -⟩ := HN2.out.own.gm
          have h3 := HX2.out
          rw [e] at h3
          rw [h3] at h2
          cases h2
        have h4 : w7.drew.heap[W.heap.size]? = some (.cells #[.string xn, .bool xs, .bool xa, .bool xi, .string s.d.1.nm, .int .i64 xc] 34 (0, 0)) := HX2.out
        have h1 := (hg5.block _ (lt_of_block h4) (fun e => hlx (Option.some.inj e))).trans h4
        exact ⟨cell_blk HS5.out.blk 36, cell_blk h1 0⟩)
      clear hm5 hg5
      go_wp2_with fail
      refine wp_region_noPanic ?_
      refine wp_region_held_drew (S := (fun V => V.cell? ⟨b, 36, none⟩ = some (.map (some s.g)) ∧ V.cell? ⟨W.heap.size, 0, none⟩ = some (.string xn))) (by kernel_rfl) (by exact HSE.out) (fun hHeld => ?_)
      refine wpAnyH_take (i := 0) (oi := ?oK1k0) (v := ?vK1k0) ?hiK1k0 (by kernel_rfl) (by kernel_rfl) (by kernel_rfl) (fun _ _ _ h => h) ?hyK1k0 (by assumption) ?restK1k0
      case hiK1k0 => simp only [gA, gZ]; rfl
      case hyK1k0 =>
        refine Or.inl ⟨by rfl, ?_⟩
        intro w hSw; (try dsimp only at hSw); go_simp <;> (with_reducible rfl)
      (try simp only [Act.put, pA, pZ, pS])
      refine wpAnyH_take (i := 1) (oi := ?oK1k1) (v := ?vK1k1) ?hiK1k1 (by kernel_rfl) (by kernel_rfl) (by kernel_rfl) (fun _ _ _ h => h) ?hyK1k1 (by assumption) ?restK1k1
      case hiK1k1 => simp only [gA, gS, gZ]; rfl
      case hyK1k1 =>
        refine Or.inl ⟨by rfl, ?_⟩
        intro w hSw; (try dsimp only at hSw); go_simp <;> (with_reducible rfl)
      (try simp only [Act.put, pA, pZ, pS])
      refine wpAnyH_take (i := 2) (oi := ?oK1k2) (v := ?vK1k2) ?hiK1k2 (by kernel_rfl) (by kernel_rfl) (by kernel_rfl) (fun _ _ _ h => h) ?hyK1k2 (by assumption) ?restK1k2
      case hiK1k2 => simp only [gA, gS, gZ]; rfl
      case hyK1k2 =>
        refine Or.inl ⟨by rfl, ?_⟩
        intro w hSw; (try dsimp only at hSw); go_simp <;> (with_reducible rfl)
      (try simp only [Act.put, pA, pZ, pS])
      refine wpAnyH_take (i := 3) (oi := ?oK1k3) (v := ?vK1k3) ?hiK1k3 (by kernel_rfl) (by kernel_rfl) (by kernel_rfl) (fun _ _ _ h => h) ?hyK1k3 (by assumption) ?restK1k3
      case hiK1k3 => simp only [gA, gS, gZ]; rfl
      case hyK1k3 =>
        refine Or.inl ⟨by rfl, ?_⟩
        intro w hSw; (try dsimp only at hSw); go_simp <;> (with_reducible rfl)
      (try simp only [Act.put, pA, pZ, pS])
      refine wpAnyH_take (i := 4) (oi := ?oK1k4) (v := ?vK1k4) ?hiK1k4 (by kernel_rfl) (by kernel_rfl) (by kernel_rfl) (fun _ _ _ h => h) ?hyK1k4 (by assumption) ?restK1k4
      case hiK1k4 => simp only [gA, gS, gZ]; rfl
      case hyK1k4 =>
        refine Or.inl ⟨by rfl, ?_⟩
        intro w hSw; (try dsimp only at hSw); go_simp <;> (with_reducible rfl)
      (try simp only [Act.put, pA, pZ, pS])
      refine wpAnyH_take (i := 5) (oi := ?oK1k5) (v := ?vK1k5) ?hiK1k5 (by kernel_rfl) (by kernel_rfl) (by kernel_rfl) (fun _ _ _ h => h) ?hyK1k5 (by assumption) ?restK1k5
      case hiK1k5 => simp only [gA, gS, gZ]; rfl
      case hyK1k5 =>
        refine Or.inl ⟨by rfl, ?_⟩
        intro w hSw; (try dsimp only at hSw); go_simp <;> (with_reducible rfl)
      (try simp only [Act.put, pA, pZ, pS])
      refine wpAnyH_take (i := 6) (oi := ?oK1k6) (v := ?vK1k6) ?hiK1k6 (by kernel_rfl) (by kernel_rfl) (by kernel_rfl) (fun _ _ _ h => h) ?hyK1k6 (by assumption) ?restK1k6
      case hiK1k6 => simp only [gA, gS, gZ]; rfl
      case hyK1k6 =>
        refine Or.inl ⟨by rfl, ?_⟩
        intro w hSw; (try dsimp only at hSw); go_simp <;> (with_reducible rfl)
      (try simp only [Act.put, pA, pZ, pS])
      refine wpAnyH_ready (rs := [7]) (by kernel_rfl) (by simp) ?_
      refine AllReadyH.cons rfl (fun K hK => ?_) AllReadyH.nil
      go_simp
      
      refine hK.out _ _ A5.out (fun hHeldC7 => ?_)
      clear hK K
      (try simp only [Act.put, pA, pZ, pS])
      refine wpAnyH_done (by kernel_rfl) ?_ _
      refine NoPanic.normal ?_
      go_wp2_with fail
      go_ret
      rw [HRE.out]
      exact ⟨rfl, _, _, HS5.out, (by first | exact Nat.le_succ _ | exact if_le _ _)⟩
    · go_simp
      refine hK.out _ _ (by exact HX7.out) (fun hHeld7 => ?_)
      clear hK K
      (try simp only [Act.put, pA, pZ, pS])
      refine wpAnyH_ready (rs := [5]) (by kernel_rfl) (by simp) ?_
      refine AllReadyH.cons rfl (fun K hK => ?_) AllReadyH.nil
      go_simp
      refine hK.out _ _ (by exact HX7.out) (fun hHeld5 => ?_)
      clear hK K
      (try simp only [Act.put, pA, pZ, pS])
      refine wpAnyH_ready (rs := [8]) (by kernel_rfl) (by simp) ?_
      refine AllReadyH.cons rfl (fun K hK => ?_) AllReadyH.nil
      refine step_append_rows rfl (.tmp 30) (.tmp 32) 27 rfl 34 _ 6 48 Tryd.underlying27 info34 rfl (by decide) (.slice s.m.o s.m.n s.m.c) (s.ms.map MtP.row) (by simp [Act.eval]) HS7.out.own.om (some ⟨w2.heap.size, 0, none⟩) 1 1 [[.string xn, .bool xs, .bool xa, .bool xi, .string s.d.1.nm, .int .i64 xc]] (by simp [Act.eval]) rfl (fun e => by cases e) hL.out (by simp [Value.oneCell']) (by simp) hR1.out (by have h := hR2.out; omega) ?_
      intro v6 w6 o6 g6 b6
      obtain ⟨a6, L6, c6, hv6, -⟩ := owns_slice o6
      subst hv6
      have S6 : w6.heap[W.heap.size]? = some (.cells #[.string xn, .bool xs, .bool xa, .bool xi, .string s.d.1.nm, .int .i64 xc] 34 (0, 0)) := (g6.block _ (lt_of_block HX7.out) (fun e => hBq.out e.symm)).trans HX7.out
      have B6 := Lib.hid ((g6.block b (lt_of_block HS7.out.blk) (fun e => own_nb (by decide) HS7.out.own.om HS7.out.blk e.symm)).trans HS7.out.blk)
      have zc := cell_blk B6.out 21; have zf := free_blk B6.out 21
      have zc : w6.cell? ⟨b, 21, none⟩ = some (.slice s.m.o s.m.n s.m.c) := zc
      have HN := Lib.hid (HS7.out.put_m (v := ⟨a6, L6, c6⟩) (l := s.ms ++ [⟨xn, xs, xa, xi, s.d.1.nm, xc⟩]) (by rw [List.map_append]; exact o6) g6 b6)
      have S8 : (w6.setCell ⟨b, 21, none⟩ (.slice a6 L6 c6)).heap[W.heap.size]? = some (.cells #[.string xn, .bool xs, .bool xa, .bool xi, .string s.d.1.nm, .int .i64 xc] 34 (0, 0)) := set_other S6 hBb.out
      clear o6 g6 b6
      refine hK.out _ _ (by exact S6) (fun hHeld8 => ?_)
      clear hK K
      (try simp only [Act.put, pA])
      refine wpAnyH_take (i := 9) (oi := ?oz10_) (v := ?vz10_) ?hiz10_ (by kernel_rfl) (by kernel_rfl) (by kernel_rfl) (fun _ _ _ h => h) ?hyz10_ (by assumption) ?restz10_
      case hiz10_ => simp only [gA, gS, gZ]; rfl
      case hyz10_ =>
        refine Or.inl ⟨by rfl, ?_⟩
        intro w hSw; (try dsimp only at hSw); have u0 := cell_blk hSw 0; have u1 := cell_blk hSw 1; have u2 := cell_blk hSw 2; have u3 := cell_blk hSw 3; have u4 := cell_blk hSw 4; have u5 := cell_blk hSw 5; go_simp <;> (with_reducible rfl)
      (try simp only [Act.put])
      refine wpAnyH_take (i := 10) (oi := ?oz11_) (v := ?vz11_) ?hiz11_ (by kernel_rfl) (by kernel_rfl) (by kernel_rfl) (fun _ _ _ h => h) ?hyz11_ (by assumption) ?restz11_
      case hiz11_ => simp only [gA, gS, gZ]; rfl
      case hyz11_ =>
        refine Or.inl ⟨by rfl, ?_⟩
        intro w hSw; (try dsimp only at hSw); have u0 := cell_blk hSw 0; have u1 := cell_blk hSw 1; have u2 := cell_blk hSw 2; have u3 := cell_blk hSw 3; have u4 := cell_blk hSw 4; have u5 := cell_blk hSw 5; go_simp <;> (with_reducible rfl)
      (try simp only [Act.put])
      refine wpAnyH_take (i := 11) (oi := ?oz12_) (v := ?vz12_) ?hiz12_ (by kernel_rfl) (by kernel_rfl) (by kernel_rfl) (fun _ _ _ h => h) ?hyz12_ (by assumption) ?restz12_
      case hiz12_ => simp only [gA, gS, gZ]; rfl
      case hyz12_ =>
        refine Or.inl ⟨by rfl, ?_⟩
        intro w hSw; (try dsimp only at hSw); have u0 := cell_blk hSw 0; have u1 := cell_blk hSw 1; have u2 := cell_blk hSw 2; have u3 := cell_blk hSw 3; have u4 := cell_blk hSw 4; have u5 := cell_blk hSw 5; go_simp <;> (with_reducible rfl)
      (try simp only [Act.put])
      refine wpAnyH_ready (rs := [12]) (by kernel_rfl) (by simp) ?_
      refine AllReadyH.cons rfl (fun K hK => ?_) AllReadyH.nil
      go_simp
      refine hK.out _ _ (by exact S8) (fun hHeld12 => ?_)
      clear hK K
      (try simp only [Act.put])
      refine wpAnyH_done (by kernel_rfl) ?_ _
      refine NoPanic.normal ?_
      have HN2 := HN
      have HX2 : Hid ((w6.setCell ⟨b, 21, none⟩ (.slice a6 L6 c6)).heap[W.heap.size]? = some (.cells #[.string xn, .bool xs, .bool xa, .bool xi, .string s.d.1.nm, .int .i64 xc] 34 (0, 0))) := Lib.hid S8
      go_wp2_with fail
      obtain ⟨w7, hw7⟩ : ∃ w7, w7 = w6.setCell ⟨b, 21, none⟩ (.slice a6 L6 c6) := ⟨_, rfl⟩
      rw [← hw7] at HN2 HX2 ⊢
      clear hw7 HN S8 S6 B6 zc zf
      have HSE : Hid ((fun V => V.cell? ⟨b, 36, none⟩ = some (.map (some s.g)) ∧ V.cell? ⟨W.heap.size, 0, none⟩ = some (.string xn)) w7.drew) := Lib.hid ⟨cell_blk (HN2.out.same (Below.refl _ _).drew).blk 36, cell_blk (w := w7.drew) HX2.out 0⟩
      obtain ⟨w5, hrun, hm5, hg5⟩ := (HN2.out.same (Below.refl _ _).drew).own.gm.put (by have h9 : s.gn ≤ 4398046511104 := HGN.out; show s.gn < maxLen; unfold maxLen; omega) (x := xn) HXZ.out (a := trait) trivial
      rw [gvF_cons] at hm5
      have hrun : (Instr.mapUpdate 49 (.map (some s.g)) (.string xn) (.bool trait)).run Tryd.prog w7.drew = .ok () w5 := hrun
      have HS5 := Lib.hid ((HN2.out.same (Below.refl _ _).drew).put_g hm5 hg5)
      have A5 : Hid ((fun V => V.cell? ⟨b, 36, none⟩ = some (.map (some s.g)) ∧ V.cell? ⟨W.heap.size, 0, none⟩ = some (.string xn)) w5) := Lib.hid (by
        have hlx : W.heap.size ≠ s.g := fun e => by
          obtain ⟨D, ⟨es, clock, h2, -⟩, -⟩ := HN2.out.own.gm
          have h3 := HX2.out
          rw [e] at h3
          rw [h3] at h2
          cases h2
        have h4 : w7.drew.heap[W.heap.size]? = some (.cells #[.string xn, .bool xs, .bool xa, .bool xi, .string s.d.1.nm, .int .i64 xc] 34 (0, 0)) := HX2.out
        have h1 := (hg5.block _ (lt_of_block h4) (fun e => hlx (Option.some.inj e))).trans h4
        exact ⟨cell_blk HS5.out.blk 36, cell_blk h1 0⟩)
      clear hm5 hg5
      go_wp2_with fail
      refine wp_region_noPanic ?_
      refine wp_region_held_drew (S := (fun V => V.cell? ⟨b, 36, none⟩ = some (.map (some s.g)) ∧ V.cell? ⟨W.heap.size, 0, none⟩ = some (.string xn))) (by kernel_rfl) (by exact HSE.out) (fun hHeld => ?_)
      refine wpAnyH_take (i := 0) (oi := ?oK1m0) (v := ?vK1m0) ?hiK1m0 (by kernel_rfl) (by kernel_rfl) (by kernel_rfl) (fun _ _ _ h => h) ?hyK1m0 (by assumption) ?restK1m0
      case hiK1m0 => simp only [gA, gZ]; rfl
      case hyK1m0 =>
        refine Or.inl ⟨by rfl, ?_⟩
        intro w hSw; (try dsimp only at hSw); go_simp <;> (with_reducible rfl)
      (try simp only [Act.put, pA, pZ, pS])
      refine wpAnyH_take (i := 1) (oi := ?oK1m1) (v := ?vK1m1) ?hiK1m1 (by kernel_rfl) (by kernel_rfl) (by kernel_rfl) (fun _ _ _ h => h) ?hyK1m1 (by assumption) ?restK1m1
      case hiK1m1 => simp only [gA, gS, gZ]; rfl
      case hyK1m1 =>
        refine Or.inl ⟨by rfl, ?_⟩
        intro w hSw; (try dsimp only at hSw); go_simp <;> (with_reducible rfl)
      (try simp only [Act.put, pA, pZ, pS])
      refine wpAnyH_take (i := 2) (oi := ?oK1m2) (v := ?vK1m2) ?hiK1m2 (by kernel_rfl) (by kernel_rfl) (by kernel_rfl) (fun _ _ _ h => h) ?hyK1m2 (by assumption) ?restK1m2
      case hiK1m2 => simp only [gA, gS, gZ]; rfl
      case hyK1m2 =>
        refine Or.inl ⟨by rfl, ?_⟩
        intro w hSw; (try dsimp only at hSw); go_simp <;> (with_reducible rfl)
      (try simp only [Act.put, pA, pZ, pS])
      refine wpAnyH_take (i := 3) (oi := ?oK1m3) (v := ?vK1m3) ?hiK1m3 (by kernel_rfl) (by kernel_rfl) (by kernel_rfl) (fun _ _ _ h => h) ?hyK1m3 (by assumption) ?restK1m3
      case hiK1m3 => simp only [gA, gS, gZ]; rfl
      case hyK1m3 =>
        refine Or.inl ⟨by rfl, ?_⟩
        intro w hSw; (try dsimp only at hSw); go_simp <;> (with_reducible rfl)
      (try simp only [Act.put, pA, pZ, pS])
      refine wpAnyH_take (i := 4) (oi := ?oK1m4) (v := ?vK1m4) ?hiK1m4 (by kernel_rfl) (by kernel_rfl) (by kernel_rfl) (fun _ _ _ h => h) ?hyK1m4 (by assumption) ?restK1m4
      case hiK1m4 => simp only [gA, gS, gZ]; rfl
      case hyK1m4 =>
        refine Or.inl ⟨by rfl, ?_⟩
        intro w hSw; (try dsimp only at hSw); go_simp <;> (with_reducible rfl)
      (try simp only [Act.put, pA, pZ, pS])
      refine wpAnyH_take (i := 5) (oi := ?oK1m5) (v := ?vK1m5) ?hiK1m5 (by kernel_rfl) (by kernel_rfl) (by kernel_rfl) (fun _ _ _ h => h) ?hyK1m5 (by assumption) ?restK1m5
      case hiK1m5 => simp only [gA, gS, gZ]; rfl
      case hyK1m5 =>
        refine Or.inl ⟨by rfl, ?_⟩
        intro w hSw; (try dsimp only at hSw); go_simp <;> (with_reducible rfl)
      (try simp only [Act.put, pA, pZ, pS])
      refine wpAnyH_take (i := 6) (oi := ?oK1m6) (v := ?vK1m6) ?hiK1m6 (by kernel_rfl) (by kernel_rfl) (by kernel_rfl) (fun _ _ _ h => h) ?hyK1m6 (by assumption) ?restK1m6
      case hiK1m6 => simp only [gA, gS, gZ]; rfl
      case hyK1m6 =>
        refine Or.inl ⟨by rfl, ?_⟩
        intro w hSw; (try dsimp only at hSw); go_simp <;> (with_reducible rfl)
      (try simp only [Act.put, pA, pZ, pS])
      refine wpAnyH_ready (rs := [7]) (by kernel_rfl) (by simp) ?_
      refine AllReadyH.cons rfl (fun K hK => ?_) AllReadyH.nil
      go_simp
      
      refine hK.out _ _ A5.out (fun hHeldC7 => ?_)
      clear hK K
      (try simp only [Act.put, pA, pZ, pS])
      refine wpAnyH_done (by kernel_rfl) ?_ _
      refine NoPanic.normal ?_
      go_wp2_with fail
      go_ret
      rw [HRE.out]
      exact ⟨rfl, _, _, HS5.out, (by first | exact Nat.le_succ _ | exact if_le _ _)⟩
  | some i =>
    obtain ⟨hi, -, -⟩ := idxP_some HQ.out.symm
    have hlt : (i : Int) < (s.ms.length : Int) := by omega
    have HRI : Hid (RIn AnyB w2 6 (.slice s.m.o s.m.n s.m.c) (s.ms.map MtP.row)) := Lib.hid (RIn.of_owns HS2.out.own.om (fun _ _ => trivial))
    obtain ⟨⟨yn, ys, ya, yi, yf, yc⟩, g, off, cp, hget, -, -, e, hg, -, hc⟩ := mt_cells HRI.out hi
    simp only at hc
    simp only [Value.slice.injEq] at e
    obtain ⟨e1, e2, e3⟩ := e
    obtain ⟨rfl, hown⟩ : off = 0 ∧ (Value.slice s.m.o s.m.n s.m.c).ownBlock = some g := by
      obtain ⟨a9, c9, hv9, -, -, -, -, h9⟩ := HS2.out.own.om.any
      simp only [Value.slice.injEq] at hv9
      exact h9 g off (by rw [← hv9.1, e1])
    have h20 : w2.cell? ⟨b, 21, none⟩ = some (.slice (some ⟨g, 0, none⟩) s.ms.length cp) := by
      have h9 : w2.cell? ⟨b, 21, none⟩ = some (.slice s.m.o s.m.n s.m.c) := cell_blk HS2.out.blk 21
      rw [e1, e2, e3] at h9
      exact h9
    obtain ⟨d0, d1, d2, d3, d4, d5⟩ := hc w2 (Below.refl _ _)
    have hz0 : (0 + i * 6) = i * 6 := by omega
    rw [hz0] at d0 d1 d2 d3 d4 d5
    have hii : idxI (some i) = (i : Int) := rfl
    have hnn : ¬ (i : Int) < 0 := by omega
    have HRE : Hid (r = if ge = true then (if (!trait || ya) = true then .ok (s.ms.set i ⟨xn, xs, xa, xi, s.d.1.nm, xc⟩, s.G) else if (!xa && !z.isSome) = true then .error 21 else .ok (s.ms, s.G)) else if yi = true then .error 19 else if (ys != xs) = true then .error 20 else if ((trait && xa) && !ya) = true then .ok (s.ms, s.G) else .ok (s.ms.set i ⟨xn, xs, xa, xi, s.d.1.nm, xc⟩, (xn, trait) :: s.G)) := Lib.hid (by
      have hget2 : s.ms[i]? = some ⟨yn, ys, ya, yi, yf, yc⟩ := hget
      rw [HR.out]
      unfold methodP
      simp only
      rw [← HQ.out]
      simp only
      rw [hget2]
      simp only
      rw [← HGV.out, ← HZ.out])
    have B9 : Hid (Below w2.heap.size w2 (w2.alloc (.cells #[.string yn, .bool ys, .bool ya, .bool yi, .string yf, .int .i64 yc] 34))) := Lib.hid (below_alloc1 _ _)
    have HS9 := Lib.hid (HS2.out.same B9.out)
    have HX9 : Hid ((w2.alloc (.cells #[.string yn, .bool ys, .bool ya, .bool yi, .string yf, .int .i64 yc] 34)).heap[W.heap.size]? = some (.cells #[.string xn, .bool xs, .bool xa, .bool xi, .string s.d.1.nm, .int .i64 xc] 34 (0, 0))) := Lib.hid (alloc_blk HBX.out _)
    have HY9 : Hid ((w2.alloc (.cells #[.string yn, .bool ys, .bool ya, .bool yi, .string yf, .int .i64 yc] 34)).heap[w2.heap.size]? = some (.cells #[.string yn, .bool ys, .bool ya, .bool yi, .string yf, .int .i64 yc] 34 (0, 0))) := Lib.hid (at1_start w2 (.cells #[.string yn, .bool ys, .bool ya, .bool yi, .string yf, .int .i64 yc] 34)).a
    have HGE : Hid (s.m = ⟨some ⟨g, 0, none⟩, s.ms.length, cp⟩ ∧ (s.ms.map MtP.row)[i]? = some (MtP.row ⟨yn, ys, ya, yi, yf, yc⟩)) := Lib.hid ⟨by cases hsq : s.m; rw [hsq] at e1 e2 e3; simp only at e1 e2 e3; rw [e1, e2, e3], by rw [List.getElem?_map, hget]; rfl⟩
    clear hget hc e1 e2 e3 hown hg HRI
    go_wp2_with fail
    obtain ⟨W8, hW8⟩ : ∃ W8, W8 = w2.alloc (.cells #[.string yn, .bool ys, .bool ya, .bool yi, .string yf, .int .i64 yc] 34) := ⟨_, rfl⟩
    rw [← hW8] at HS9 HX9 HY9 ⊢
    clear hW8 B9 d0 d1 d2 d3 d4 d5 h20 HS2 HBX
    have HSB : Hid ((fun V => V.cell? ⟨b, 36, none⟩ = some (.map (some s.g)) ∧ V.cell? ⟨W.heap.size, 0, none⟩ = some (.string xn)) W8.drew) := Lib.hid ⟨cell_blk (HS9.out.same (Below.refl _ _).drew).blk 36, cell_blk (w := W8.drew) HX9.out 0⟩
    have hlk : (Instr.lookup 49 (.map (some s.g)) (.string xn) false).run Tryd.prog W8.drew = .ok (.bool ge) W8.drew := by rw [HGV.out, ← gvF_given]; exact (HS9.out.same (Below.refl _ _).drew).own.gm.look1 (x := xn) HXZ.out
    refine wp_region_noPanic ?_
    refine wp_region_held_drew (S := (fun V => V.cell? ⟨b, 36, none⟩ = some (.map (some s.g)) ∧ V.cell? ⟨W.heap.size, 0, none⟩ = some (.string xn))) (by kernel_rfl) (by exact HSB.out) (fun hHeld => ?_)
    refine wpAnyH_take (i := 0) (oi := ?oB0) (v := ?vB0) ?hiB0 (by kernel_rfl) (by kernel_rfl) (by kernel_rfl) (fun _ _ _ h => h) ?hyB0 (by assumption) ?restB0
    case hiB0 => simp only [gA, gZ]; rfl
    case hyB0 =>
      refine Or.inl ⟨by rfl, ?_⟩
      intro w hSw; (try dsimp only at hSw); go_simp <;> (with_reducible rfl)
    (try simp only [Act.put, pA, pZ, pS])
    refine wpAnyH_take (i := 1) (oi := ?oB1) (v := ?vB1) ?hiB1 (by kernel_rfl) (by kernel_rfl) (by kernel_rfl) (fun _ _ _ h => h) ?hyB1 (by assumption) ?restB1
    case hiB1 => simp only [gA, gS, gZ]; rfl
    case hyB1 =>
      refine Or.inl ⟨by rfl, ?_⟩
      intro w hSw; (try dsimp only at hSw); go_simp <;> (with_reducible rfl)
    (try simp only [Act.put, pA, pZ, pS])
    refine wpAnyH_take (i := 2) (oi := ?oB2) (v := ?vB2) ?hiB2 (by kernel_rfl) (by kernel_rfl) (by kernel_rfl) (fun _ _ _ h => h) ?hyB2 (by assumption) ?restB2
    case hiB2 => simp only [gA, gS, gZ]; rfl
    case hyB2 =>
      refine Or.inl ⟨by rfl, ?_⟩
      intro w hSw; (try dsimp only at hSw); go_simp <;> (with_reducible rfl)
    (try simp only [Act.put, pA, pZ, pS])
    refine wpAnyH_take (i := 3) (oi := ?oB3) (v := ?vB3) ?hiB3 (by kernel_rfl) (by kernel_rfl) (by kernel_rfl) (fun _ _ _ h => h) ?hyB3 (by assumption) ?restB3
    case hiB3 => simp only [gA, gS, gZ]; rfl
    case hyB3 =>
      refine Or.inl ⟨by rfl, ?_⟩
      intro w hSw; (try dsimp only at hSw); go_simp <;> (with_reducible rfl)
    (try simp only [Act.put, pA, pZ, pS])
    refine wpAnyH_take (i := 4) (oi := ?oB4) (v := ?vB4) ?hiB4 (by kernel_rfl) (by kernel_rfl) (by kernel_rfl) (fun _ _ _ h => h) ?hyB4 (by assumption) ?restB4
    case hiB4 => simp only [gA, gS, gZ]; rfl
    case hyB4 =>
      refine Or.inl ⟨by rfl, ?_⟩
      intro w hSw; (try dsimp only at hSw); go_simp <;> (with_reducible rfl)
    (try simp only [Act.put, pA, pZ, pS])
    refine wpAnyH_take (i := 5) (oi := ?oB5) (v := ?vB5) ?hiB5 (by kernel_rfl) (by kernel_rfl) (by kernel_rfl) (fun _ _ _ h => h) ?hyB5 (by assumption) ?restB5
    case hiB5 => simp only [gA, gS, gZ]; rfl
    case hyB5 =>
      refine Or.inl ⟨by rfl, ?_⟩
      intro w hSw; (try dsimp only at hSw); go_simp <;> (with_reducible rfl)
    (try simp only [Act.put, pA, pZ, pS])
    refine wpAnyH_ready (rs := [6]) (by kernel_rfl) (by simp) ?_
    refine AllReadyH.cons rfl (fun K hK => ?_) AllReadyH.nil
    go_simp
    
    refine hK.out _ _ HSB.out (fun hHeldB6 => ?_)
    clear hK K
    (try simp only [Act.put, pA, pZ, pS])
    refine wpAnyH_done (by kernel_rfl) ?_ _
    refine NoPanic.normal ?_
    clear HSB hlk
    obtain ⟨W9, hW9⟩ : ∃ W9, W9 = W8.drew := ⟨_, rfl⟩
    have HSC : Hid (LkIs w0 W9 b s) := Lib.hid (by rw [hW9]; exact HS9.out.same (Below.refl _ _).drew)
    have HX8 : Hid (W9.heap[W.heap.size]? = some (.cells #[.string xn, .bool xs, .bool xa, .bool xi, .string s.d.1.nm, .int .i64 xc] 34 (0, 0))) := Lib.hid (by rw [hW9]; exact HX9.out)
    have HY8 : Hid (W9.heap[w2.heap.size]? = some (.cells #[.string yn, .bool ys, .bool ya, .bool yi, .string yf, .int .i64 yc] 34 (0, 0))) := Lib.hid (by rw [hW9]; exact HY9.out)
    rw [← hW9]
    clear HS9 HX9 HY9 hW9
    have v0 := cell_blk HX8.out 0; have t0 := cell_blk HY8.out 0
    have v1 := cell_blk HX8.out 1; have t1 := cell_blk HY8.out 1
    have v2 := cell_blk HX8.out 2; have t2 := cell_blk HY8.out 2
    have v3 := cell_blk HX8.out 3; have t3 := cell_blk HY8.out 3
    have v4 := cell_blk HX8.out 4; have t4 := cell_blk HY8.out 4
    have v5 := cell_blk HX8.out 5; have t5 := cell_blk HY8.out 5
    cases ge with
    | true =>
      cases trait with
      | true =>
        cases ya with
        | true =>
          have HRZ : Hid (r = .ok (s.ms.set i ⟨xn, xs, xa, xi, s.d.1.nm, xc⟩, s.G)) := Lib.hid HRE.out
          go_wp2_with fail
          clear v0 t0 v1 t1 v2 t2 v3 t3 v4 t4 v5 t5
          have HS10 := Lib.hid (HSC.out.same (Below.refl _ _).drew)
          have HX10 : Hid (W9.drew.heap[W.heap.size]? = some (.cells #[.string xn, .bool xs, .bool xa, .bool xi, .string s.d.1.nm, .int .i64 xc] 34 (0, 0))) := Lib.hid HX8.out
          have HOQ : Hid (Owns W9.drew 34 6 (.slice (some ⟨g, 0, none⟩) s.ms.length cp) (s.ms.map MtP.row)) := Lib.hid (by
            have h2 : Owns W9.drew 34 6 (.slice s.m.o s.m.n s.m.c) (s.ms.map MtP.row) := HS10.out.own.om
            rw [HGE.out.1] at h2
            exact h2)
          have HPU := Lib.hid (owns_put6 HOQ.out HGE.out.2 (u0 := .string xn) (u1 := .bool xs) (u2 := .bool xa) (u3 := .bool xi) (u4 := .string s.d.1.nm) (u5 := .int .i64 xc) rfl rfl rfl rfl rfl rfl)
          have h9 : W9.drew.cell? ⟨b, 21, none⟩ = some (.slice s.m.o s.m.n s.m.c) := cell_blk HS10.out.blk 21
          rw [HGE.out.1] at h9
          have HSS : Hid ((fun V => V.cell? ⟨b, 21, none⟩ = some (.slice (some ⟨g, 0, none⟩) s.ms.length cp) ∧ V.heap[W.heap.size]? = some (.cells #[.string xn, .bool xs, .bool xa, .bool xi, .string s.d.1.nm, .int .i64 xc] 34 (0, 0))) W9.drew) := Lib.hid ⟨h9, HX10.out⟩
          have P9 : Hid (W9.drew.cell? ⟨g, i * 6, none⟩ = some (.string yn) ∧ W9.drew.cell? ⟨g, i * 6 + 1, none⟩ = some (.bool ys) ∧ W9.drew.cell? ⟨g, i * 6 + 2, none⟩ = some (.bool true) ∧ W9.drew.cell? ⟨g, i * 6 + 3, none⟩ = some (.bool yi) ∧ W9.drew.cell? ⟨g, i * 6 + 4, none⟩ = some (.string yf) ∧ W9.drew.cell? ⟨g, i * 6 + 5, none⟩ = some (.int .i64 yc)) := Lib.hid (by
            obtain ⟨a9, c9, hv9, -, -, hl9, -, -⟩ := HOQ.out.any
            simp only [Value.slice.injEq] at hv9
            obtain ⟨rfl, -, -⟩ := hv9
            obtain ⟨g9, o9, e9, -, -, hc9⟩ := hl9 i _ HGE.out.2
            cases e9
            exact ⟨by simpa using hc9 0 _ rfl, by simpa using hc9 1 _ rfl, by simpa using hc9 2 _ rfl, by simpa using hc9 3 _ rfl, by simpa using hc9 4 _ rfl, by simpa using hc9 5 _ rfl⟩)
          have p0 : W9.drew.cell? ⟨g, i * 6, none⟩ = some (.string yn) := P9.out.1
          have p1 : W9.drew.cell? ⟨g, i * 6 + 1, none⟩ = some (.bool ys) := P9.out.2.1
          have p2 : W9.drew.cell? ⟨g, i * 6 + 2, none⟩ = some (.bool true) := P9.out.2.2.1
          have p3 : W9.drew.cell? ⟨g, i * 6 + 3, none⟩ = some (.bool yi) := P9.out.2.2.2.1
          have p4 : W9.drew.cell? ⟨g, i * 6 + 4, none⟩ = some (.string yf) := P9.out.2.2.2.2.1
          have p5 : W9.drew.cell? ⟨g, i * 6 + 5, none⟩ = some (.int .i64 yc) := P9.out.2.2.2.2.2
          have f0 := HOQ.out.free (g := g) rfl (i * 6)
          have f1 := HOQ.out.free (g := g) rfl (i * 6 + 1)
          have f2 := HOQ.out.free (g := g) rfl (i * 6 + 2)
          have f3 := HOQ.out.free (g := g) rfl (i * 6 + 3)
          have f4 := HOQ.out.free (g := g) rfl (i * 6 + 4)
          have f5 := HOQ.out.free (g := g) rfl (i * 6 + 5)
          have HTH : Hid (W9.drew.there g (i * 6) 6) := Lib.hid (by
            intro j hj
            have h6 : j = 0 ∨ j = 1 ∨ j = 2 ∨ j = 3 ∨ j = 4 ∨ j = 5 := by omega
            rcases h6 with rfl | rfl | rfl | rfl | rfl | rfl
            · exact ⟨Option.isSome_iff_exists.2 ⟨_, p0⟩, f0⟩
            · exact ⟨Option.isSome_iff_exists.2 ⟨_, p1⟩, f1⟩
            · exact ⟨Option.isSome_iff_exists.2 ⟨_, p2⟩, f2⟩
            · exact ⟨Option.isSome_iff_exists.2 ⟨_, p3⟩, f3⟩
            · exact ⟨Option.isSome_iff_exists.2 ⟨_, p4⟩, f4⟩
            · exact ⟨Option.isSome_iff_exists.2 ⟨_, p5⟩, f5⟩)
          clear p0 f0 p1 f1 p2 f2 p3 f3 p4 f4 p5 f5
          have HKP : Hid ((fun V => V.cell? ⟨b, 21, none⟩ = some (.slice (some ⟨g, 0, none⟩) s.ms.length cp) ∧ V.heap[W.heap.size]? = some (.cells #[.string xn, .bool xs, .bool xa, .bool xi, .string s.d.1.nm, .int .i64 xc] 34 (0, 0))) ((((((W9.drew.setCell ⟨g, i * 6, none⟩ (.string xn)).setCell ⟨g, i * 6 + 1, none⟩ (.bool xs)).setCell ⟨g, i * 6 + 2, none⟩ (.bool xa)).setCell ⟨g, i * 6 + 3, none⟩ (.bool xi)).setCell ⟨g, i * 6 + 4, none⟩ (.string s.d.1.nm)).setCell ⟨g, i * 6 + 5, none⟩ (.int .i64 xc))) := Lib.hid (by
            have hm := (Mod.refl (fun j => j = g) W9.drew).grown HPU.out.2 (fun j e _ => (Option.some.inj e).symm)
            have hgb : b ≠ g := fun e => by obtain ⟨c9, h9⟩ := own_ty HOQ.out (k := g) rfl; rw [← e, HS10.out.blk] at h9; cases h9
            have hgx : W.heap.size ≠ g := fun e => HBQ.out (by rw [HGE.out.1]; show some g = _; rw [e])
            have h8 := cell_blk (hm.blk HS10.out.blk hgb) 21
            have h8 : ((((((W9.drew.setCell ⟨g, i * 6, none⟩ (.string xn)).setCell ⟨g, i * 6 + 1, none⟩ (.bool xs)).setCell ⟨g, i * 6 + 2, none⟩ (.bool xa)).setCell ⟨g, i * 6 + 3, none⟩ (.bool xi)).setCell ⟨g, i * 6 + 4, none⟩ (.string s.d.1.nm)).setCell ⟨g, i * 6 + 5, none⟩ (.int .i64 xc)).cell? ⟨b, 21, none⟩ = some (.slice s.m.o s.m.n s.m.c) := h8
            rw [HGE.out.1] at h8
            exact ⟨h8, hm.blk HX10.out hgx⟩)
          have HFN : Hid (LkIs w0 ((((((W9.drew.setCell ⟨g, i * 6, none⟩ (.string xn)).setCell ⟨g, i * 6 + 1, none⟩ (.bool xs)).setCell ⟨g, i * 6 + 2, none⟩ (.bool xa)).setCell ⟨g, i * 6 + 3, none⟩ (.bool xi)).setCell ⟨g, i * 6 + 4, none⟩ (.string s.d.1.nm)).setCell ⟨g, i * 6 + 5, none⟩ (.int .i64 xc)) b { s with ms := s.ms.set i ⟨xn, xs, xa, xi, s.d.1.nm, xc⟩ }) := Lib.hid (by
            have h1 := HPU.out.1
            have h2 := HPU.out.2
            have hr : (s.ms.map MtP.row).set i [.string xn, .bool xs, .bool xa, .bool xi, .string s.d.1.nm, .int .i64 xc] = (s.ms.set i ⟨xn, xs, xa, xi, s.d.1.nm, xc⟩).map MtP.row := by rw [List.map_set]; rfl
            rw [hr] at h1
            refine HS10.out.turn_m (l := s.ms.set i ⟨xn, xs, xa, xi, s.d.1.nm, xc⟩) ?_ ?_
            · show Owns _ 34 6 (.slice s.m.o s.m.n s.m.c) _
              rw [HGE.out.1]
              exact h1
            · show World.grownBy _ _ (Value.slice s.m.o s.m.n s.m.c).ownBlock
              rw [HGE.out.1]
              exact h2)
          obtain ⟨W7, hW7⟩ : ∃ W7, W7 = ((((((W9.drew.setCell ⟨g, i * 6, none⟩ (.string xn)).setCell ⟨g, i * 6 + 1, none⟩ (.bool xs)).setCell ⟨g, i * 6 + 2, none⟩ (.bool xa)).setCell ⟨g, i * 6 + 3, none⟩ (.bool xi)).setCell ⟨g, i * 6 + 4, none⟩ (.string s.d.1.nm)).setCell ⟨g, i * 6 + 5, none⟩ (.int .i64 xc)) := ⟨_, rfl⟩
          rw [← hW7] at HKP HFN
          have HW7 := Lib.hid hW7
          clear hW7
          have HX11 : Hid (W7.heap[W.heap.size]? = some (.cells #[.string xn, .bool xs, .bool xa, .bool xi, .string s.d.1.nm, .int .i64 xc] 34 (0, 0))) := Lib.hid HKP.out.2
          clear h9 HPU P9 HOQ HX10 HS10
          refine wp_region_noPanic ?_
          refine wp_region_held_drew (S := (fun V => V.cell? ⟨b, 21, none⟩ = some (.slice (some ⟨g, 0, none⟩) s.ms.length cp) ∧ V.heap[W.heap.size]? = some (.cells #[.string xn, .bool xs, .bool xa, .bool xi, .string s.d.1.nm, .int .i64 xc] 34 (0, 0)))) (by kernel_rfl) (by exact HSS.out) (fun hHeld => ?_)
          refine wpAnyH_take (i := 0) (oi := ?oK2k0) (v := ?vK2k0) ?hiK2k0 (by kernel_rfl) (by kernel_rfl) (by kernel_rfl) (fun _ _ _ h => h) ?hyK2k0 (by assumption) ?restK2k0
          case hiK2k0 => simp only [gA, gZ]; rfl
          case hyK2k0 =>
            refine Or.inl ⟨by rfl, ?_⟩
            intro w hSw; (try dsimp only at hSw); obtain ⟨hSw0, hSwB⟩ := hSw; have t0 := cell_blk hSwB 0; have t1 := cell_blk hSwB 1; have t2 := cell_blk hSwB 2; have t3 := cell_blk hSwB 3; have t4 := cell_blk hSwB 4; have t5 := cell_blk hSwB 5; go_simp <;> (with_reducible rfl)
          (try simp only [Act.put, pA, pZ, pS])
          refine wpAnyH_take (i := 1) (oi := ?oK2k1) (v := ?vK2k1) ?hiK2k1 (by kernel_rfl) (by kernel_rfl) (by kernel_rfl) (fun _ _ _ h => h) ?hyK2k1 (by assumption) ?restK2k1
          case hiK2k1 => simp only [gA, gS, gZ]; rfl
          case hyK2k1 =>
            refine Or.inl ⟨by rfl, ?_⟩
            intro w hSw; (try dsimp only at hSw); obtain ⟨hSw0, hSwB⟩ := hSw; have t0 := cell_blk hSwB 0; have t1 := cell_blk hSwB 1; have t2 := cell_blk hSwB 2; have t3 := cell_blk hSwB 3; have t4 := cell_blk hSwB 4; have t5 := cell_blk hSwB 5; go_simp <;> (with_reducible rfl)
          (try simp only [Act.put, pA, pZ, pS])
          refine wpAnyH_take (i := 2) (oi := ?oK2k2) (v := ?vK2k2) ?hiK2k2 (by kernel_rfl) (by kernel_rfl) (by kernel_rfl) (fun _ _ _ h => h) ?hyK2k2 (by assumption) ?restK2k2
          case hiK2k2 => simp only [gA, gS, gZ]; rfl
          case hyK2k2 =>
            refine Or.inl ⟨by rfl, ?_⟩
            intro w hSw; (try dsimp only at hSw); obtain ⟨hSw0, hSwB⟩ := hSw; have t0 := cell_blk hSwB 0; have t1 := cell_blk hSwB 1; have t2 := cell_blk hSwB 2; have t3 := cell_blk hSwB 3; have t4 := cell_blk hSwB 4; have t5 := cell_blk hSwB 5; go_simp <;> (with_reducible rfl)
          (try simp only [Act.put, pA, pZ, pS])
          refine wpAnyH_take (i := 3) (oi := ?oK2k3) (v := ?vK2k3) ?hiK2k3 (by kernel_rfl) (by kernel_rfl) (by kernel_rfl) (fun _ _ _ h => h) ?hyK2k3 (by assumption) ?restK2k3
          case hiK2k3 => simp only [gA, gS, gZ]; rfl
          case hyK2k3 =>
            refine Or.inl ⟨by rfl, ?_⟩
            intro w hSw; (try dsimp only at hSw); obtain ⟨hSw0, hSwB⟩ := hSw; have t0 := cell_blk hSwB 0; have t1 := cell_blk hSwB 1; have t2 := cell_blk hSwB 2; have t3 := cell_blk hSwB 3; have t4 := cell_blk hSwB 4; have t5 := cell_blk hSwB 5; go_simp <;> (with_reducible rfl)
          (try simp only [Act.put, pA, pZ, pS])
          refine wpAnyH_take (i := 4) (oi := ?oK2k4) (v := ?vK2k4) ?hiK2k4 (by kernel_rfl) (by kernel_rfl) (by kernel_rfl) (fun _ _ _ h => h) ?hyK2k4 (by assumption) ?restK2k4
          case hiK2k4 => simp only [gA, gS, gZ]; rfl
          case hyK2k4 =>
            refine Or.inl ⟨by rfl, ?_⟩
            intro w hSw; (try dsimp only at hSw); obtain ⟨hSw0, hSwB⟩ := hSw; have t0 := cell_blk hSwB 0; have t1 := cell_blk hSwB 1; have t2 := cell_blk hSwB 2; have t3 := cell_blk hSwB 3; have t4 := cell_blk hSwB 4; have t5 := cell_blk hSwB 5; go_simp <;> (with_reducible rfl)
          (try simp only [Act.put, pA, pZ, pS])
          refine wpAnyH_take (i := 5) (oi := ?oK2k5) (v := ?vK2k5) ?hiK2k5 (by kernel_rfl) (by kernel_rfl) (by kernel_rfl) (fun _ _ _ h => h) ?hyK2k5 (by assumption) ?restK2k5
          case hiK2k5 => simp only [gA, gS, gZ]; rfl
          case hyK2k5 =>
            refine Or.inl ⟨by rfl, ?_⟩
            intro w hSw; (try dsimp only at hSw); obtain ⟨hSw0, hSwB⟩ := hSw; have t0 := cell_blk hSwB 0; have t1 := cell_blk hSwB 1; have t2 := cell_blk hSwB 2; have t3 := cell_blk hSwB 3; have t4 := cell_blk hSwB 4; have t5 := cell_blk hSwB 5; go_simp <;> (with_reducible rfl)
          (try simp only [Act.put, pA, pZ, pS])
          refine wpAnyH_take (i := 6) (oi := ?oK2k6) (v := ?vK2k6) ?hiK2k6 (by kernel_rfl) (by kernel_rfl) (by kernel_rfl) (fun _ _ _ h => h) ?hyK2k6 (by assumption) ?restK2k6
          case hiK2k6 => simp only [gA, gS, gZ]; rfl
          case hyK2k6 =>
            refine Or.inl ⟨by rfl, ?_⟩
            intro w hSw; (try dsimp only at hSw); obtain ⟨hSw0, hSwB⟩ := hSw; have t0 := cell_blk hSwB 0; have t1 := cell_blk hSwB 1; have t2 := cell_blk hSwB 2; have t3 := cell_blk hSwB 3; have t4 := cell_blk hSwB 4; have t5 := cell_blk hSwB 5; go_simp <;> (with_reducible rfl)
          (try simp only [Act.put, pA, pZ, pS])
          refine wpAnyH_take (i := 7) (oi := ?oK2k7) (v := ?vK2k7) ?hiK2k7 (by kernel_rfl) (by kernel_rfl) (by kernel_rfl) (fun _ _ _ h => h) ?hyK2k7 (by assumption) ?restK2k7
          case hiK2k7 => simp only [gA, gS, gZ]; rfl
          case hyK2k7 =>
            refine Or.inl ⟨by rfl, ?_⟩
            intro w hSw; (try dsimp only at hSw); obtain ⟨hSw0, hSwB⟩ := hSw; have t0 := cell_blk hSwB 0; have t1 := cell_blk hSwB 1; have t2 := cell_blk hSwB 2; have t3 := cell_blk hSwB 3; have t4 := cell_blk hSwB 4; have t5 := cell_blk hSwB 5; go_simp <;> (with_reducible rfl)
          (try simp only [Act.put, pA, pZ, pS])
          refine wpAnyH_ready (rs := [8]) (by kernel_rfl) (by simp) ?_
          refine AllReadyH.cons rfl (fun K hK => ?_) AllReadyH.nil
          first
          | refine step_store_mid rfl 34 (.tmp 73) (.tmp 72) rfl g (i * 6) #[.string xn, .bool xs, .bool xa, .bool xi, .string s.d.1.nm, .int .i64 xc] (by simp [Act.eval]) (by simp [Act.eval]) HTH.out size34 (by simp [Value.oneCell']) ?_
          | refine step_store_mid rfl 34 (.tmp 116) (.tmp 115) rfl g (i * 6) #[.string xn, .bool xs, .bool xa, .bool xi, .string s.d.1.nm, .int .i64 xc] (by simp [Act.eval, Act.put]) (by simp [Act.eval, Act.put]) HTH.out size34 (by simp [Value.oneCell']) ?_
          refine (show K _ W7 → _ from fun t => by rw [HW7.out] at t; exact t) (hK.out _ W7 (by exact HKP.out) (fun hHeldC8 => ?_))
          clear hK K
          (try simp only [Act.put, pA])
          refine wpAnyH_done (by kernel_rfl) ?_ _
          refine NoPanic.normal ?_
          go_wp2_with fail
          go_ret
          rw [HRZ.out]
          exact ⟨rfl, _, _, HFN.out, (by first | exact Nat.le_succ _ | exact if_le _ _)⟩
        | false =>
          cases xa with
          | true =>
            go_wp2_with fail
            have HSS : Hid ((fun V => V.cell? ⟨b, 10, none⟩ = some (.slice s.d.2.m.o s.d.2.m.n s.d.2.m.c) ∧ V.heap[W.heap.size]? = some (.cells #[.string xn, .bool xs, .bool true, .bool xi, .string s.d.1.nm, .int .i64 xc] 34 (0, 0))) W9.drew) := Lib.hid ⟨cell_blk (HSC.out.same (Below.refl _ _).drew).blk 10, HX8.out⟩
            refine wp_region_noPanic ?_
            refine wp_region_held_drew (S := (fun V => V.cell? ⟨b, 10, none⟩ = some (.slice s.d.2.m.o s.d.2.m.n s.d.2.m.c) ∧ V.heap[W.heap.size]? = some (.cells #[.string xn, .bool xs, .bool true, .bool xi, .string s.d.1.nm, .int .i64 xc] 34 (0, 0)))) (by kernel_rfl) (by exact HSS.out) (fun hHeld => ?_)
            refine wpAnyH_take (i := 0) (oi := ?oK3k0) (v := ?vK3k0) ?hiK3k0 (by kernel_rfl) (by kernel_rfl) (by kernel_rfl) (fun _ _ _ h => h) ?hyK3k0 (by assumption) ?restK3k0
            case hiK3k0 => simp only [gA, gZ]; rfl
            case hyK3k0 =>
              refine Or.inl ⟨by rfl, ?_⟩
              intro w hSw; (try dsimp only at hSw); obtain ⟨hSw0, hSwB⟩ := hSw; have t0 := cell_blk hSwB 0; have t1 := cell_blk hSwB 1; have t2 := cell_blk hSwB 2; have t3 := cell_blk hSwB 3; have t4 := cell_blk hSwB 4; have t5 := cell_blk hSwB 5; go_simp <;> (with_reducible rfl)
            (try simp only [Act.put, pA, pZ, pS])
            refine wpAnyH_take (i := 1) (oi := ?oK3k1) (v := ?vK3k1) ?hiK3k1 (by kernel_rfl) (by kernel_rfl) (by kernel_rfl) (fun _ _ _ h => h) ?hyK3k1 (by assumption) ?restK3k1
            case hiK3k1 => simp only [gA, gS, gZ]; rfl
            case hyK3k1 =>
              refine Or.inl ⟨by rfl, ?_⟩
              intro w hSw; (try dsimp only at hSw); obtain ⟨hSw0, hSwB⟩ := hSw; have t0 := cell_blk hSwB 0; have t1 := cell_blk hSwB 1; have t2 := cell_blk hSwB 2; have t3 := cell_blk hSwB 3; have t4 := cell_blk hSwB 4; have t5 := cell_blk hSwB 5; go_simp <;> (with_reducible rfl)
            (try simp only [Act.put, pA, pZ, pS])
            refine wpAnyH_take (i := 2) (oi := ?oK3k2) (v := ?vK3k2) ?hiK3k2 (by kernel_rfl) (by kernel_rfl) (by kernel_rfl) (fun _ _ _ h => h) ?hyK3k2 (by assumption) ?restK3k2
            case hiK3k2 => simp only [gA, gS, gZ]; rfl
            case hyK3k2 =>
              refine Or.inl ⟨by rfl, ?_⟩
              intro w hSw; (try dsimp only at hSw); obtain ⟨hSw0, hSwB⟩ := hSw; have t0 := cell_blk hSwB 0; have t1 := cell_blk hSwB 1; have t2 := cell_blk hSwB 2; have t3 := cell_blk hSwB 3; have t4 := cell_blk hSwB 4; have t5 := cell_blk hSwB 5; go_simp <;> (with_reducible rfl)
            (try simp only [Act.put, pA, pZ, pS])
            refine wpAnyH_take (i := 3) (oi := ?oK3k3) (v := ?vK3k3) ?hiK3k3 (by kernel_rfl) (by kernel_rfl) (by kernel_rfl) (fun _ _ _ h => h) ?hyK3k3 (by assumption) ?restK3k3
            case hiK3k3 => simp only [gA, gS, gZ]; rfl
            case hyK3k3 =>
              refine Or.inl ⟨by rfl, ?_⟩
              intro w hSw; (try dsimp only at hSw); obtain ⟨hSw0, hSwB⟩ := hSw; have t0 := cell_blk hSwB 0; have t1 := cell_blk hSwB 1; have t2 := cell_blk hSwB 2; have t3 := cell_blk hSwB 3; have t4 := cell_blk hSwB 4; have t5 := cell_blk hSwB 5; go_simp <;> (with_reducible rfl)
            (try simp only [Act.put, pA, pZ, pS])
            refine wpAnyH_take (i := 4) (oi := ?oK3k4) (v := undef) ?hiK3k4 (by kernel_rfl) (by kernel_rfl) (by kernel_rfl) (fun _ _ _ h => h) ?hyK3k4 (by assumption) ?restK3k4
            case hiK3k4 => simp only [gA, gS, gZ]; rfl
            case hyK3k4 => exact Or.inr ⟨by rfl, rfl⟩
            (try simp only [Act.put, pA, pZ, pS])
            refine wpAnyH_take (i := 5) (oi := ?oK3k5) (v := undef) ?hiK3k5 (by kernel_rfl) (by kernel_rfl) (by kernel_rfl) (fun _ _ _ h => h) ?hyK3k5 (by assumption) ?restK3k5
            case hiK3k5 => simp only [gA, gS, gZ]; rfl
            case hyK3k5 => exact Or.inr ⟨by rfl, rfl⟩
            (try simp only [Act.put, pA, pZ, pS])
            refine wpAnyH_take (i := 6) (oi := ?oK3k6) (v := undef) ?hiK3k6 (by kernel_rfl) (by kernel_rfl) (by kernel_rfl) (fun _ _ _ h => h) ?hyK3k6 (by assumption) ?restK3k6
            case hiK3k6 => simp only [gA, gS, gZ]; rfl
            case hyK3k6 => exact Or.inr ⟨by rfl, rfl⟩
            (try simp only [Act.put, pA, pZ, pS])
            refine wpAnyH_take (i := 7) (oi := ?oK3k7) (v := undef) ?hiK3k7 (by kernel_rfl) (by kernel_rfl) (by kernel_rfl) (fun _ _ _ h => h) ?hyK3k7 (by assumption) ?restK3k7
            case hiK3k7 => simp only [gA, gS, gZ]; rfl
            case hyK3k7 => exact Or.inr ⟨by rfl, rfl⟩
            (try simp only [Act.put, pA, pZ, pS])
            refine wpAnyH_take (i := 8) (oi := ?oK3k8) (v := undef) ?hiK3k8 (by kernel_rfl) (by kernel_rfl) (by kernel_rfl) (fun _ _ _ h => h) ?hyK3k8 (by assumption) ?restK3k8
            case hiK3k8 => simp only [gA, gS, gZ]; rfl
            case hyK3k8 => exact Or.inr ⟨by rfl, rfl⟩
            (try simp only [Act.put, pA, pZ, pS])
            refine wpAnyH_take (i := 9) (oi := ?oK3k9) (v := undef) ?hiK3k9 (by kernel_rfl) (by kernel_rfl) (by kernel_rfl) (fun _ _ _ h => h) ?hyK3k9 (by assumption) ?restK3k9
            case hiK3k9 => simp only [gA, gS, gZ]; rfl
            case hyK3k9 => exact Or.inr ⟨by rfl, rfl⟩
            (try simp only [Act.put, pA, pZ, pS])
            refine wpAnyH_take (i := 10) (oi := ?oK3k10) (v := undef) ?hiK3k10 (by kernel_rfl) (by kernel_rfl) (by kernel_rfl) (fun _ _ _ h => h) ?hyK3k10 (by assumption) ?restK3k10
            case hiK3k10 => simp only [gA, gS, gZ]; rfl
            case hyK3k10 => exact Or.inr ⟨by rfl, rfl⟩
            (try simp only [Act.put, pA, pZ, pS])
            refine wpAnyH_take (i := 11) (oi := ?oK3k11) (v := undef) ?hiK3k11 (by kernel_rfl) (by kernel_rfl) (by kernel_rfl) (fun _ _ _ h => h) ?hyK3k11 (by assumption) ?restK3k11
            case hiK3k11 => simp only [gA, gS, gZ]; rfl
            case hyK3k11 => exact Or.inr ⟨by rfl, rfl⟩
            (try simp only [Act.put, pA, pZ, pS])
            refine wpAnyH_take (i := 12) (oi := ?oK3k12) (v := undef) ?hiK3k12 (by kernel_rfl) (by kernel_rfl) (by kernel_rfl) (fun _ _ _ h => h) ?hyK3k12 (by assumption) ?restK3k12
            case hiK3k12 => simp only [gA, gS, gZ]; rfl
            case hyK3k12 => exact Or.inr ⟨by rfl, rfl⟩
            (try simp only [Act.put, pA, pZ, pS])
            refine wpAnyH_take (i := 13) (oi := ?oK3k13) (v := ?vK3k13) ?hiK3k13 (by kernel_rfl) (by kernel_rfl) (by kernel_rfl) (fun _ _ _ h => h) ?hyK3k13 (by assumption) ?restK3k13
            case hiK3k13 => simp only [gA, gS, gZ]; rfl
            case hyK3k13 =>
              refine Or.inl ⟨by rfl, ?_⟩
              intro w hSw; (try dsimp only at hSw); obtain ⟨hSw0, hSwB⟩ := hSw; have t0 := cell_blk hSwB 0; have t1 := cell_blk hSwB 1; have t2 := cell_blk hSwB 2; have t3 := cell_blk hSwB 3; have t4 := cell_blk hSwB 4; have t5 := cell_blk hSwB 5; go_simp <;> (with_reducible rfl)
            (try simp only [Act.put, pA, pZ, pS])
            refine wpAnyH_take (i := 14) (oi := ?oK3k14) (v := ?vK3k14) ?hiK3k14 (by kernel_rfl) (by kernel_rfl) (by kernel_rfl) (fun _ _ _ h => h) ?hyK3k14 (by assumption) ?restK3k14
            case hiK3k14 => simp only [gA, gS, gZ]; rfl
            case hyK3k14 =>
              refine Or.inl ⟨by rfl, ?_⟩
              intro w hSw; (try dsimp only at hSw); obtain ⟨hSw0, hSwB⟩ := hSw; have t0 := cell_blk hSwB 0; have t1 := cell_blk hSwB 1; have t2 := cell_blk hSwB 2; have t3 := cell_blk hSwB 3; have t4 := cell_blk hSwB 4; have t5 := cell_blk hSwB 5; go_simp <;> (with_reducible rfl)
            (try simp only [Act.put, pA, pZ, pS])
            refine wpAnyH_done (by kernel_rfl) ?_ _
            refine NoPanic.normal ?_
            have HRZ : Hid (r = .ok (s.ms, s.G)) := Lib.hid HRE.out
            go_wp2_with fail
            go_ret
            rw [HRZ.out]
            exact ⟨rfl, _, _, HSC.out.same (Below.refl _ _).drew, (by first | exact Nat.le_succ _ | exact if_le _ _)⟩
          | false =>
            go_wp2_with fail
            have HSS : Hid ((fun V => V.cell? ⟨b, 10, none⟩ = some (.slice s.d.2.m.o s.d.2.m.n s.d.2.m.c) ∧ V.heap[W.heap.size]? = some (.cells #[.string xn, .bool xs, .bool false, .bool xi, .string s.d.1.nm, .int .i64 xc] 34 (0, 0))) W9.drew) := Lib.hid ⟨cell_blk (HSC.out.same (Below.refl _ _).drew).blk 10, HX8.out⟩
            have HPL := Lib.hid (place_mt (w := W9.drew) xn (dm_at (HSC.out.same (Below.refl _ _).drew).own) HDM.out)
            rw [← HZ.out] at HPL
            refine wp_region_noPanic ?_
            refine wp_region_held_drew (S := (fun V => V.cell? ⟨b, 10, none⟩ = some (.slice s.d.2.m.o s.d.2.m.n s.d.2.m.c) ∧ V.heap[W.heap.size]? = some (.cells #[.string xn, .bool xs, .bool false, .bool xi, .string s.d.1.nm, .int .i64 xc] 34 (0, 0)))) (by kernel_rfl) (by exact HSS.out) (fun hHeld => ?_)
            refine wpAnyH_take (i := 0) (oi := ?oK4k0) (v := ?vK4k0) ?hiK4k0 (by kernel_rfl) (by kernel_rfl) (by kernel_rfl) (fun _ _ _ h => h) ?hyK4k0 (by assumption) ?restK4k0
            case hiK4k0 => simp only [gA, gZ]; rfl
            case hyK4k0 =>
              refine Or.inl ⟨by rfl, ?_⟩
              intro w hSw; (try dsimp only at hSw); obtain ⟨hSw0, hSwB⟩ := hSw; have t0 := cell_blk hSwB 0; have t1 := cell_blk hSwB 1; have t2 := cell_blk hSwB 2; have t3 := cell_blk hSwB 3; have t4 := cell_blk hSwB 4; have t5 := cell_blk hSwB 5; go_simp <;> (with_reducible rfl)
            (try simp only [Act.put, pA, pZ, pS])
            refine wpAnyH_take (i := 1) (oi := ?oK4k1) (v := ?vK4k1) ?hiK4k1 (by kernel_rfl) (by kernel_rfl) (by kernel_rfl) (fun _ _ _ h => h) ?hyK4k1 (by assumption) ?restK4k1
            case hiK4k1 => simp only [gA, gS, gZ]; rfl
            case hyK4k1 =>
              refine Or.inl ⟨by rfl, ?_⟩
              intro w hSw; (try dsimp only at hSw); obtain ⟨hSw0, hSwB⟩ := hSw; have t0 := cell_blk hSwB 0; have t1 := cell_blk hSwB 1; have t2 := cell_blk hSwB 2; have t3 := cell_blk hSwB 3; have t4 := cell_blk hSwB 4; have t5 := cell_blk hSwB 5; go_simp <;> (with_reducible rfl)
            (try simp only [Act.put, pA, pZ, pS])
            refine wpAnyH_take (i := 2) (oi := ?oK4k2) (v := ?vK4k2) ?hiK4k2 (by kernel_rfl) (by kernel_rfl) (by kernel_rfl) (fun _ _ _ h => h) ?hyK4k2 (by assumption) ?restK4k2
            case hiK4k2 => simp only [gA, gS, gZ]; rfl
            case hyK4k2 =>
              refine Or.inl ⟨by rfl, ?_⟩
              intro w hSw; (try dsimp only at hSw); obtain ⟨hSw0, hSwB⟩ := hSw; have t0 := cell_blk hSwB 0; have t1 := cell_blk hSwB 1; have t2 := cell_blk hSwB 2; have t3 := cell_blk hSwB 3; have t4 := cell_blk hSwB 4; have t5 := cell_blk hSwB 5; go_simp <;> (with_reducible rfl)
            (try simp only [Act.put, pA, pZ, pS])
            refine wpAnyH_take (i := 3) (oi := ?oK4k3) (v := ?vK4k3) ?hiK4k3 (by kernel_rfl) (by kernel_rfl) (by kernel_rfl) (fun _ _ _ h => h) ?hyK4k3 (by assumption) ?restK4k3
            case hiK4k3 => simp only [gA, gS, gZ]; rfl
            case hyK4k3 =>
              refine Or.inl ⟨by rfl, ?_⟩
              intro w hSw; (try dsimp only at hSw); obtain ⟨hSw0, hSwB⟩ := hSw; have t0 := cell_blk hSwB 0; have t1 := cell_blk hSwB 1; have t2 := cell_blk hSwB 2; have t3 := cell_blk hSwB 3; have t4 := cell_blk hSwB 4; have t5 := cell_blk hSwB 5; go_simp <;> (with_reducible rfl)
            (try simp only [Act.put, pA, pZ, pS])
            refine wpAnyH_take (i := 4) (oi := ?oK4k4) (v := ?vK4k4) ?hiK4k4 (by kernel_rfl) (by kernel_rfl) (by kernel_rfl) (fun _ _ _ h => h) ?hyK4k4 (by assumption) ?restK4k4
            case hiK4k4 => simp only [gA, gS, gZ]; rfl
            case hyK4k4 =>
              refine Or.inl ⟨by rfl, ?_⟩
              intro w hSw; (try dsimp only at hSw); obtain ⟨hSw0, hSwB⟩ := hSw; have t0 := cell_blk hSwB 0; have t1 := cell_blk hSwB 1; have t2 := cell_blk hSwB 2; have t3 := cell_blk hSwB 3; have t4 := cell_blk hSwB 4; have t5 := cell_blk hSwB 5; go_simp <;> (with_reducible rfl)
            (try simp only [Act.put, pA, pZ, pS])
            refine wpAnyH_take (i := 5) (oi := ?oK4k5) (v := ?vK4k5) ?hiK4k5 (by kernel_rfl) (by kernel_rfl) (by kernel_rfl) (fun _ _ _ h => h) ?hyK4k5 (by assumption) ?restK4k5
            case hiK4k5 => simp only [gA, gS, gZ]; rfl
            case hyK4k5 =>
              refine Or.inl ⟨by rfl, ?_⟩
              intro w hSw; (try dsimp only at hSw); obtain ⟨hSw0, hSwB⟩ := hSw; have t0 := cell_blk hSwB 0; have t1 := cell_blk hSwB 1; have t2 := cell_blk hSwB 2; have t3 := cell_blk hSwB 3; have t4 := cell_blk hSwB 4; have t5 := cell_blk hSwB 5; go_simp <;> (with_reducible rfl)
            (try simp only [Act.put, pA, pZ, pS])
            refine wpAnyH_take (i := 6) (oi := ?oK4k6) (v := ?vK4k6) ?hiK4k6 (by kernel_rfl) (by kernel_rfl) (by kernel_rfl) (fun _ _ _ h => h) ?hyK4k6 (by assumption) ?restK4k6
            case hiK4k6 => simp only [gA, gS, gZ]; rfl
            case hyK4k6 =>
              refine Or.inl ⟨by rfl, ?_⟩
              intro w hSw; (try dsimp only at hSw); obtain ⟨hSw0, hSwB⟩ := hSw; have t0 := cell_blk hSwB 0; have t1 := cell_blk hSwB 1; have t2 := cell_blk hSwB 2; have t3 := cell_blk hSwB 3; have t4 := cell_blk hSwB 4; have t5 := cell_blk hSwB 5; go_simp <;> (with_reducible rfl)
            (try simp only [Act.put, pA, pZ, pS])
            refine wpAnyH_take (i := 7) (oi := ?oK4k7) (v := ?vK4k7) ?hiK4k7 (by kernel_rfl) (by kernel_rfl) (by kernel_rfl) (fun _ _ _ h => h) ?hyK4k7 (by assumption) ?restK4k7
            case hiK4k7 => simp only [gA, gS, gZ]; rfl
            case hyK4k7 =>
              refine Or.inl ⟨by rfl, ?_⟩
              intro w hSw; (try dsimp only at hSw); obtain ⟨hSw0, hSwB⟩ := hSw; have t0 := cell_blk hSwB 0; have t1 := cell_blk hSwB 1; have t2 := cell_blk hSwB 2; have t3 := cell_blk hSwB 3; have t4 := cell_blk hSwB 4; have t5 := cell_blk hSwB 5; go_simp <;> (with_reducible rfl)
            (try simp only [Act.put, pA, pZ, pS])
            refine wpAnyH_take (i := 8) (oi := ?oK4k8) (v := ?vK4k8) ?hiK4k8 (by kernel_rfl) (by kernel_rfl) (by kernel_rfl) (fun _ _ _ h => h) ?hyK4k8 (by assumption) ?restK4k8
            case hiK4k8 => simp only [gA, gS, gZ]; rfl
            case hyK4k8 =>
              refine Or.inl ⟨by rfl, ?_⟩
              intro w hSw; (try dsimp only at hSw); obtain ⟨hSw0, hSwB⟩ := hSw; have t0 := cell_blk hSwB 0; have t1 := cell_blk hSwB 1; have t2 := cell_blk hSwB 2; have t3 := cell_blk hSwB 3; have t4 := cell_blk hSwB 4; have t5 := cell_blk hSwB 5; go_simp <;> (with_reducible rfl)
            (try simp only [Act.put, pA, pZ, pS])
            refine wpAnyH_take (i := 9) (oi := ?oK4k9) (v := ?vK4k9) ?hiK4k9 (by kernel_rfl) (by kernel_rfl) (by kernel_rfl) (fun _ _ _ h => h) ?hyK4k9 (by assumption) ?restK4k9
            case hiK4k9 => simp only [gA, gS, gZ]; rfl
            case hyK4k9 =>
              refine Or.inl ⟨by rfl, ?_⟩
              intro w hSw; (try dsimp only at hSw); obtain ⟨hSw0, hSwB⟩ := hSw; have t0 := cell_blk hSwB 0; have t1 := cell_blk hSwB 1; have t2 := cell_blk hSwB 2; have t3 := cell_blk hSwB 3; have t4 := cell_blk hSwB 4; have t5 := cell_blk hSwB 5; go_simp <;> (with_reducible rfl)
            (try simp only [Act.put, pA, pZ, pS])
            refine wpAnyH_take (i := 10) (oi := ?oK4k10) (v := ?vK4k10) ?hiK4k10 (by kernel_rfl) (by kernel_rfl) (by kernel_rfl) (fun _ _ _ h => h) ?hyK4k10 (by assumption) ?restK4k10
            case hiK4k10 => simp only [gA, gS, gZ]; rfl
            case hyK4k10 =>
              refine Or.inl ⟨by rfl, ?_⟩
              intro w hSw; (try dsimp only at hSw); obtain ⟨hSw0, hSwB⟩ := hSw; have t0 := cell_blk hSwB 0; have t1 := cell_blk hSwB 1; have t2 := cell_blk hSwB 2; have t3 := cell_blk hSwB 3; have t4 := cell_blk hSwB 4; have t5 := cell_blk hSwB 5; go_simp <;> (with_reducible rfl)
            (try simp only [Act.put, pA, pZ, pS])
            refine wpAnyH_ready (rs := [11]) (by kernel_rfl) (by simp) ?_
            refine AllReadyH.cons rfl (fun K hK => ?_) AllReadyH.nil
            go_simp
            refine HPL.out.mono ?_
            rintro _ w4 ⟨rfl, hb⟩
            have HD4 := Lib.hid ((Below.refl _ _).drew.trans hb)
            have HSF : Hid (LkIs w0 w4 b s ∧ (fun V => V.cell? ⟨b, 10, none⟩ = some (.slice s.d.2.m.o s.d.2.m.n s.d.2.m.c) ∧ V.heap[W.heap.size]? = some (.cells #[.string xn, .bool xs, .bool false, .bool xi, .string s.d.1.nm, .int .i64 xc] 34 (0, 0))) w4) := Lib.hid ⟨HSC.out.same HD4.out, cell_blk (HSC.out.same HD4.out).blk 10, (Mod.of_below (F := fun _ => False) HD4.out).blk HX8.out (fun x => x)⟩
            clear hb
            refine hK.out _ _ HSF.out.2 (fun hHeldC11 => ?_)
            clear hK K
            (try simp only [Act.put, pA, pZ, pS])
            refine wpAnyH_take (i := 12) (oi := ?oK4k12) (v := ?vK4k12) ?hiK4k12 (by kernel_rfl) (by kernel_rfl) (by kernel_rfl) (fun _ _ _ h => h) ?hyK4k12 (by assumption) ?restK4k12
            case hiK4k12 => simp only [gA, gS, gZ]; rfl
            case hyK4k12 =>
              refine Or.inl ⟨by rfl, ?_⟩
              intro w hSw; (try dsimp only at hSw); obtain ⟨hSw0, hSwB⟩ := hSw; have t0 := cell_blk hSwB 0; have t1 := cell_blk hSwB 1; have t2 := cell_blk hSwB 2; have t3 := cell_blk hSwB 3; have t4 := cell_blk hSwB 4; have t5 := cell_blk hSwB 5; go_simp <;> (with_reducible rfl)
            (try simp only [Act.put, pA, pZ, pS])
            refine wpAnyH_take (i := 13) (oi := ?oK4k13) (v := ?vK4k13) ?hiK4k13 (by kernel_rfl) (by kernel_rfl) (by kernel_rfl) (fun _ _ _ h => h) ?hyK4k13 (by assumption) ?restK4k13
            case hiK4k13 => simp only [gA, gS, gZ]; rfl
            case hyK4k13 =>
              refine Or.inl ⟨by rfl, ?_⟩
              intro w hSw; (try dsimp only at hSw); obtain ⟨hSw0, hSwB⟩ := hSw; have t0 := cell_blk hSwB 0; have t1 := cell_blk hSwB 1; have t2 := cell_blk hSwB 2; have t3 := cell_blk hSwB 3; have t4 := cell_blk hSwB 4; have t5 := cell_blk hSwB 5; go_simp <;> (with_reducible rfl)
            (try simp only [Act.put, pA, pZ, pS])
            refine wpAnyH_take (i := 14) (oi := ?oK4k14) (v := ?vK4k14) ?hiK4k14 (by kernel_rfl) (by kernel_rfl) (by kernel_rfl) (fun _ _ _ h => h) ?hyK4k14 (by assumption) ?restK4k14
            case hiK4k14 => simp only [gA, gS, gZ]; rfl
            case hyK4k14 =>
              refine Or.inl ⟨by rfl, ?_⟩
              intro w hSw; (try dsimp only at hSw); obtain ⟨hSw0, hSwB⟩ := hSw; have t0 := cell_blk hSwB 0; have t1 := cell_blk hSwB 1; have t2 := cell_blk hSwB 2; have t3 := cell_blk hSwB 3; have t4 := cell_blk hSwB 4; have t5 := cell_blk hSwB 5; go_simp <;> (with_reducible rfl)
            (try simp only [Act.put, pA, pZ, pS])
            refine wpAnyH_done (by kernel_rfl) ?_ _
            refine NoPanic.normal ?_
            cases z with
            | none =>
              have HRZ : Hid (r = .error 21) := Lib.hid HRE.out
              have hneg : idxI none < 0 := by decide
              go_wp2_with fail
              go_ret
              rw [HRZ.out]
              exact ⟨rfl, _, HSF.out.1, rfl, rfl⟩
            | some k =>
              have HRZ : Hid (r = .ok (s.ms, s.G)) := Lib.hid HRE.out
              have hii2 : idxI (some k) = (k : Int) := rfl
              have hnn2 : ¬ (k : Int) < 0 := by omega
              go_wp2_with fail
              go_ret
              rw [HRZ.out]
              exact ⟨rfl, _, _, HSF.out.1, (by first | exact Nat.le_succ _ | exact if_le _ _)⟩
      | false =>
        have HRZ : Hid (r = .ok (s.ms.set i ⟨xn, xs, xa, xi, s.d.1.nm, xc⟩, s.G)) := Lib.hid HRE.out
        go_wp2_with fail
        clear v0 t0 v1 t1 v2 t2 v3 t3 v4 t4 v5 t5
        have HS10 := Lib.hid (HSC.out.same (Below.refl _ _).drew)
        have HX10 : Hid (W9.drew.heap[W.heap.size]? = some (.cells #[.string xn, .bool xs, .bool xa, .bool xi, .string s.d.1.nm, .int .i64 xc] 34 (0, 0))) := Lib.hid HX8.out
        have HOQ : Hid (Owns W9.drew 34 6 (.slice (some ⟨g, 0, none⟩) s.ms.length cp) (s.ms.map MtP.row)) := Lib.hid (by
          have h2 : Owns W9.drew 34 6 (.slice s.m.o s.m.n s.m.c) (s.ms.map MtP.row) := HS10.out.own.om
          rw [HGE.out.1] at h2
          exact h2)
        have HPU := Lib.hid (owns_put6 HOQ.out HGE.out.2 (u0 := .string xn) (u1 := .bool xs) (u2 := .bool xa) (u3 := .bool xi) (u4 := .string s.d.1.nm) (u5 := .int .i64 xc) rfl rfl rfl rfl rfl rfl)
        have h9 : W9.drew.cell? ⟨b, 21, none⟩ = some (.slice s.m.o s.m.n s.m.c) := cell_blk HS10.out.blk 21
        rw [HGE.out.1] at h9
        have HSS : Hid ((fun V => V.cell? ⟨b, 21, none⟩ = some (.slice (some ⟨g, 0, none⟩) s.ms.length cp) ∧ V.heap[W.heap.size]? = some (.cells #[.string xn, .bool xs, .bool xa, .bool xi, .string s.d.1.nm, .int .i64 xc] 34 (0, 0))) W9.drew) := Lib.hid ⟨h9, HX10.out⟩
        have P9 : Hid (W9.drew.cell? ⟨g, i * 6, none⟩ = some (.string yn) ∧ W9.drew.cell? ⟨g, i * 6 + 1, none⟩ = some (.bool ys) ∧ W9.drew.cell? ⟨g, i * 6 + 2, none⟩ = some (.bool ya) ∧ W9.drew.cell? ⟨g, i * 6 + 3, none⟩ = some (.bool yi) ∧ W9.drew.cell? ⟨g, i * 6 + 4, none⟩ = some (.string yf) ∧ W9.drew.cell? ⟨g, i * 6 + 5, none⟩ = some (.int .i64 yc)) := Lib.hid (by
          obtain ⟨a9, c9, hv9, -, -, hl9, -, -⟩ := HOQ.out.any
          simp only [Value.slice.injEq] at hv9
          obtain ⟨rfl, -, -⟩ := hv9
          obtain ⟨g9, o9, e9, -, -, hc9⟩ := hl9 i _ HGE.out.2
          cases e9
          exact ⟨by simpa using hc9 0 _ rfl, by simpa using hc9 1 _ rfl, by simpa using hc9 2 _ rfl, by simpa using hc9 3 _ rfl, by simpa using hc9 4 _ rfl, by simpa using hc9 5 _ rfl⟩)
        have p0 : W9.drew.cell? ⟨g, i * 6, none⟩ = some (.string yn) := P9.out.1
        have p1 : W9.drew.cell? ⟨g, i * 6 + 1, none⟩ = some (.bool ys) := P9.out.2.1
        have p2 : W9.drew.cell? ⟨g, i * 6 + 2, none⟩ = some (.bool ya) := P9.out.2.2.1
        have p3 : W9.drew.cell? ⟨g, i * 6 + 3, none⟩ = some (.bool yi) := P9.out.2.2.2.1
        have p4 : W9.drew.cell? ⟨g, i * 6 + 4, none⟩ = some (.string yf) := P9.out.2.2.2.2.1
        have p5 : W9.drew.cell? ⟨g, i * 6 + 5, none⟩ = some (.int .i64 yc) := P9.out.2.2.2.2.2
        have f0 := HOQ.out.free (g := g) rfl (i * 6)
        have f1 := HOQ.out.free (g := g) rfl (i * 6 + 1)
        have f2 := HOQ.out.free (g := g) rfl (i * 6 + 2)
        have f3 := HOQ.out.free (g := g) rfl (i * 6 + 3)
        have f4 := HOQ.out.free (g := g) rfl (i * 6 + 4)
        have f5 := HOQ.out.free (g := g) rfl (i * 6 + 5)
        have HTH : Hid (W9.drew.there g (i * 6) 6) := Lib.hid (by
          intro j hj
          have h6 : j = 0 ∨ j = 1 ∨ j = 2 ∨ j = 3 ∨ j = 4 ∨ j = 5 := by omega
          rcases h6 with rfl | rfl | rfl | rfl | rfl | rfl
          · exact ⟨Option.isSome_iff_exists.2 ⟨_, p0⟩, f0⟩
          · exact ⟨Option.isSome_iff_exists.2 ⟨_, p1⟩, f1⟩
          · exact ⟨Option.isSome_iff_exists.2 ⟨_, p2⟩, f2⟩
          · exact ⟨Option.isSome_iff_exists.2 ⟨_, p3⟩, f3⟩
          · exact ⟨Option.isSome_iff_exists.2 ⟨_, p4⟩, f4⟩
          · exact ⟨Option.isSome_iff_exists.2 ⟨_, p5⟩, f5⟩)
        clear p0 f0 p1 f1 p2 f2 p3 f3 p4 f4 p5 f5
        have HKP : Hid ((fun V => V.cell? ⟨b, 21, none⟩ = some (.slice (some ⟨g, 0, none⟩) s.ms.length cp) ∧ V.heap[W.heap.size]? = some (.cells #[.string xn, .bool xs, .bool xa, .bool xi, .string s.d.1.nm, .int .i64 xc] 34 (0, 0))) ((((((W9.drew.setCell ⟨g, i * 6, none⟩ (.string xn)).setCell ⟨g, i * 6 + 1, none⟩ (.bool xs)).setCell ⟨g, i * 6 + 2, none⟩ (.bool xa)).setCell ⟨g, i * 6 + 3, none⟩ (.bool xi)).setCell ⟨g, i * 6 + 4, none⟩ (.string s.d.1.nm)).setCell ⟨g, i * 6 + 5, none⟩ (.int .i64 xc))) := Lib.hid (by
          have hm := (Mod.refl (fun j => j = g) W9.drew).grown HPU.out.2 (fun j e _ => (Option.some.inj e).symm)
          have hgb : b ≠ g := fun e => by obtain ⟨c9, h9⟩ := own_ty HOQ.out (k := g) rfl; rw [← e, HS10.out.blk] at h9; cases h9
          have hgx : W.heap.size ≠ g := fun e => HBQ.out (by rw [HGE.out.1]; show some g = _; rw [e])
          have h8 := cell_blk (hm.blk HS10.out.blk hgb) 21
          have h8 : ((((((W9.drew.setCell ⟨g, i * 6, none⟩ (.string xn)).setCell ⟨g, i * 6 + 1, none⟩ (.bool xs)).setCell ⟨g, i * 6 + 2, none⟩ (.bool xa)).setCell ⟨g, i * 6 + 3, none⟩ (.bool xi)).setCell ⟨g, i * 6 + 4, none⟩ (.string s.d.1.nm)).setCell ⟨g, i * 6 + 5, none⟩ (.int .i64 xc)).cell? ⟨b, 21, none⟩ = some (.slice s.m.o s.m.n s.m.c) := h8
          rw [HGE.out.1] at h8
          exact ⟨h8, hm.blk HX10.out hgx⟩)
        have HFN : Hid (LkIs w0 ((((((W9.drew.setCell ⟨g, i * 6, none⟩ (.string xn)).setCell ⟨g, i * 6 + 1, none⟩ (.bool xs)).setCell ⟨g, i * 6 + 2, none⟩ (.bool xa)).setCell ⟨g, i * 6 + 3, none⟩ (.bool xi)).setCell ⟨g, i * 6 + 4, none⟩ (.string s.d.1.nm)).setCell ⟨g, i * 6 + 5, none⟩ (.int .i64 xc)) b { s with ms := s.ms.set i ⟨xn, xs, xa, xi, s.d.1.nm, xc⟩ }) := Lib.hid (by
          have h1 := HPU.out.1
          have h2 := HPU.out.2
          have hr : (s.ms.map MtP.row).set i [.string xn, .bool xs, .bool xa, .bool xi, .string s.d.1.nm, .int .i64 xc] = (s.ms.set i ⟨xn, xs, xa, xi, s.d.1.nm, xc⟩).map MtP.row := by rw [List.map_set]; rfl
          rw [hr] at h1
          refine HS10.out.turn_m (l := s.ms.set i ⟨xn, xs, xa, xi, s.d.1.nm, xc⟩) ?_ ?_
          · show Owns _ 34 6 (.slice s.m.o s.m.n s.m.c) _
            rw [HGE.out.1]
            exact h1
          · show World.grownBy _ _ (Value.slice s.m.o s.m.n s.m.c).ownBlock
            rw [HGE.out.1]
            exact h2)
        obtain ⟨W7, hW7⟩ : ∃ W7, W7 = ((((((W9.drew.setCell ⟨g, i * 6, none⟩ (.string xn)).setCell ⟨g, i * 6 + 1, none⟩ (.bool xs)).setCell ⟨g, i * 6 + 2, none⟩ (.bool xa)).setCell ⟨g, i * 6 + 3, none⟩ (.bool xi)).setCell ⟨g, i * 6 + 4, none⟩ (.string s.d.1.nm)).setCell ⟨g, i * 6 + 5, none⟩ (.int .i64 xc)) := ⟨_, rfl⟩
        rw [← hW7] at HKP HFN
        have HW7 := Lib.hid hW7
        clear hW7
        have HX11 : Hid (W7.heap[W.heap.size]? = some (.cells #[.string xn, .bool xs, .bool xa, .bool xi, .string s.d.1.nm, .int .i64 xc] 34 (0, 0))) := Lib.hid HKP.out.2
        clear h9 HPU P9 HOQ HX10 HS10
        refine wp_region_noPanic ?_
        refine wp_region_held_drew (S := (fun V => V.cell? ⟨b, 21, none⟩ = some (.slice (some ⟨g, 0, none⟩) s.ms.length cp) ∧ V.heap[W.heap.size]? = some (.cells #[.string xn, .bool xs, .bool xa, .bool xi, .string s.d.1.nm, .int .i64 xc] 34 (0, 0)))) (by kernel_rfl) (by exact HSS.out) (fun hHeld => ?_)
        refine wpAnyH_take (i := 0) (oi := ?oK5k0) (v := ?vK5k0) ?hiK5k0 (by kernel_rfl) (by kernel_rfl) (by kernel_rfl) (fun _ _ _ h => h) ?hyK5k0 (by assumption) ?restK5k0
        case hiK5k0 => simp only [gA, gZ]; rfl
        case hyK5k0 =>
          refine Or.inl ⟨by rfl, ?_⟩
          intro w hSw; (try dsimp only at hSw); obtain ⟨hSw0, hSwB⟩ := hSw; have t0 := cell_blk hSwB 0; have t1 := cell_blk hSwB 1; have t2 := cell_blk hSwB 2; have t3 := cell_blk hSwB 3; have t4 := cell_blk hSwB 4; have t5 := cell_blk hSwB 5; go_simp <;> (with_reducible rfl)
        (try simp only [Act.put, pA, pZ, pS])
        refine wpAnyH_take (i := 1) (oi := ?oK5k1) (v := ?vK5k1) ?hiK5k1 (by kernel_rfl) (by kernel_rfl) (by kernel_rfl) (fun _ _ _ h => h) ?hyK5k1 (by assumption) ?restK5k1
        case hiK5k1 => simp only [gA, gS, gZ]; rfl
        case hyK5k1 =>
          refine Or.inl ⟨by rfl, ?_⟩
          intro w hSw; (try dsimp only at hSw); obtain ⟨hSw0, hSwB⟩ := hSw; have t0 := cell_blk hSwB 0; have t1 := cell_blk hSwB 1; have t2 := cell_blk hSwB 2; have t3 := cell_blk hSwB 3; have t4 := cell_blk hSwB 4; have t5 := cell_blk hSwB 5; go_simp <;> (with_reducible rfl)
        (try simp only [Act.put, pA, pZ, pS])
        refine wpAnyH_take (i := 2) (oi := ?oK5k2) (v := ?vK5k2) ?hiK5k2 (by kernel_rfl) (by kernel_rfl) (by kernel_rfl) (fun _ _ _ h => h) ?hyK5k2 (by assumption) ?restK5k2
        case hiK5k2 => simp only [gA, gS, gZ]; rfl
        case hyK5k2 =>
          refine Or.inl ⟨by rfl, ?_⟩
          intro w hSw; (try dsimp only at hSw); obtain ⟨hSw0, hSwB⟩ := hSw; have t0 := cell_blk hSwB 0; have t1 := cell_blk hSwB 1; have t2 := cell_blk hSwB 2; have t3 := cell_blk hSwB 3; have t4 := cell_blk hSwB 4; have t5 := cell_blk hSwB 5; go_simp <;> (with_reducible rfl)
        (try simp only [Act.put, pA, pZ, pS])
        refine wpAnyH_take (i := 3) (oi := ?oK5k3) (v := ?vK5k3) ?hiK5k3 (by kernel_rfl) (by kernel_rfl) (by kernel_rfl) (fun _ _ _ h => h) ?hyK5k3 (by assumption) ?restK5k3
        case hiK5k3 => simp only [gA, gS, gZ]; rfl
        case hyK5k3 =>
          refine Or.inl ⟨by rfl, ?_⟩
          intro w hSw; (try dsimp only at hSw); obtain ⟨hSw0, hSwB⟩ := hSw; have t0 := cell_blk hSwB 0; have t1 := cell_blk hSwB 1; have t2 := cell_blk hSwB 2; have t3 := cell_blk hSwB 3; have t4 := cell_blk hSwB 4; have t5 := cell_blk hSwB 5; go_simp <;> (with_reducible rfl)
        (try simp only [Act.put, pA, pZ, pS])
        refine wpAnyH_take (i := 4) (oi := ?oK5k4) (v := ?vK5k4) ?hiK5k4 (by kernel_rfl) (by kernel_rfl) (by kernel_rfl) (fun _ _ _ h => h) ?hyK5k4 (by assumption) ?restK5k4
        case hiK5k4 => simp only [gA, gS, gZ]; rfl
        case hyK5k4 =>
          refine Or.inl ⟨by rfl, ?_⟩
          intro w hSw; (try dsimp only at hSw); obtain ⟨hSw0, hSwB⟩ := hSw; have t0 := cell_blk hSwB 0; have t1 := cell_blk hSwB 1; have t2 := cell_blk hSwB 2; have t3 := cell_blk hSwB 3; have t4 := cell_blk hSwB 4; have t5 := cell_blk hSwB 5; go_simp <;> (with_reducible rfl)
        (try simp only [Act.put, pA, pZ, pS])
        refine wpAnyH_take (i := 5) (oi := ?oK5k5) (v := ?vK5k5) ?hiK5k5 (by kernel_rfl) (by kernel_rfl) (by kernel_rfl) (fun _ _ _ h => h) ?hyK5k5 (by assumption) ?restK5k5
        case hiK5k5 => simp only [gA, gS, gZ]; rfl
        case hyK5k5 =>
          refine Or.inl ⟨by rfl, ?_⟩
          intro w hSw; (try dsimp only at hSw); obtain ⟨hSw0, hSwB⟩ := hSw; have t0 := cell_blk hSwB 0; have t1 := cell_blk hSwB 1; have t2 := cell_blk hSwB 2; have t3 := cell_blk hSwB 3; have t4 := cell_blk hSwB 4; have t5 := cell_blk hSwB 5; go_simp <;> (with_reducible rfl)
        (try simp only [Act.put, pA, pZ, pS])
        refine wpAnyH_take (i := 6) (oi := ?oK5k6) (v := ?vK5k6) ?hiK5k6 (by kernel_rfl) (by kernel_rfl) (by kernel_rfl) (fun _ _ _ h => h) ?hyK5k6 (by assumption) ?restK5k6
        case hiK5k6 => simp only [gA, gS, gZ]; rfl
        case hyK5k6 =>
          refine Or.inl ⟨by rfl, ?_⟩
          intro w hSw; (try dsimp only at hSw); obtain ⟨hSw0, hSwB⟩ := hSw; have t0 := cell_blk hSwB 0; have t1 := cell_blk hSwB 1; have t2 := cell_blk hSwB 2; have t3 := cell_blk hSwB 3; have t4 := cell_blk hSwB 4; have t5 := cell_blk hSwB 5; go_simp <;> (with_reducible rfl)
        (try simp only [Act.put, pA, pZ, pS])
        refine wpAnyH_take (i := 7) (oi := ?oK5k7) (v := ?vK5k7) ?hiK5k7 (by kernel_rfl) (by kernel_rfl) (by kernel_rfl) (fun _ _ _ h => h) ?hyK5k7 (by assumption) ?restK5k7
        case hiK5k7 => simp only [gA, gS, gZ]; rfl
        case hyK5k7 =>
          refine Or.inl ⟨by rfl, ?_⟩
          intro w hSw; (try dsimp only at hSw); obtain ⟨hSw0, hSwB⟩ := hSw; have t0 := cell_blk hSwB 0; have t1 := cell_blk hSwB 1; have t2 := cell_blk hSwB 2; have t3 := cell_blk hSwB 3; have t4 := cell_blk hSwB 4; have t5 := cell_blk hSwB 5; go_simp <;> (with_reducible rfl)
        (try simp only [Act.put, pA, pZ, pS])
        refine wpAnyH_ready (rs := [8]) (by kernel_rfl) (by simp) ?_
        refine AllReadyH.cons rfl (fun K hK => ?_) AllReadyH.nil
        first
        | refine step_store_mid rfl 34 (.tmp 73) (.tmp 72) rfl g (i * 6) #[.string xn, .bool xs, .bool xa, .bool xi, .string s.d.1.nm, .int .i64 xc] (by simp [Act.eval]) (by simp [Act.eval]) HTH.out size34 (by simp [Value.oneCell']) ?_
        | refine step_store_mid rfl 34 (.tmp 116) (.tmp 115) rfl g (i * 6) #[.string xn, .bool xs, .bool xa, .bool xi, .string s.d.1.nm, .int .i64 xc] (by simp [Act.eval, Act.put]) (by simp [Act.eval, Act.put]) HTH.out size34 (by simp [Value.oneCell']) ?_
        refine (show K _ W7 → _ from fun t => by rw [HW7.out] at t; exact t) (hK.out _ W7 (by exact HKP.out) (fun hHeldC8 => ?_))
        clear hK K
        (try simp only [Act.put, pA])
        refine wpAnyH_done (by kernel_rfl) ?_ _
        refine NoPanic.normal ?_
        go_wp2_with fail
        go_ret
        rw [HRZ.out]
        exact ⟨rfl, _, _, HFN.out, (by first | exact Nat.le_succ _ | exact if_le _ _)⟩
    | false =>
      cases yi with
      | true =>
        have HRZ : Hid (r = .error 19) := Lib.hid HRE.out
        go_wp2_with fail
        go_ret
        rw [HRZ.out]
        exact ⟨rfl, _, HSC.out, rfl, rfl⟩
      | false =>
        cases xs with
        | true =>
          cases ys with
          | true =>
            cases trait with
            | true =>
              cases xa with
              | true =>
                cases ya with
                | true =>
                  have HRZ : Hid (r = .ok (s.ms.set i ⟨xn, true, true, xi, s.d.1.nm, xc⟩, (xn, true) :: s.G)) := Lib.hid HRE.out
                  go_wp2_with fail
                  clear v0 t0 v1 t1 v2 t2 v3 t3 v4 t4 v5 t5
                  have HS10 := Lib.hid (HSC.out.same (Below.refl _ _).drew)
                  have HX10 : Hid (W9.drew.heap[W.heap.size]? = some (.cells #[.string xn, .bool true, .bool true, .bool xi, .string s.d.1.nm, .int .i64 xc] 34 (0, 0))) := Lib.hid HX8.out
                  have HOQ : Hid (Owns W9.drew 34 6 (.slice (some ⟨g, 0, none⟩) s.ms.length cp) (s.ms.map MtP.row)) := Lib.hid (by
                    have h2 : Owns W9.drew 34 6 (.slice s.m.o s.m.n s.m.c) (s.ms.map MtP.row) := HS10.out.own.om
                    rw [HGE.out.1] at h2
                    exact h2)
                  have HPU := Lib.hid (owns_put6 HOQ.out HGE.out.2 (u0 := .string xn) (u1 := .bool true) (u2 := .bool true) (u3 := .bool xi) (u4 := .string s.d.1.nm) (u5 := .int .i64 xc) rfl rfl rfl rfl rfl rfl)
                  have h9 : W9.drew.cell? ⟨b, 21, none⟩ = some (.slice s.m.o s.m.n s.m.c) := cell_blk HS10.out.blk 21
                  rw [HGE.out.1] at h9
                  have HSS : Hid ((fun V => V.cell? ⟨b, 21, none⟩ = some (.slice (some ⟨g, 0, none⟩) s.ms.length cp) ∧ V.heap[W.heap.size]? = some (.cells #[.string xn, .bool true, .bool true, .bool xi, .string s.d.1.nm, .int .i64 xc] 34 (0, 0))) W9.drew) := Lib.hid ⟨h9, HX10.out⟩
                  have P9 : Hid (W9.drew.cell? ⟨g, i * 6, none⟩ = some (.string yn) ∧ W9.drew.cell? ⟨g, i * 6 + 1, none⟩ = some (.bool true) ∧ W9.drew.cell? ⟨g, i * 6 + 2, none⟩ = some (.bool true) ∧ W9.drew.cell? ⟨g, i * 6 + 3, none⟩ = some (.bool false) ∧ W9.drew.cell? ⟨g, i * 6 + 4, none⟩ = some (.string yf) ∧ W9.drew.cell? ⟨g, i * 6 + 5, none⟩ = some (.int .i64 yc)) := Lib.hid (by
                    obtain ⟨a9, c9, hv9, -, -, hl9, -, -⟩ := HOQ.out.any
                    simp only [Value.slice.injEq] at hv9
                    obtain ⟨rfl, -, -⟩ := hv9
                    obtain ⟨g9, o9, e9, -, -, hc9⟩ := hl9 i _ HGE.out.2
                    cases e9
                    exact ⟨by simpa using hc9 0 _ rfl, by simpa using hc9 1 _ rfl, by simpa using hc9 2 _ rfl, by simpa using hc9 3 _ rfl, by simpa using hc9 4 _ rfl, by simpa using hc9 5 _ rfl⟩)
                  have p0 : W9.drew.cell? ⟨g, i * 6, none⟩ = some (.string yn) := P9.out.1
                  have p1 : W9.drew.cell? ⟨g, i * 6 + 1, none⟩ = some (.bool true) := P9.out.2.1
                  have p2 : W9.drew.cell? ⟨g, i * 6 + 2, none⟩ = some (.bool true) := P9.out.2.2.1
                  have p3 : W9.drew.cell? ⟨g, i * 6 + 3, none⟩ = some (.bool false) := P9.out.2.2.2.1
                  have p4 : W9.drew.cell? ⟨g, i * 6 + 4, none⟩ = some (.string yf) := P9.out.2.2.2.2.1
                  have p5 : W9.drew.cell? ⟨g, i * 6 + 5, none⟩ = some (.int .i64 yc) := P9.out.2.2.2.2.2
                  have f0 := HOQ.out.free (g := g) rfl (i * 6)
                  have f1 := HOQ.out.free (g := g) rfl (i * 6 + 1)
                  have f2 := HOQ.out.free (g := g) rfl (i * 6 + 2)
                  have f3 := HOQ.out.free (g := g) rfl (i * 6 + 3)
                  have f4 := HOQ.out.free (g := g) rfl (i * 6 + 4)
                  have f5 := HOQ.out.free (g := g) rfl (i * 6 + 5)
                  have HTH : Hid (W9.drew.there g (i * 6) 6) := Lib.hid (by
                    intro j hj
                    have h6 : j = 0 ∨ j = 1 ∨ j = 2 ∨ j = 3 ∨ j = 4 ∨ j = 5 := by omega
                    rcases h6 with rfl | rfl | rfl | rfl | rfl | rfl
                    · exact ⟨Option.isSome_iff_exists.2 ⟨_, p0⟩, f0⟩
                    · exact ⟨Option.isSome_iff_exists.2 ⟨_, p1⟩, f1⟩
                    · exact ⟨Option.isSome_iff_exists.2 ⟨_, p2⟩, f2⟩
                    · exact ⟨Option.isSome_iff_exists.2 ⟨_, p3⟩, f3⟩
                    · exact ⟨Option.isSome_iff_exists.2 ⟨_, p4⟩, f4⟩
                    · exact ⟨Option.isSome_iff_exists.2 ⟨_, p5⟩, f5⟩)
                  clear p0 f0 p1 f1 p2 f2 p3 f3 p4 f4 p5 f5
                  have HKP : Hid ((fun V => V.cell? ⟨b, 21, none⟩ = some (.slice (some ⟨g, 0, none⟩) s.ms.length cp) ∧ V.heap[W.heap.size]? = some (.cells #[.string xn, .bool true, .bool true, .bool xi, .string s.d.1.nm, .int .i64 xc] 34 (0, 0))) ((((((W9.drew.setCell ⟨g, i * 6, none⟩ (.string xn)).setCell ⟨g, i * 6 + 1, none⟩ (.bool true)).setCell ⟨g, i * 6 + 2, none⟩ (.bool true)).setCell ⟨g, i * 6 + 3, none⟩ (.bool xi)).setCell ⟨g, i * 6 + 4, none⟩ (.string s.d.1.nm)).setCell ⟨g, i * 6 + 5, none⟩ (.int .i64 xc))) := Lib.hid (by
                    have hm := (Mod.refl (fun j => j = g) W9.drew).grown HPU.out.2 (fun j e _ => (Option.some.inj e).symm)
                    have hgb : b ≠ g := fun e => by obtain ⟨c9, h9⟩ := own_ty HOQ.out (k := g) rfl; rw [← e, HS10.out.blk] at h9; cases h9
                    have hgx : W.heap.size ≠ g := fun e => HBQ.out (by rw [HGE.out.1]; show some g = _; rw [e])
                    have h8 := cell_blk (hm.blk HS10.out.blk hgb) 21
                    have h8 : ((((((W9.drew.setCell ⟨g, i * 6, none⟩ (.string xn)).setCell ⟨g, i * 6 + 1, none⟩ (.bool true)).setCell ⟨g, i * 6 + 2, none⟩ (.bool true)).setCell ⟨g, i * 6 + 3, none⟩ (.bool xi)).setCell ⟨g, i * 6 + 4, none⟩ (.string s.d.1.nm)).setCell ⟨g, i * 6 + 5, none⟩ (.int .i64 xc)).cell? ⟨b, 21, none⟩ = some (.slice s.m.o s.m.n s.m.c) := h8
                    rw [HGE.out.1] at h8
                    exact ⟨h8, hm.blk HX10.out hgx⟩)
                  have HFN : Hid (LkIs w0 ((((((W9.drew.setCell ⟨g, i * 6, none⟩ (.string xn)).setCell ⟨g, i * 6 + 1, none⟩ (.bool true)).setCell ⟨g, i * 6 + 2, none⟩ (.bool true)).setCell ⟨g, i * 6 + 3, none⟩ (.bool xi)).setCell ⟨g, i * 6 + 4, none⟩ (.string s.d.1.nm)).setCell ⟨g, i * 6 + 5, none⟩ (.int .i64 xc)) b { s with ms := s.ms.set i ⟨xn, true, true, xi, s.d.1.nm, xc⟩ }) := Lib.hid (by
                    have h1 := HPU.out.1
                    have h2 := HPU.out.2
                    have hr : (s.ms.map MtP.row).set i [.string xn, .bool true, .bool true, .bool xi, .string s.d.1.nm, .int .i64 xc] = (s.ms.set i ⟨xn, true, true, xi, s.d.1.nm, xc⟩).map MtP.row := by rw [List.map_set]; rfl
                    rw [hr] at h1
                    refine HS10.out.turn_m (l := s.ms.set i ⟨xn, true, true, xi, s.d.1.nm, xc⟩) ?_ ?_
                    · show Owns _ 34 6 (.slice s.m.o s.m.n s.m.c) _
                      rw [HGE.out.1]
                      exact h1
                    · show World.grownBy _ _ (Value.slice s.m.o s.m.n s.m.c).ownBlock
                      rw [HGE.out.1]
                      exact h2)
                  obtain ⟨W7, hW7⟩ : ∃ W7, W7 = ((((((W9.drew.setCell ⟨g, i * 6, none⟩ (.string xn)).setCell ⟨g, i * 6 + 1, none⟩ (.bool true)).setCell ⟨g, i * 6 + 2, none⟩ (.bool true)).setCell ⟨g, i * 6 + 3, none⟩ (.bool xi)).setCell ⟨g, i * 6 + 4, none⟩ (.string s.d.1.nm)).setCell ⟨g, i * 6 + 5, none⟩ (.int .i64 xc)) := ⟨_, rfl⟩
                  rw [← hW7] at HKP HFN
                  have HW7 := Lib.hid hW7
                  clear hW7
                  have HX11 : Hid (W7.heap[W.heap.size]? = some (.cells #[.string xn, .bool true, .bool true, .bool xi, .string s.d.1.nm, .int .i64 xc] 34 (0, 0))) := Lib.hid HKP.out.2
                  clear h9 HPU P9 HOQ HX10 HS10
                  refine wp_region_noPanic ?_
                  refine wp_region_held_drew (S := (fun V => V.cell? ⟨b, 21, none⟩ = some (.slice (some ⟨g, 0, none⟩) s.ms.length cp) ∧ V.heap[W.heap.size]? = some (.cells #[.string xn, .bool true, .bool true, .bool xi, .string s.d.1.nm, .int .i64 xc] 34 (0, 0)))) (by kernel_rfl) (by exact HSS.out) (fun hHeld => ?_)
                  refine wpAnyH_take (i := 0) (oi := ?oK7k0) (v := ?vK7k0) ?hiK7k0 (by kernel_rfl) (by kernel_rfl) (by kernel_rfl) (fun _ _ _ h => h) ?hyK7k0 (by assumption) ?restK7k0
                  case hiK7k0 => simp only [gA, gZ]; rfl
                  case hyK7k0 =>
                    refine Or.inl ⟨by rfl, ?_⟩
                    intro w hSw; (try dsimp only at hSw); obtain ⟨hSw0, hSwB⟩ := hSw; have t0 := cell_blk hSwB 0; have t1 := cell_blk hSwB 1; have t2 := cell_blk hSwB 2; have t3 := cell_blk hSwB 3; have t4 := cell_blk hSwB 4; have t5 := cell_blk hSwB 5; go_simp <;> (with_reducible rfl)
                  (try simp only [Act.put, pA, pZ, pS])
                  refine wpAnyH_take (i := 1) (oi := ?oK7k1) (v := ?vK7k1) ?hiK7k1 (by kernel_rfl) (by kernel_rfl) (by kernel_rfl) (fun _ _ _ h => h) ?hyK7k1 (by assumption) ?restK7k1
                  case hiK7k1 => simp only [gA, gS, gZ]; rfl
                  case hyK7k1 =>
                    refine Or.inl ⟨by rfl, ?_⟩
                    intro w hSw; (try dsimp only at hSw); obtain ⟨hSw0, hSwB⟩ := hSw; have t0 := cell_blk hSwB 0; have t1 := cell_blk hSwB 1; have t2 := cell_blk hSwB 2; have t3 := cell_blk hSwB 3; have t4 := cell_blk hSwB 4; have t5 := cell_blk hSwB 5; go_simp <;> (with_reducible rfl)
                  (try simp only [Act.put, pA, pZ, pS])
                  refine wpAnyH_take (i := 2) (oi := ?oK7k2) (v := ?vK7k2) ?hiK7k2 (by kernel_rfl) (by kernel_rfl) (by kernel_rfl) (fun _ _ _ h => h) ?hyK7k2 (by assumption) ?restK7k2
                  case hiK7k2 => simp only [gA, gS, gZ]; rfl
                  case hyK7k2 =>
                    refine Or.inl ⟨by rfl, ?_⟩
                    intro w hSw; (try dsimp only at hSw); obtain ⟨hSw0, hSwB⟩ := hSw; have t0 := cell_blk hSwB 0; have t1 := cell_blk hSwB 1; have t2 := cell_blk hSwB 2; have t3 := cell_blk hSwB 3; have t4 := cell_blk hSwB 4; have t5 := cell_blk hSwB 5; go_simp <;> (with_reducible rfl)
                  (try simp only [Act.put, pA, pZ, pS])
                  refine wpAnyH_take (i := 3) (oi := ?oK7k3) (v := ?vK7k3) ?hiK7k3 (by kernel_rfl) (by kernel_rfl) (by kernel_rfl) (fun _ _ _ h => h) ?hyK7k3 (by assumption) ?restK7k3
                  case hiK7k3 => simp only [gA, gS, gZ]; rfl
                  case hyK7k3 =>
                    refine Or.inl ⟨by rfl, ?_⟩
                    intro w hSw; (try dsimp only at hSw); obtain ⟨hSw0, hSwB⟩ := hSw; have t0 := cell_blk hSwB 0; have t1 := cell_blk hSwB 1; have t2 := cell_blk hSwB 2; have t3 := cell_blk hSwB 3; have t4 := cell_blk hSwB 4; have t5 := cell_blk hSwB 5; go_simp <;> (with_reducible rfl)
                  (try simp only [Act.put, pA, pZ, pS])
                  refine wpAnyH_take (i := 4) (oi := ?oK7k4) (v := ?vK7k4) ?hiK7k4 (by kernel_rfl) (by kernel_rfl) (by kernel_rfl) (fun _ _ _ h => h) ?hyK7k4 (by assumption) ?restK7k4
                  case hiK7k4 => simp only [gA, gS, gZ]; rfl
                  case hyK7k4 =>
                    refine Or.inl ⟨by rfl, ?_⟩
                    intro w hSw; (try dsimp only at hSw); obtain ⟨hSw0, hSwB⟩ := hSw; have t0 := cell_blk hSwB 0; have t1 := cell_blk hSwB 1; have t2 := cell_blk hSwB 2; have t3 := cell_blk hSwB 3; have t4 := cell_blk hSwB 4; have t5 := cell_blk hSwB 5; go_simp <;> (with_reducible rfl)
                  (try simp only [Act.put, pA, pZ, pS])
                  refine wpAnyH_take (i := 5) (oi := ?oK7k5) (v := ?vK7k5) ?hiK7k5 (by kernel_rfl) (by kernel_rfl) (by kernel_rfl) (fun _ _ _ h => h) ?hyK7k5 (by assumption) ?restK7k5
                  case hiK7k5 => simp only [gA, gS, gZ]; rfl
                  case hyK7k5 =>
                    refine Or.inl ⟨by rfl, ?_⟩
                    intro w hSw; (try dsimp only at hSw); obtain ⟨hSw0, hSwB⟩ := hSw; have t0 := cell_blk hSwB 0; have t1 := cell_blk hSwB 1; have t2 := cell_blk hSwB 2; have t3 := cell_blk hSwB 3; have t4 := cell_blk hSwB 4; have t5 := cell_blk hSwB 5; go_simp <;> (with_reducible rfl)
                  (try simp only [Act.put, pA, pZ, pS])
                  refine wpAnyH_take (i := 6) (oi := ?oK7k6) (v := ?vK7k6) ?hiK7k6 (by kernel_rfl) (by kernel_rfl) (by kernel_rfl) (fun _ _ _ h => h) ?hyK7k6 (by assumption) ?restK7k6
                  case hiK7k6 => simp only [gA, gS, gZ]; rfl
                  case hyK7k6 =>
                    refine Or.inl ⟨by rfl, ?_⟩
                    intro w hSw; (try dsimp only at hSw); obtain ⟨hSw0, hSwB⟩ := hSw; have t0 := cell_blk hSwB 0; have t1 := cell_blk hSwB 1; have t2 := cell_blk hSwB 2; have t3 := cell_blk hSwB 3; have t4 := cell_blk hSwB 4; have t5 := cell_blk hSwB 5; go_simp <;> (with_reducible rfl)
                  (try simp only [Act.put, pA, pZ, pS])
                  refine wpAnyH_take (i := 7) (oi := ?oK7k7) (v := ?vK7k7) ?hiK7k7 (by kernel_rfl) (by kernel_rfl) (by kernel_rfl) (fun _ _ _ h => h) ?hyK7k7 (by assumption) ?restK7k7
                  case hiK7k7 => simp only [gA, gS, gZ]; rfl
                  case hyK7k7 =>
                    refine Or.inl ⟨by rfl, ?_⟩
                    intro w hSw; (try dsimp only at hSw); obtain ⟨hSw0, hSwB⟩ := hSw; have t0 := cell_blk hSwB 0; have t1 := cell_blk hSwB 1; have t2 := cell_blk hSwB 2; have t3 := cell_blk hSwB 3; have t4 := cell_blk hSwB 4; have t5 := cell_blk hSwB 5; go_simp <;> (with_reducible rfl)
                  (try simp only [Act.put, pA, pZ, pS])
                  refine wpAnyH_ready (rs := [8]) (by kernel_rfl) (by simp) ?_
                  refine AllReadyH.cons rfl (fun K hK => ?_) AllReadyH.nil
                  first
                  | refine step_store_mid rfl 34 (.tmp 73) (.tmp 72) rfl g (i * 6) #[.string xn, .bool true, .bool true, .bool xi, .string s.d.1.nm, .int .i64 xc] (by simp [Act.eval]) (by simp [Act.eval]) HTH.out size34 (by simp [Value.oneCell']) ?_
                  | refine step_store_mid rfl 34 (.tmp 116) (.tmp 115) rfl g (i * 6) #[.string xn, .bool true, .bool true, .bool xi, .string s.d.1.nm, .int .i64 xc] (by simp [Act.eval]) (by simp [Act.eval]) HTH.out size34 (by simp [Value.oneCell']) ?_
                  refine (show K _ W7 → _ from fun t => by rw [HW7.out] at t; exact t) (hK.out _ W7 (by exact HKP.out) (fun hHeldC8 => ?_))
                  clear hK K
                  (try simp only [Act.put, pA])
                  refine wpAnyH_done (by kernel_rfl) ?_ _
                  refine NoPanic.normal ?_
                  clear HW7 HKP HSS
                  go_wp2_with fail
                  have HSE : Hid ((fun V => V.cell? ⟨b, 36, none⟩ = some (.map (some s.g)) ∧ V.cell? ⟨W.heap.size, 0, none⟩ = some (.string xn)) W7.drew) := Lib.hid ⟨cell_blk (HFN.out.same (Below.refl _ _).drew).blk 36, cell_blk (w := W7.drew) HX11.out 0⟩
                  obtain ⟨w5, hrun, hm5, hg5⟩ := (HFN.out.same (Below.refl _ _).drew).own.gm.put (by have h9 : s.gn ≤ 4398046511104 := HGN.out; show s.gn < maxLen; unfold maxLen; omega) (x := xn) HXZ.out (a := true) trivial
                  rw [gvF_cons] at hm5
                  have hrun : (Instr.mapUpdate 49 (.map (some s.g)) (.string xn) (.bool true)).run Tryd.prog W7.drew = .ok () w5 := hrun
                  have HS5 := Lib.hid ((HFN.out.same (Below.refl _ _).drew).put_g hm5 hg5)
                  have A5 : Hid ((fun V => V.cell? ⟨b, 36, none⟩ = some (.map (some s.g)) ∧ V.cell? ⟨W.heap.size, 0, none⟩ = some (.string xn)) w5) := Lib.hid (by
                    have hlx : W.heap.size ≠ s.g := fun e => by
                      obtain ⟨D, ⟨es, clock, h2, -⟩, -⟩ := HFN.out.own.gm
                      have h3 := HX11.out
                      rw [e] at h3
                      rw [h3] at h2
                      cases h2
                    have h4 : W7.drew.heap[W.heap.size]? = some (.cells #[.string xn, .bool true, .bool true, .bool xi, .string s.d.1.nm, .int .i64 xc] 34 (0, 0)) := HX11.out
                    have h1 := (hg5.block _ (lt_of_block h4) (fun e => hlx (Option.some.inj e))).trans h4
                    exact ⟨cell_blk HS5.out.blk 36, cell_blk h1 0⟩)
                  clear hm5 hg5
                  go_wp2_with fail
                  refine wp_region_noPanic ?_
                  refine wp_region_held_drew (S := (fun V => V.cell? ⟨b, 36, none⟩ = some (.map (some s.g)) ∧ V.cell? ⟨W.heap.size, 0, none⟩ = some (.string xn))) (by kernel_rfl) (by exact HSE.out) (fun hHeld => ?_)
                  refine wpAnyH_take (i := 0) (oi := ?oK6k0) (v := ?vK6k0) ?hiK6k0 (by kernel_rfl) (by kernel_rfl) (by kernel_rfl) (fun _ _ _ h => h) ?hyK6k0 (by assumption) ?restK6k0
                  case hiK6k0 => simp only [gA, gZ]; rfl
                  case hyK6k0 =>
                    refine Or.inl ⟨by rfl, ?_⟩
                    intro w hSw; (try dsimp only at hSw); go_simp <;> (with_reducible rfl)
                  (try simp only [Act.put, pA, pZ, pS])
                  refine wpAnyH_take (i := 1) (oi := ?oK6k1) (v := ?vK6k1) ?hiK6k1 (by kernel_rfl) (by kernel_rfl) (by kernel_rfl) (fun _ _ _ h => h) ?hyK6k1 (by assumption) ?restK6k1
                  case hiK6k1 => simp only [gA, gS, gZ]; rfl
                  case hyK6k1 =>
                    refine Or.inl ⟨by rfl, ?_⟩
                    intro w hSw; (try dsimp only at hSw); go_simp <;> (with_reducible rfl)
                  (try simp only [Act.put, pA, pZ, pS])
                  refine wpAnyH_take (i := 2) (oi := ?oK6k2) (v := ?vK6k2) ?hiK6k2 (by kernel_rfl) (by kernel_rfl) (by kernel_rfl) (fun _ _ _ h => h) ?hyK6k2 (by assumption) ?restK6k2
                  case hiK6k2 => simp only [gA, gS, gZ]; rfl
                  case hyK6k2 =>
                    refine Or.inl ⟨by rfl, ?_⟩
                    intro w hSw; (try dsimp only at hSw); go_simp <;> (with_reducible rfl)
                  (try simp only [Act.put, pA, pZ, pS])
                  refine wpAnyH_take (i := 3) (oi := ?oK6k3) (v := ?vK6k3) ?hiK6k3 (by kernel_rfl) (by kernel_rfl) (by kernel_rfl) (fun _ _ _ h => h) ?hyK6k3 (by assumption) ?restK6k3
                  case hiK6k3 => simp only [gA, gS, gZ]; rfl
                  case hyK6k3 =>
                    refine Or.inl ⟨by rfl, ?_⟩
                    intro w hSw; (try dsimp only at hSw); go_simp <;> (with_reducible rfl)
                  (try simp only [Act.put, pA, pZ, pS])
                  refine wpAnyH_take (i := 4) (oi := ?oK6k4) (v := ?vK6k4) ?hiK6k4 (by kernel_rfl) (by kernel_rfl) (by kernel_rfl) (fun _ _ _ h => h) ?hyK6k4 (by assumption) ?restK6k4
                  case hiK6k4 => simp only [gA, gS, gZ]; rfl
                  case hyK6k4 =>
                    refine Or.inl ⟨by rfl, ?_⟩
                    intro w hSw; (try dsimp only at hSw); go_simp <;> (with_reducible rfl)
                  (try simp only [Act.put, pA, pZ, pS])
                  refine wpAnyH_take (i := 5) (oi := ?oK6k5) (v := ?vK6k5) ?hiK6k5 (by kernel_rfl) (by kernel_rfl) (by kernel_rfl) (fun _ _ _ h => h) ?hyK6k5 (by assumption) ?restK6k5
                  case hiK6k5 => simp only [gA, gS, gZ]; rfl
                  case hyK6k5 =>
                    refine Or.inl ⟨by rfl, ?_⟩
                    intro w hSw; (try dsimp only at hSw); go_simp <;> (with_reducible rfl)
                  (try simp only [Act.put, pA, pZ, pS])
                  refine wpAnyH_take (i := 6) (oi := ?oK6k6) (v := ?vK6k6) ?hiK6k6 (by kernel_rfl) (by kernel_rfl) (by kernel_rfl) (fun _ _ _ h => h) ?hyK6k6 (by assumption) ?restK6k6
                  case hiK6k6 => simp only [gA, gS, gZ]; rfl
                  case hyK6k6 =>
                    refine Or.inl ⟨by rfl, ?_⟩
                    intro w hSw; (try dsimp only at hSw); go_simp <;> (with_reducible rfl)
                  (try simp only [Act.put, pA, pZ, pS])
                  refine wpAnyH_ready (rs := [7]) (by kernel_rfl) (by simp) ?_
                  refine AllReadyH.cons rfl (fun K hK => ?_) AllReadyH.nil
                  go_simp
                  
                  refine hK.out _ _ A5.out (fun hHeldC7 => ?_)
                  clear hK K
                  (try simp only [Act.put, pA, pZ, pS])
                  refine wpAnyH_done (by kernel_rfl) ?_ _
                  refine NoPanic.normal ?_
                  go_wp2_with fail
                  go_ret
                  rw [HRZ.out]
                  exact ⟨rfl, _, _, HS5.out, (by first | exact Nat.le_succ _ | exact if_le _ _)⟩
                | false =>
                  have HRZ : Hid (r = .ok (s.ms, s.G)) := Lib.hid HRE.out
                  go_wp2_with fail
                  go_ret
                  rw [HRZ.out]
                  exact ⟨rfl, _, _, HSC.out, (by first | exact Nat.le_succ _ | exact if_le _ _)⟩
              | false =>
                have HRZ : Hid (r = .ok (s.ms.set i ⟨xn, true, false, xi, s.d.1.nm, xc⟩, (xn, true) :: s.G)) := Lib.hid HRE.out
                go_wp2_with fail
                clear v0 t0 v1 t1 v2 t2 v3 t3 v4 t4 v5 t5
                have HS10 := Lib.hid (HSC.out.same (Below.refl _ _).drew)
                have HX10 : Hid (W9.drew.heap[W.heap.size]? = some (.cells #[.string xn, .bool true, .bool false, .bool xi, .string s.d.1.nm, .int .i64 xc] 34 (0, 0))) := Lib.hid HX8.out
                have HOQ : Hid (Owns W9.drew 34 6 (.slice (some ⟨g, 0, none⟩) s.ms.length cp) (s.ms.map MtP.row)) := Lib.hid (by
                  have h2 : Owns W9.drew 34 6 (.slice s.m.o s.m.n s.m.c) (s.ms.map MtP.row) := HS10.out.own.om
                  rw [HGE.out.1] at h2
                  exact h2)
                have HPU := Lib.hid (owns_put6 HOQ.out HGE.out.2 (u0 := .string xn) (u1 := .bool true) (u2 := .bool false) (u3 := .bool xi) (u4 := .string s.d.1.nm) (u5 := .int .i64 xc) rfl rfl rfl rfl rfl rfl)
                have h9 : W9.drew.cell? ⟨b, 21, none⟩ = some (.slice s.m.o s.m.n s.m.c) := cell_blk HS10.out.blk 21
                rw [HGE.out.1] at h9
                have HSS : Hid ((fun V => V.cell? ⟨b, 21, none⟩ = some (.slice (some ⟨g, 0, none⟩) s.ms.length cp) ∧ V.heap[W.heap.size]? = some (.cells #[.string xn, .bool true, .bool false, .bool xi, .string s.d.1.nm, .int .i64 xc] 34 (0, 0))) W9.drew) := Lib.hid ⟨h9, HX10.out⟩
                have P9 : Hid (W9.drew.cell? ⟨g, i * 6, none⟩ = some (.string yn) ∧ W9.drew.cell? ⟨g, i * 6 + 1, none⟩ = some (.bool true) ∧ W9.drew.cell? ⟨g, i * 6 + 2, none⟩ = some (.bool ya) ∧ W9.drew.cell? ⟨g, i * 6 + 3, none⟩ = some (.bool false) ∧ W9.drew.cell? ⟨g, i * 6 + 4, none⟩ = some (.string yf) ∧ W9.drew.cell? ⟨g, i * 6 + 5, none⟩ = some (.int .i64 yc)) := Lib.hid (by
                  obtain ⟨a9, c9, hv9, -, -, hl9, -, -⟩ := HOQ.out.any
                  simp only [Value.slice.injEq] at hv9
                  obtain ⟨rfl, -, -⟩ := hv9
                  obtain ⟨g9, o9, e9, -, -, hc9⟩ := hl9 i _ HGE.out.2
                  cases e9
                  exact ⟨by simpa using hc9 0 _ rfl, by simpa using hc9 1 _ rfl, by simpa using hc9 2 _ rfl, by simpa using hc9 3 _ rfl, by simpa using hc9 4 _ rfl, by simpa using hc9 5 _ rfl⟩)
                have p0 : W9.drew.cell? ⟨g, i * 6, none⟩ = some (.string yn) := P9.out.1
                have p1 : W9.drew.cell? ⟨g, i * 6 + 1, none⟩ = some (.bool true) := P9.out.2.1
                have p2 : W9.drew.cell? ⟨g, i * 6 + 2, none⟩ = some (.bool ya) := P9.out.2.2.1
                have p3 : W9.drew.cell? ⟨g, i * 6 + 3, none⟩ = some (.bool false) := P9.out.2.2.2.1
                have p4 : W9.drew.cell? ⟨g, i * 6 + 4, none⟩ = some (.string yf) := P9.out.2.2.2.2.1
                have p5 : W9.drew.cell? ⟨g, i * 6 + 5, none⟩ = some (.int .i64 yc) := P9.out.2.2.2.2.2
                have f0 := HOQ.out.free (g := g) rfl (i * 6)
                have f1 := HOQ.out.free (g := g) rfl (i * 6 + 1)
                have f2 := HOQ.out.free (g := g) rfl (i * 6 + 2)
                have f3 := HOQ.out.free (g := g) rfl (i * 6 + 3)
                have f4 := HOQ.out.free (g := g) rfl (i * 6 + 4)
                have f5 := HOQ.out.free (g := g) rfl (i * 6 + 5)
                have HTH : Hid (W9.drew.there g (i * 6) 6) := Lib.hid (by
                  intro j hj
                  have h6 : j = 0 ∨ j = 1 ∨ j = 2 ∨ j = 3 ∨ j = 4 ∨ j = 5 := by omega
                  rcases h6 with rfl | rfl | rfl | rfl | rfl | rfl
                  · exact ⟨Option.isSome_iff_exists.2 ⟨_, p0⟩, f0⟩
                  · exact ⟨Option.isSome_iff_exists.2 ⟨_, p1⟩, f1⟩
                  · exact ⟨Option.isSome_iff_exists.2 ⟨_, p2⟩, f2⟩
                  · exact ⟨Option.isSome_iff_exists.2 ⟨_, p3⟩, f3⟩
                  · exact ⟨Option.isSome_iff_exists.2 ⟨_, p4⟩, f4⟩
                  · exact ⟨Option.isSome_iff_exists.2 ⟨_, p5⟩, f5⟩)
                clear p0 f0 p1 f1 p2 f2 p3 f3 p4 f4 p5 f5
                have HKP : Hid ((fun V => V.cell? ⟨b, 21, none⟩ = some (.slice (some ⟨g, 0, none⟩) s.ms.length cp) ∧ V.heap[W.heap.size]? = some (.cells #[.string xn, .bool true, .bool false, .bool xi, .string s.d.1.nm, .int .i64 xc] 34 (0, 0))) ((((((W9.drew.setCell ⟨g, i * 6, none⟩ (.string xn)).setCell ⟨g, i * 6 + 1, none⟩ (.bool true)).setCell ⟨g, i * 6 + 2, none⟩ (.bool false)).setCell ⟨g, i * 6 + 3, none⟩ (.bool xi)).setCell ⟨g, i * 6 + 4, none⟩ (.string s.d.1.nm)).setCell ⟨g, i * 6 + 5, none⟩ (.int .i64 xc))) := Lib.hid (by
                  have hm := (Mod.refl (fun j => j = g) W9.drew).grown HPU.out.2 (fun j e _ => (Option.some.inj e).symm)
                  have hgb : b ≠ g := fun e => by obtain ⟨c9, h9⟩ := own_ty HOQ.out (k := g) rfl; rw [← e, HS10.out.blk] at h9; cases h9
                  have hgx : W.heap.size ≠ g := fun e => HBQ.out (by rw [HGE.out.1]; show some g = _; rw [e])
                  have h8 := cell_blk (hm.blk HS10.out.blk hgb) 21
                  have h8 : ((((((W9.drew.setCell ⟨g, i * 6, none⟩ (.string xn)).setCell ⟨g, i * 6 + 1, none⟩ (.bool true)).setCell ⟨g, i * 6 + 2, none⟩ (.bool false)).setCell ⟨g, i * 6 + 3, none⟩ (.bool xi)).setCell ⟨g, i * 6 + 4, none⟩ (.string s.d.1.nm)).setCell ⟨g, i * 6 + 5, none⟩ (.int .i64 xc)).cell? ⟨b, 21, none⟩ = some (.slice s.m.o s.m.n s.m.c) := h8
                  rw [HGE.out.1] at h8
                  exact ⟨h8, hm.blk HX10.out hgx⟩)
                have HFN : Hid (LkIs w0 ((((((W9.drew.setCell ⟨g, i * 6, none⟩ (.string xn)).setCell ⟨g, i * 6 + 1, none⟩ (.bool true)).setCell ⟨g, i * 6 + 2, none⟩ (.bool false)).setCell ⟨g, i * 6 + 3, none⟩ (.bool xi)).setCell ⟨g, i * 6 + 4, none⟩ (.string s.d.1.nm)).setCell ⟨g, i * 6 + 5, none⟩ (.int .i64 xc)) b { s with ms := s.ms.set i ⟨xn, true, false, xi, s.d.1.nm, xc⟩ }) := Lib.hid (by
                  have h1 := HPU.out.1
                  have h2 := HPU.out.2
                  have hr : (s.ms.map MtP.row).set i [.string xn, .bool true, .bool false, .bool xi, .string s.d.1.nm, .int .i64 xc] = (s.ms.set i ⟨xn, true, false, xi, s.d.1.nm, xc⟩).map MtP.row := by rw [List.map_set]; rfl
                  rw [hr] at h1
                  refine HS10.out.turn_m (l := s.ms.set i ⟨xn, true, false, xi, s.d.1.nm, xc⟩) ?_ ?_
                  · show Owns _ 34 6 (.slice s.m.o s.m.n s.m.c) _
                    rw [HGE.out.1]
                    exact h1
                  · show World.grownBy _ _ (Value.slice s.m.o s.m.n s.m.c).ownBlock
                    rw [HGE.out.1]
                    exact h2)
                obtain ⟨W7, hW7⟩ : ∃ W7, W7 = ((((((W9.drew.setCell ⟨g, i * 6, none⟩ (.string xn)).setCell ⟨g, i * 6 + 1, none⟩ (.bool true)).setCell ⟨g, i * 6 + 2, none⟩ (.bool false)).setCell ⟨g, i * 6 + 3, none⟩ (.bool xi)).setCell ⟨g, i * 6 + 4, none⟩ (.string s.d.1.nm)).setCell ⟨g, i * 6 + 5, none⟩ (.int .i64 xc)) := ⟨_, rfl⟩
                rw [← hW7] at HKP HFN
                have HW7 := Lib.hid hW7
                clear hW7
                have HX11 : Hid (W7.heap[W.heap.size]? = some (.cells #[.string xn, .bool true, .bool false, .bool xi, .string s.d.1.nm, .int .i64 xc] 34 (0, 0))) := Lib.hid HKP.out.2
                clear h9 HPU P9 HOQ HX10 HS10
                refine wp_region_noPanic ?_
                refine wp_region_held_drew (S := (fun V => V.cell? ⟨b, 21, none⟩ = some (.slice (some ⟨g, 0, none⟩) s.ms.length cp) ∧ V.heap[W.heap.size]? = some (.cells #[.string xn, .bool true, .bool false, .bool xi, .string s.d.1.nm, .int .i64 xc] 34 (0, 0)))) (by kernel_rfl) (by exact HSS.out) (fun hHeld => ?_)
                refine wpAnyH_take (i := 0) (oi := ?oK9k0) (v := ?vK9k0) ?hiK9k0 (by kernel_rfl) (by kernel_rfl) (by kernel_rfl) (fun _ _ _ h => h) ?hyK9k0 (by assumption) ?restK9k0
                case hiK9k0 => simp only [gA, gZ]; rfl
                case hyK9k0 =>
                  refine Or.inl ⟨by rfl, ?_⟩
                  intro w hSw; (try dsimp only at hSw); obtain ⟨hSw0, hSwB⟩ := hSw; have t0 := cell_blk hSwB 0; have t1 := cell_blk hSwB 1; have t2 := cell_blk hSwB 2; have t3 := cell_blk hSwB 3; have t4 := cell_blk hSwB 4; have t5 := cell_blk hSwB 5; go_simp <;> (with_reducible rfl)
                (try simp only [Act.put, pA, pZ, pS])
                refine wpAnyH_take (i := 1) (oi := ?oK9k1) (v := ?vK9k1) ?hiK9k1 (by kernel_rfl) (by kernel_rfl) (by kernel_rfl) (fun _ _ _ h => h) ?hyK9k1 (by assumption) ?restK9k1
                case hiK9k1 => simp only [gA, gS, gZ]; rfl
                case hyK9k1 =>
                  refine Or.inl ⟨by rfl, ?_⟩
                  intro w hSw; (try dsimp only at hSw); obtain ⟨hSw0, hSwB⟩ := hSw; have t0 := cell_blk hSwB 0; have t1 := cell_blk hSwB 1; have t2 := cell_blk hSwB 2; have t3 := cell_blk hSwB 3; have t4 := cell_blk hSwB 4; have t5 := cell_blk hSwB 5; go_simp <;> (with_reducible rfl)
                (try simp only [Act.put, pA, pZ, pS])
                refine wpAnyH_take (i := 2) (oi := ?oK9k2) (v := ?vK9k2) ?hiK9k2 (by kernel_rfl) (by kernel_rfl) (by kernel_rfl) (fun _ _ _ h => h) ?hyK9k2 (by assumption) ?restK9k2
                case hiK9k2 => simp only [gA, gS, gZ]; rfl
                case hyK9k2 =>
                  refine Or.inl ⟨by rfl, ?_⟩
                  intro w hSw; (try dsimp only at hSw); obtain ⟨hSw0, hSwB⟩ := hSw; have t0 := cell_blk hSwB 0; have t1 := cell_blk hSwB 1; have t2 := cell_blk hSwB 2; have t3 := cell_blk hSwB 3; have t4 := cell_blk hSwB 4; have t5 := cell_blk hSwB 5; go_simp <;> (with_reducible rfl)
                (try simp only [Act.put, pA, pZ, pS])
                refine wpAnyH_take (i := 3) (oi := ?oK9k3) (v := ?vK9k3) ?hiK9k3 (by kernel_rfl) (by kernel_rfl) (by kernel_rfl) (fun _ _ _ h => h) ?hyK9k3 (by assumption) ?restK9k3
                case hiK9k3 => simp only [gA, gS, gZ]; rfl
                case hyK9k3 =>
                  refine Or.inl ⟨by rfl, ?_⟩
                  intro w hSw; (try dsimp only at hSw); obtain ⟨hSw0, hSwB⟩ := hSw; have t0 := cell_blk hSwB 0; have t1 := cell_blk hSwB 1; have t2 := cell_blk hSwB 2; have t3 := cell_blk hSwB 3; have t4 := cell_blk hSwB 4; have t5 := cell_blk hSwB 5; go_simp <;> (with_reducible rfl)
                (try simp only [Act.put, pA, pZ, pS])
                refine wpAnyH_take (i := 4) (oi := ?oK9k4) (v := ?vK9k4) ?hiK9k4 (by kernel_rfl) (by kernel_rfl) (by kernel_rfl) (fun _ _ _ h => h) ?hyK9k4 (by assumption) ?restK9k4
                case hiK9k4 => simp only [gA, gS, gZ]; rfl
                case hyK9k4 =>
                  refine Or.inl ⟨by rfl, ?_⟩
                  intro w hSw; (try dsimp only at hSw); obtain ⟨hSw0, hSwB⟩ := hSw; have t0 := cell_blk hSwB 0; have t1 := cell_blk hSwB 1; have t2 := cell_blk hSwB 2; have t3 := cell_blk hSwB 3; have t4 := cell_blk hSwB 4; have t5 := cell_blk hSwB 5; go_simp <;> (with_reducible rfl)
                (try simp only [Act.put, pA, pZ, pS])
                refine wpAnyH_take (i := 5) (oi := ?oK9k5) (v := ?vK9k5) ?hiK9k5 (by kernel_rfl) (by kernel_rfl) (by kernel_rfl) (fun _ _ _ h => h) ?hyK9k5 (by assumption) ?restK9k5
                case hiK9k5 => simp only [gA, gS, gZ]; rfl
                case hyK9k5 =>
                  refine Or.inl ⟨by rfl, ?_⟩
                  intro w hSw; (try dsimp only at hSw); obtain ⟨hSw0, hSwB⟩ := hSw; have t0 := cell_blk hSwB 0; have t1 := cell_blk hSwB 1; have t2 := cell_blk hSwB 2; have t3 := cell_blk hSwB 3; have t4 := cell_blk hSwB 4; have t5 := cell_blk hSwB 5; go_simp <;> (with_reducible rfl)
                (try simp only [Act.put, pA, pZ, pS])
                refine wpAnyH_take (i := 6) (oi := ?oK9k6) (v := ?vK9k6) ?hiK9k6 (by kernel_rfl) (by kernel_rfl) (by kernel_rfl) (fun _ _ _ h => h) ?hyK9k6 (by assumption) ?restK9k6
                case hiK9k6 => simp only [gA, gS, gZ]; rfl
                case hyK9k6 =>
                  refine Or.inl ⟨by rfl, ?_⟩
                  intro w hSw; (try dsimp only at hSw); obtain ⟨hSw0, hSwB⟩ := hSw; have t0 := cell_blk hSwB 0; have t1 := cell_blk hSwB 1; have t2 := cell_blk hSwB 2; have t3 := cell_blk hSwB 3; have t4 := cell_blk hSwB 4; have t5 := cell_blk hSwB 5; go_simp <;> (with_reducible rfl)
                (try simp only [Act.put, pA, pZ, pS])
                refine wpAnyH_take (i := 7) (oi := ?oK9k7) (v := ?vK9k7) ?hiK9k7 (by kernel_rfl) (by kernel_rfl) (by kernel_rfl) (fun _ _ _ h => h) ?hyK9k7 (by assumption) ?restK9k7
                case hiK9k7 => simp only [gA, gS, gZ]; rfl
                case hyK9k7 =>
                  refine Or.inl ⟨by rfl, ?_⟩
                  intro w hSw; (try dsimp only at hSw); obtain ⟨hSw0, hSwB⟩ := hSw; have t0 := cell_blk hSwB 0; have t1 := cell_blk hSwB 1; have t2 := cell_blk hSwB 2; have t3 := cell_blk hSwB 3; have t4 := cell_blk hSwB 4; have t5 := cell_blk hSwB 5; go_simp <;> (with_reducible rfl)
                (try simp only [Act.put, pA, pZ, pS])
                refine wpAnyH_ready (rs := [8]) (by kernel_rfl) (by simp) ?_
                refine AllReadyH.cons rfl (fun K hK => ?_) AllReadyH.nil
                first
                | refine step_store_mid rfl 34 (.tmp 73) (.tmp 72) rfl g (i * 6) #[.string xn, .bool true, .bool false, .bool xi, .string s.d.1.nm, .int .i64 xc] (by simp [Act.eval]) (by simp [Act.eval]) HTH.out size34 (by simp [Value.oneCell']) ?_
                | refine step_store_mid rfl 34 (.tmp 116) (.tmp 115) rfl g (i * 6) #[.string xn, .bool true, .bool false, .bool xi, .string s.d.1.nm, .int .i64 xc] (by simp [Act.eval]) (by simp [Act.eval]) HTH.out size34 (by simp [Value.oneCell']) ?_
                refine (show K _ W7 → _ from fun t => by rw [HW7.out] at t; exact t) (hK.out _ W7 (by exact HKP.out) (fun hHeldC8 => ?_))
                clear hK K
                (try simp only [Act.put, pA])
                refine wpAnyH_done (by kernel_rfl) ?_ _
                refine NoPanic.normal ?_
                clear HW7 HKP HSS
                go_wp2_with fail
                have HSE : Hid ((fun V => V.cell? ⟨b, 36, none⟩ = some (.map (some s.g)) ∧ V.cell? ⟨W.heap.size, 0, none⟩ = some (.string xn)) W7.drew) := Lib.hid ⟨cell_blk (HFN.out.same (Below.refl _ _).drew).blk 36, cell_blk (w := W7.drew) HX11.out 0⟩
                obtain ⟨w5, hrun, hm5, hg5⟩ := (HFN.out.same (Below.refl _ _).drew).own.gm.put (by have h9 : s.gn ≤ 4398046511104 := HGN.out; show s.gn < maxLen; unfold maxLen; omega) (x := xn) HXZ.out (a := true) trivial
                rw [gvF_cons] at hm5
                have hrun : (Instr.mapUpdate 49 (.map (some s.g)) (.string xn) (.bool true)).run Tryd.prog W7.drew = .ok () w5 := hrun
                have HS5 := Lib.hid ((HFN.out.same (Below.refl _ _).drew).put_g hm5 hg5)
                have A5 : Hid ((fun V => V.cell? ⟨b, 36, none⟩ = some (.map (some s.g)) ∧ V.cell? ⟨W.heap.size, 0, none⟩ = some (.string xn)) w5) := Lib.hid (by
                  have hlx : W.heap.size ≠ s.g := fun e => by
                    obtain ⟨D, ⟨es, clock, h2, -⟩, -⟩ := HFN.out.own.gm
                    have h3 := HX11.out
                    rw [e] at h3
                    rw [h3] at h2
                    cases h2
                  have h4 : W7.drew.heap[W.heap.size]? = some (.cells #[.string xn, .bool true, .bool false, .bool xi, .string s.d.1.nm, .int .i64 xc] 34 (0, 0)) := HX11.out
                  have h1 := (hg5.block _ (lt_of_block h4) (fun e => hlx (Option.some.inj e))).trans h4
                  exact ⟨cell_blk HS5.out.blk 36, cell_blk h1 0⟩)
                clear hm5 hg5
                go_wp2_with fail
                refine wp_region_noPanic ?_
                refine wp_region_held_drew (S := (fun V => V.cell? ⟨b, 36, none⟩ = some (.map (some s.g)) ∧ V.cell? ⟨W.heap.size, 0, none⟩ = some (.string xn))) (by kernel_rfl) (by exact HSE.out) (fun hHeld => ?_)
                refine wpAnyH_take (i := 0) (oi := ?oK8k0) (v := ?vK8k0) ?hiK8k0 (by kernel_rfl) (by kernel_rfl) (by kernel_rfl) (fun _ _ _ h => h) ?hyK8k0 (by assumption) ?restK8k0
                case hiK8k0 => simp only [gA, gZ]; rfl
                case hyK8k0 =>
                  refine Or.inl ⟨by rfl, ?_⟩
                  intro w hSw; (try dsimp only at hSw); go_simp <;> (with_reducible rfl)
                (try simp only [Act.put, pA, pZ, pS])
                refine wpAnyH_take (i := 1) (oi := ?oK8k1) (v := ?vK8k1) ?hiK8k1 (by kernel_rfl) (by kernel_rfl) (by kernel_rfl) (fun _ _ _ h => h) ?hyK8k1 (by assumption) ?restK8k1
                case hiK8k1 => simp only [gA, gS, gZ]; rfl
                case hyK8k1 =>
                  refine Or.inl ⟨by rfl, ?_⟩
                  intro w hSw; (try dsimp only at hSw); go_simp <;> (with_reducible rfl)
                (try simp only [Act.put, pA, pZ, pS])
                refine wpAnyH_take (i := 2) (oi := ?oK8k2) (v := ?vK8k2) ?hiK8k2 (by kernel_rfl) (by kernel_rfl) (by kernel_rfl) (fun _ _ _ h => h) ?hyK8k2 (by assumption) ?restK8k2
                case hiK8k2 => simp only [gA, gS, gZ]; rfl
                case hyK8k2 =>
                  refine Or.inl ⟨by rfl, ?_⟩
                  intro w hSw; (try dsimp only at hSw); go_simp <;> (with_reducible rfl)
                (try simp only [Act.put, pA, pZ, pS])
                refine wpAnyH_take (i := 3) (oi := ?oK8k3) (v := ?vK8k3) ?hiK8k3 (by kernel_rfl) (by kernel_rfl) (by kernel_rfl) (fun _ _ _ h => h) ?hyK8k3 (by assumption) ?restK8k3
                case hiK8k3 => simp only [gA, gS, gZ]; rfl
                case hyK8k3 =>
                  refine Or.inl ⟨by rfl, ?_⟩
                  intro w hSw; (try dsimp only at hSw); go_simp <;> (with_reducible rfl)
                (try simp only [Act.put, pA, pZ, pS])
                refine wpAnyH_take (i := 4) (oi := ?oK8k4) (v := ?vK8k4) ?hiK8k4 (by kernel_rfl) (by kernel_rfl) (by kernel_rfl) (fun _ _ _ h => h) ?hyK8k4 (by assumption) ?restK8k4
                case hiK8k4 => simp only [gA, gS, gZ]; rfl
                case hyK8k4 =>
                  refine Or.inl ⟨by rfl, ?_⟩
                  intro w hSw; (try dsimp only at hSw); go_simp <;> (with_reducible rfl)
                (try simp only [Act.put, pA, pZ, pS])
                refine wpAnyH_take (i := 5) (oi := ?oK8k5) (v := ?vK8k5) ?hiK8k5 (by kernel_rfl) (by kernel_rfl) (by kernel_rfl) (fun _ _ _ h => h) ?hyK8k5 (by assumption) ?restK8k5
                case hiK8k5 => simp only [gA, gS, gZ]; rfl
                case hyK8k5 =>
                  refine Or.inl ⟨by rfl, ?_⟩
                  intro w hSw; (try dsimp only at hSw); go_simp <;> (with_reducible rfl)
                (try simp only [Act.put, pA, pZ, pS])
                refine wpAnyH_take (i := 6) (oi := ?oK8k6) (v := ?vK8k6) ?hiK8k6 (by kernel_rfl) (by kernel_rfl) (by kernel_rfl) (fun _ _ _ h => h) ?hyK8k6 (by assumption) ?restK8k6
                case hiK8k6 => simp only [gA, gS, gZ]; rfl
                case hyK8k6 =>
                  refine Or.inl ⟨by rfl, ?_⟩
                  intro w hSw; (try dsimp only at hSw); go_simp <;> (with_reducible rfl)
                (try simp only [Act.put, pA, pZ, pS])
                refine wpAnyH_ready (rs := [7]) (by kernel_rfl) (by simp) ?_
                refine AllReadyH.cons rfl (fun K hK => ?_) AllReadyH.nil
                go_simp
                
                refine hK.out _ _ A5.out (fun hHeldC7 => ?_)
                clear hK K
                (try simp only [Act.put, pA, pZ, pS])
                refine wpAnyH_done (by kernel_rfl) ?_ _
                refine NoPanic.normal ?_
                go_wp2_with fail
                go_ret
                rw [HRZ.out]
                exact ⟨rfl, _, _, HS5.out, (by first | exact Nat.le_succ _ | exact if_le _ _)⟩
            | false =>
              have HRZ : Hid (r = .ok (s.ms.set i ⟨xn, true, xa, xi, s.d.1.nm, xc⟩, (xn, false) :: s.G)) := Lib.hid HRE.out
              go_wp2_with fail
              clear v0 t0 v1 t1 v2 t2 v3 t3 v4 t4 v5 t5
              have HS10 := Lib.hid (HSC.out.same (Below.refl _ _).drew)
              have HX10 : Hid (W9.drew.heap[W.heap.size]? = some (.cells #[.string xn, .bool true, .bool xa, .bool xi, .string s.d.1.nm, .int .i64 xc] 34 (0, 0))) := Lib.hid HX8.out
              have HOQ : Hid (Owns W9.drew 34 6 (.slice (some ⟨g, 0, none⟩) s.ms.length cp) (s.ms.map MtP.row)) := Lib.hid (by
                have h2 : Owns W9.drew 34 6 (.slice s.m.o s.m.n s.m.c) (s.ms.map MtP.row) := HS10.out.own.om
                rw [HGE.out.1] at h2
                exact h2)
              have HPU := Lib.hid (owns_put6 HOQ.out HGE.out.2 (u0 := .string xn) (u1 := .bool true) (u2 := .bool xa) (u3 := .bool xi) (u4 := .string s.d.1.nm) (u5 := .int .i64 xc) rfl rfl rfl rfl rfl rfl)
              have h9 : W9.drew.cell? ⟨b, 21, none⟩ = some (.slice s.m.o s.m.n s.m.c) := cell_blk HS10.out.blk 21
              rw [HGE.out.1] at h9
              have HSS : Hid ((fun V => V.cell? ⟨b, 21, none⟩ = some (.slice (some ⟨g, 0, none⟩) s.ms.length cp) ∧ V.heap[W.heap.size]? = some (.cells #[.string xn, .bool true, .bool xa, .bool xi, .string s.d.1.nm, .int .i64 xc] 34 (0, 0))) W9.drew) := Lib.hid ⟨h9, HX10.out⟩
              have P9 : Hid (W9.drew.cell? ⟨g, i * 6, none⟩ = some (.string yn) ∧ W9.drew.cell? ⟨g, i * 6 + 1, none⟩ = some (.bool true) ∧ W9.drew.cell? ⟨g, i * 6 + 2, none⟩ = some (.bool ya) ∧ W9.drew.cell? ⟨g, i * 6 + 3, none⟩ = some (.bool false) ∧ W9.drew.cell? ⟨g, i * 6 + 4, none⟩ = some (.string yf) ∧ W9.drew.cell? ⟨g, i * 6 + 5, none⟩ = some (.int .i64 yc)) := Lib.hid (by
                obtain ⟨a9, c9, hv9, -, -, hl9, -, -⟩ := HOQ.out.any
                simp only [Value.slice.injEq] at hv9
                obtain ⟨rfl, -, -⟩ := hv9
                obtain ⟨g9, o9, e9, -, -, hc9⟩ := hl9 i _ HGE.out.2
                cases e9
                exact ⟨by simpa using hc9 0 _ rfl, by simpa using hc9 1 _ rfl, by simpa using hc9 2 _ rfl, by simpa using hc9 3 _ rfl, by simpa using hc9 4 _ rfl, by simpa using hc9 5 _ rfl⟩)
              have p0 : W9.drew.cell? ⟨g, i * 6, none⟩ = some (.string yn) := P9.out.1
              have p1 : W9.drew.cell? ⟨g, i * 6 + 1, none⟩ = some (.bool true) := P9.out.2.1
              have p2 : W9.drew.cell? ⟨g, i * 6 + 2, none⟩ = some (.bool ya) := P9.out.2.2.1
              have p3 : W9.drew.cell? ⟨g, i * 6 + 3, none⟩ = some (.bool false) := P9.out.2.2.2.1
              have p4 : W9.drew.cell? ⟨g, i * 6 + 4, none⟩ = some (.string yf) := P9.out.2.2.2.2.1
              have p5 : W9.drew.cell? ⟨g, i * 6 + 5, none⟩ = some (.int .i64 yc) := P9.out.2.2.2.2.2
              have f0 := HOQ.out.free (g := g) rfl (i * 6)
              have f1 := HOQ.out.free (g := g) rfl (i * 6 + 1)
              have f2 := HOQ.out.free (g := g) rfl (i * 6 + 2)
              have f3 := HOQ.out.free (g := g) rfl (i * 6 + 3)
              have f4 := HOQ.out.free (g := g) rfl (i * 6 + 4)
              have f5 := HOQ.out.free (g := g) rfl (i * 6 + 5)
              have HTH : Hid (W9.drew.there g (i * 6) 6) := Lib.hid (by
                intro j hj
                have h6 : j = 0 ∨ j = 1 ∨ j = 2 ∨ j = 3 ∨ j = 4 ∨ j = 5 := by omega
                rcases h6 with rfl | rfl | rfl | rfl | rfl | rfl
                · exact ⟨Option.isSome_iff_exists.2 ⟨_, p0⟩, f0⟩
                · exact ⟨Option.isSome_iff_exists.2 ⟨_, p1⟩, f1⟩
                · exact ⟨Option.isSome_iff_exists.2 ⟨_, p2⟩, f2⟩
                · exact ⟨Option.isSome_iff_exists.2 ⟨_, p3⟩, f3⟩
                · exact ⟨Option.isSome_iff_exists.2 ⟨_, p4⟩, f4⟩
                · exact ⟨Option.isSome_iff_exists.2 ⟨_, p5⟩, f5⟩)
              clear p0 f0 p1 f1 p2 f2 p3 f3 p4 f4 p5 f5
              have HKP : Hid ((fun V => V.cell? ⟨b, 21, none⟩ = some (.slice (some ⟨g, 0, none⟩) s.ms.length cp) ∧ V.heap[W.heap.size]? = some (.cells #[.string xn, .bool true, .bool xa, .bool xi, .string s.d.1.nm, .int .i64 xc] 34 (0, 0))) ((((((W9.drew.setCell ⟨g, i * 6, none⟩ (.string xn)).setCell ⟨g, i * 6 + 1, none⟩ (.bool true)).setCell ⟨g, i * 6 + 2, none⟩ (.bool xa)).setCell ⟨g, i * 6 + 3, none⟩ (.bool xi)).setCell ⟨g, i * 6 + 4, none⟩ (.string s.d.1.nm)).setCell ⟨g, i * 6 + 5, none⟩ (.int .i64 xc))) := Lib.hid (by
                have hm := (Mod.refl (fun j => j = g) W9.drew).grown HPU.out.2 (fun j e _ => (Option.some.inj e).symm)
                have hgb : b ≠ g := fun e => by obtain ⟨c9, h9⟩ := own_ty HOQ.out (k := g) rfl; rw [← e, HS10.out.blk] at h9; cases h9
                have hgx : W.heap.size ≠ g := fun e => HBQ.out (by rw [HGE.out.1]; show some g = _; rw [e])
                have h8 := cell_blk (hm.blk HS10.out.blk hgb) 21
                have h8 : ((((((W9.drew.setCell ⟨g, i * 6, none⟩ (.string xn)).setCell ⟨g, i * 6 + 1, none⟩ (.bool true)).setCell ⟨g, i * 6 + 2, none⟩ (.bool xa)).setCell ⟨g, i * 6 + 3, none⟩ (.bool xi)).setCell ⟨g, i * 6 + 4, none⟩ (.string s.d.1.nm)).setCell ⟨g, i * 6 + 5, none⟩ (.int .i64 xc)).cell? ⟨b, 21, none⟩ = some (.slice s.m.o s.m.n s.m.c) := h8
                rw [HGE.out.1] at h8
                exact ⟨h8, hm.blk HX10.out hgx⟩)
              have HFN : Hid (LkIs w0 ((((((W9.drew.setCell ⟨g, i * 6, none⟩ (.string xn)).setCell ⟨g, i * 6 + 1, none⟩ (.bool true)).setCell ⟨g, i * 6 + 2, none⟩ (.bool xa)).setCell ⟨g, i * 6 + 3, none⟩ (.bool xi)).setCell ⟨g, i * 6 + 4, none⟩ (.string s.d.1.nm)).setCell ⟨g, i * 6 + 5, none⟩ (.int .i64 xc)) b { s with ms := s.ms.set i ⟨xn, true, xa, xi, s.d.1.nm, xc⟩ }) := Lib.hid (by
                have h1 := HPU.out.1
                have h2 := HPU.out.2
                have hr : (s.ms.map MtP.row).set i [.string xn, .bool true, .bool xa, .bool xi, .string s.d.1.nm, .int .i64 xc] = (s.ms.set i ⟨xn, true, xa, xi, s.d.1.nm, xc⟩).map MtP.row := by rw [List.map_set]; rfl
                rw [hr] at h1
                refine HS10.out.turn_m (l := s.ms.set i ⟨xn, true, xa, xi, s.d.1.nm, xc⟩) ?_ ?_
                · show Owns _ 34 6 (.slice s.m.o s.m.n s.m.c) _
                  rw [HGE.out.1]
                  exact h1
                · show World.grownBy _ _ (Value.slice s.m.o s.m.n s.m.c).ownBlock
                  rw [HGE.out.1]
                  exact h2)
              obtain ⟨W7, hW7⟩ : ∃ W7, W7 = ((((((W9.drew.setCell ⟨g, i * 6, none⟩ (.string xn)).setCell ⟨g, i * 6 + 1, none⟩ (.bool true)).setCell ⟨g, i * 6 + 2, none⟩ (.bool xa)).setCell ⟨g, i * 6 + 3, none⟩ (.bool xi)).setCell ⟨g, i * 6 + 4, none⟩ (.string s.d.1.nm)).setCell ⟨g, i * 6 + 5, none⟩ (.int .i64 xc)) := ⟨_, rfl⟩
              rw [← hW7] at HKP HFN
              have HW7 := Lib.hid hW7
              clear hW7
              have HX11 : Hid (W7.heap[W.heap.size]? = some (.cells #[.string xn, .bool true, .bool xa, .bool xi, .string s.d.1.nm, .int .i64 xc] 34 (0, 0))) := Lib.hid HKP.out.2
              clear h9 HPU P9 HOQ HX10 HS10
              refine wp_region_noPanic ?_
              refine wp_region_held_drew (S := (fun V => V.cell? ⟨b, 21, none⟩ = some (.slice (some ⟨g, 0, none⟩) s.ms.length cp) ∧ V.heap[W.heap.size]? = some (.cells #[.string xn, .bool true, .bool xa, .bool xi, .string s.d.1.nm, .int .i64 xc] 34 (0, 0)))) (by kernel_rfl) (by exact HSS.out) (fun hHeld => ?_)
              refine wpAnyH_take (i := 0) (oi := ?oK11k0) (v := ?vK11k0) ?hiK11k0 (by kernel_rfl) (by kernel_rfl) (by kernel_rfl) (fun _ _ _ h => h) ?hyK11k0 (by assumption) ?restK11k0
              case hiK11k0 => simp only [gA, gZ]; rfl
              case hyK11k0 =>
                refine Or.inl ⟨by rfl, ?_⟩
                intro w hSw; (try dsimp only at hSw); obtain ⟨hSw0, hSwB⟩ := hSw; have t0 := cell_blk hSwB 0; have t1 := cell_blk hSwB 1; have t2 := cell_blk hSwB 2; have t3 := cell_blk hSwB 3; have t4 := cell_blk hSwB 4; have t5 := cell_blk hSwB 5; go_simp <;> (with_reducible rfl)
              (try simp only [Act.put, pA, pZ, pS])
              refine wpAnyH_take (i := 1) (oi := ?oK11k1) (v := ?vK11k1) ?hiK11k1 (by kernel_rfl) (by kernel_rfl) (by kernel_rfl) (fun _ _ _ h => h) ?hyK11k1 (by assumption) ?restK11k1
              case hiK11k1 => simp only [gA, gS, gZ]; rfl
              case hyK11k1 =>
                refine Or.inl ⟨by rfl, ?_⟩
                intro w hSw; (try dsimp only at hSw); obtain ⟨hSw0, hSwB⟩ := hSw; have t0 := cell_blk hSwB 0; have t1 := cell_blk hSwB 1; have t2 := cell_blk hSwB 2; have t3 := cell_blk hSwB 3; have t4 := cell_blk hSwB 4; have t5 := cell_blk hSwB 5; go_simp <;> (with_reducible rfl)
              (try simp only [Act.put, pA, pZ, pS])
              refine wpAnyH_take (i := 2) (oi := ?oK11k2) (v := ?vK11k2) ?hiK11k2 (by kernel_rfl) (by kernel_rfl) (by kernel_rfl) (fun _ _ _ h => h) ?hyK11k2 (by assumption) ?restK11k2
              case hiK11k2 => simp only [gA, gS, gZ]; rfl
              case hyK11k2 =>
                refine Or.inl ⟨by rfl, ?_⟩
                intro w hSw; (try dsimp only at hSw); obtain ⟨hSw0, hSwB⟩ := hSw; have t0 := cell_blk hSwB 0; have t1 := cell_blk hSwB 1; have t2 := cell_blk hSwB 2; have t3 := cell_blk hSwB 3; have t4 := cell_blk hSwB 4; have t5 := cell_blk hSwB 5; go_simp <;> (with_reducible rfl)
              (try simp only [Act.put, pA, pZ, pS])
              refine wpAnyH_take (i := 3) (oi := ?oK11k3) (v := ?vK11k3) ?hiK11k3 (by kernel_rfl) (by kernel_rfl) (by kernel_rfl) (fun _ _ _ h => h) ?hyK11k3 (by assumption) ?restK11k3
              case hiK11k3 => simp only [gA, gS, gZ]; rfl
              case hyK11k3 =>
                refine Or.inl ⟨by rfl, ?_⟩
                intro w hSw; (try dsimp only at hSw); obtain ⟨hSw0, hSwB⟩ := hSw; have t0 := cell_blk hSwB 0; have t1 := cell_blk hSwB 1; have t2 := cell_blk hSwB 2; have t3 := cell_blk hSwB 3; have t4 := cell_blk hSwB 4; have t5 := cell_blk hSwB 5; go_simp <;> (with_reducible rfl)
              (try simp only [Act.put, pA, pZ, pS])
              refine wpAnyH_take (i := 4) (oi := ?oK11k4) (v := ?vK11k4) ?hiK11k4 (by kernel_rfl) (by kernel_rfl) (by kernel_rfl) (fun _ _ _ h => h) ?hyK11k4 (by assumption) ?restK11k4
              case hiK11k4 => simp only [gA, gS, gZ]; rfl
              case hyK11k4 =>
                refine Or.inl ⟨by rfl, ?_⟩
                intro w hSw; (try dsimp only at hSw); obtain ⟨hSw0, hSwB⟩ := hSw; have t0 := cell_blk hSwB 0; have t1 := cell_blk hSwB 1; have t2 := cell_blk hSwB 2; have t3 := cell_blk hSwB 3; have t4 := cell_blk hSwB 4; have t5 := cell_blk hSwB 5; go_simp <;> (with_reducible rfl)
              (try simp only [Act.put, pA, pZ, pS])
              refine wpAnyH_take (i := 5) (oi := ?oK11k5) (v := ?vK11k5) ?hiK11k5 (by kernel_rfl) (by kernel_rfl) (by kernel_rfl) (fun _ _ _ h => h) ?hyK11k5 (by assumption) ?restK11k5
              case hiK11k5 => simp only [gA, gS, gZ]; rfl
              case hyK11k5 =>
                refine Or.inl ⟨by rfl, ?_⟩
                intro w hSw; (try dsimp only at hSw); obtain ⟨hSw0, hSwB⟩ := hSw; have t0 := cell_blk hSwB 0; have t1 := cell_blk hSwB 1; have t2 := cell_blk hSwB 2; have t3 := cell_blk hSwB 3; have t4 := cell_blk hSwB 4; have t5 := cell_blk hSwB 5; go_simp <;> (with_reducible rfl)
              (try simp only [Act.put, pA, pZ, pS])
              refine wpAnyH_take (i := 6) (oi := ?oK11k6) (v := ?vK11k6) ?hiK11k6 (by kernel_rfl) (by kernel_rfl) (by kernel_rfl) (fun _ _ _ h => h) ?hyK11k6 (by assumption) ?restK11k6
              case hiK11k6 => simp only [gA, gS, gZ]; rfl
              case hyK11k6 =>
                refine Or.inl ⟨by rfl, ?_⟩
                intro w hSw; (try dsimp only at hSw); obtain ⟨hSw0, hSwB⟩ := hSw; have t0 := cell_blk hSwB 0; have t1 := cell_blk hSwB 1; have t2 := cell_blk hSwB 2; have t3 := cell_blk hSwB 3; have t4 := cell_blk hSwB 4; have t5 := cell_blk hSwB 5; go_simp <;> (with_reducible rfl)
              (try simp only [Act.put, pA, pZ, pS])
              refine wpAnyH_take (i := 7) (oi := ?oK11k7) (v := ?vK11k7) ?hiK11k7 (by kernel_rfl) (by kernel_rfl) (by kernel_rfl) (fun _ _ _ h => h) ?hyK11k7 (by assumption) ?restK11k7
              case hiK11k7 => simp only [gA, gS, gZ]; rfl
              case hyK11k7 =>
                refine Or.inl ⟨by rfl, ?_⟩
                intro w hSw; (try dsimp only at hSw); obtain ⟨hSw0, hSwB⟩ := hSw; have t0 := cell_blk hSwB 0; have t1 := cell_blk hSwB 1; have t2 := cell_blk hSwB 2; have t3 := cell_blk hSwB 3; have t4 := cell_blk hSwB 4; have t5 := cell_blk hSwB 5; go_simp <;> (with_reducible rfl)
              (try simp only [Act.put, pA, pZ, pS])
              refine wpAnyH_ready (rs := [8]) (by kernel_rfl) (by simp) ?_
              refine AllReadyH.cons rfl (fun K hK => ?_) AllReadyH.nil
              first
              | refine step_store_mid rfl 34 (.tmp 73) (.tmp 72) rfl g (i * 6) #[.string xn, .bool true, .bool xa, .bool xi, .string s.d.1.nm, .int .i64 xc] (by simp [Act.eval]) (by simp [Act.eval]) HTH.out size34 (by simp [Value.oneCell']) ?_
              | refine step_store_mid rfl 34 (.tmp 116) (.tmp 115) rfl g (i * 6) #[.string xn, .bool true, .bool xa, .bool xi, .string s.d.1.nm, .int .i64 xc] (by simp [Act.eval]) (by simp [Act.eval]) HTH.out size34 (by simp [Value.oneCell']) ?_
              refine (show K _ W7 → _ from fun t => by rw [HW7.out] at t; exact t) (hK.out _ W7 (by exact HKP.out) (fun hHeldC8 => ?_))
              clear hK K
              (try simp only [Act.put, pA])
              refine wpAnyH_done (by kernel_rfl) ?_ _
              refine NoPanic.normal ?_
              clear HW7 HKP HSS
              go_wp2_with fail
              have HSE : Hid ((fun V => V.cell? ⟨b, 36, none⟩ = some (.map (some s.g)) ∧ V.cell? ⟨W.heap.size, 0, none⟩ = some (.string xn)) W7.drew) := Lib.hid ⟨cell_blk (HFN.out.same (Below.refl _ _).drew).blk 36, cell_blk (w := W7.drew) HX11.out 0⟩
              obtain ⟨w5, hrun, hm5, hg5⟩ := (HFN.out.same (Below.refl _ _).drew).own.gm.put (by have h9 : s.gn ≤ 4398046511104 := HGN.out; show s.gn < maxLen; unfold maxLen; omega) (x := xn) HXZ.out (a := false) trivial
              rw [gvF_cons] at hm5
              have hrun : (Instr.mapUpdate 49 (.map (some s.g)) (.string xn) (.bool false)).run Tryd.prog W7.drew = .ok () w5 := hrun
              have HS5 := Lib.hid ((HFN.out.same (Below.refl _ _).drew).put_g hm5 hg5)
              have A5 : Hid ((fun V => V.cell? ⟨b, 36, none⟩ = some (.map (some s.g)) ∧ V.cell? ⟨W.heap.size, 0, none⟩ = some (.string xn)) w5) := Lib.hid (by
                have hlx : W.heap.size ≠ s.g := fun e => by
                  obtain ⟨D, ⟨es, clock, h2, -⟩, -⟩ := HFN.out.own.gm
                  have h3 := HX11.out
                  rw [e] at h3
                  rw [h3] at h2
                  cases h2
                have h4 : W7.drew.heap[W.heap.size]? = some (.cells #[.string xn, .bool true, .bool xa, .bool xi, .string s.d.1.nm, .int .i64 xc] 34 (0, 0)) := HX11.out
                have h1 := (hg5.block _ (lt_of_block h4) (fun e => hlx (Option.some.inj e))).trans h4
                exact ⟨cell_blk HS5.out.blk 36, cell_blk h1 0⟩)
              clear hm5 hg5
              go_wp2_with fail
              refine wp_region_noPanic ?_
              refine wp_region_held_drew (S := (fun V => V.cell? ⟨b, 36, none⟩ = some (.map (some s.g)) ∧ V.cell? ⟨W.heap.size, 0, none⟩ = some (.string xn))) (by kernel_rfl) (by exact HSE.out) (fun hHeld => ?_)
              refine wpAnyH_take (i := 0) (oi := ?oK10k0) (v := ?vK10k0) ?hiK10k0 (by kernel_rfl) (by kernel_rfl) (by kernel_rfl) (fun _ _ _ h => h) ?hyK10k0 (by assumption) ?restK10k0
              case hiK10k0 => simp only [gA, gZ]; rfl
              case hyK10k0 =>
                refine Or.inl ⟨by rfl, ?_⟩
                intro w hSw; (try dsimp only at hSw); go_simp <;> (with_reducible rfl)
              (try simp only [Act.put, pA, pZ, pS])
              refine wpAnyH_take (i := 1) (oi := ?oK10k1) (v := ?vK10k1) ?hiK10k1 (by kernel_rfl) (by kernel_rfl) (by kernel_rfl) (fun _ _ _ h => h) ?hyK10k1 (by assumption) ?restK10k1
              case hiK10k1 => simp only [gA, gS, gZ]; rfl
              case hyK10k1 =>
                refine Or.inl ⟨by rfl, ?_⟩
                intro w hSw; (try dsimp only at hSw); go_simp <;> (with_reducible rfl)
              (try simp only [Act.put, pA, pZ, pS])
              refine wpAnyH_take (i := 2) (oi := ?oK10k2) (v := ?vK10k2) ?hiK10k2 (by kernel_rfl) (by kernel_rfl) (by kernel_rfl) (fun _ _ _ h => h) ?hyK10k2 (by assumption) ?restK10k2
              case hiK10k2 => simp only [gA, gS, gZ]; rfl
              case hyK10k2 =>
                refine Or.inl ⟨by rfl, ?_⟩
                intro w hSw; (try dsimp only at hSw); go_simp <;> (with_reducible rfl)
              (try simp only [Act.put, pA, pZ, pS])
              refine wpAnyH_take (i := 3) (oi := ?oK10k3) (v := ?vK10k3) ?hiK10k3 (by kernel_rfl) (by kernel_rfl) (by kernel_rfl) (fun _ _ _ h => h) ?hyK10k3 (by assumption) ?restK10k3
              case hiK10k3 => simp only [gA, gS, gZ]; rfl
              case hyK10k3 =>
                refine Or.inl ⟨by rfl, ?_⟩
                intro w hSw; (try dsimp only at hSw); go_simp <;> (with_reducible rfl)
              (try simp only [Act.put, pA, pZ, pS])
              refine wpAnyH_take (i := 4) (oi := ?oK10k4) (v := ?vK10k4) ?hiK10k4 (by kernel_rfl) (by kernel_rfl) (by kernel_rfl) (fun _ _ _ h => h) ?hyK10k4 (by assumption) ?restK10k4
              case hiK10k4 => simp only [gA, gS, gZ]; rfl
              case hyK10k4 =>
                refine Or.inl ⟨by rfl, ?_⟩
                intro w hSw; (try dsimp only at hSw); go_simp <;> (with_reducible rfl)
              (try simp only [Act.put, pA, pZ, pS])
              refine wpAnyH_take (i := 5) (oi := ?oK10k5) (v := ?vK10k5) ?hiK10k5 (by kernel_rfl) (by kernel_rfl) (by kernel_rfl) (fun _ _ _ h => h) ?hyK10k5 (by assumption) ?restK10k5
              case hiK10k5 => simp only [gA, gS, gZ]; rfl
              case hyK10k5 =>
                refine Or.inl ⟨by rfl, ?_⟩
                intro w hSw; (try dsimp only at hSw); go_simp <;> (with_reducible rfl)
              (try simp only [Act.put, pA, pZ, pS])
              refine wpAnyH_take (i := 6) (oi := ?oK10k6) (v := ?vK10k6) ?hiK10k6 (by kernel_rfl) (by kernel_rfl) (by kernel_rfl) (fun _ _ _ h => h) ?hyK10k6 (by assumption) ?restK10k6
              case hiK10k6 => simp only [gA, gS, gZ]; rfl
              case hyK10k6 =>
                refine Or.inl ⟨by rfl, ?_⟩
                intro w hSw; (try dsimp only at hSw); go_simp <;> (with_reducible rfl)
              (try simp only [Act.put, pA, pZ, pS])
              refine wpAnyH_ready (rs := [7]) (by kernel_rfl) (by simp) ?_
              refine AllReadyH.cons rfl (fun K hK => ?_) AllReadyH.nil
              go_simp
              
              refine hK.out _ _ A5.out (fun hHeldC7 => ?_)
              clear hK K
              (try simp only [Act.put, pA, pZ, pS])
              refine wpAnyH_done (by kernel_rfl) ?_ _
              refine NoPanic.normal ?_
              go_wp2_with fail
              go_ret
              rw [HRZ.out]
              exact ⟨rfl, _, _, HS5.out, (by first | exact Nat.le_succ _ | exact if_le _ _)⟩
          | false =>
            have HRZ : Hid (r = .error 20) := Lib.hid HRE.out
            go_wp2_with fail
            go_ret
            rw [HRZ.out]
            exact ⟨rfl, _, HSC.out, rfl, rfl⟩
        | false =>
          cases ys with
          | true =>
            have HRZ : Hid (r = .error 20) := Lib.hid HRE.out
            go_wp2_with fail
            go_ret
            rw [HRZ.out]
            exact ⟨rfl, _, HSC.out, rfl, rfl⟩
          | false =>
            cases trait with
            | true =>
              cases xa with
              | true =>
                cases ya with
                | true =>
                  have HRZ : Hid (r = .ok (s.ms.set i ⟨xn, false, true, xi, s.d.1.nm, xc⟩, (xn, true) :: s.G)) := Lib.hid HRE.out
                  go_wp2_with fail
                  clear v0 t0 v1 t1 v2 t2 v3 t3 v4 t4 v5 t5
                  have HS10 := Lib.hid (HSC.out.same (Below.refl _ _).drew)
                  have HX10 : Hid (W9.drew.heap[W.heap.size]? = some (.cells #[.string xn, .bool false, .bool true, .bool xi, .string s.d.1.nm, .int .i64 xc] 34 (0, 0))) := Lib.hid HX8.out
                  have HOQ : Hid (Owns W9.drew 34 6 (.slice (some ⟨g, 0, none⟩) s.ms.length cp) (s.ms.map MtP.row)) := Lib.hid (by
                    have h2 : Owns W9.drew 34 6 (.slice s.m.o s.m.n s.m.c) (s.ms.map MtP.row) := HS10.out.own.om
                    rw [HGE.out.1] at h2
                    exact h2)
                  have HPU := Lib.hid (owns_put6 HOQ.out HGE.out.2 (u0 := .string xn) (u1 := .bool false) (u2 := .bool true) (u3 := .bool xi) (u4 := .string s.d.1.nm) (u5 := .int .i64 xc) rfl rfl rfl rfl rfl rfl)
                  have h9 : W9.drew.cell? ⟨b, 21, none⟩ = some (.slice s.m.o s.m.n s.m.c) := cell_blk HS10.out.blk 21
                  rw [HGE.out.1] at h9
                  have HSS : Hid ((fun V => V.cell? ⟨b, 21, none⟩ = some (.slice (some ⟨g, 0, none⟩) s.ms.length cp) ∧ V.heap[W.heap.size]? = some (.cells #[.string xn, .bool false, .bool true, .bool xi, .string s.d.1.nm, .int .i64 xc] 34 (0, 0))) W9.drew) := Lib.hid ⟨h9, HX10.out⟩
                  have P9 : Hid (W9.drew.cell? ⟨g, i * 6, none⟩ = some (.string yn) ∧ W9.drew.cell? ⟨g, i * 6 + 1, none⟩ = some (.bool false) ∧ W9.drew.cell? ⟨g, i * 6 + 2, none⟩ = some (.bool true) ∧ W9.drew.cell? ⟨g, i * 6 + 3, none⟩ = some (.bool false) ∧ W9.drew.cell? ⟨g, i * 6 + 4, none⟩ = some (.string yf) ∧ W9.drew.cell? ⟨g, i * 6 + 5, none⟩ = some (.int .i64 yc)) := Lib.hid (by
                    obtain ⟨a9, c9, hv9, -, -, hl9, -, -⟩ := HOQ.out.any
                    simp only [Value.slice.injEq] at hv9
                    obtain ⟨rfl, -, -⟩ := hv9
                    obtain ⟨g9, o9, e9, -, -, hc9⟩ := hl9 i _ HGE.out.2
                    cases e9
                    exact ⟨by simpa using hc9 0 _ rfl, by simpa using hc9 1 _ rfl, by simpa using hc9 2 _ rfl, by simpa using hc9 3 _ rfl, by simpa using hc9 4 _ rfl, by simpa using hc9 5 _ rfl⟩)
                  have p0 : W9.drew.cell? ⟨g, i * 6, none⟩ = some (.string yn) := P9.out.1
                  have p1 : W9.drew.cell? ⟨g, i * 6 + 1, none⟩ = some (.bool false) := P9.out.2.1
                  have p2 : W9.drew.cell? ⟨g, i * 6 + 2, none⟩ = some (.bool true) := P9.out.2.2.1
                  have p3 : W9.drew.cell? ⟨g, i * 6 + 3, none⟩ = some (.bool false) := P9.out.2.2.2.1
                  have p4 : W9.drew.cell? ⟨g, i * 6 + 4, none⟩ = some (.string yf) := P9.out.2.2.2.2.1
                  have p5 : W9.drew.cell? ⟨g, i * 6 + 5, none⟩ = some (.int .i64 yc) := P9.out.2.2.2.2.2
                  have f0 := HOQ.out.free (g := g) rfl (i * 6)
                  have f1 := HOQ.out.free (g := g) rfl (i * 6 + 1)
                  have f2 := HOQ.out.free (g := g) rfl (i * 6 + 2)
                  have f3 := HOQ.out.free (g := g) rfl (i * 6 + 3)
                  have f4 := HOQ.out.free (g := g) rfl (i * 6 + 4)
                  have f5 := HOQ.out.free (g := g) rfl (i * 6 + 5)
                  have HTH : Hid (W9.drew.there g (i * 6) 6) := Lib.hid (by
                    intro j hj
                    have h6 : j = 0 ∨ j = 1 ∨ j = 2 ∨ j = 3 ∨ j = 4 ∨ j = 5 := by omega
                    rcases h6 with rfl | rfl | rfl | rfl | rfl | rfl
                    · exact ⟨Option.isSome_iff_exists.2 ⟨_, p0⟩, f0⟩
                    · exact ⟨Option.isSome_iff_exists.2 ⟨_, p1⟩, f1⟩
                    · exact ⟨Option.isSome_iff_exists.2 ⟨_, p2⟩, f2⟩
                    · exact ⟨Option.isSome_iff_exists.2 ⟨_, p3⟩, f3⟩
                    · exact ⟨Option.isSome_iff_exists.2 ⟨_, p4⟩, f4⟩
                    · exact ⟨Option.isSome_iff_exists.2 ⟨_, p5⟩, f5⟩)
                  clear p0 f0 p1 f1 p2 f2 p3 f3 p4 f4 p5 f5
                  have HKP : Hid ((fun V => V.cell? ⟨b, 21, none⟩ = some (.slice (some ⟨g, 0, none⟩) s.ms.length cp) ∧ V.heap[W.heap.size]? = some (.cells #[.string xn, .bool false, .bool true, .bool xi, .string s.d.1.nm, .int .i64 xc] 34 (0, 0))) ((((((W9.drew.setCell ⟨g, i * 6, none⟩ (.string xn)).setCell ⟨g, i * 6 + 1, none⟩ (.bool false)).setCell ⟨g, i * 6 + 2, none⟩ (.bool true)).setCell ⟨g, i * 6 + 3, none⟩ (.bool xi)).setCell ⟨g, i * 6 + 4, none⟩ (.string s.d.1.nm)).setCell ⟨g, i * 6 + 5, none⟩ (.int .i64 xc))) := Lib.hid (by
                    have hm := (Mod.refl (fun j => j = g) W9.drew).grown HPU.out.2 (fun j e _ => (Option.some.inj e).symm)
                    have hgb : b ≠ g := fun e => by obtain ⟨c9, h9⟩ := own_ty HOQ.out (k := g) rfl; rw [← e, HS10.out.blk] at h9; cases h9
                    have hgx : W.heap.size ≠ g := fun e => HBQ.out (by rw [HGE.out.1]; show some g = _; rw [e])
                    have h8 := cell_blk (hm.blk HS10.out.blk hgb) 21
                    have h8 : ((((((W9.drew.setCell ⟨g, i * 6, none⟩ (.string xn)).setCell ⟨g, i * 6 + 1, none⟩ (.bool false)).setCell ⟨g, i * 6 + 2, none⟩ (.bool true)).setCell ⟨g, i * 6 + 3, none⟩ (.bool xi)).setCell ⟨g, i * 6 + 4, none⟩ (.string s.d.1.nm)).setCell ⟨g, i * 6 + 5, none⟩ (.int .i64 xc)).cell? ⟨b, 21, none⟩ = some (.slice s.m.o s.m.n s.m.c) := h8
                    rw [HGE.out.1] at h8
                    exact ⟨h8, hm.blk HX10.out hgx⟩)
                  have HFN : Hid (LkIs w0 ((((((W9.drew.setCell ⟨g, i * 6, none⟩ (.string xn)).setCell ⟨g, i * 6 + 1, none⟩ (.bool false)).setCell ⟨g, i * 6 + 2, none⟩ (.bool true)).setCell ⟨g, i * 6 + 3, none⟩ (.bool xi)).setCell ⟨g, i * 6 + 4, none⟩ (.string s.d.1.nm)).setCell ⟨g, i * 6 + 5, none⟩ (.int .i64 xc)) b { s with ms := s.ms.set i ⟨xn, false, true, xi, s.d.1.nm, xc⟩ }) := Lib.hid (by
                    have h1 := HPU.out.1
                    have h2 := HPU.out.2
                    have hr : (s.ms.map MtP.row).set i [.string xn, .bool false, .bool true, .bool xi, .string s.d.1.nm, .int .i64 xc] = (s.ms.set i ⟨xn, false, true, xi, s.d.1.nm, xc⟩).map MtP.row := by rw [List.map_set]; rfl
                    rw [hr] at h1
                    refine HS10.out.turn_m (l := s.ms.set i ⟨xn, false, true, xi, s.d.1.nm, xc⟩) ?_ ?_
                    · show Owns _ 34 6 (.slice s.m.o s.m.n s.m.c) _
                      rw [HGE.out.1]
                      exact h1
                    · show World.grownBy _ _ (Value.slice s.m.o s.m.n s.m.c).ownBlock
                      rw [HGE.out.1]
                      exact h2)
                  obtain ⟨W7, hW7⟩ : ∃ W7, W7 = ((((((W9.drew.setCell ⟨g, i * 6, none⟩ (.string xn)).setCell ⟨g, i * 6 + 1, none⟩ (.bool false)).setCell ⟨g, i * 6 + 2, none⟩ (.bool true)).setCell ⟨g, i * 6 + 3, none⟩ (.bool xi)).setCell ⟨g, i * 6 + 4, none⟩ (.string s.d.1.nm)).setCell ⟨g, i * 6 + 5, none⟩ (.int .i64 xc)) := ⟨_, rfl⟩
                  rw [← hW7] at HKP HFN
                  have HW7 := Lib.hid hW7
                  clear hW7
                  have HX11 : Hid (W7.heap[W.heap.size]? = some (.cells #[.string xn, .bool false, .bool true, .bool xi, .string s.d.1.nm, .int .i64 xc] 34 (0, 0))) := Lib.hid HKP.out.2
                  clear h9 HPU P9 HOQ HX10 HS10
                  refine wp_region_noPanic ?_
                  refine wp_region_held_drew (S := (fun V => V.cell? ⟨b, 21, none⟩ = some (.slice (some ⟨g, 0, none⟩) s.ms.length cp) ∧ V.heap[W.heap.size]? = some (.cells #[.string xn, .bool false, .bool true, .bool xi, .string s.d.1.nm, .int .i64 xc] 34 (0, 0)))) (by kernel_rfl) (by exact HSS.out) (fun hHeld => ?_)
                  refine wpAnyH_take (i := 0) (oi := ?oK13k0) (v := ?vK13k0) ?hiK13k0 (by kernel_rfl) (by kernel_rfl) (by kernel_rfl) (fun _ _ _ h => h) ?hyK13k0 (by assumption) ?restK13k0
                  case hiK13k0 => simp only [gA, gZ]; rfl
                  case hyK13k0 =>
                    refine Or.inl ⟨by rfl, ?_⟩
                    intro w hSw; (try dsimp only at hSw); obtain ⟨hSw0, hSwB⟩ := hSw; have t0 := cell_blk hSwB 0; have t1 := cell_blk hSwB 1; have t2 := cell_blk hSwB 2; have t3 := cell_blk hSwB 3; have t4 := cell_blk hSwB 4; have t5 := cell_blk hSwB 5; go_simp <;> (with_reducible rfl)
                  (try simp only [Act.put, pA, pZ, pS])
                  refine wpAnyH_take (i := 1) (oi := ?oK13k1) (v := ?vK13k1) ?hiK13k1 (by kernel_rfl) (by kernel_rfl) (by kernel_rfl) (fun _ _ _ h => h) ?hyK13k1 (by assumption) ?restK13k1
                  case hiK13k1 => simp only [gA, gS, gZ]; rfl
                  case hyK13k1 =>
                    refine Or.inl ⟨by rfl, ?_⟩
                    intro w hSw; (try dsimp only at hSw); obtain ⟨hSw0, hSwB⟩ := hSw; have t0 := cell_blk hSwB 0; have t1 := cell_blk hSwB 1; have t2 := cell_blk hSwB 2; have t3 := cell_blk hSwB 3; have t4 := cell_blk hSwB 4; have t5 := cell_blk hSwB 5; go_simp <;> (with_reducible rfl)
                  (try simp only [Act.put, pA, pZ, pS])
                  refine wpAnyH_take (i := 2) (oi := ?oK13k2) (v := ?vK13k2) ?hiK13k2 (by kernel_rfl) (by kernel_rfl) (by kernel_rfl) (fun _ _ _ h => h) ?hyK13k2 (by assumption) ?restK13k2
                  case hiK13k2 => simp only [gA, gS, gZ]; rfl
                  case hyK13k2 =>
                    refine Or.inl ⟨by rfl, ?_⟩
                    intro w hSw; (try dsimp only at hSw); obtain ⟨hSw0, hSwB⟩ := hSw; have t0 := cell_blk hSwB 0; have t1 := cell_blk hSwB 1; have t2 := cell_blk hSwB 2; have t3 := cell_blk hSwB 3; have t4 := cell_blk hSwB 4; have t5 := cell_blk hSwB 5; go_simp <;> (with_reducible rfl)
                  (try simp only [Act.put, pA, pZ, pS])
                  refine wpAnyH_take (i := 3) (oi := ?oK13k3) (v := ?vK13k3) ?hiK13k3 (by kernel_rfl) (by kernel_rfl) (by kernel_rfl) (fun _ _ _ h => h) ?hyK13k3 (by assumption) ?restK13k3
                  case hiK13k3 => simp only [gA, gS, gZ]; rfl
                  case hyK13k3 =>
                    refine Or.inl ⟨by rfl, ?_⟩
                    intro w hSw; (try dsimp only at hSw); obtain ⟨hSw0, hSwB⟩ := hSw; have t0 := cell_blk hSwB 0; have t1 := cell_blk hSwB 1; have t2 := cell_blk hSwB 2; have t3 := cell_blk hSwB 3; have t4 := cell_blk hSwB 4; have t5 := cell_blk hSwB 5; go_simp <;> (with_reducible rfl)
                  (try simp only [Act.put, pA, pZ, pS])
                  refine wpAnyH_take (i := 4) (oi := ?oK13k4) (v := ?vK13k4) ?hiK13k4 (by kernel_rfl) (by kernel_rfl) (by kernel_rfl) (fun _ _ _ h => h) ?hyK13k4 (by assumption) ?restK13k4
                  case hiK13k4 => simp only [gA, gS, gZ]; rfl
                  case hyK13k4 =>
                    refine Or.inl ⟨by rfl, ?_⟩
                    intro w hSw; (try dsimp only at hSw); obtain ⟨hSw0, hSwB⟩ := hSw; have t0 := cell_blk hSwB 0; have t1 := cell_blk hSwB 1; have t2 := cell_blk hSwB 2; have t3 := cell_blk hSwB 3; have t4 := cell_blk hSwB 4; have t5 := cell_blk hSwB 5; go_simp <;> (with_reducible rfl)
                  (try simp only [Act.put, pA, pZ, pS])
                  refine wpAnyH_take (i := 5) (oi := ?oK13k5) (v := ?vK13k5) ?hiK13k5 (by kernel_rfl) (by kernel_rfl) (by kernel_rfl) (fun _ _ _ h => h) ?hyK13k5 (by assumption) ?restK13k5
                  case hiK13k5 => simp only [gA, gS, gZ]; rfl
                  case hyK13k5 =>
                    refine Or.inl ⟨by rfl, ?_⟩
                    intro w hSw; (try dsimp only at hSw); obtain ⟨hSw0, hSwB⟩ := hSw; have t0 := cell_blk hSwB 0; have t1 := cell_blk hSwB 1; have t2 := cell_blk hSwB 2; have t3 := cell_blk hSwB 3; have t4 := cell_blk hSwB 4; have t5 := cell_blk hSwB 5; go_simp <;> (with_reducible rfl)
                  (try simp only [Act.put, pA, pZ, pS])
                  refine wpAnyH_take (i := 6) (oi := ?oK13k6) (v := ?vK13k6) ?hiK13k6 (by kernel_rfl) (by kernel_rfl) (by kernel_rfl) (fun _ _ _ h => h) ?hyK13k6 (by assumption) ?restK13k6
                  case hiK13k6 => simp only [gA, gS, gZ]; rfl
                  case hyK13k6 =>
                    refine Or.inl ⟨by rfl, ?_⟩
                    intro w hSw; (try dsimp only at hSw); obtain ⟨hSw0, hSwB⟩ := hSw; have t0 := cell_blk hSwB 0; have t1 := cell_blk hSwB 1; have t2 := cell_blk hSwB 2; have t3 := cell_blk hSwB 3; have t4 := cell_blk hSwB 4; have t5 := cell_blk hSwB 5; go_simp <;> (with_reducible rfl)
                  (try simp only [Act.put, pA, pZ, pS])
                  refine wpAnyH_take (i := 7) (oi := ?oK13k7) (v := ?vK13k7) ?hiK13k7 (by kernel_rfl) (by kernel_rfl) (by kernel_rfl) (fun _ _ _ h => h) ?hyK13k7 (by assumption) ?restK13k7
                  case hiK13k7 => simp only [gA, gS, gZ]; rfl
                  case hyK13k7 =>
                    refine Or.inl ⟨by rfl, ?_⟩
                    intro w hSw; (try dsimp only at hSw); obtain ⟨hSw0, hSwB⟩ := hSw; have t0 := cell_blk hSwB 0; have t1 := cell_blk hSwB 1; have t2 := cell_blk hSwB 2; have t3 := cell_blk hSwB 3; have t4 := cell_blk hSwB 4; have t5 := cell_blk hSwB 5; go_simp <;> (with_reducible rfl)
                  (try simp only [Act.put, pA, pZ, pS])
                  refine wpAnyH_ready (rs := [8]) (by kernel_rfl) (by simp) ?_
                  refine AllReadyH.cons rfl (fun K hK => ?_) AllReadyH.nil
                  first
                  | refine step_store_mid rfl 34 (.tmp 73) (.tmp 72) rfl g (i * 6) #[.string xn, .bool false, .bool true, .bool xi, .string s.d.1.nm, .int .i64 xc] (by simp [Act.eval]) (by simp [Act.eval]) HTH.out size34 (by simp [Value.oneCell']) ?_
                  | refine step_store_mid rfl 34 (.tmp 116) (.tmp 115) rfl g (i * 6) #[.string xn, .bool false, .bool true, .bool xi, .string s.d.1.nm, .int .i64 xc] (by simp [Act.eval]) (by simp [Act.eval]) HTH.out size34 (by simp [Value.oneCell']) ?_
                  refine (show K _ W7 → _ from fun t => by rw [HW7.out] at t; exact t) (hK.out _ W7 (by exact HKP.out) (fun hHeldC8 => ?_))
                  clear hK K
                  (try simp only [Act.put, pA])
                  refine wpAnyH_done (by kernel_rfl) ?_ _
                  refine NoPanic.normal ?_
                  clear HW7 HKP HSS
                  go_wp2_with fail
                  have HSE : Hid ((fun V => V.cell? ⟨b, 36, none⟩ = some (.map (some s.g)) ∧ V.cell? ⟨W.heap.size, 0, none⟩ = some (.string xn)) W7.drew) := Lib.hid ⟨cell_blk (HFN.out.same (Below.refl _ _).drew).blk 36, cell_blk (w := W7.drew) HX11.out 0⟩
                  obtain ⟨w5, hrun, hm5, hg5⟩ := (HFN.out.same (Below.refl _ _).drew).own.gm.put (by have h9 : s.gn ≤ 4398046511104 := HGN.out; show s.gn < maxLen; unfold maxLen; omega) (x := xn) HXZ.out (a := true) trivial
                  rw [gvF_cons] at hm5
                  have hrun : (Instr.mapUpdate 49 (.map (some s.g)) (.string xn) (.bool true)).run Tryd.prog W7.drew = .ok () w5 := hrun
                  have HS5 := Lib.hid ((HFN.out.same (Below.refl _ _).drew).put_g hm5 hg5)
                  have A5 : Hid ((fun V => V.cell? ⟨b, 36, none⟩ = some (.map (some s.g)) ∧ V.cell? ⟨W.heap.size, 0, none⟩ = some (.string xn)) w5) := Lib.hid (by
                    have hlx : W.heap.size ≠ s.g := fun e => by
                      obtain ⟨D, ⟨es, clock, h2, -⟩, -⟩ := HFN.out.own.gm
                      have h3 := HX11.out
                      rw [e] at h3
                      rw [h3] at h2
                      cases h2
                    have h4 : W7.drew.heap[W.heap.size]? = some (.cells #[.string xn, .bool false, .bool true, .bool xi, .string s.d.1.nm, .int .i64 xc] 34 (0, 0)) := HX11.out
                    have h1 := (hg5.block _ (lt_of_block h4) (fun e => hlx (Option.some.inj e))).trans h4
                    exact ⟨cell_blk HS5.out.blk 36, cell_blk h1 0⟩)
                  clear hm5 hg5
                  go_wp2_with fail
                  refine wp_region_noPanic ?_
                  refine wp_region_held_drew (S := (fun V => V.cell? ⟨b, 36, none⟩ = some (.map (some s.g)) ∧ V.cell? ⟨W.heap.size, 0, none⟩ = some (.string xn))) (by kernel_rfl) (by exact HSE.out) (fun hHeld => ?_)
                  refine wpAnyH_take (i := 0) (oi := ?oK12k0) (v := ?vK12k0) ?hiK12k0 (by kernel_rfl) (by kernel_rfl) (by kernel_rfl) (fun _ _ _ h => h) ?hyK12k0 (by assumption) ?restK12k0
                  case hiK12k0 => simp only [gA, gZ]; rfl
                  case hyK12k0 =>
                    refine Or.inl ⟨by rfl, ?_⟩
                    intro w hSw; (try dsimp only at hSw); go_simp <;> (with_reducible rfl)
                  (try simp only [Act.put, pA, pZ, pS])
                  refine wpAnyH_take (i := 1) (oi := ?oK12k1) (v := ?vK12k1) ?hiK12k1 (by kernel_rfl) (by kernel_rfl) (by kernel_rfl) (fun _ _ _ h => h) ?hyK12k1 (by assumption) ?restK12k1
                  case hiK12k1 => simp only [gA, gS, gZ]; rfl
                  case hyK12k1 =>
                    refine Or.inl ⟨by rfl, ?_⟩
                    intro w hSw; (try dsimp only at hSw); go_simp <;> (with_reducible rfl)
                  (try simp only [Act.put, pA, pZ, pS])
                  refine wpAnyH_take (i := 2) (oi := ?oK12k2) (v := ?vK12k2) ?hiK12k2 (by kernel_rfl) (by kernel_rfl) (by kernel_rfl) (fun _ _ _ h => h) ?hyK12k2 (by assumption) ?restK12k2
                  case hiK12k2 => simp only [gA, gS, gZ]; rfl
                  case hyK12k2 =>
                    refine Or.inl ⟨by rfl, ?_⟩
                    intro w hSw; (try dsimp only at hSw); go_simp <;> (with_reducible rfl)
                  (try simp only [Act.put, pA, pZ, pS])
                  refine wpAnyH_take (i := 3) (oi := ?oK12k3) (v := ?vK12k3) ?hiK12k3 (by kernel_rfl) (by kernel_rfl) (by kernel_rfl) (fun _ _ _ h => h) ?hyK12k3 (by assumption) ?restK12k3
                  case hiK12k3 => simp only [gA, gS, gZ]; rfl
                  case hyK12k3 =>
                    refine Or.inl ⟨by rfl, ?_⟩
                    intro w hSw; (try dsimp only at hSw); go_simp <;> (with_reducible rfl)
                  (try simp only [Act.put, pA, pZ, pS])
                  refine wpAnyH_take (i := 4) (oi := ?oK12k4) (v := ?vK12k4) ?hiK12k4 (by kernel_rfl) (by kernel_rfl) (by kernel_rfl) (fun _ _ _ h => h) ?hyK12k4 (by assumption) ?restK12k4
                  case hiK12k4 => simp only [gA, gS, gZ]; rfl
                  case hyK12k4 =>
                    refine Or.inl ⟨by rfl, ?_⟩
                    intro w hSw; (try dsimp only at hSw); go_simp <;> (with_reducible rfl)
                  (try simp only [Act.put, pA, pZ, pS])
                  refine wpAnyH_take (i := 5) (oi := ?oK12k5) (v := ?vK12k5) ?hiK12k5 (by kernel_rfl) (by kernel_rfl) (by kernel_rfl) (fun _ _ _ h => h) ?hyK12k5 (by assumption) ?restK12k5
                  case hiK12k5 => simp only [gA, gS, gZ]; rfl
                  case hyK12k5 =>
                    refine Or.inl ⟨by rfl, ?_⟩
                    intro w hSw; (try dsimp only at hSw); go_simp <;> (with_reducible rfl)
                  (try simp only [Act.put, pA, pZ, pS])
                  refine wpAnyH_take (i := 6) (oi := ?oK12k6) (v := ?vK12k6) ?hiK12k6 (by kernel_rfl) (by kernel_rfl) (by kernel_rfl) (fun _ _ _ h => h) ?hyK12k6 (by assumption) ?restK12k6
                  case hiK12k6 => simp only [gA, gS, gZ]; rfl
                  case hyK12k6 =>
                    refine Or.inl ⟨by rfl, ?_⟩
                    intro w hSw; (try dsimp only at hSw); go_simp <;> (with_reducible rfl)
                  (try simp only [Act.put, pA, pZ, pS])
                  refine wpAnyH_ready (rs := [7]) (by kernel_rfl) (by simp) ?_
                  refine AllReadyH.cons rfl (fun K hK => ?_) AllReadyH.nil
                  go_simp
                  
                  refine hK.out _ _ A5.out (fun hHeldC7 => ?_)
                  clear hK K
                  (try simp only [Act.put, pA, pZ, pS])
                  refine wpAnyH_done (by kernel_rfl) ?_ _
                  refine NoPanic.normal ?_
                  go_wp2_with fail
                  go_ret
                  rw [HRZ.out]
                  exact ⟨rfl, _, _, HS5.out, (by first | exact Nat.le_succ _ | exact if_le _ _)⟩
                | false =>
                  have HRZ : Hid (r = .ok (s.ms, s.G)) := Lib.hid HRE.out
                  go_wp2_with fail
                  go_ret
                  rw [HRZ.out]
                  exact ⟨rfl, _, _, HSC.out, (by first | exact Nat.le_succ _ | exact if_le _ _)⟩
              | false =>
                have HRZ : Hid (r = .ok (s.ms.set i ⟨xn, false, false, xi, s.d.1.nm, xc⟩, (xn, true) :: s.G)) := Lib.hid HRE.out
                go_wp2_with fail
                clear v0 t0 v1 t1 v2 t2 v3 t3 v4 t4 v5 t5
                have HS10 := Lib.hid (HSC.out.same (Below.refl _ _).drew)
                have HX10 : Hid (W9.drew.heap[W.heap.size]? = some (.cells #[.string xn, .bool false, .bool false, .bool xi, .string s.d.1.nm, .int .i64 xc] 34 (0, 0))) := Lib.hid HX8.out
                have HOQ : Hid (Owns W9.drew 34 6 (.slice (some ⟨g, 0, none⟩) s.ms.length cp) (s.ms.map MtP.row)) := Lib.hid (by
                  have h2 : Owns W9.drew 34 6 (.slice s.m.o s.m.n s.m.c) (s.ms.map MtP.row) := HS10.out.own.om
                  rw [HGE.out.1] at h2
                  exact h2)
                have HPU := Lib.hid (owns_put6 HOQ.out HGE.out.2 (u0 := .string xn) (u1 := .bool false) (u2 := .bool false) (u3 := .bool xi) (u4 := .string s.d.1.nm) (u5 := .int .i64 xc) rfl rfl rfl rfl rfl rfl)
                have h9 : W9.drew.cell? ⟨b, 21, none⟩ = some (.slice s.m.o s.m.n s.m.c) := cell_blk HS10.out.blk 21
                rw [HGE.out.1] at h9
                have HSS : Hid ((fun V => V.cell? ⟨b, 21, none⟩ = some (.slice (some ⟨g, 0, none⟩) s.ms.length cp) ∧ V.heap[W.heap.size]? = some (.cells #[.string xn, .bool false, .bool false, .bool xi, .string s.d.1.nm, .int .i64 xc] 34 (0, 0))) W9.drew) := Lib.hid ⟨h9, HX10.out⟩
                have P9 : Hid (W9.drew.cell? ⟨g, i * 6, none⟩ = some (.string yn) ∧ W9.drew.cell? ⟨g, i * 6 + 1, none⟩ = some (.bool false) ∧ W9.drew.cell? ⟨g, i * 6 + 2, none⟩ = some (.bool ya) ∧ W9.drew.cell? ⟨g, i * 6 + 3, none⟩ = some (.bool false) ∧ W9.drew.cell? ⟨g, i * 6 + 4, none⟩ = some (.string yf) ∧ W9.drew.cell? ⟨g, i * 6 + 5, none⟩ = some (.int .i64 yc)) := Lib.hid (by
                  obtain ⟨a9, c9, hv9, -, -, hl9, -, -⟩ := HOQ.out.any
                  simp only [Value.slice.injEq] at hv9
                  obtain ⟨rfl, -, -⟩ := hv9
                  obtain ⟨g9, o9, e9, -, -, hc9⟩ := hl9 i _ HGE.out.2
                  cases e9
                  exact ⟨by simpa using hc9 0 _ rfl, by simpa using hc9 1 _ rfl, by simpa using hc9 2 _ rfl, by simpa using hc9 3 _ rfl, by simpa using hc9 4 _ rfl, by simpa using hc9 5 _ rfl⟩)
                have p0 : W9.drew.cell? ⟨g, i * 6, none⟩ = some (.string yn) := P9.out.1
                have p1 : W9.drew.cell? ⟨g, i * 6 + 1, none⟩ = some (.bool false) := P9.out.2.1
                have p2 : W9.drew.cell? ⟨g, i * 6 + 2, none⟩ = some (.bool ya) := P9.out.2.2.1
                have p3 : W9.drew.cell? ⟨g, i * 6 + 3, none⟩ = some (.bool false) := P9.out.2.2.2.1
                have p4 : W9.drew.cell? ⟨g, i * 6 + 4, none⟩ = some (.string yf) := P9.out.2.2.2.2.1
                have p5 : W9.drew.cell? ⟨g, i * 6 + 5, none⟩ = some (.int .i64 yc) := P9.out.2.2.2.2.2
                have f0 := HOQ.out.free (g := g) rfl (i * 6)
                have f1 := HOQ.out.free (g := g) rfl (i * 6 + 1)
                have f2 := HOQ.out.free (g := g) rfl (i * 6 + 2)
                have f3 := HOQ.out.free (g := g) rfl (i * 6 + 3)
                have f4 := HOQ.out.free (g := g) rfl (i * 6 + 4)
                have f5 := HOQ.out.free (g := g) rfl (i * 6 + 5)
                have HTH : Hid (W9.drew.there g (i * 6) 6) := Lib.hid (by
                  intro j hj
                  have h6 : j = 0 ∨ j = 1 ∨ j = 2 ∨ j = 3 ∨ j = 4 ∨ j = 5 := by omega
                  rcases h6 with rfl | rfl | rfl | rfl | rfl | rfl
                  · exact ⟨Option.isSome_iff_exists.2 ⟨_, p0⟩, f0⟩
                  · exact ⟨Option.isSome_iff_exists.2 ⟨_, p1⟩, f1⟩
                  · exact ⟨Option.isSome_iff_exists.2 ⟨_, p2⟩, f2⟩
                  · exact ⟨Option.isSome_iff_exists.2 ⟨_, p3⟩, f3⟩
                  · exact ⟨Option.isSome_iff_exists.2 ⟨_, p4⟩, f4⟩
                  · exact ⟨Option.isSome_iff_exists.2 ⟨_, p5⟩, f5⟩)
                clear p0 f0 p1 f1 p2 f2 p3 f3 p4 f4 p5 f5
                have HKP : Hid ((fun V => V.cell? ⟨b, 21, none⟩ = some (.slice (some ⟨g, 0, none⟩) s.ms.length cp) ∧ V.heap[W.heap.size]? = some (.cells #[.string xn, .bool false, .bool false, .bool xi, .string s.d.1.nm, .int .i64 xc] 34 (0, 0))) ((((((W9.drew.setCell ⟨g, i * 6, none⟩ (.string xn)).setCell ⟨g, i * 6 + 1, none⟩ (.bool false)).setCell ⟨g, i * 6 + 2, none⟩ (.bool false)).setCell ⟨g, i * 6 + 3, none⟩ (.bool xi)).setCell ⟨g, i * 6 + 4, none⟩ (.string s.d.1.nm)).setCell ⟨g, i * 6 + 5, none⟩ (.int .i64 xc))) := Lib.hid (by
                  have hm := (Mod.refl (fun j => j = g) W9.drew).grown HPU.out.2 (fun j e _ => (Option.some.inj e).symm)
                  have hgb : b ≠ g := fun e => by obtain ⟨c9, h9⟩ := own_ty HOQ.out (k := g) rfl; rw [← e, HS10.out.blk] at h9; cases h9
                  have hgx : W.heap.size ≠ g := fun e => HBQ.out (by rw [HGE.out.1]; show some g = _; rw [e])
                  have h8 := cell_blk (hm.blk HS10.out.blk hgb) 21
                  have h8 : ((((((W9.drew.setCell ⟨g, i * 6, none⟩ (.string xn)).setCell ⟨g, i * 6 + 1, none⟩ (.bool false)).setCell ⟨g, i * 6 + 2, none⟩ (.bool false)).setCell ⟨g, i * 6 + 3, none⟩ (.bool xi)).setCell ⟨g, i * 6 + 4, none⟩ (.string s.d.1.nm)).setCell ⟨g, i * 6 + 5, none⟩ (.int .i64 xc)).cell? ⟨b, 21, none⟩ = some (.slice s.m.o s.m.n s.m.c) := h8
                  rw [HGE.out.1] at h8
                  exact ⟨h8, hm.blk HX10.out hgx⟩)
                have HFN : Hid (LkIs w0 ((((((W9.drew.setCell ⟨g, i * 6, none⟩ (.string xn)).setCell ⟨g, i * 6 + 1, none⟩ (.bool false)).setCell ⟨g, i * 6 + 2, none⟩ (.bool false)).setCell ⟨g, i * 6 + 3, none⟩ (.bool xi)).setCell ⟨g, i * 6 + 4, none⟩ (.string s.d.1.nm)).setCell ⟨g, i * 6 + 5, none⟩ (.int .i64 xc)) b { s with ms := s.ms.set i ⟨xn, false, false, xi, s.d.1.nm, xc⟩ }) := Lib.hid (by
                  have h1 := HPU.out.1
                  have h2 := HPU.out.2
                  have hr : (s.ms.map MtP.row).set i [.string xn, .bool false, .bool false, .bool xi, .string s.d.1.nm, .int .i64 xc] = (s.ms.set i ⟨xn, false, false, xi, s.d.1.nm, xc⟩).map MtP.row := by rw [List.map_set]; rfl
                  rw [hr] at h1
                  refine HS10.out.turn_m (l := s.ms.set i ⟨xn, false, false, xi, s.d.1.nm, xc⟩) ?_ ?_
                  · show Owns _ 34 6 (.slice s.m.o s.m.n s.m.c) _
                    rw [HGE.out.1]
                    exact h1
                  · show World.grownBy _ _ (Value.slice s.m.o s.m.n s.m.c).ownBlock
                    rw [HGE.out.1]
                    exact h2)
                obtain ⟨W7, hW7⟩ : ∃ W7, W7 = ((((((W9.drew.setCell ⟨g, i * 6, none⟩ (.string xn)).setCell ⟨g, i * 6 + 1, none⟩ (.bool false)).setCell ⟨g, i * 6 + 2, none⟩ (.bool false)).setCell ⟨g, i * 6 + 3, none⟩ (.bool xi)).setCell ⟨g, i * 6 + 4, none⟩ (.string s.d.1.nm)).setCell ⟨g, i * 6 + 5, none⟩ (.int .i64 xc)) := ⟨_, rfl⟩
                rw [← hW7] at HKP HFN
                have HW7 := Lib.hid hW7
                clear hW7
                have HX11 : Hid (W7.heap[W.heap.size]? = some (.cells #[.string xn, .bool false, .bool false, .bool xi, .string s.d.1.nm, .int .i64 xc] 34 (0, 0))) := Lib.hid HKP.out.2
                clear h9 HPU P9 HOQ HX10 HS10
                refine wp_region_noPanic ?_
                refine wp_region_held_drew (S := (fun V => V.cell? ⟨b, 21, none⟩ = some (.slice (some ⟨g, 0, none⟩) s.ms.length cp) ∧ V.heap[W.heap.size]? = some (.cells #[.string xn, .bool false, .bool false, .bool xi, .string s.d.1.nm, .int .i64 xc] 34 (0, 0)))) (by kernel_rfl) (by exact HSS.out) (fun hHeld => ?_)
                refine wpAnyH_take (i := 0) (oi := ?oK15k0) (v := ?vK15k0) ?hiK15k0 (by kernel_rfl) (by kernel_rfl) (by kernel_rfl) (fun _ _ _ h => h) ?hyK15k0 (by assumption) ?restK15k0
                case hiK15k0 => simp only [gA, gZ]; rfl
                case hyK15k0 =>
                  refine Or.inl ⟨by rfl, ?_⟩
                  intro w hSw; (try dsimp only at hSw); obtain ⟨hSw0, hSwB⟩ := hSw; have t0 := cell_blk hSwB 0; have t1 := cell_blk hSwB 1; have t2 := cell_blk hSwB 2; have t3 := cell_blk hSwB 3; have t4 := cell_blk hSwB 4; have t5 := cell_blk hSwB 5; go_simp <;> (with_reducible rfl)
                (try simp only [Act.put, pA, pZ, pS])
                refine wpAnyH_take (i := 1) (oi := ?oK15k1) (v := ?vK15k1) ?hiK15k1 (by kernel_rfl) (by kernel_rfl) (by kernel_rfl) (fun _ _ _ h => h) ?hyK15k1 (by assumption) ?restK15k1
                case hiK15k1 => simp only [gA, gS, gZ]; rfl
                case hyK15k1 =>
                  refine Or.inl ⟨by rfl, ?_⟩
                  intro w hSw; (try dsimp only at hSw); obtain ⟨hSw0, hSwB⟩ := hSw; have t0 := cell_blk hSwB 0; have t1 := cell_blk hSwB 1; have t2 := cell_blk hSwB 2; have t3 := cell_blk hSwB 3; have t4 := cell_blk hSwB 4; have t5 := cell_blk hSwB 5; go_simp <;> (with_reducible rfl)
                (try simp only [Act.put, pA, pZ, pS])
                refine wpAnyH_take (i := 2) (oi := ?oK15k2) (v := ?vK15k2) ?hiK15k2 (by kernel_rfl) (by kernel_rfl) (by kernel_rfl) (fun _ _ _ h => h) ?hyK15k2 (by assumption) ?restK15k2
                case hiK15k2 => simp only [gA, gS, gZ]; rfl
                case hyK15k2 =>
                  refine Or.inl ⟨by rfl, ?_⟩
                  intro w hSw; (try dsimp only at hSw); obtain ⟨hSw0, hSwB⟩ := hSw; have t0 := cell_blk hSwB 0; have t1 := cell_blk hSwB 1; have t2 := cell_blk hSwB 2; have t3 := cell_blk hSwB 3; have t4 := cell_blk hSwB 4; have t5 := cell_blk hSwB 5; go_simp <;> (with_reducible rfl)
                (try simp only [Act.put, pA, pZ, pS])
                refine wpAnyH_take (i := 3) (oi := ?oK15k3) (v := ?vK15k3) ?hiK15k3 (by kernel_rfl) (by kernel_rfl) (by kernel_rfl) (fun _ _ _ h => h) ?hyK15k3 (by assumption) ?restK15k3
                case hiK15k3 => simp only [gA, gS, gZ]; rfl
                case hyK15k3 =>
                  refine Or.inl ⟨by rfl, ?_⟩
                  intro w hSw; (try dsimp only at hSw); obtain ⟨hSw0, hSwB⟩ := hSw; have t0 := cell_blk hSwB 0; have t1 := cell_blk hSwB 1; have t2 := cell_blk hSwB 2; have t3 := cell_blk hSwB 3; have t4 := cell_blk hSwB 4; have t5 := cell_blk hSwB 5; go_simp <;> (with_reducible rfl)
                (try simp only [Act.put, pA, pZ, pS])
                refine wpAnyH_take (i := 4) (oi := ?oK15k4) (v := ?vK15k4) ?hiK15k4 (by kernel_rfl) (by kernel_rfl) (by kernel_rfl) (fun _ _ _ h => h) ?hyK15k4 (by assumption) ?restK15k4
                case hiK15k4 => simp only [gA, gS, gZ]; rfl
                case hyK15k4 =>
                  refine Or.inl ⟨by rfl, ?_⟩
                  intro w hSw; (try dsimp only at hSw); obtain ⟨hSw0, hSwB⟩ := hSw; have t0 := cell_blk hSwB 0; have t1 := cell_blk hSwB 1; have t2 := cell_blk hSwB 2; have t3 := cell_blk hSwB 3; have t4 := cell_blk hSwB 4; have t5 := cell_blk hSwB 5; go_simp <;> (with_reducible rfl)
                (try simp only [Act.put, pA, pZ, pS])
                refine wpAnyH_take (i := 5) (oi := ?oK15k5) (v := ?vK15k5) ?hiK15k5 (by kernel_rfl) (by kernel_rfl) (by kernel_rfl) (fun _ _ _ h => h) ?hyK15k5 (by assumption) ?restK15k5
                case hiK15k5 => simp only [gA, gS, gZ]; rfl
                case hyK15k5 =>
                  refine Or.inl ⟨by rfl, ?_⟩
                  intro w hSw; (try dsimp only at hSw); obtain ⟨hSw0, hSwB⟩ := hSw; have t0 := cell_blk hSwB 0; have t1 := cell_blk hSwB 1; have t2 := cell_blk hSwB 2; have t3 := cell_blk hSwB 3; have t4 := cell_blk hSwB 4; have t5 := cell_blk hSwB 5; go_simp <;> (with_reducible rfl)
                (try simp only [Act.put, pA, pZ, pS])
                refine wpAnyH_take (i := 6) (oi := ?oK15k6) (v := ?vK15k6) ?hiK15k6 (by kernel_rfl) (by kernel_rfl) (by kernel_rfl) (fun _ _ _ h => h) ?hyK15k6 (by assumption) ?restK15k6
                case hiK15k6 => simp only [gA, gS, gZ]; rfl
                case hyK15k6 =>
                  refine Or.inl ⟨by rfl, ?_⟩
                  intro w hSw; (try dsimp only at hSw); obtain ⟨hSw0, hSwB⟩ := hSw; have t0 := cell_blk hSwB 0; have t1 := cell_blk hSwB 1; have t2 := cell_blk hSwB 2; have t3 := cell_blk hSwB 3; have t4 := cell_blk hSwB 4; have t5 := cell_blk hSwB 5; go_simp <;> (with_reducible rfl)
                (try simp only [Act.put, pA, pZ, pS])
                refine wpAnyH_take (i := 7) (oi := ?oK15k7) (v := ?vK15k7) ?hiK15k7 (by kernel_rfl) (by kernel_rfl) (by kernel_rfl) (fun _ _ _ h => h) ?hyK15k7 (by assumption) ?restK15k7
                case hiK15k7 => simp only [gA, gS, gZ]; rfl
                case hyK15k7 =>
                  refine Or.inl ⟨by rfl, ?_⟩
                  intro w hSw; (try dsimp only at hSw); obtain ⟨hSw0, hSwB⟩ := hSw; have t0 := cell_blk hSwB 0; have t1 := cell_blk hSwB 1; have t2 := cell_blk hSwB 2; have t3 := cell_blk hSwB 3; have t4 := cell_blk hSwB 4; have t5 := cell_blk hSwB 5; go_simp <;> (with_reducible rfl)
                (try simp only [Act.put, pA, pZ, pS])
                refine wpAnyH_ready (rs := [8]) (by kernel_rfl) (by simp) ?_
                refine AllReadyH.cons rfl (fun K hK => ?_) AllReadyH.nil
                first
                | refine step_store_mid rfl 34 (.tmp 73) (.tmp 72) rfl g (i * 6) #[.string xn, .bool false, .bool false, .bool xi, .string s.d.1.nm, .int .i64 xc] (by simp [Act.eval]) (by simp [Act.eval]) HTH.out size34 (by simp [Value.oneCell']) ?_
                | refine step_store_mid rfl 34 (.tmp 116) (.tmp 115) rfl g (i * 6) #[.string xn, .bool false, .bool false, .bool xi, .string s.d.1.nm, .int .i64 xc] (by simp [Act.eval]) (by simp [Act.eval]) HTH.out size34 (by simp [Value.oneCell']) ?_
                refine (show K _ W7 → _ from fun t => by rw [HW7.out] at t; exact t) (hK.out _ W7 (by exact HKP.out) (fun hHeldC8 => ?_))
                clear hK K
                (try simp only [Act.put, pA])
                refine wpAnyH_done (by kernel_rfl) ?_ _
                refine NoPanic.normal ?_
                clear HW7 HKP HSS
                go_wp2_with fail
                have HSE : Hid ((fun V => V.cell? ⟨b, 36, none⟩ = some (.map (some s.g)) ∧ V.cell? ⟨W.heap.size, 0, none⟩ = some (.string xn)) W7.drew) := Lib.hid ⟨cell_blk (HFN.out.same (Below.refl _ _).drew).blk 36, cell_blk (w := W7.drew) HX11.out 0⟩
                obtain ⟨w5, hrun, hm5, hg5⟩ := (HFN.out.same (Below.refl _ _).drew).own.gm.put (by have h9 : s.gn ≤ 4398046511104 := HGN.out; show s.gn < maxLen; unfold maxLen; omega) (x := xn) HXZ.out (a := true) trivial
                rw [gvF_cons] at hm5
                have hrun : (Instr.mapUpdate 49 (.map (some s.g)) (.string xn) (.bool true)).run Tryd.prog W7.drew = .ok () w5 := hrun
                have HS5 := Lib.hid ((HFN.out.same (Below.refl _ _).drew).put_g hm5 hg5)
                have A5 : Hid ((fun V => V.cell? ⟨b, 36, none⟩ = some (.map (some s.g)) ∧ V.cell? ⟨W.heap.size, 0, none⟩ = some (.string xn)) w5) := Lib.hid (by
                  have hlx : W.heap.size ≠ s.g := fun e => by
                    obtain ⟨D, ⟨es, clock, h2, -⟩, -⟩ := HFN.out.own.gm
                    have h3 := HX11.out
                    rw [e] at h3
                    rw [h3] at h2
                    cases h2
                  have h4 : W7.drew.heap[W.heap.size]? = some (.cells #[.string xn, .bool false, .bool false, .bool xi, .string s.d.1.nm, .int .i64 xc] 34 (0, 0)) := HX11.out
                  have h1 := (hg5.block _ (lt_of_block h4) (fun e => hlx (Option.some.inj e))).trans h4
                  exact ⟨cell_blk HS5.out.blk 36, cell_blk h1 0⟩)
                clear hm5 hg5
                go_wp2_with fail
                refine wp_region_noPanic ?_
                refine wp_region_held_drew (S := (fun V => V.cell? ⟨b, 36, none⟩ = some (.map (some s.g)) ∧ V.cell? ⟨W.heap.size, 0, none⟩ = some (.string xn))) (by kernel_rfl) (by exact HSE.out) (fun hHeld => ?_)
                refine wpAnyH_take (i := 0) (oi := ?oK14k0) (v := ?vK14k0) ?hiK14k0 (by kernel_rfl) (by kernel_rfl) (by kernel_rfl) (fun _ _ _ h => h) ?hyK14k0 (by assumption) ?restK14k0
                case hiK14k0 => simp only [gA, gZ]; rfl
                case hyK14k0 =>
                  refine Or.inl ⟨by rfl, ?_⟩
                  intro w hSw; (try dsimp only at hSw); go_simp <;> (with_reducible rfl)
                (try simp only [Act.put, pA, pZ, pS])
                refine wpAnyH_take (i := 1) (oi := ?oK14k1) (v := ?vK14k1) ?hiK14k1 (by kernel_rfl) (by kernel_rfl) (by kernel_rfl) (fun _ _ _ h => h) ?hyK14k1 (by assumption) ?restK14k1
                case hiK14k1 => simp only [gA, gS, gZ]; rfl
                case hyK14k1 =>
                  refine Or.inl ⟨by rfl, ?_⟩
                  intro w hSw; (try dsimp only at hSw); go_simp <;> (with_reducible rfl)
                (try simp only [Act.put, pA, pZ, pS])
                refine wpAnyH_take (i := 2) (oi := ?oK14k2) (v := ?vK14k2) ?hiK14k2 (by kernel_rfl) (by kernel_rfl) (by kernel_rfl) (fun _ _ _ h => h) ?hyK14k2 (by assumption) ?restK14k2
                case hiK14k2 => simp only [gA, gS, gZ]; rfl
                case hyK14k2 =>
                  refine Or.inl ⟨by rfl, ?_⟩
                  intro w hSw; (try dsimp only at hSw); go_simp <;> (with_reducible rfl)
                (try simp only [Act.put, pA, pZ, pS])
                refine wpAnyH_take (i := 3) (oi := ?oK14k3) (v := ?vK14k3) ?hiK14k3 (by kernel_rfl) (by kernel_rfl) (by kernel_rfl) (fun _ _ _ h => h) ?hyK14k3 (by assumption) ?restK14k3
                case hiK14k3 => simp only [gA, gS, gZ]; rfl
                case hyK14k3 =>
                  refine Or.inl ⟨by rfl, ?_⟩
                  intro w hSw; (try dsimp only at hSw); go_simp <;> (with_reducible rfl)
                (try simp only [Act.put, pA, pZ, pS])
                refine wpAnyH_take (i := 4) (oi := ?oK14k4) (v := ?vK14k4) ?hiK14k4 (by kernel_rfl) (by kernel_rfl) (by kernel_rfl) (fun _ _ _ h => h) ?hyK14k4 (by assumption) ?restK14k4
                case hiK14k4 => simp only [gA, gS, gZ]; rfl
                case hyK14k4 =>
                  refine Or.inl ⟨by rfl, ?_⟩
                  intro w hSw; (try dsimp only at hSw); go_simp <;> (with_reducible rfl)
                (try simp only [Act.put, pA, pZ, pS])
                refine wpAnyH_take (i := 5) (oi := ?oK14k5) (v := ?vK14k5) ?hiK14k5 (by kernel_rfl) (by kernel_rfl) (by kernel_rfl) (fun _ _ _ h => h) ?hyK14k5 (by assumption) ?restK14k5
                case hiK14k5 => simp only [gA, gS, gZ]; rfl
                case hyK14k5 =>
                  refine Or.inl ⟨by rfl, ?_⟩
                  intro w hSw; (try dsimp only at hSw); go_simp <;> (with_reducible rfl)
                (try simp only [Act.put, pA, pZ, pS])
                refine wpAnyH_take (i := 6) (oi := ?oK14k6) (v := ?vK14k6) ?hiK14k6 (by kernel_rfl) (by kernel_rfl) (by kernel_rfl) (fun _ _ _ h => h) ?hyK14k6 (by assumption) ?restK14k6
                case hiK14k6 => simp only [gA, gS, gZ]; rfl
                case hyK14k6 =>
                  refine Or.inl ⟨by rfl, ?_⟩
                  intro w hSw; (try dsimp only at hSw); go_simp <;> (with_reducible rfl)
                (try simp only [Act.put, pA, pZ, pS])
                refine wpAnyH_ready (rs := [7]) (by kernel_rfl) (by simp) ?_
                refine AllReadyH.cons rfl (fun K hK => ?_) AllReadyH.nil
                go_simp
                
                refine hK.out _ _ A5.out (fun hHeldC7 => ?_)
                clear hK K
                (try simp only [Act.put, pA, pZ, pS])
                refine wpAnyH_done (by kernel_rfl) ?_ _
                refine NoPanic.normal ?_
                go_wp2_with fail
                go_ret
                rw [HRZ.out]
                exact ⟨rfl, _, _, HS5.out, (by first | exact Nat.le_succ _ | exact if_le _ _)⟩
            | false =>
              have HRZ : Hid (r = .ok (s.ms.set i ⟨xn, false, xa, xi, s.d.1.nm, xc⟩, (xn, false) :: s.G)) := Lib.hid HRE.out
              go_wp2_with fail
              clear v0 t0 v1 t1 v2 t2 v3 t3 v4 t4 v5 t5
              have HS10 := Lib.hid (HSC.out.same (Below.refl _ _).drew)
              have HX10 : Hid (W9.drew.heap[W.heap.size]? = some (.cells #[.string xn, .bool false, .bool xa, .bool xi, .string s.d.1.nm, .int .i64 xc] 34 (0, 0))) := Lib.hid HX8.out
              have HOQ : Hid (Owns W9.drew 34 6 (.slice (some ⟨g, 0, none⟩) s.ms.length cp) (s.ms.map MtP.row)) := Lib.hid (by
                have h2 : Owns W9.drew 34 6 (.slice s.m.o s.m.n s.m.c) (s.ms.map MtP.row) := HS10.out.own.om
                rw [HGE.out.1] at h2
                exact h2)
              have HPU := Lib.hid (owns_put6 HOQ.out HGE.out.2 (u0 := .string xn) (u1 := .bool false) (u2 := .bool xa) (u3 := .bool xi) (u4 := .string s.d.1.nm) (u5 := .int .i64 xc) rfl rfl rfl rfl rfl rfl)
              have h9 : W9.drew.cell? ⟨b, 21, none⟩ = some (.slice s.m.o s.m.n s.m.c) := cell_blk HS10.out.blk 21
              rw [HGE.out.1] at h9
              have HSS : Hid ((fun V => V.cell? ⟨b, 21, none⟩ = some (.slice (some ⟨g, 0, none⟩) s.ms.length cp) ∧ V.heap[W.heap.size]? = some (.cells #[.string xn, .bool false, .bool xa, .bool xi, .string s.d.1.nm, .int .i64 xc] 34 (0, 0))) W9.drew) := Lib.hid ⟨h9, HX10.out⟩
              have P9 : Hid (W9.drew.cell? ⟨g, i * 6, none⟩ = some (.string yn) ∧ W9.drew.cell? ⟨g, i * 6 + 1, none⟩ = some (.bool false) ∧ W9.drew.cell? ⟨g, i * 6 + 2, none⟩ = some (.bool ya) ∧ W9.drew.cell? ⟨g, i * 6 + 3, none⟩ = some (.bool false) ∧ W9.drew.cell? ⟨g, i * 6 + 4, none⟩ = some (.string yf) ∧ W9.drew.cell? ⟨g, i * 6 + 5, none⟩ = some (.int .i64 yc)) := Lib.hid (by
                obtain ⟨a9, c9, hv9, -, -, hl9, -, -⟩ := HOQ.out.any
                simp only [Value.slice.injEq] at hv9
                obtain ⟨rfl, -, -⟩ := hv9
                obtain ⟨g9, o9, e9, -, -, hc9⟩ := hl9 i _ HGE.out.2
                cases e9
                exact ⟨by simpa using hc9 0 _ rfl, by simpa using hc9 1 _ rfl, by simpa using hc9 2 _ rfl, by simpa using hc9 3 _ rfl, by simpa using hc9 4 _ rfl, by simpa using hc9 5 _ rfl⟩)
              have p0 : W9.drew.cell? ⟨g, i * 6, none⟩ = some (.string yn) := P9.out.1
              have p1 : W9.drew.cell? ⟨g, i * 6 + 1, none⟩ = some (.bool false) := P9.out.2.1
              have p2 : W9.drew.cell? ⟨g, i * 6 + 2, none⟩ = some (.bool ya) := P9.out.2.2.1
              have p3 : W9.drew.cell? ⟨g, i * 6 + 3, none⟩ = some (.bool false) := P9.out.2.2.2.1
              have p4 : W9.drew.cell? ⟨g, i * 6 + 4, none⟩ = some (.string yf) := P9.out.2.2.2.2.1
              have p5 : W9.drew.cell? ⟨g, i * 6 + 5, none⟩ = some (.int .i64 yc) := P9.out.2.2.2.2.2
              have f0 := HOQ.out.free (g := g) rfl (i * 6)
              have f1 := HOQ.out.free (g := g) rfl (i * 6 + 1)
              have f2 := HOQ.out.free (g := g) rfl (i * 6 + 2)
              have f3 := HOQ.out.free (g := g) rfl (i * 6 + 3)
              have f4 := HOQ.out.free (g := g) rfl (i * 6 + 4)
              have f5 := HOQ.out.free (g := g) rfl (i * 6 + 5)
              have HTH : Hid (W9.drew.there g (i * 6) 6) := Lib.hid (by
                intro j hj
                have h6 : j = 0 ∨ j = 1 ∨ j = 2 ∨ j = 3 ∨ j = 4 ∨ j = 5 := by omega
                rcases h6 with rfl | rfl | rfl | rfl | rfl | rfl
                · exact ⟨Option.isSome_iff_exists.2 ⟨_, p0⟩, f0⟩
                · exact ⟨Option.isSome_iff_exists.2 ⟨_, p1⟩, f1⟩
                · exact ⟨Option.isSome_iff_exists.2 ⟨_, p2⟩, f2⟩
                · exact ⟨Option.isSome_iff_exists.2 ⟨_, p3⟩, f3⟩
                · exact ⟨Option.isSome_iff_exists.2 ⟨_, p4⟩, f4⟩
                · exact ⟨Option.isSome_iff_exists.2 ⟨_, p5⟩, f5⟩)
              clear p0 f0 p1 f1 p2 f2 p3 f3 p4 f4 p5 f5
              have HKP : Hid ((fun V => V.cell? ⟨b, 21, none⟩ = some (.slice (some ⟨g, 0, none⟩) s.ms.length cp) ∧ V.heap[W.heap.size]? = some (.cells #[.string xn, .bool false, .bool xa, .bool xi, .string s.d.1.nm, .int .i64 xc] 34 (0, 0))) ((((((W9.drew.setCell ⟨g, i * 6, none⟩ (.string xn)).setCell ⟨g, i * 6 + 1, none⟩ (.bool false)).setCell ⟨g, i * 6 + 2, none⟩ (.bool xa)).setCell ⟨g, i * 6 + 3, none⟩ (.bool xi)).setCell ⟨g, i * 6 + 4, none⟩ (.string s.d.1.nm)).setCell ⟨g, i * 6 + 5, none⟩ (.int .i64 xc))) := Lib.hid (by
                have hm := (Mod.refl (fun j => j = g) W9.drew).grown HPU.out.2 (fun j e _ => (Option.some.inj e).symm)
                have hgb : b ≠ g := fun e => by obtain ⟨c9, h9⟩ := own_ty HOQ.out (k := g) rfl; rw [← e, HS10.out.blk] at h9; cases h9
                have hgx : W.heap.size ≠ g := fun e => HBQ.out (by rw [HGE.out.1]; show some g = _; rw [e])
                have h8 := cell_blk (hm.blk HS10.out.blk hgb) 21
                have h8 : ((((((W9.drew.setCell ⟨g, i * 6, none⟩ (.string xn)).setCell ⟨g, i * 6 + 1, none⟩ (.bool false)).setCell ⟨g, i * 6 + 2, none⟩ (.bool xa)).setCell ⟨g, i * 6 + 3, none⟩ (.bool xi)).setCell ⟨g, i * 6 + 4, none⟩ (.string s.d.1.nm)).setCell ⟨g, i * 6 + 5, none⟩ (.int .i64 xc)).cell? ⟨b, 21, none⟩ = some (.slice s.m.o s.m.n s.m.c) := h8
                rw [HGE.out.1] at h8
                exact ⟨h8, hm.blk HX10.out hgx⟩)
              have HFN : Hid (LkIs w0 ((((((W9.drew.setCell ⟨g, i * 6, none⟩ (.string xn)).setCell ⟨g, i * 6 + 1, none⟩ (.bool false)).setCell ⟨g, i * 6 + 2, none⟩ (.bool xa)).setCell ⟨g, i * 6 + 3, none⟩ (.bool xi)).setCell ⟨g, i * 6 + 4, none⟩ (.string s.d.1.nm)).setCell ⟨g, i * 6 + 5, none⟩ (.int .i64 xc)) b { s with ms := s.ms.set i ⟨xn, false, xa, xi, s.d.1.nm, xc⟩ }) := Lib.hid (by
                have h1 := HPU.out.1
                have h2 := HPU.out.2
                have hr : (s.ms.map MtP.row).set i [.string xn, .bool false, .bool xa, .bool xi, .string s.d.1.nm, .int .i64 xc] = (s.ms.set i ⟨xn, false, xa, xi, s.d.1.nm, xc⟩).map MtP.row := by rw [List.map_set]; rfl
                rw [hr] at h1
                refine HS10.out.turn_m (l := s.ms.set i ⟨xn, false, xa, xi, s.d.1.nm, xc⟩) ?_ ?_
                · show Owns _ 34 6 (.slice s.m.o s.m.n s.m.c) _
                  rw [HGE.out.1]
                  exact h1
                · show World.grownBy _ _ (Value.slice s.m.o s.m.n s.m.c).ownBlock
                  rw [HGE.out.1]
                  exact h2)
              obtain ⟨W7, hW7⟩ : ∃ W7, W7 = ((((((W9.drew.setCell ⟨g, i * 6, none⟩ (.string xn)).setCell ⟨g, i * 6 + 1, none⟩ (.bool false)).setCell ⟨g, i * 6 + 2, none⟩ (.bool xa)).setCell ⟨g, i * 6 + 3, none⟩ (.bool xi)).setCell ⟨g, i * 6 + 4, none⟩ (.string s.d.1.nm)).setCell ⟨g, i * 6 + 5, none⟩ (.int .i64 xc)) := ⟨_, rfl⟩
              rw [← hW7] at HKP HFN
              have HW7 := Lib.hid hW7
              clear hW7
              have HX11 : Hid (W7.heap[W.heap.size]? = some (.cells #[.string xn, .bool false, .bool xa, .bool xi, .string s.d.1.nm, .int .i64 xc] 34 (0, 0))) := Lib.hid HKP.out.2
              clear h9 HPU P9 HOQ HX10 HS10
              refine wp_region_noPanic ?_
              refine wp_region_held_drew (S := (fun V => V.cell? ⟨b, 21, none⟩ = some (.slice (some ⟨g, 0, none⟩) s.ms.length cp) ∧ V.heap[W.heap.size]? = some (.cells #[.string xn, .bool false, .bool xa, .bool xi, .string s.d.1.nm, .int .i64 xc] 34 (0, 0)))) (by kernel_rfl) (by exact HSS.out) (fun hHeld => ?_)
              refine wpAnyH_take (i := 0) (oi := ?oK17k0) (v := ?vK17k0) ?hiK17k0 (by kernel_rfl) (by kernel_rfl) (by kernel_rfl) (fun _ _ _ h => h) ?hyK17k0 (by assumption) ?restK17k0
              case hiK17k0 => simp only [gA, gZ]; rfl
              case hyK17k0 =>
                refine Or.inl ⟨by rfl, ?_⟩
                intro w hSw; (try dsimp only at hSw); obtain ⟨hSw0, hSwB⟩ := hSw; have t0 := cell_blk hSwB 0; have t1 := cell_blk hSwB 1; have t2 := cell_blk hSwB 2; have t3 := cell_blk hSwB 3; have t4 := cell_blk hSwB 4; have t5 := cell_blk hSwB 5; go_simp <;> (with_reducible rfl)
              (try simp only [Act.put, pA, pZ, pS])
              refine wpAnyH_take (i := 1) (oi := ?oK17k1) (v := ?vK17k1) ?hiK17k1 (by kernel_rfl) (by kernel_rfl) (by kernel_rfl) (fun _ _ _ h => h) ?hyK17k1 (by assumption) ?restK17k1
              case hiK17k1 => simp only [gA, gS, gZ]; rfl
              case hyK17k1 =>
                refine Or.inl ⟨by rfl, ?_⟩
                intro w hSw; (try dsimp only at hSw); obtain ⟨hSw0, hSwB⟩ := hSw; have t0 := cell_blk hSwB 0; have t1 := cell_blk hSwB 1; have t2 := cell_blk hSwB 2; have t3 := cell_blk hSwB 3; have t4 := cell_blk hSwB 4; have t5 := cell_blk hSwB 5; go_simp <;> (with_reducible rfl)
              (try simp only [Act.put, pA, pZ, pS])
              refine wpAnyH_take (i := 2) (oi := ?oK17k2) (v := ?vK17k2) ?hiK17k2 (by kernel_rfl) (by kernel_rfl) (by kernel_rfl) (fun _ _ _ h => h) ?hyK17k2 (by assumption) ?restK17k2
              case hiK17k2 => simp only [gA, gS, gZ]; rfl
              case hyK17k2 =>
                refine Or.inl ⟨by rfl, ?_⟩
                intro w hSw; (try dsimp only at hSw); obtain ⟨hSw0, hSwB⟩ := hSw; have t0 := cell_blk hSwB 0; have t1 := cell_blk hSwB 1; have t2 := cell_blk hSwB 2; have t3 := cell_blk hSwB 3; have t4 := cell_blk hSwB 4; have t5 := cell_blk hSwB 5; go_simp <;> (with_reducible rfl)
              (try simp only [Act.put, pA, pZ, pS])
              refine wpAnyH_take (i := 3) (oi := ?oK17k3) (v := ?vK17k3) ?hiK17k3 (by kernel_rfl) (by kernel_rfl) (by kernel_rfl) (fun _ _ _ h => h) ?hyK17k3 (by assumption) ?restK17k3
              case hiK17k3 => simp only [gA, gS, gZ]; rfl
              case hyK17k3 =>
                refine Or.inl ⟨by rfl, ?_⟩
                intro w hSw; (try dsimp only at hSw); obtain ⟨hSw0, hSwB⟩ := hSw; have t0 := cell_blk hSwB 0; have t1 := cell_blk hSwB 1; have t2 := cell_blk hSwB 2; have t3 := cell_blk hSwB 3; have t4 := cell_blk hSwB 4; have t5 := cell_blk hSwB 5; go_simp <;> (with_reducible rfl)
              (try simp only [Act.put, pA, pZ, pS])
              refine wpAnyH_take (i := 4) (oi := ?oK17k4) (v := ?vK17k4) ?hiK17k4 (by kernel_rfl) (by kernel_rfl) (by kernel_rfl) (fun _ _ _ h => h) ?hyK17k4 (by assumption) ?restK17k4
              case hiK17k4 => simp only [gA, gS, gZ]; rfl
              case hyK17k4 =>
                refine Or.inl ⟨by rfl, ?_⟩
                intro w hSw; (try dsimp only at hSw); obtain ⟨hSw0, hSwB⟩ := hSw; have t0 := cell_blk hSwB 0; have t1 := cell_blk hSwB 1; have t2 := cell_blk hSwB 2; have t3 := cell_blk hSwB 3; have t4 := cell_blk hSwB 4; have t5 := cell_blk hSwB 5; go_simp <;> (with_reducible rfl)
              (try simp only [Act.put, pA, pZ, pS])
              refine wpAnyH_take (i := 5) (oi := ?oK17k5) (v := ?vK17k5) ?hiK17k5 (by kernel_rfl) (by kernel_rfl) (by kernel_rfl) (fun _ _ _ h => h) ?hyK17k5 (by assumption) ?restK17k5
              case hiK17k5 => simp only [gA, gS, gZ]; rfl
              case hyK17k5 =>
                refine Or.inl ⟨by rfl, ?_⟩
                intro w hSw; (try dsimp only at hSw); obtain ⟨hSw0, hSwB⟩ := hSw; have t0 := cell_blk hSwB 0; have t1 := cell_blk hSwB 1; have t2 := cell_blk hSwB 2; have t3 := cell_blk hSwB 3; have t4 := cell_blk hSwB 4; have t5 := cell_blk hSwB 5; go_simp <;> (with_reducible rfl)
              (try simp only [Act.put, pA, pZ, pS])
              refine wpAnyH_take (i := 6) (oi := ?oK17k6) (v := ?vK17k6) ?hiK17k6 (by kernel_rfl) (by kernel_rfl) (by kernel_rfl) (fun _ _ _ h => h) ?hyK17k6 (by assumption) ?restK17k6
              case hiK17k6 => simp only [gA, gS, gZ]; rfl
              case hyK17k6 =>
                refine Or.inl ⟨by rfl, ?_⟩
                intro w hSw; (try dsimp only at hSw); obtain ⟨hSw0, hSwB⟩ := hSw; have t0 := cell_blk hSwB 0; have t1 := cell_blk hSwB 1; have t2 := cell_blk hSwB 2; have t3 := cell_blk hSwB 3; have t4 := cell_blk hSwB 4; have t5 := cell_blk hSwB 5; go_simp <;> (with_reducible rfl)
              (try simp only [Act.put, pA, pZ, pS])
              refine wpAnyH_take (i := 7) (oi := ?oK17k7) (v := ?vK17k7) ?hiK17k7 (by kernel_rfl) (by kernel_rfl) (by kernel_rfl) (fun _ _ _ h => h) ?hyK17k7 (by assumption) ?restK17k7
              case hiK17k7 => simp only [gA, gS, gZ]; rfl
              case hyK17k7 =>
                refine Or.inl ⟨by rfl, ?_⟩
                intro w hSw; (try dsimp only at hSw); obtain ⟨hSw0, hSwB⟩ := hSw; have t0 := cell_blk hSwB 0; have t1 := cell_blk hSwB 1; have t2 := cell_blk hSwB 2; have t3 := cell_blk hSwB 3; have t4 := cell_blk hSwB 4; have t5 := cell_blk hSwB 5; go_simp <;> (with_reducible rfl)
              (try simp only [Act.put, pA, pZ, pS])
              refine wpAnyH_ready (rs := [8]) (by kernel_rfl) (by simp) ?_
              refine AllReadyH.cons rfl (fun K hK => ?_) AllReadyH.nil
              first
              | refine step_store_mid rfl 34 (.tmp 73) (.tmp 72) rfl g (i * 6) #[.string xn, .bool false, .bool xa, .bool xi, .string s.d.1.nm, .int .i64 xc] (by simp [Act.eval]) (by simp [Act.eval]) HTH.out size34 (by simp [Value.oneCell']) ?_
              | refine step_store_mid rfl 34 (.tmp 116) (.tmp 115) rfl g (i * 6) #[.string xn, .bool false, .bool xa, .bool xi, .string s.d.1.nm, .int .i64 xc] (by simp [Act.eval]) (by simp [Act.eval]) HTH.out size34 (by simp [Value.oneCell']) ?_
              refine (show K _ W7 → _ from fun t => by rw [HW7.out] at t; exact t) (hK.out _ W7 (by exact HKP.out) (fun hHeldC8 => ?_))
              clear hK K
              (try simp only [Act.put, pA])
              refine wpAnyH_done (by kernel_rfl) ?_ _
              refine NoPanic.normal ?_
              clear HW7 HKP HSS
              go_wp2_with fail
              have HSE : Hid ((fun V => V.cell? ⟨b, 36, none⟩ = some (.map (some s.g)) ∧ V.cell? ⟨W.heap.size, 0, none⟩ = some (.string xn)) W7.drew) := Lib.hid ⟨cell_blk (HFN.out.same (Below.refl _ _).drew).blk 36, cell_blk (w := W7.drew) HX11.out 0⟩
              obtain ⟨w5, hrun, hm5, hg5⟩ := (HFN.out.same (Below.refl _ _).drew).own.gm.put (by have h9 : s.gn ≤ 4398046511104 := HGN.out; show s.gn < maxLen; unfold maxLen; omega) (x := xn) HXZ.out (a := false) trivial
              rw [gvF_cons] at hm5
              have hrun : (Instr.mapUpdate 49 (.map (some s.g)) (.string xn) (.bool false)).run Tryd.prog W7.drew = .ok () w5 := hrun
              have HS5 := Lib.hid ((HFN.out.same (Below.refl _ _).drew).put_g hm5 hg5)
              have A5 : Hid ((fun V => V.cell? ⟨b, 36, none⟩ = some (.map (some s.g)) ∧ V.cell? ⟨W.heap.size, 0, none⟩ = some (.string xn)) w5) := Lib.hid (by
                have hlx : W.heap.size ≠ s.g := fun e => by
                  obtain ⟨D, ⟨es, clock, h2, -⟩, -⟩ := HFN.out.own.gm
                  have h3 := HX11.out
                  rw [e] at h3
                  rw [h3] at h2
                  cases h2
                have h4 : W7.drew.heap[W.heap.size]? = some (.cells #[.string xn, .bool false, .bool xa, .bool xi, .string s.d.1.nm, .int .i64 xc] 34 (0, 0)) := HX11.out
                have h1 := (hg5.block _ (lt_of_block h4) (fun e => hlx (Option.some.inj e))).trans h4
                exact ⟨cell_blk HS5.out.blk 36, cell_blk h1 0⟩)
              clear hm5 hg5
              go_wp2_with fail
              refine wp_region_noPanic ?_
              refine wp_region_held_drew (S := (fun V => V.cell? ⟨b, 36, none⟩ = some (.map (some s.g)) ∧ V.cell? ⟨W.heap.size, 0, none⟩ = some (.string xn))) (by kernel_rfl) (by exact HSE.out) (fun hHeld => ?_)
              refine wpAnyH_take (i := 0) (oi := ?oK16k0) (v := ?vK16k0) ?hiK16k0 (by kernel_rfl) (by kernel_rfl) (by kernel_rfl) (fun _ _ _ h => h) ?hyK16k0 (by assumption) ?restK16k0
              case hiK16k0 => simp only [gA, gZ]; rfl
              case hyK16k0 =>
                refine Or.inl ⟨by rfl, ?_⟩
                intro w hSw; (try dsimp only at hSw); go_simp <;> (with_reducible rfl)
              (try simp only [Act.put, pA, pZ, pS])
              refine wpAnyH_take (i := 1) (oi := ?oK16k1) (v := ?vK16k1) ?hiK16k1 (by kernel_rfl) (by kernel_rfl) (by kernel_rfl) (fun _ _ _ h => h) ?hyK16k1 (by assumption) ?restK16k1
              case hiK16k1 => simp only [gA, gS, gZ]; rfl
              case hyK16k1 =>
                refine Or.inl ⟨by rfl, ?_⟩
                intro w hSw; (try dsimp only at hSw); go_simp <;> (with_reducible rfl)
              (try simp only [Act.put, pA, pZ, pS])
              refine wpAnyH_take (i := 2) (oi := ?oK16k2) (v := ?vK16k2) ?hiK16k2 (by kernel_rfl) (by kernel_rfl) (by kernel_rfl) (fun _ _ _ h => h) ?hyK16k2 (by assumption) ?restK16k2
              case hiK16k2 => simp only [gA, gS, gZ]; rfl
              case hyK16k2 =>
                refine Or.inl ⟨by rfl, ?_⟩
                intro w hSw; (try dsimp only at hSw); go_simp <;> (with_reducible rfl)
              (try simp only [Act.put, pA, pZ, pS])
              refine wpAnyH_take (i := 3) (oi := ?oK16k3) (v := ?vK16k3) ?hiK16k3 (by kernel_rfl) (by kernel_rfl) (by kernel_rfl) (fun _ _ _ h => h) ?hyK16k3 (by assumption) ?restK16k3
              case hiK16k3 => simp only [gA, gS, gZ]; rfl
              case hyK16k3 =>
                refine Or.inl ⟨by rfl, ?_⟩
                intro w hSw; (try dsimp only at hSw); go_simp <;> (with_reducible rfl)
              (try simp only [Act.put, pA, pZ, pS])
              refine wpAnyH_take (i := 4) (oi := ?oK16k4) (v := ?vK16k4) ?hiK16k4 (by kernel_rfl) (by kernel_rfl) (by kernel_rfl) (fun _ _ _ h => h) ?hyK16k4 (by assumption) ?restK16k4
              case hiK16k4 => simp only [gA, gS, gZ]; rfl
              case hyK16k4 =>
                refine Or.inl ⟨by rfl, ?_⟩
                intro w hSw; (try dsimp only at hSw); go_simp <;> (with_reducible rfl)
              (try simp only [Act.put, pA, pZ, pS])
              refine wpAnyH_take (i := 5) (oi := ?oK16k5) (v := ?vK16k5) ?hiK16k5 (by kernel_rfl) (by kernel_rfl) (by kernel_rfl) (fun _ _ _ h => h) ?hyK16k5 (by assumption) ?restK16k5
              case hiK16k5 => simp only [gA, gS, gZ]; rfl
              case hyK16k5 =>
                refine Or.inl ⟨by rfl, ?_⟩
                intro w hSw; (try dsimp only at hSw); go_simp <;> (with_reducible rfl)
              (try simp only [Act.put, pA, pZ, pS])
              refine wpAnyH_take (i := 6) (oi := ?oK16k6) (v := ?vK16k6) ?hiK16k6 (by kernel_rfl) (by kernel_rfl) (by kernel_rfl) (fun _ _ _ h => h) ?hyK16k6 (by assumption) ?restK16k6
              case hiK16k6 => simp only [gA, gS, gZ]; rfl
              case hyK16k6 =>
                refine Or.inl ⟨by rfl, ?_⟩
                intro w hSw; (try dsimp only at hSw); go_simp <;> (with_reducible rfl)
              (try simp only [Act.put, pA, pZ, pS])
              refine wpAnyH_ready (rs := [7]) (by kernel_rfl) (by simp) ?_
              refine AllReadyH.cons rfl (fun K hK => ?_) AllReadyH.nil
              go_simp
              
              refine hK.out _ _ A5.out (fun hHeldC7 => ?_)
              clear hK K
              (try simp only [Act.put, pA, pZ, pS])
              refine wpAnyH_done (by kernel_rfl) ?_ _
              refine NoPanic.normal ?_
              go_wp2_with fail
              go_ret
              rw [HRZ.out]
              exact ⟨rfl, _, _, HS5.out, (by first | exact Nat.le_succ _ | exact if_le _ _)⟩
end Go.Proofs.YtobjmajkcfhpoaaDoor
