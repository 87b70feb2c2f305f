/-
  The linker's prop (printed by genProp17.py).
-/
import Derived.Test.YtobjmajkcfhpoaaDoorOne17
namespace Go.Proofs.YtobjmajkcfhpoaaDoor
open Go.RowKit

attribute [local go_sem] yld_undef
theorem LkG.put_l {w0 W W3 : World} {b : Nat} {s : LS} (h : LkG w0 W b s LS.p3) {L : List ByteArray} {n : Nat} (hm : mSB.Is W3 s.l (metF L) n) (g3 : W.grownBy W3 (some s.l)) : LkG w0 W3 b { s with L := L, ln := n } LS.p3 := by
  have mm : Mod (fun j => j = s.l) W W3 := (Mod.refl _ W).grown g3 (fun j e _ => (Option.some.inj e).symm)
  have hlb : b ≠ s.l := fun e => by
    obtain ⟨D, ⟨es, clock, h2, -⟩, -⟩ := h.own.lm
    rw [← e, h.blk] at h2
    cases h2
  have hb := mm.blk h.blk hlb
  have k := h.own
  exact ⟨⟨⟨_, hb⟩, k.mod.trans' mm (fun _ _ e => .inr (.inr e)), k.dIn, k.pIn, k.kIn, k.rIn, k.tIn, k.aIn, k.gl, k.gm.mod mm k.gl, hm, k.of.mod mm (fun j e x => own_nm k.of k.lm (by rw [← x]; exact e)), k.oh.mod mm (fun j e x => own_nm k.oh k.lm (by rw [← x]; exact e)), k.oc.mod mm (fun j e x => own_nm k.oc k.lm (by rw [← x]; exact e)), k.oq.mod mm (fun j e x => own_nm k.oq k.lm (by rw [← x]; exact e)), k.om.mod mm (fun j e x => own_nm k.om k.lm (by rw [← x]; exact e)), k.or.mod mm (fun j e x => own_nm k.or k.lm (by rw [← x]; exact e)), k.nf, k.nh, k.nc, k.nq, k.nm, k.nr, k.fh, k.ox.mod mm (fun j e x => own_nm k.ox k.lm (by rw [← x]; exact e)), k.mx⟩, hb⟩
/-- What prop answers. -/
def PropPost (w0 : World) (b : Nat) (s : LS) (r : Except Int (List PrP × List ByteArray)) (e : Ending) (w' : World) : Prop :=
  match r with
  | .error c => e = .returned (.int .i64 c) ∧ ∃ s', LkG w0 w' b s' LS.p3 ∧ s'.g = s.g ∧ s'.l = s.l
  | .ok t => e = .returned (.int .i64 0) ∧ ∃ v n, LkG w0 w' b { s with q := v, ps := t.1, L := t.2, ln := n } LS.p3 ∧ n ≤ s.ln + 1
/-- One row of four cells is written over. -/
theorem owns_put4 {w : World} {e g n cap : Nat} {rows : List (List Value)} (h : Owns w e 4 (.slice (some ⟨g, 0, none⟩) n cap) rows) {i : Nat} {a0 a1 a2 a3 : Value} (hi : rows[i]? = some [a0, a1, a2, a3]) {u0 u1 u2 u3 : Value} (h0 : u0.oneCell' = true) (h1 : u1.oneCell' = true) (h2 : u2.oneCell' = true) (h3 : u3.oneCell' = true) :
    Owns ((((w.setCell ⟨g, i * 4, none⟩ u0).setCell ⟨g, i * 4 + 1, none⟩ u1).setCell ⟨g, i * 4 + 2, none⟩ u2).setCell ⟨g, i * 4 + 3, none⟩ u3) e 4 (.slice (some ⟨g, 0, none⟩) n cap) (rows.set i [u0, u1, u2, u3]) ∧
      w.grownBy ((((w.setCell ⟨g, i * 4, none⟩ u0).setCell ⟨g, i * 4 + 1, none⟩ u1).setCell ⟨g, i * 4 + 2, none⟩ u2).setCell ⟨g, i * 4 + 3, none⟩ u3) (some g) := by
  have hlt : i < rows.length := (List.getElem?_eq_some_iff.1 hi).1
  have k0 := h.setRow hi 0 (by decide) u0 h0
  have e0 : (rows.set i ([a0, a1, a2, a3].set 0 u0))[i]? = some [u0, a1, a2, a3] := by rw [List.getElem?_set_self hlt]; rfl
  have k1 := k0.1.setRow e0 1 (by decide) u1 h1
  have e1 : ((rows.set i ([a0, a1, a2, a3].set 0 u0)).set i ([u0, a1, a2, a3].set 1 u1))[i]? = some [u0, u1, a2, a3] := by rw [List.getElem?_set_self (by simpa using hlt)]; rfl
  have k2 := k1.1.setRow e1 2 (by decide) u2 h2
  have e2 : (((rows.set i ([a0, a1, a2, a3].set 0 u0)).set i ([u0, a1, a2, a3].set 1 u1)).set i ([u0, u1, a2, a3].set 2 u2))[i]? = some [u0, u1, u2, a3] := by rw [List.getElem?_set_self (by simpa using hlt)]; rfl
  have k3 := k2.1.setRow e2 3 (by decide) u3 h3
  have tr : ∀ {a b c : World}, a.grownBy b (some g) → b.grownBy c (some g) → a.grownBy c (some g) := fun p q => ⟨q.os.trans p.os, q.tape.trans p.tape, q.output.trans p.output, Nat.le_trans p.size q.size, fun k hk hne => (q.block k (Nat.lt_of_lt_of_le hk p.size) hne).trans (p.block k hk hne)⟩
  refine ⟨?_, tr (tr (tr k0.2 k1.2) k2.2) k3.2⟩
  have := k3.1
  simp only [List.set_set] at this
  exact this
set_option maxHeartbeats 25600000 in
set_option maxRecDepth 100000 in
theorem prop_any {w0 W : World} {b : Nat} {s : LS} (h : LkG w0 W b s LS.p3) (xn : ByteArray) (xs : Bool) (xf : ByteArray) (xc : Int) (trait : Bool) (hbd0 : s.ps.length ≤ 1048576) (hln0 : s.ln ≤ 4398046511104) (hxz : xn.size ≤ 1048576) :
    Calls Tryd.prog 47 #[.pointer (some ⟨b, 0, none⟩), .agg #[.string xn, .bool xs, .string xf, .int .i64 xc], .bool trait] W (PropPost w0 b s (propP s.d.1.nm ⟨xn, xs, xf, xc⟩ trait (s.ps, s.L))) := by
  have A0 := Lib.hid (at1_start W (.cells #[.string xn, .bool xs, .string xf, .int .i64 xc] 45))
  have A1 := Lib.hid (at1_start W (.cells #[.string xn, .bool xs, .string s.d.1.nm, .int .i64 xc] 45))
  have hS := h.same A0.out.below
  have HS := Lib.hid (h.same A1.out.below)
  have h0 : (W.alloc (.cells #[.string xn, .bool xs, .string xf, .int .i64 xc] 45)).cell? ⟨b, 0, none⟩ = some (.string s.d.1.nm) := cell_blk hS.blk 0
  have HBQ : Hid ((Value.slice s.q.o s.q.n s.q.c).ownBlock ≠ some W.heap.size) := Lib.hid (fun e => by have := Owns.lt h.own.oq e; omega)
  have hbd := Lib.hid hbd0
  have HLN := Lib.hid hln0
  have HXZ : Hid (xn.size ≤ maxLen) := Lib.hid (by unfold maxLen; omega)
  obtain ⟨r, hr⟩ : ∃ r, r = propP s.d.1.nm ⟨xn, xs, xf, xc⟩ trait (s.ps, s.L) := ⟨_, rfl⟩
  obtain ⟨le, hle⟩ : ∃ e, e = hasB s.L xn := ⟨_, rfl⟩
  obtain ⟨q, hq⟩ : ∃ q, q = placeP s.ps xn := ⟨_, rfl⟩
  rw [← hr]
  have HR := Lib.hid hr
  have HQ := Lib.hid hq
  have HLE := Lib.hid hle
  clear h hS hbd0 hln0 hxz hr
  go_enter Tryd.func47, Tryd.ntmps47
  go_wp2_with fail
  obtain ⟨W1, hW1⟩ : ∃ W1, W1 = W.alloc (.cells #[.string xn, .bool xs, .string s.d.1.nm, .int .i64 xc] 45) := ⟨_, rfl⟩
  rw [← hW1] at A1 HS ⊢
  clear hW1 A0
  have HD0 : Hid (Below W1.heap.size W1 W1.drew) := Lib.hid (Below.refl _ _).drew
  have six : ∀ {V : World}, Below W1.heap.size W1 V → (fun V => V.cell? ⟨b, 20, none⟩ = some (.slice s.q.o s.q.n s.q.c) ∧ V.cell? ⟨W.heap.size, 0, none⟩ = some (.string xn)) V := fun {V} hb => ⟨cell_blk (HS.out.same hb).blk 20, cell_blk (A1.out.mono hb).a 0⟩
  have HSX := @Lib.hid _ @six
  have HS0 := Lib.hid (six HD0.out)
  have HPL := Lib.hid (fun V (hb : Below W1.heap.size W1 V) => place_pr (w := V) xn (RIn.of_owns (A := AnyB) (HS.out.same hb).own.oq (fun _ _ => trivial)) (by have := hbd.out; omega))
  rw [← hq] at HPL
  clear six hq
  refine wp_region_noPanic ?_
  refine wp_region_held_drew (S := (fun V => V.cell? ⟨b, 20, none⟩ = some (.slice s.q.o s.q.n s.q.c) ∧ V.cell? ⟨W.heap.size, 0, none⟩ = some (.string xn))) (by kernel_rfl) (by exact HS0.out) (fun hHeld => ?_)
  refine wpAnyH_take (i := 0) (oi := ?oA0) (v := ?vA0) ?hiA0 (by kernel_rfl) (by kernel_rfl) (by kernel_rfl) (fun _ _ _ h => h) ?hyA0 (by assumption) ?restA0
  case hiA0 => simp only [gA, gZ]; rfl
  case hyA0 =>
    refine Or.inl ⟨by rfl, ?_⟩
    intro w hSw; (try dsimp only at hSw); go_simp <;> (with_reducible rfl)
  (try simp only [Act.put, pA, pZ, pS])
  refine wpAnyH_take (i := 1) (oi := ?oA1) (v := ?vA1) ?hiA1 (by kernel_rfl) (by kernel_rfl) (by kernel_rfl) (fun _ _ _ h => h) ?hyA1 (by assumption) ?restA1
  case hiA1 => simp only [gA, gS, gZ]; rfl
  case hyA1 =>
    refine Or.inl ⟨by rfl, ?_⟩
    intro w hSw; (try dsimp only at hSw); go_simp <;> (with_reducible rfl)
  (try simp only [Act.put, pA, pZ, pS])
  refine wpAnyH_take (i := 2) (oi := ?oA2) (v := ?vA2) ?hiA2 (by kernel_rfl) (by kernel_rfl) (by kernel_rfl) (fun _ _ _ h => h) ?hyA2 (by assumption) ?restA2
  case hiA2 => simp only [gA, gS, gZ]; rfl
  case hyA2 =>
    refine Or.inl ⟨by rfl, ?_⟩
    intro w hSw; (try dsimp only at hSw); go_simp <;> (with_reducible rfl)
  (try simp only [Act.put, pA, pZ, pS])
  refine wpAnyH_take (i := 3) (oi := ?oA3) (v := ?vA3) ?hiA3 (by kernel_rfl) (by kernel_rfl) (by kernel_rfl) (fun _ _ _ h => h) ?hyA3 (by assumption) ?restA3
  case hiA3 => simp only [gA, gS, gZ]; rfl
  case hyA3 =>
    refine Or.inl ⟨by rfl, ?_⟩
    intro w hSw; (try dsimp only at hSw); go_simp <;> (with_reducible rfl)
  (try simp only [Act.put, pA, pZ, pS])
  refine wpAnyH_take (i := 4) (oi := ?oA4) (v := ?vA4) ?hiA4 (by kernel_rfl) (by kernel_rfl) (by kernel_rfl) (fun _ _ _ h => h) ?hyA4 (by assumption) ?restA4
  case hiA4 => simp only [gA, gS, gZ]; rfl
  case hyA4 =>
    refine Or.inl ⟨by rfl, ?_⟩
    intro w hSw; (try dsimp only at hSw); go_simp <;> (with_reducible rfl)
  (try simp only [Act.put, pA, pZ, pS])
  refine wpAnyH_take (i := 5) (oi := ?oA5) (v := ?vA5) ?hiA5 (by kernel_rfl) (by kernel_rfl) (by kernel_rfl) (fun _ _ _ h => h) ?hyA5 (by assumption) ?restA5
  case hiA5 => simp only [gA, gS, gZ]; rfl
  case hyA5 =>
    refine Or.inl ⟨by rfl, ?_⟩
    intro w hSw; (try dsimp only at hSw); go_simp <;> (with_reducible rfl)
  (try simp only [Act.put, pA, pZ, pS])
  refine wpAnyH_take (i := 6) (oi := ?oA6) (v := ?vA6) ?hiA6 (by kernel_rfl) (by kernel_rfl) (by kernel_rfl) (fun _ _ _ h => h) ?hyA6 (by assumption) ?restA6
  case hiA6 => simp only [gA, gS, gZ]; rfl
  case hyA6 =>
    refine Or.inl ⟨by rfl, ?_⟩
    intro w hSw; (try dsimp only at hSw); go_simp <;> (with_reducible rfl)
  (try simp only [Act.put, pA, pZ, pS])
  refine wpAnyH_ready (rs := [7]) (by kernel_rfl) (by simp) ?_
  refine AllReadyH.cons rfl (fun K hK => ?_) AllReadyH.nil
  go_simp
  refine (HPL.out _ HD0.out).mono ?_
  rintro _ w2 ⟨rfl, hb⟩
  have HD1 := Lib.hid (HD0.out.trans (hb.mono HD0.out.size))
  clear hb
  refine hK.out _ _ (HSX.out HD1.out) (fun hHeldA7 => ?_)
  clear hK K
  (try simp only [Act.put, pA, pZ, pS])
  refine wpAnyH_take (i := 8) (oi := ?oA8) (v := ?vA8) ?hiA8 (by kernel_rfl) (by kernel_rfl) (by kernel_rfl) (fun _ _ _ h => h) ?hyA8 (by assumption) ?restA8
  case hiA8 => simp only [gA, gS, gZ]; rfl
  case hyA8 =>
    refine Or.inl ⟨by rfl, ?_⟩
    intro w hSw; (try dsimp only at hSw); go_simp <;> (with_reducible rfl)
  (try simp only [Act.put, pA, pZ, pS])
  refine wpAnyH_done (by kernel_rfl) ?_ _
  refine NoPanic.normal ?_
  have HS2 := Lib.hid (HS.out.same HD1.out)
  have A2 := Lib.hid (A1.out.mono HD1.out)
  have HSB : Hid ((fun V => V.cell? ⟨b, 37, none⟩ = some (.map (some s.l)) ∧ V.cell? ⟨W.heap.size, 0, none⟩ = some (.string xn)) w2.drew) := Lib.hid ⟨cell_blk (HS2.out.same (Below.refl _ _).drew).blk 37, cell_blk (A2.out.mono (Below.refl _ _).drew).a 0⟩
  have hlk : (Instr.lookup 49 (.map (some s.l)) (.string xn) false).run Tryd.prog w2.drew = .ok (.bool le) w2.drew := by rw [hle, ← metF_has]; exact (HS2.out.same (Below.refl _ _).drew).own.lm.look1 (x := xn) HXZ.out
  clear HS0 HSX HPL hle
  go_wp2_with fail
  refine wp_region_noPanic ?_
  refine wp_region_held_drew (S := (fun V => V.cell? ⟨b, 37, none⟩ = some (.map (some s.l)) ∧ V.cell? ⟨W.heap.size, 0, none⟩ = some (.string xn))) (by kernel_rfl) (by exact HSB.out) (fun hHeld => ?_)
  refine wpAnyH_take (i := 0) (oi := ?oB0) (v := ?vB0) ?hiB0 (by kernel_rfl) (by kernel_rfl) (by kernel_rfl) (fun _ _ _ h => h) ?hyB0 (by assumption) ?restB0
  case hiB0 => simp only [gA, gZ]; rfl
  case hyB0 =>
    refine Or.inl ⟨by rfl, ?_⟩
    intro w hSw; (try dsimp only at hSw); go_simp <;> (with_reducible rfl)
  (try simp only [Act.put, pA, pZ, pS])
  refine wpAnyH_take (i := 1) (oi := ?oB1) (v := ?vB1) ?hiB1 (by kernel_rfl) (by kernel_rfl) (by kernel_rfl) (fun _ _ _ h => h) ?hyB1 (by assumption) ?restB1
  case hiB1 => simp only [gA, gS, gZ]; rfl
  case hyB1 =>
    refine Or.inl ⟨by rfl, ?_⟩
    intro w hSw; (try dsimp only at hSw); go_simp <;> (with_reducible rfl)
  (try simp only [Act.put, pA, pZ, pS])
  refine wpAnyH_take (i := 2) (oi := ?oB2) (v := ?vB2) ?hiB2 (by kernel_rfl) (by kernel_rfl) (by kernel_rfl) (fun _ _ _ h => h) ?hyB2 (by assumption) ?restB2
  case hiB2 => simp only [gA, gS, gZ]; rfl
  case hyB2 =>
    refine Or.inl ⟨by rfl, ?_⟩
    intro w hSw; (try dsimp only at hSw); go_simp <;> (with_reducible rfl)
  (try simp only [Act.put, pA, pZ, pS])
  refine wpAnyH_take (i := 3) (oi := ?oB3) (v := ?vB3) ?hiB3 (by kernel_rfl) (by kernel_rfl) (by kernel_rfl) (fun _ _ _ h => h) ?hyB3 (by assumption) ?restB3
  case hiB3 => simp only [gA, gS, gZ]; rfl
  case hyB3 =>
    refine Or.inl ⟨by rfl, ?_⟩
    intro w hSw; (try dsimp only at hSw); go_simp <;> (with_reducible rfl)
  (try simp only [Act.put, pA, pZ, pS])
  refine wpAnyH_take (i := 4) (oi := ?oB4) (v := ?vB4) ?hiB4 (by kernel_rfl) (by kernel_rfl) (by kernel_rfl) (fun _ _ _ h => h) ?hyB4 (by assumption) ?restB4
  case hiB4 => simp only [gA, gS, gZ]; rfl
  case hyB4 =>
    refine Or.inl ⟨by rfl, ?_⟩
    intro w hSw; (try dsimp only at hSw); go_simp <;> (with_reducible rfl)
  (try simp only [Act.put, pA, pZ, pS])
  refine wpAnyH_take (i := 5) (oi := ?oB5) (v := ?vB5) ?hiB5 (by kernel_rfl) (by kernel_rfl) (by kernel_rfl) (fun _ _ _ h => h) ?hyB5 (by assumption) ?restB5
  case hiB5 => simp only [gA, gS, gZ]; rfl
  case hyB5 =>
    refine Or.inl ⟨by rfl, ?_⟩
    intro w hSw; (try dsimp only at hSw); go_simp <;> (with_reducible rfl)
  (try simp only [Act.put, pA, pZ, pS])
  refine wpAnyH_ready (rs := [6]) (by kernel_rfl) (by simp) ?_
  refine AllReadyH.cons rfl (fun K hK => ?_) AllReadyH.nil
  go_simp
  
  refine hK.out _ _ HSB.out (fun hHeldB6 => ?_)
  clear hK K
  (try simp only [Act.put, pA, pZ, pS])
  refine wpAnyH_take (i := 7) (oi := ?oB7) (v := ?vB7) ?hiB7 (by kernel_rfl) (by kernel_rfl) (by kernel_rfl) (fun _ _ _ h => h) ?hyB7 (by assumption) ?restB7
  case hiB7 => simp only [gA, gS, gZ]; rfl
  case hyB7 =>
    refine Or.inl ⟨by rfl, ?_⟩
    intro w hSw; (try dsimp only at hSw); go_simp <;> (with_reducible rfl)
  (try simp only [Act.put, pA, pZ, pS])
  refine wpAnyH_done (by kernel_rfl) ?_ _
  refine NoPanic.normal ?_
  have HS3 := Lib.hid (HS2.out.same (Below.refl _ _).drew)
  have A3 := Lib.hid (A2.out.mono (Below.refl _ _).drew)
  clear HSB HS2 A2 HS A1 HD0 HD1 hlk
  obtain ⟨w3, hw3⟩ : ∃ w3, w3 = w2.drew := ⟨_, rfl⟩
  rw [← hw3] at HS3 A3 ⊢
  clear hw3
  cases trait with
  | false =>
    have HBX : Hid ((w3).heap[W.heap.size]? = some (.cells #[.string xn, .bool xs, .string s.d.1.nm, .int .i64 xc] 45 (0, 0))) := Lib.hid A3.out.a
    cases q with
    | none =>
      have HRE : Hid (r = .ok (s.ps ++ [⟨xn, xs, s.d.1.nm, xc⟩], s.L)) := Lib.hid (by rw [HR.out]; unfold propP; simp only; rw [← HQ.out]; rfl)
      have hneg : idxI none < 0 := by decide
      go_wp2_with fail
      have hq0 : w3.drew.cell? ⟨b, 20, none⟩ = some (.slice s.q.o s.q.n s.q.c) := cell_blk HS3.out.blk 20
      have HA7 : Hid (Below w3.drew.heap.size w3.drew (w3.drew.alloc (.cells #[.string xn, .bool xs, .string s.d.1.nm, .int .i64 xc] 45))) := Lib.hid (below_alloc1 _ _)
      have HS7 : Hid (LkG w0 (w3.drew.alloc (.cells #[.string xn, .bool xs, .string s.d.1.nm, .int .i64 xc] 45)) b s LS.p3) := Lib.hid ((HS3.out.same (Below.refl _ _).drew).same HA7.out)
      have hq1 : (w3.drew.alloc (.cells #[.string xn, .bool xs, .string s.d.1.nm, .int .i64 xc] 45)).cell? ⟨b, 20, none⟩ = some (.slice s.q.o s.q.n s.q.c) := cell_blk HS7.out.blk 20
      have hq2 : (w3.alloc (.cells #[.string xn, .bool xs, .string s.d.1.nm, .int .i64 xc] 45)).drew.cell? ⟨b, 20, none⟩ = some (.slice s.q.o s.q.n s.q.c) := hq1
      have hq3 : (w3.alloc (.cells #[.string xn, .bool xs, .string s.d.1.nm, .int .i64 xc] 45)).cell? ⟨b, 20, none⟩ = some (.slice s.q.o s.q.n s.q.c) := hq1
      have HX7 : Hid ((w3.drew.alloc (.cells #[.string xn, .bool xs, .string s.d.1.nm, .int .i64 xc] 45)).heap[W.heap.size]? = some (.cells #[.string xn, .bool xs, .string s.d.1.nm, .int .i64 xc] 45 (0, 0))) := Lib.hid (alloc_blk HBX.out _)
      have hL : Hid (Lies (w3.drew.alloc (.cells #[.string xn, .bool xs, .string s.d.1.nm, .int .i64 xc] 45)) 4 (some ⟨w3.heap.size, 0, none⟩) ([[.string xn, .bool xs, .string s.d.1.nm, .int .i64 xc]] : List (List Value))) := Lib.hid (lies_new w3.drew [.string xn, .bool xs, .string s.d.1.nm, .int .i64 xc] 45 rfl)
      have hR1 : Hid ((s.ps.map PrP.row).length + ([[.string xn, .bool xs, .string s.d.1.nm, .int .i64 xc]] : List (List Value)).length ≤ maxLen) := Lib.hid (by have h0 := hbd.out; rw [List.length_map]; unfold maxLen; simp only [List.length_cons, List.length_nil]; omega)
      have hR2 : Hid (((s.ps.map PrP.row).length + ([[.string xn, .bool xs, .string s.d.1.nm, .int .i64 xc]] : List (List Value)).length) * 48 ≤ 140737488355328) := Lib.hid (by have h0 := hbd.out; rw [List.length_map]; simp only [List.length_cons, List.length_nil]; omega)
      have hBb : Hid (W.heap.size ≠ b) := Lib.hid (fun e => by have h1 := HBX.out; rw [e, HS3.out.blk] at h1; injection h1 with h2; injection h2 with _ h3 _; exact absurd h3 (by decide))
      have hBq : Hid (((.slice s.q.o s.q.n s.q.c) : Value).ownBlock ≠ some W.heap.size) := Lib.hid (fun e => HBQ.out e)
      refine wp_region_noPanic ?_
      refine wp_region_held_drew (S := (fun V => V.heap[W.heap.size]? = some (.cells #[.string xn, .bool xs, .string s.d.1.nm, .int .i64 xc] 45 (0, 0)))) (by kernel_rfl) (by exact HBX.out) (fun hHeld => ?_)
      refine wpAnyH_take (i := 0) (oi := ?oz1_) (v := ?vz1_) ?hiz1_ (by kernel_rfl) (by kernel_rfl) (by kernel_rfl) (fun _ _ _ h => h) ?hyz1_ (by assumption) ?restz1_
      case hiz1_ => simp only [gA, gZ]; rfl
      case hyz1_ =>
        refine Or.inl ⟨by rfl, ?_⟩
        intro w hSw; (try dsimp only at hSw); have u0 := cell_blk hSw 0; have u1 := cell_blk hSw 1; have u2 := cell_blk hSw 2; have u3 := cell_blk hSw 3; go_simp <;> (with_reducible rfl)
      (try simp only [Act.put, pA, pZ, pS])
      refine wpAnyH_take (i := 1) (oi := ?oz2_) (v := ?vz2_) ?hiz2_ (by kernel_rfl) (by kernel_rfl) (by kernel_rfl) (fun _ _ _ h => h) ?hyz2_ (by assumption) ?restz2_
      case hiz2_ => simp only [gA, gS, gZ]; rfl
      case hyz2_ =>
        refine Or.inl ⟨by rfl, ?_⟩
        intro w hSw; (try dsimp only at hSw); have u0 := cell_blk hSw 0; have u1 := cell_blk hSw 1; have u2 := cell_blk hSw 2; have u3 := cell_blk hSw 3; go_simp <;> (with_reducible rfl)
      (try simp only [Act.put, pA, pZ, pS])
      refine wpAnyH_take (i := 2) (oi := ?oz3_) (v := ?vz3_) ?hiz3_ (by kernel_rfl) (by kernel_rfl) (by kernel_rfl) (fun _ _ _ h => h) ?hyz3_ (by assumption) ?restz3_
      case hiz3_ => simp only [gA, gS, gZ]; rfl
      case hyz3_ =>
        refine Or.inl ⟨by rfl, ?_⟩
        intro w hSw; (try dsimp only at hSw); have u0 := cell_blk hSw 0; have u1 := cell_blk hSw 1; have u2 := cell_blk hSw 2; have u3 := cell_blk hSw 3; go_simp <;> (with_reducible rfl)
      (try simp only [Act.put, pA, pZ, pS])
      refine wpAnyH_take (i := 3) (oi := ?oz4_) (v := ?vz4_) ?hiz4_ (by kernel_rfl) (by kernel_rfl) (by kernel_rfl) (fun _ _ _ h => h) ?hyz4_ (by assumption) ?restz4_
      case hiz4_ => simp only [gA, gS, gZ]; rfl
      case hyz4_ =>
        refine Or.inl ⟨by rfl, ?_⟩
        intro w hSw; (try dsimp only at hSw); have u0 := cell_blk hSw 0; have u1 := cell_blk hSw 1; have u2 := cell_blk hSw 2; have u3 := cell_blk hSw 3; go_simp <;> (with_reducible rfl)
      (try simp only [Act.put, pA, pZ, pS])
      refine wpAnyH_take (i := 4) (oi := ?oz5_) (v := ?vz5_) ?hiz5_ (by kernel_rfl) (by kernel_rfl) (by kernel_rfl) (fun _ _ _ h => h) ?hyz5_ (by assumption) ?restz5_
      case hiz5_ => simp only [gA, gS, gZ]; rfl
      case hyz5_ =>
        refine Or.inl ⟨by rfl, ?_⟩
        intro w hSw; (try dsimp only at hSw); have u0 := cell_blk hSw 0; have u1 := cell_blk hSw 1; have u2 := cell_blk hSw 2; have u3 := cell_blk hSw 3; go_simp <;> (with_reducible rfl)
      (try simp only [Act.put, pA, pZ, pS])
      refine wpAnyH_take (i := 6) (oi := ?oz6_) (v := ?vz6_) ?hiz6_ (by kernel_rfl) (by kernel_rfl) (by kernel_rfl) (fun _ _ _ h => h) ?hyz6_ (by assumption) ?restz6_
      case hiz6_ => simp only [gA, gS, gZ]; rfl
      case hyz6_ =>
        refine Or.inl ⟨by rfl, ?_⟩
        intro w hSw; (try dsimp only at hSw); have u0 := cell_blk hSw 0; have u1 := cell_blk hSw 1; have u2 := cell_blk hSw 2; have u3 := cell_blk hSw 3; go_simp <;> (with_reducible rfl)
      (try simp only [Act.put, pA, pZ, pS])
      refine wpAnyH_ready (rs := [5, 7]) (by kernel_rfl) (by simp) ?_
      refine AllReadyH.cons rfl (fun K hK => ?_) (AllReadyH.cons rfl (fun K hK => ?_) AllReadyH.nil)
      · go_simp
        refine hK.out _ _ (by exact HBX.out) (fun hHeld5 => ?_)
        clear hK K
        (try simp only [Act.put, pA, pZ, pS])
        refine wpAnyH_ready (rs := [7]) (by kernel_rfl) (by simp) ?_
        refine AllReadyH.cons rfl (fun K hK => ?_) AllReadyH.nil
        go_simp
        refine hK.out _ _ (by exact HX7.out) (fun hHeld7 => ?_)
        clear hK K
        (try simp only [Act.put, pA, pZ, pS])
        refine wpAnyH_ready (rs := [8]) (by kernel_rfl) (by simp) ?_
        refine AllReadyH.cons rfl (fun K hK => ?_) AllReadyH.nil
        refine step_append_rows rfl (.tmp 45) (.tmp 47) 26 rfl 45 _ 4 48 Tryd.underlying26 info45 rfl (by decide) (.slice s.q.o s.q.n s.q.c) (s.ps.map PrP.row) (by simp [Act.eval]) HS7.out.own.oq (some ⟨w3.heap.size, 0, none⟩) 1 1 [[.string xn, .bool xs, .string s.d.1.nm, .int .i64 xc]] (by simp [Act.eval]) rfl (fun e => by cases e) hL.out (by simp [Value.oneCell']) (by simp) hR1.out (by have h := hR2.out; omega) ?_
        intro v6 w6 o6 g6 b6
        obtain ⟨a6, L6, c6, hv6, -⟩ := owns_slice o6
        subst hv6
        have S6 : w6.heap[W.heap.size]? = some (.cells #[.string xn, .bool xs, .string s.d.1.nm, .int .i64 xc] 45 (0, 0)) := (g6.block _ (lt_of_block HX7.out) (fun e => hBq.out e.symm)).trans HX7.out
        have B6 := Lib.hid ((g6.block b (lt_of_block HS7.out.blk) (fun e => own_nb (by decide) HS7.out.own.oq HS7.out.blk e.symm)).trans HS7.out.blk)
        have zc := cell_blk B6.out 20; have zf := free_blk B6.out 20
        have zc : w6.cell? ⟨b, 20, none⟩ = some (.slice s.q.o s.q.n s.q.c) := zc
        have HN := Lib.hid (HS7.out.put_q (v := ⟨a6, L6, c6⟩) (l := s.ps ++ [⟨xn, xs, s.d.1.nm, xc⟩]) (by rw [List.map_append]; exact o6) g6 b6)
        have S8 : (w6.setCell ⟨b, 20, none⟩ (.slice a6 L6 c6)).heap[W.heap.size]? = some (.cells #[.string xn, .bool xs, .string s.d.1.nm, .int .i64 xc] 45 (0, 0)) := set_other S6 hBb.out
        clear o6 g6 b6
        refine hK.out _ _ (by exact S6) (fun hHeld8 => ?_)
        clear hK K
        (try simp only [Act.put, pA])
        refine wpAnyH_take (i := 9) (oi := ?oz7_) (v := ?vz7_) ?hiz7_ (by kernel_rfl) (by kernel_rfl) (by kernel_rfl) (fun _ _ _ h => h) ?hyz7_ (by assumption) ?restz7_
        case hiz7_ => simp only [gA, gS, gZ]; rfl
        case hyz7_ =>
          refine Or.inl ⟨by rfl, ?_⟩
          intro w hSw; (try dsimp only at hSw); have u0 := cell_blk hSw 0; have u1 := cell_blk hSw 1; have u2 := cell_blk hSw 2; have u3 := cell_blk hSw 3; go_simp <;> (with_reducible rfl)
        (try simp only [Act.put])
        refine wpAnyH_take (i := 10) (oi := ?oz8_) (v := ?vz8_) ?hiz8_ (by kernel_rfl) (by kernel_rfl) (by kernel_rfl) (fun _ _ _ h => h) ?hyz8_ (by assumption) ?restz8_
        case hiz8_ => simp only [gA, gS, gZ]; rfl
        case hyz8_ =>
          refine Or.inl ⟨by rfl, ?_⟩
          intro w hSw; (try dsimp only at hSw); have u0 := cell_blk hSw 0; have u1 := cell_blk hSw 1; have u2 := cell_blk hSw 2; have u3 := cell_blk hSw 3; go_simp <;> (with_reducible rfl)
        (try simp only [Act.put])
        refine wpAnyH_take (i := 11) (oi := ?oz9_) (v := ?vz9_) ?hiz9_ (by kernel_rfl) (by kernel_rfl) (by kernel_rfl) (fun _ _ _ h => h) ?hyz9_ (by assumption) ?restz9_
        case hiz9_ => simp only [gA, gS, gZ]; rfl
        case hyz9_ =>
          refine Or.inl ⟨by rfl, ?_⟩
          intro w hSw; (try dsimp only at hSw); have u0 := cell_blk hSw 0; have u1 := cell_blk hSw 1; have u2 := cell_blk hSw 2; have u3 := cell_blk hSw 3; go_simp <;> (with_reducible rfl)
        (try simp only [Act.put])
        refine wpAnyH_ready (rs := [12]) (by kernel_rfl) (by simp) ?_
        refine AllReadyH.cons rfl (fun K hK => ?_) AllReadyH.nil
        go_simp
        refine hK.out _ _ (by exact S8) (fun hHeld12 => ?_)
        clear hK K
        (try simp only [Act.put])
        refine wpAnyH_done (by kernel_rfl) ?_ _
        refine NoPanic.normal ?_
        have HN2 := HN
        go_wp2_with fail
        go_ret
        rw [HRE.out]
        exact ⟨rfl, _, _, HN2.out, (by first | exact Nat.le_succ _ | exact if_le _ _)⟩
      · go_simp
        refine hK.out _ _ (by exact HX7.out) (fun hHeld7 => ?_)
        clear hK K
        (try simp only [Act.put, pA, pZ, pS])
        refine wpAnyH_ready (rs := [5]) (by kernel_rfl) (by simp) ?_
        refine AllReadyH.cons rfl (fun K hK => ?_) AllReadyH.nil
        go_simp
        refine hK.out _ _ (by exact HX7.out) (fun hHeld5 => ?_)
        clear hK K
        (try simp only [Act.put, pA, pZ, pS])
        refine wpAnyH_ready (rs := [8]) (by kernel_rfl) (by simp) ?_
        refine AllReadyH.cons rfl (fun K hK => ?_) AllReadyH.nil
        refine step_append_rows rfl (.tmp 45) (.tmp 47) 26 rfl 45 _ 4 48 Tryd.underlying26 info45 rfl (by decide) (.slice s.q.o s.q.n s.q.c) (s.ps.map PrP.row) (by simp [Act.eval]) HS7.out.own.oq (some ⟨w3.heap.size, 0, none⟩) 1 1 [[.string xn, .bool xs, .string s.d.1.nm, .int .i64 xc]] (by simp [Act.eval]) rfl (fun e => by cases e) hL.out (by simp [Value.oneCell']) (by simp) hR1.out (by have h := hR2.out; omega) ?_
        intro v6 w6 o6 g6 b6
        obtain ⟨a6, L6, c6, hv6, -⟩ := owns_slice o6
        subst hv6
        have S6 : w6.heap[W.heap.size]? = some (.cells #[.string xn, .bool xs, .string s.d.1.nm, .int .i64 xc] 45 (0, 0)) := (g6.block _ (lt_of_block HX7.out) (fun e => hBq.out e.symm)).trans HX7.out
        have B6 := Lib.hid ((g6.block b (lt_of_block HS7.out.blk) (fun e => own_nb (by decide) HS7.out.own.oq HS7.out.blk e.symm)).trans HS7.out.blk)
        have zc := cell_blk B6.out 20; have zf := free_blk B6.out 20
        have zc : w6.cell? ⟨b, 20, none⟩ = some (.slice s.q.o s.q.n s.q.c) := zc
        have HN := Lib.hid (HS7.out.put_q (v := ⟨a6, L6, c6⟩) (l := s.ps ++ [⟨xn, xs, s.d.1.nm, xc⟩]) (by rw [List.map_append]; exact o6) g6 b6)
        have S8 : (w6.setCell ⟨b, 20, none⟩ (.slice a6 L6 c6)).heap[W.heap.size]? = some (.cells #[.string xn, .bool xs, .string s.d.1.nm, .int .i64 xc] 45 (0, 0)) := set_other S6 hBb.out
        clear o6 g6 b6
        refine hK.out _ _ (by exact S6) (fun hHeld8 => ?_)
        clear hK K
        (try simp only [Act.put, pA])
        refine wpAnyH_take (i := 9) (oi := ?oz10_) (v := ?vz10_) ?hiz10_ (by kernel_rfl) (by kernel_rfl) (by kernel_rfl) (fun _ _ _ h => h) ?hyz10_ (by assumption) ?restz10_
        case hiz10_ => simp only [gA, gS, gZ]; rfl
        case hyz10_ =>
          refine Or.inl ⟨by rfl, ?_⟩
          intro w hSw; (try dsimp only at hSw); have u0 := cell_blk hSw 0; have u1 := cell_blk hSw 1; have u2 := cell_blk hSw 2; have u3 := cell_blk hSw 3; go_simp <;> (with_reducible rfl)
        (try simp only [Act.put])
        refine wpAnyH_take (i := 10) (oi := ?oz11_) (v := ?vz11_) ?hiz11_ (by kernel_rfl) (by kernel_rfl) (by kernel_rfl) (fun _ _ _ h => h) ?hyz11_ (by assumption) ?restz11_
        case hiz11_ => simp only [gA, gS, gZ]; rfl
        case hyz11_ =>
          refine Or.inl ⟨by rfl, ?_⟩
          intro w hSw; (try dsimp only at hSw); have u0 := cell_blk hSw 0; have u1 := cell_blk hSw 1; have u2 := cell_blk hSw 2; have u3 := cell_blk hSw 3; go_simp <;> (with_reducible rfl)
        (try simp only [Act.put])
        refine wpAnyH_take (i := 11) (oi := ?oz12_) (v := ?vz12_) ?hiz12_ (by kernel_rfl) (by kernel_rfl) (by kernel_rfl) (fun _ _ _ h => h) ?hyz12_ (by assumption) ?restz12_
        case hiz12_ => simp only [gA, gS, gZ]; rfl
        case hyz12_ =>
          refine Or.inl ⟨by rfl, ?_⟩
          intro w hSw; (try dsimp only at hSw); have u0 := cell_blk hSw 0; have u1 := cell_blk hSw 1; have u2 := cell_blk hSw 2; have u3 := cell_blk hSw 3; go_simp <;> (with_reducible rfl)
        (try simp only [Act.put])
        refine wpAnyH_ready (rs := [12]) (by kernel_rfl) (by simp) ?_
        refine AllReadyH.cons rfl (fun K hK => ?_) AllReadyH.nil
        go_simp
        refine hK.out _ _ (by exact S8) (fun hHeld12 => ?_)
        clear hK K
        (try simp only [Act.put])
        refine wpAnyH_done (by kernel_rfl) ?_ _
        refine NoPanic.normal ?_
        have HN2 := HN
        go_wp2_with fail
        go_ret
        rw [HRE.out]
        exact ⟨rfl, _, _, HN2.out, (by first | exact Nat.le_succ _ | exact if_le _ _)⟩
    | some i =>
      obtain ⟨hi, -, -⟩ := idxP_some HQ.out.symm
      have hlt : (i : Int) < (s.ps.length : Int) := by omega
      have HRI : Hid (RIn AnyB (w3) 4 (.slice s.q.o s.q.n s.q.c) (s.ps.map PrP.row)) := Lib.hid (RIn.of_owns HS3.out.own.oq (fun _ _ => trivial))
      obtain ⟨⟨yn, ys, yf, yc⟩, g, off, cp, hget, -, -, e, hg, -, hc⟩ := pr_cells HRI.out hi
      simp only at hc
      simp only [Value.slice.injEq] at e
      obtain ⟨e1, e2, e3⟩ := e
      obtain ⟨rfl, hown⟩ : off = 0 ∧ (Value.slice s.q.o s.q.n s.q.c).ownBlock = some g := by
        obtain ⟨a9, c9, hv9, -, -, -, -, h9⟩ := HS3.out.own.oq.any
        simp only [Value.slice.injEq] at hv9
        exact h9 g off (by rw [← hv9.1, e1])
      have h20 : (w3).cell? ⟨b, 20, none⟩ = some (.slice (some ⟨g, 0, none⟩) s.ps.length cp) := by
        have h9 : (w3).cell? ⟨b, 20, none⟩ = some (.slice s.q.o s.q.n s.q.c) := cell_blk HS3.out.blk 20
        rw [e1, e2, e3] at h9
        exact h9
      obtain ⟨d0, d1, d2, d3⟩ := hc (w3) (Below.refl _ _)
      have hz0 : (0 + i * 4) = i * 4 := by omega
      rw [hz0] at d0 d1 d2 d3
      have z0 := cell_blk HBX.out 0
      have z1 := cell_blk HBX.out 1
      have z2 := cell_blk HBX.out 2
      have z3 := cell_blk HBX.out 3
      have hii : idxI (some i) = (i : Int) := rfl
      have hnn : ¬ (i : Int) < 0 := by omega
      obtain ⟨n1, hn1⟩ : ∃ e, (xs != ys) = e := ⟨_, rfl⟩
      obtain ⟨n2, hn2⟩ : ∃ e, (xc != yc) = e := ⟨_, rfl⟩
      have hn2b : (xc == yc) = !n2 := by rw [← hn2]; cases h9 : xc == yc <;> simp [bne, h9]
      have HRE : Hid (r = if (le && (n1 || n2)) = true then .error 21 else if le = true then .ok (s.ps, s.L) else if n1 = true then .error 20 else .ok (s.ps.set i ⟨xn, xs, s.d.1.nm, xc⟩, s.L)) := Lib.hid (by
        have hget2 : s.ps[i]? = some ⟨yn, ys, yf, yc⟩ := hget
        rw [HR.out]
        unfold propP
        simp only
        rw [← HQ.out]
        simp only
        rw [hget2]
        simp only
        rw [hn1, hn2, HLE.out]
        rfl)
      have B9 : Hid (Below (w3).heap.size (w3) ((w3).alloc (.cells #[.string yn, .bool ys, .string yf, .int .i64 yc] 45))) := Lib.hid (below_alloc1 _ _)
      have HS9 := Lib.hid (HS3.out.same B9.out)
      have HX9 : Hid (((w3).alloc (.cells #[.string yn, .bool ys, .string yf, .int .i64 yc] 45)).heap[W.heap.size]? = some (.cells #[.string xn, .bool xs, .string s.d.1.nm, .int .i64 xc] 45 (0, 0))) := Lib.hid (alloc_blk HBX.out _)
      have HGE : Hid (s.q = ⟨some ⟨g, 0, none⟩, s.ps.length, cp⟩ ∧ (s.ps.map PrP.row)[i]? = some (PrP.row ⟨yn, ys, yf, yc⟩)) := Lib.hid ⟨by cases hsq : s.q; rw [hsq] at e1 e2 e3; simp only at e1 e2 e3; rw [e1, e2, e3], by rw [List.getElem?_map, hget]; rfl⟩
      have v0 := cell_blk HX9.out 0
      have v1 := cell_blk HX9.out 1
      have v2 := cell_blk HX9.out 2
      have v3 := cell_blk HX9.out 3
      clear hget hc e1 e2 e3 hown hg z0 z1 z2 z3
      cases xs with
      | false =>
        cases ys with
        | false =>
          obtain rfl : n1 = false := hn1.symm
          cases le with
          | true =>
            cases n2 with
            | true =>
              have HRZ : Hid (r = .error 21) := Lib.hid HRE.out
              go_wp2_with fail
              go_ret
              rw [HRZ.out]
              exact ⟨rfl, _, HS9.out, rfl, rfl⟩
            | false =>
              have HRZ : Hid (r = .ok (s.ps, s.L)) := Lib.hid HRE.out
              go_wp2_with fail
              go_ret
              rw [HRZ.out]
              exact ⟨rfl, _, _, HS9.out, (by first | exact Nat.le_succ _ | exact if_le _ _)⟩
          | false =>
            have HRZ : Hid (r = .ok (s.ps.set i ⟨xn, false, s.d.1.nm, xc⟩, s.L)) := Lib.hid HRE.out
            go_wp2_with fail
            obtain ⟨W9, hW9⟩ : ∃ W9, W9 = (w3).alloc (.cells #[.string yn, .bool false, .string yf, .int .i64 yc] 45) := ⟨_, rfl⟩
            rw [← hW9] at HS9 HX9 ⊢
            clear hW9 B9 d0 d1 d2 d3 v0 v1 v2 v3 h20
            have HS10 := Lib.hid (HS9.out.same (Below.refl _ _).drew)
            have HX10 : Hid (W9.drew.heap[W.heap.size]? = some (.cells #[.string xn, .bool false, .string s.d.1.nm, .int .i64 xc] 45 (0, 0))) := Lib.hid HX9.out
            have HOQ : Hid (Owns W9.drew 45 4 (.slice (some ⟨g, 0, none⟩) s.ps.length cp) (s.ps.map PrP.row)) := Lib.hid (by
              have h2 : Owns W9.drew 45 4 (.slice s.q.o s.q.n s.q.c) (s.ps.map PrP.row) := HS10.out.own.oq
              rw [HGE.out.1] at h2
              exact h2)
            have HPU := Lib.hid (owns_put4 HOQ.out HGE.out.2 (u0 := .string xn) (u1 := .bool false) (u2 := .string s.d.1.nm) (u3 := .int .i64 xc) rfl rfl rfl rfl)
            have h9 : W9.drew.cell? ⟨b, 20, none⟩ = some (.slice s.q.o s.q.n s.q.c) := cell_blk HS10.out.blk 20
            rw [HGE.out.1] at h9
            have HSS : Hid ((fun V => V.cell? ⟨b, 20, none⟩ = some (.slice (some ⟨g, 0, none⟩) s.ps.length cp) ∧ V.heap[W.heap.size]? = some (.cells #[.string xn, .bool false, .string s.d.1.nm, .int .i64 xc] 45 (0, 0))) W9.drew) := Lib.hid ⟨h9, HX10.out⟩
            obtain ⟨p0, p1, p2, p3⟩ : (W9.drew.cell? ⟨g, i * 4, none⟩ = some (.string yn) ∧ W9.drew.cell? ⟨g, i * 4 + 1, none⟩ = some (.bool false) ∧ W9.drew.cell? ⟨g, i * 4 + 2, none⟩ = some (.string yf) ∧ W9.drew.cell? ⟨g, i * 4 + 3, none⟩ = some (.int .i64 yc)) := by
              obtain ⟨a9, c9, hv9, -, -, hl9, -, -⟩ := HOQ.out.any
              simp only [Value.slice.injEq] at hv9
              obtain ⟨rfl, -, -⟩ := hv9
              obtain ⟨g9, o9, e9, -, -, hc9⟩ := hl9 i _ HGE.out.2
              cases e9
              refine ⟨?_, ?_, ?_, ?_⟩
              · simpa using hc9 0 _ rfl
              · simpa using hc9 1 _ rfl
              · simpa using hc9 2 _ rfl
              · simpa using hc9 3 _ rfl
            have f0 := HOQ.out.free (g := g) rfl (i * 4)
            have f1 := HOQ.out.free (g := g) rfl (i * 4 + 1)
            have f2 := HOQ.out.free (g := g) rfl (i * 4 + 2)
            have f3 := HOQ.out.free (g := g) rfl (i * 4 + 3)
            have HKP : Hid ((fun V => V.cell? ⟨b, 20, none⟩ = some (.slice (some ⟨g, 0, none⟩) s.ps.length cp) ∧ V.heap[W.heap.size]? = some (.cells #[.string xn, .bool false, .string s.d.1.nm, .int .i64 xc] 45 (0, 0))) ((((W9.drew.setCell ⟨g, i * 4, none⟩ (.string xn)).setCell ⟨g, i * 4 + 1, none⟩ (.bool false)).setCell ⟨g, i * 4 + 2, none⟩ (.string s.d.1.nm)).setCell ⟨g, i * 4 + 3, none⟩ (.int .i64 xc))) := Lib.hid (by
              have hm := (Mod.refl (fun j => j = g) W9.drew).grown HPU.out.2 (fun j e _ => (Option.some.inj e).symm)
              have hgb : b ≠ g := fun e => by obtain ⟨c9, h9⟩ := own_ty HOQ.out (k := g) rfl; rw [← e, HS10.out.blk] at h9; cases h9
              have hgx : W.heap.size ≠ g := fun e => HBQ.out (by rw [HGE.out.1]; show some g = _; rw [e])
              have h8 := cell_blk (hm.blk HS10.out.blk hgb) 20
              have h8 : (((((W9.drew.setCell ⟨g, i * 4, none⟩ (.string xn)).setCell ⟨g, i * 4 + 1, none⟩ (.bool false)).setCell ⟨g, i * 4 + 2, none⟩ (.string s.d.1.nm)).setCell ⟨g, i * 4 + 3, none⟩ (.int .i64 xc))).cell? ⟨b, 20, none⟩ = some (.slice s.q.o s.q.n s.q.c) := h8
              rw [HGE.out.1] at h8
              exact ⟨h8, hm.blk HX10.out hgx⟩)
            have HFN : Hid (LkG w0 ((((W9.drew.setCell ⟨g, i * 4, none⟩ (.string xn)).setCell ⟨g, i * 4 + 1, none⟩ (.bool false)).setCell ⟨g, i * 4 + 2, none⟩ (.string s.d.1.nm)).setCell ⟨g, i * 4 + 3, none⟩ (.int .i64 xc)) b { s with ps := s.ps.set i ⟨xn, false, s.d.1.nm, xc⟩ } LS.p3) := Lib.hid (by
              have h1 := HPU.out.1
              have h2 := HPU.out.2
              have hr : (s.ps.map PrP.row).set i [.string xn, .bool false, .string s.d.1.nm, .int .i64 xc] = (s.ps.set i ⟨xn, false, s.d.1.nm, xc⟩).map PrP.row := by rw [List.map_set]; rfl
              rw [hr] at h1
              refine HS10.out.turn_q (l := s.ps.set i ⟨xn, false, s.d.1.nm, xc⟩) ?_ ?_
              · show Owns _ 45 4 (.slice s.q.o s.q.n s.q.c) _
                rw [HGE.out.1]
                exact h1
              · show World.grownBy _ _ (Value.slice s.q.o s.q.n s.q.c).ownBlock
                rw [HGE.out.1]
                exact h2)
            have q1 : W9.cell? ⟨g, i * 4 + 1, none⟩ = some (.bool false) := p1
            have q2 : W9.cell? ⟨g, i * 4 + 2, none⟩ = some (.string yf) := p2
            have q3 : W9.cell? ⟨g, i * 4 + 3, none⟩ = some (.int .i64 yc) := p3
            have x1 : W9.frozen? ⟨g, i * 4 + 1, none⟩ = false := f1
            have x2 : W9.frozen? ⟨g, i * 4 + 2, none⟩ = false := f2
            have x3 : W9.frozen? ⟨g, i * 4 + 3, none⟩ = false := f3
            clear h9
            refine wp_region_noPanic ?_
            refine wp_region_held_drew (S := (fun V => V.cell? ⟨b, 20, none⟩ = some (.slice (some ⟨g, 0, none⟩) s.ps.length cp) ∧ V.heap[W.heap.size]? = some (.cells #[.string xn, .bool false, .string s.d.1.nm, .int .i64 xc] 45 (0, 0)))) (by kernel_rfl) (by exact HSS.out) (fun hHeld => ?_)
            refine wpAnyH_take (i := 0) (oi := ?oK1k0) (v := ?vK1k0) ?hiK1k0 (by kernel_rfl) (by kernel_rfl) (by kernel_rfl) (fun _ _ _ h => h) ?hyK1k0 (by assumption) ?restK1k0
            case hiK1k0 => simp only [gA, gZ]; rfl
            case hyK1k0 =>
              refine Or.inl ⟨by rfl, ?_⟩
              intro w hSw; (try dsimp only at hSw); obtain ⟨hSw0, hSwB⟩ := hSw; have t0 := cell_blk hSwB 0; have t1 := cell_blk hSwB 1; have t2 := cell_blk hSwB 2; have t3 := cell_blk hSwB 3; go_simp <;> (with_reducible rfl)
            (try simp only [Act.put, pA, pZ, pS])
            refine wpAnyH_take (i := 1) (oi := ?oK1k1) (v := ?vK1k1) ?hiK1k1 (by kernel_rfl) (by kernel_rfl) (by kernel_rfl) (fun _ _ _ h => h) ?hyK1k1 (by assumption) ?restK1k1
            case hiK1k1 => simp only [gA, gS, gZ]; rfl
            case hyK1k1 =>
              refine Or.inl ⟨by rfl, ?_⟩
              intro w hSw; (try dsimp only at hSw); obtain ⟨hSw0, hSwB⟩ := hSw; have t0 := cell_blk hSwB 0; have t1 := cell_blk hSwB 1; have t2 := cell_blk hSwB 2; have t3 := cell_blk hSwB 3; go_simp <;> (with_reducible rfl)
            (try simp only [Act.put, pA, pZ, pS])
            refine wpAnyH_take (i := 2) (oi := ?oK1k2) (v := ?vK1k2) ?hiK1k2 (by kernel_rfl) (by kernel_rfl) (by kernel_rfl) (fun _ _ _ h => h) ?hyK1k2 (by assumption) ?restK1k2
            case hiK1k2 => simp only [gA, gS, gZ]; rfl
            case hyK1k2 =>
              refine Or.inl ⟨by rfl, ?_⟩
              intro w hSw; (try dsimp only at hSw); obtain ⟨hSw0, hSwB⟩ := hSw; have t0 := cell_blk hSwB 0; have t1 := cell_blk hSwB 1; have t2 := cell_blk hSwB 2; have t3 := cell_blk hSwB 3; go_simp <;> (with_reducible rfl)
            (try simp only [Act.put, pA, pZ, pS])
            refine wpAnyH_take (i := 3) (oi := ?oK1k3) (v := ?vK1k3) ?hiK1k3 (by kernel_rfl) (by kernel_rfl) (by kernel_rfl) (fun _ _ _ h => h) ?hyK1k3 (by assumption) ?restK1k3
            case hiK1k3 => simp only [gA, gS, gZ]; rfl
            case hyK1k3 =>
              refine Or.inl ⟨by rfl, ?_⟩
              intro w hSw; (try dsimp only at hSw); obtain ⟨hSw0, hSwB⟩ := hSw; have t0 := cell_blk hSwB 0; have t1 := cell_blk hSwB 1; have t2 := cell_blk hSwB 2; have t3 := cell_blk hSwB 3; go_simp <;> (with_reducible rfl)
            (try simp only [Act.put, pA, pZ, pS])
            refine wpAnyH_take (i := 4) (oi := ?oK1k4) (v := ?vK1k4) ?hiK1k4 (by kernel_rfl) (by kernel_rfl) (by kernel_rfl) (fun _ _ _ h => h) ?hyK1k4 (by assumption) ?restK1k4
            case hiK1k4 => simp only [gA, gS, gZ]; rfl
            case hyK1k4 =>
              refine Or.inl ⟨by rfl, ?_⟩
              intro w hSw; (try dsimp only at hSw); obtain ⟨hSw0, hSwB⟩ := hSw; have t0 := cell_blk hSwB 0; have t1 := cell_blk hSwB 1; have t2 := cell_blk hSwB 2; have t3 := cell_blk hSwB 3; go_simp <;> (with_reducible rfl)
            (try simp only [Act.put, pA, pZ, pS])
            refine wpAnyH_take (i := 5) (oi := ?oK1k5) (v := ?vK1k5) ?hiK1k5 (by kernel_rfl) (by kernel_rfl) (by kernel_rfl) (fun _ _ _ h => h) ?hyK1k5 (by assumption) ?restK1k5
            case hiK1k5 => simp only [gA, gS, gZ]; rfl
            case hyK1k5 =>
              refine Or.inl ⟨by rfl, ?_⟩
              intro w hSw; (try dsimp only at hSw); obtain ⟨hSw0, hSwB⟩ := hSw; have t0 := cell_blk hSwB 0; have t1 := cell_blk hSwB 1; have t2 := cell_blk hSwB 2; have t3 := cell_blk hSwB 3; go_simp <;> (with_reducible rfl)
            (try simp only [Act.put, pA, pZ, pS])
            refine wpAnyH_take (i := 6) (oi := ?oK1k6) (v := ?vK1k6) ?hiK1k6 (by kernel_rfl) (by kernel_rfl) (by kernel_rfl) (fun _ _ _ h => h) ?hyK1k6 (by assumption) ?restK1k6
            case hiK1k6 => simp only [gA, gS, gZ]; rfl
            case hyK1k6 =>
              refine Or.inl ⟨by rfl, ?_⟩
              intro w hSw; (try dsimp only at hSw); obtain ⟨hSw0, hSwB⟩ := hSw; have t0 := cell_blk hSwB 0; have t1 := cell_blk hSwB 1; have t2 := cell_blk hSwB 2; have t3 := cell_blk hSwB 3; go_simp <;> (with_reducible rfl)
            (try simp only [Act.put, pA, pZ, pS])
            refine wpAnyH_take (i := 7) (oi := ?oK1k7) (v := ?vK1k7) ?hiK1k7 (by kernel_rfl) (by kernel_rfl) (by kernel_rfl) (fun _ _ _ h => h) ?hyK1k7 (by assumption) ?restK1k7
            case hiK1k7 => simp only [gA, gS, gZ]; rfl
            case hyK1k7 =>
              refine Or.inl ⟨by rfl, ?_⟩
              intro w hSw; (try dsimp only at hSw); obtain ⟨hSw0, hSwB⟩ := hSw; have t0 := cell_blk hSwB 0; have t1 := cell_blk hSwB 1; have t2 := cell_blk hSwB 2; have t3 := cell_blk hSwB 3; go_simp <;> (with_reducible rfl)
            (try simp only [Act.put, pA, pZ, pS])
            refine wpAnyH_ready (rs := [8]) (by kernel_rfl) (by simp) ?_
            refine AllReadyH.cons rfl (fun K hK => ?_) AllReadyH.nil
            go_simp
            
            refine hK.out _ _ (by exact HKP.out) (fun hHeldC8 => ?_)
            clear hK K
            (try simp only [Act.put, pA, pZ, pS])
            refine wpAnyH_done (by kernel_rfl) ?_ _
            refine NoPanic.normal ?_
            go_wp2_with fail
            go_ret
            rw [HRZ.out]
            exact ⟨rfl, _, _, HFN.out, (by first | exact Nat.le_succ _ | exact if_le _ _)⟩
        | true =>
          obtain rfl : n1 = true := hn1.symm
          cases le with
          | true =>
            have HRZ : Hid (r = .error 21) := Lib.hid HRE.out
            go_wp2_with fail
            go_ret
            rw [HRZ.out]
            exact ⟨rfl, _, HS9.out, rfl, rfl⟩
          | false =>
            have HRZ : Hid (r = .error 20) := Lib.hid HRE.out
            go_wp2_with fail
            go_ret
            rw [HRZ.out]
            exact ⟨rfl, _, HS9.out, rfl, rfl⟩
      | true =>
        cases ys with
        | false =>
          obtain rfl : n1 = true := hn1.symm
          cases le with
          | true =>
            have HRZ : Hid (r = .error 21) := Lib.hid HRE.out
            go_wp2_with fail
            go_ret
            rw [HRZ.out]
            exact ⟨rfl, _, HS9.out, rfl, rfl⟩
          | false =>
            have HRZ : Hid (r = .error 20) := Lib.hid HRE.out
            go_wp2_with fail
            go_ret
            rw [HRZ.out]
            exact ⟨rfl, _, HS9.out, rfl, rfl⟩
        | true =>
          obtain rfl : n1 = false := hn1.symm
          cases le with
          | true =>
            cases n2 with
            | true =>
              have HRZ : Hid (r = .error 21) := Lib.hid HRE.out
              go_wp2_with fail
              go_ret
              rw [HRZ.out]
              exact ⟨rfl, _, HS9.out, rfl, rfl⟩
            | false =>
              have HRZ : Hid (r = .ok (s.ps, s.L)) := Lib.hid HRE.out
              go_wp2_with fail
              go_ret
              rw [HRZ.out]
              exact ⟨rfl, _, _, HS9.out, (by first | exact Nat.le_succ _ | exact if_le _ _)⟩
          | false =>
            have HRZ : Hid (r = .ok (s.ps.set i ⟨xn, true, s.d.1.nm, xc⟩, s.L)) := Lib.hid HRE.out
            go_wp2_with fail
            obtain ⟨W9, hW9⟩ : ∃ W9, W9 = (w3).alloc (.cells #[.string yn, .bool true, .string yf, .int .i64 yc] 45) := ⟨_, rfl⟩
            rw [← hW9] at HS9 HX9 ⊢
            clear hW9 B9 d0 d1 d2 d3 v0 v1 v2 v3 h20
            have HS10 := Lib.hid (HS9.out.same (Below.refl _ _).drew)
            have HX10 : Hid (W9.drew.heap[W.heap.size]? = some (.cells #[.string xn, .bool true, .string s.d.1.nm, .int .i64 xc] 45 (0, 0))) := Lib.hid HX9.out
            have HOQ : Hid (Owns W9.drew 45 4 (.slice (some ⟨g, 0, none⟩) s.ps.length cp) (s.ps.map PrP.row)) := Lib.hid (by
              have h2 : Owns W9.drew 45 4 (.slice s.q.o s.q.n s.q.c) (s.ps.map PrP.row) := HS10.out.own.oq
              rw [HGE.out.1] at h2
              exact h2)
            have HPU := Lib.hid (owns_put4 HOQ.out HGE.out.2 (u0 := .string xn) (u1 := .bool true) (u2 := .string s.d.1.nm) (u3 := .int .i64 xc) rfl rfl rfl rfl)
            have h9 : W9.drew.cell? ⟨b, 20, none⟩ = some (.slice s.q.o s.q.n s.q.c) := cell_blk HS10.out.blk 20
            rw [HGE.out.1] at h9
            have HSS : Hid ((fun V => V.cell? ⟨b, 20, none⟩ = some (.slice (some ⟨g, 0, none⟩) s.ps.length cp) ∧ V.heap[W.heap.size]? = some (.cells #[.string xn, .bool true, .string s.d.1.nm, .int .i64 xc] 45 (0, 0))) W9.drew) := Lib.hid ⟨h9, HX10.out⟩
            obtain ⟨p0, p1, p2, p3⟩ : (W9.drew.cell? ⟨g, i * 4, none⟩ = some (.string yn) ∧ W9.drew.cell? ⟨g, i * 4 + 1, none⟩ = some (.bool true) ∧ W9.drew.cell? ⟨g, i * 4 + 2, none⟩ = some (.string yf) ∧ W9.drew.cell? ⟨g, i * 4 + 3, none⟩ = some (.int .i64 yc)) := by
              obtain ⟨a9, c9, hv9, -, -, hl9, -, -⟩ := HOQ.out.any
              simp only [Value.slice.injEq] at hv9
              obtain ⟨rfl, -, -⟩ := hv9
              obtain ⟨g9, o9, e9, -, -, hc9⟩ := hl9 i _ HGE.out.2
              cases e9
              refine ⟨?_, ?_, ?_, ?_⟩
              · simpa using hc9 0 _ rfl
              · simpa using hc9 1 _ rfl
              · simpa using hc9 2 _ rfl
              · simpa using hc9 3 _ rfl
            have f0 := HOQ.out.free (g := g) rfl (i * 4)
            have f1 := HOQ.out.free (g := g) rfl (i * 4 + 1)
            have f2 := HOQ.out.free (g := g) rfl (i * 4 + 2)
            have f3 := HOQ.out.free (g := g) rfl (i * 4 + 3)
            have HKP : Hid ((fun V => V.cell? ⟨b, 20, none⟩ = some (.slice (some ⟨g, 0, none⟩) s.ps.length cp) ∧ V.heap[W.heap.size]? = some (.cells #[.string xn, .bool true, .string s.d.1.nm, .int .i64 xc] 45 (0, 0))) ((((W9.drew.setCell ⟨g, i * 4, none⟩ (.string xn)).setCell ⟨g, i * 4 + 1, none⟩ (.bool true)).setCell ⟨g, i * 4 + 2, none⟩ (.string s.d.1.nm)).setCell ⟨g, i * 4 + 3, none⟩ (.int .i64 xc))) := Lib.hid (by
              have hm := (Mod.refl (fun j => j = g) W9.drew).grown HPU.out.2 (fun j e _ => (Option.some.inj e).symm)
              have hgb : b ≠ g := fun e => by obtain ⟨c9, h9⟩ := own_ty HOQ.out (k := g) rfl; rw [← e, HS10.out.blk] at h9; cases h9
              have hgx : W.heap.size ≠ g := fun e => HBQ.out (by rw [HGE.out.1]; show some g = _; rw [e])
              have h8 := cell_blk (hm.blk HS10.out.blk hgb) 20
              have h8 : (((((W9.drew.setCell ⟨g, i * 4, none⟩ (.string xn)).setCell ⟨g, i * 4 + 1, none⟩ (.bool true)).setCell ⟨g, i * 4 + 2, none⟩ (.string s.d.1.nm)).setCell ⟨g, i * 4 + 3, none⟩ (.int .i64 xc))).cell? ⟨b, 20, none⟩ = some (.slice s.q.o s.q.n s.q.c) := h8
              rw [HGE.out.1] at h8
              exact ⟨h8, hm.blk HX10.out hgx⟩)
            have HFN : Hid (LkG w0 ((((W9.drew.setCell ⟨g, i * 4, none⟩ (.string xn)).setCell ⟨g, i * 4 + 1, none⟩ (.bool true)).setCell ⟨g, i * 4 + 2, none⟩ (.string s.d.1.nm)).setCell ⟨g, i * 4 + 3, none⟩ (.int .i64 xc)) b { s with ps := s.ps.set i ⟨xn, true, s.d.1.nm, xc⟩ } LS.p3) := Lib.hid (by
              have h1 := HPU.out.1
              have h2 := HPU.out.2
              have hr : (s.ps.map PrP.row).set i [.string xn, .bool true, .string s.d.1.nm, .int .i64 xc] = (s.ps.set i ⟨xn, true, s.d.1.nm, xc⟩).map PrP.row := by rw [List.map_set]; rfl
              rw [hr] at h1
              refine HS10.out.turn_q (l := s.ps.set i ⟨xn, true, s.d.1.nm, xc⟩) ?_ ?_
              · show Owns _ 45 4 (.slice s.q.o s.q.n s.q.c) _
                rw [HGE.out.1]
                exact h1
              · show World.grownBy _ _ (Value.slice s.q.o s.q.n s.q.c).ownBlock
                rw [HGE.out.1]
                exact h2)
            have q1 : W9.cell? ⟨g, i * 4 + 1, none⟩ = some (.bool true) := p1
            have q2 : W9.cell? ⟨g, i * 4 + 2, none⟩ = some (.string yf) := p2
            have q3 : W9.cell? ⟨g, i * 4 + 3, none⟩ = some (.int .i64 yc) := p3
            have x1 : W9.frozen? ⟨g, i * 4 + 1, none⟩ = false := f1
            have x2 : W9.frozen? ⟨g, i * 4 + 2, none⟩ = false := f2
            have x3 : W9.frozen? ⟨g, i * 4 + 3, none⟩ = false := f3
            clear h9
            refine wp_region_noPanic ?_
            refine wp_region_held_drew (S := (fun V => V.cell? ⟨b, 20, none⟩ = some (.slice (some ⟨g, 0, none⟩) s.ps.length cp) ∧ V.heap[W.heap.size]? = some (.cells #[.string xn, .bool true, .string s.d.1.nm, .int .i64 xc] 45 (0, 0)))) (by kernel_rfl) (by exact HSS.out) (fun hHeld => ?_)
            refine wpAnyH_take (i := 0) (oi := ?oK4k0) (v := ?vK4k0) ?hiK4k0 (by kernel_rfl) (by kernel_rfl) (by kernel_rfl) (fun _ _ _ h => h) ?hyK4k0 (by assumption) ?restK4k0
            case hiK4k0 => simp only [gA, gZ]; rfl
            case hyK4k0 =>
              refine Or.inl ⟨by rfl, ?_⟩
              intro w hSw; (try dsimp only at hSw); obtain ⟨hSw0, hSwB⟩ := hSw; have t0 := cell_blk hSwB 0; have t1 := cell_blk hSwB 1; have t2 := cell_blk hSwB 2; have t3 := cell_blk hSwB 3; go_simp <;> (with_reducible rfl)
            (try simp only [Act.put, pA, pZ, pS])
            refine wpAnyH_take (i := 1) (oi := ?oK4k1) (v := ?vK4k1) ?hiK4k1 (by kernel_rfl) (by kernel_rfl) (by kernel_rfl) (fun _ _ _ h => h) ?hyK4k1 (by assumption) ?restK4k1
            case hiK4k1 => simp only [gA, gS, gZ]; rfl
            case hyK4k1 =>
              refine Or.inl ⟨by rfl, ?_⟩
              intro w hSw; (try dsimp only at hSw); obtain ⟨hSw0, hSwB⟩ := hSw; have t0 := cell_blk hSwB 0; have t1 := cell_blk hSwB 1; have t2 := cell_blk hSwB 2; have t3 := cell_blk hSwB 3; go_simp <;> (with_reducible rfl)
            (try simp only [Act.put, pA, pZ, pS])
            refine wpAnyH_take (i := 2) (oi := ?oK4k2) (v := ?vK4k2) ?hiK4k2 (by kernel_rfl) (by kernel_rfl) (by kernel_rfl) (fun _ _ _ h => h) ?hyK4k2 (by assumption) ?restK4k2
            case hiK4k2 => simp only [gA, gS, gZ]; rfl
            case hyK4k2 =>
              refine Or.inl ⟨by rfl, ?_⟩
              intro w hSw; (try dsimp only at hSw); obtain ⟨hSw0, hSwB⟩ := hSw; have t0 := cell_blk hSwB 0; have t1 := cell_blk hSwB 1; have t2 := cell_blk hSwB 2; have t3 := cell_blk hSwB 3; go_simp <;> (with_reducible rfl)
            (try simp only [Act.put, pA, pZ, pS])
            refine wpAnyH_take (i := 3) (oi := ?oK4k3) (v := ?vK4k3) ?hiK4k3 (by kernel_rfl) (by kernel_rfl) (by kernel_rfl) (fun _ _ _ h => h) ?hyK4k3 (by assumption) ?restK4k3
            case hiK4k3 => simp only [gA, gS, gZ]; rfl
            case hyK4k3 =>
              refine Or.inl ⟨by rfl, ?_⟩
              intro w hSw; (try dsimp only at hSw); obtain ⟨hSw0, hSwB⟩ := hSw; have t0 := cell_blk hSwB 0; have t1 := cell_blk hSwB 1; have t2 := cell_blk hSwB 2; have t3 := cell_blk hSwB 3; go_simp <;> (with_reducible rfl)
            (try simp only [Act.put, pA, pZ, pS])
            refine wpAnyH_take (i := 4) (oi := ?oK4k4) (v := ?vK4k4) ?hiK4k4 (by kernel_rfl) (by kernel_rfl) (by kernel_rfl) (fun _ _ _ h => h) ?hyK4k4 (by assumption) ?restK4k4
            case hiK4k4 => simp only [gA, gS, gZ]; rfl
            case hyK4k4 =>
              refine Or.inl ⟨by rfl, ?_⟩
              intro w hSw; (try dsimp only at hSw); obtain ⟨hSw0, hSwB⟩ := hSw; have t0 := cell_blk hSwB 0; have t1 := cell_blk hSwB 1; have t2 := cell_blk hSwB 2; have t3 := cell_blk hSwB 3; go_simp <;> (with_reducible rfl)
            (try simp only [Act.put, pA, pZ, pS])
            refine wpAnyH_take (i := 5) (oi := ?oK4k5) (v := ?vK4k5) ?hiK4k5 (by kernel_rfl) (by kernel_rfl) (by kernel_rfl) (fun _ _ _ h => h) ?hyK4k5 (by assumption) ?restK4k5
            case hiK4k5 => simp only [gA, gS, gZ]; rfl
            case hyK4k5 =>
              refine Or.inl ⟨by rfl, ?_⟩
              intro w hSw; (try dsimp only at hSw); obtain ⟨hSw0, hSwB⟩ := hSw; have t0 := cell_blk hSwB 0; have t1 := cell_blk hSwB 1; have t2 := cell_blk hSwB 2; have t3 := cell_blk hSwB 3; go_simp <;> (with_reducible rfl)
            (try simp only [Act.put, pA, pZ, pS])
            refine wpAnyH_take (i := 6) (oi := ?oK4k6) (v := ?vK4k6) ?hiK4k6 (by kernel_rfl) (by kernel_rfl) (by kernel_rfl) (fun _ _ _ h => h) ?hyK4k6 (by assumption) ?restK4k6
            case hiK4k6 => simp only [gA, gS, gZ]; rfl
            case hyK4k6 =>
              refine Or.inl ⟨by rfl, ?_⟩
              intro w hSw; (try dsimp only at hSw); obtain ⟨hSw0, hSwB⟩ := hSw; have t0 := cell_blk hSwB 0; have t1 := cell_blk hSwB 1; have t2 := cell_blk hSwB 2; have t3 := cell_blk hSwB 3; go_simp <;> (with_reducible rfl)
            (try simp only [Act.put, pA, pZ, pS])
            refine wpAnyH_take (i := 7) (oi := ?oK4k7) (v := ?vK4k7) ?hiK4k7 (by kernel_rfl) (by kernel_rfl) (by kernel_rfl) (fun _ _ _ h => h) ?hyK4k7 (by assumption) ?restK4k7
            case hiK4k7 => simp only [gA, gS, gZ]; rfl
            case hyK4k7 =>
              refine Or.inl ⟨by rfl, ?_⟩
              intro w hSw; (try dsimp only at hSw); obtain ⟨hSw0, hSwB⟩ := hSw; have t0 := cell_blk hSwB 0; have t1 := cell_blk hSwB 1; have t2 := cell_blk hSwB 2; have t3 := cell_blk hSwB 3; go_simp <;> (with_reducible rfl)
            (try simp only [Act.put, pA, pZ, pS])
            refine wpAnyH_ready (rs := [8]) (by kernel_rfl) (by simp) ?_
            refine AllReadyH.cons rfl (fun K hK => ?_) AllReadyH.nil
            go_simp
            
            refine hK.out _ _ (by exact HKP.out) (fun hHeldC8 => ?_)
            clear hK K
            (try simp only [Act.put, pA, pZ, pS])
            refine wpAnyH_done (by kernel_rfl) ?_ _
            refine NoPanic.normal ?_
            go_wp2_with fail
            go_ret
            rw [HRZ.out]
            exact ⟨rfl, _, _, HFN.out, (by first | exact Nat.le_succ _ | exact if_le _ _)⟩
  | true =>
    have HSE : Hid ((fun V => V.cell? ⟨b, 37, none⟩ = some (.map (some s.l)) ∧ V.cell? ⟨W.heap.size, 0, none⟩ = some (.string xn)) w3.drew) := Lib.hid ⟨cell_blk (HS3.out.same (Below.refl _ _).drew).blk 37, cell_blk (A3.out.mono (Below.refl _ _).drew).a 0⟩
    obtain ⟨w5, hrun, hm5, hg5⟩ := (HS3.out.same (Below.refl _ _).drew).own.lm.put (by have := HLN.out; unfold maxLen; omega) (x := xn) HXZ.out (a := true) trivial
    rw [metF_cons] at hm5
    have hrun : (Instr.mapUpdate 49 (.map (some s.l)) (.string xn) (.bool true)).run Tryd.prog w3.drew = .ok () w5 := hrun
    have HS5 := Lib.hid ((HS3.out.same (Below.refl _ _).drew).put_l hm5 hg5)
    have A5 : Hid (w5.heap[W.heap.size]? = some (.cells #[.string xn, .bool xs, .string s.d.1.nm, .int .i64 xc] 45 (0, 0)) ∧ (fun V => V.cell? ⟨b, 37, none⟩ = some (.map (some s.l)) ∧ V.cell? ⟨W.heap.size, 0, none⟩ = some (.string xn)) w5) := Lib.hid (by
      have hlx : W.heap.size ≠ s.l := fun e => by
        obtain ⟨D, ⟨es, clock, h2, -⟩, -⟩ := HS3.out.own.lm
        rw [← e, A3.out.a] at h2
        cases h2
      have h1 := (hg5.block _ (lt_of_block (A3.out.mono (Below.refl _ _).drew).a) (fun e => hlx (Option.some.inj e))).trans (A3.out.mono (Below.refl _ _).drew).a
      exact ⟨h1, cell_blk HS5.out.blk 37, cell_blk h1 0⟩)
    clear hm5 hg5
    go_wp2_with fail
    refine wp_region_noPanic ?_
    refine wp_region_held_drew (S := (fun V => V.cell? ⟨b, 37, none⟩ = some (.map (some s.l)) ∧ V.cell? ⟨W.heap.size, 0, none⟩ = some (.string xn))) (by kernel_rfl) (by exact HSE.out) (fun hHeld => ?_)
    refine wpAnyH_take (i := 0) (oi := ?oD0) (v := ?vD0) ?hiD0 (by kernel_rfl) (by kernel_rfl) (by kernel_rfl) (fun _ _ _ h => h) ?hyD0 (by assumption) ?restD0
    case hiD0 => simp only [gA, gZ]; rfl
    case hyD0 =>
      refine Or.inl ⟨by rfl, ?_⟩
      intro w hSw; (try dsimp only at hSw); go_simp <;> (with_reducible rfl)
    (try simp only [Act.put, pA, pZ, pS])
    refine wpAnyH_take (i := 1) (oi := ?oD1) (v := ?vD1) ?hiD1 (by kernel_rfl) (by kernel_rfl) (by kernel_rfl) (fun _ _ _ h => h) ?hyD1 (by assumption) ?restD1
    case hiD1 => simp only [gA, gS, gZ]; rfl
    case hyD1 =>
      refine Or.inl ⟨by rfl, ?_⟩
      intro w hSw; (try dsimp only at hSw); go_simp <;> (with_reducible rfl)
    (try simp only [Act.put, pA, pZ, pS])
    refine wpAnyH_take (i := 2) (oi := ?oD2) (v := ?vD2) ?hiD2 (by kernel_rfl) (by kernel_rfl) (by kernel_rfl) (fun _ _ _ h => h) ?hyD2 (by assumption) ?restD2
    case hiD2 => simp only [gA, gS, gZ]; rfl
    case hyD2 =>
      refine Or.inl ⟨by rfl, ?_⟩
      intro w hSw; (try dsimp only at hSw); go_simp <;> (with_reducible rfl)
    (try simp only [Act.put, pA, pZ, pS])
    refine wpAnyH_take (i := 3) (oi := ?oD3) (v := ?vD3) ?hiD3 (by kernel_rfl) (by kernel_rfl) (by kernel_rfl) (fun _ _ _ h => h) ?hyD3 (by assumption) ?restD3
    case hiD3 => simp only [gA, gS, gZ]; rfl
    case hyD3 =>
      refine Or.inl ⟨by rfl, ?_⟩
      intro w hSw; (try dsimp only at hSw); go_simp <;> (with_reducible rfl)
    (try simp only [Act.put, pA, pZ, pS])
    refine wpAnyH_take (i := 4) (oi := ?oD4) (v := ?vD4) ?hiD4 (by kernel_rfl) (by kernel_rfl) (by kernel_rfl) (fun _ _ _ h => h) ?hyD4 (by assumption) ?restD4
    case hiD4 => simp only [gA, gS, gZ]; rfl
    case hyD4 =>
      refine Or.inl ⟨by rfl, ?_⟩
      intro w hSw; (try dsimp only at hSw); go_simp <;> (with_reducible rfl)
    (try simp only [Act.put, pA, pZ, pS])
    refine wpAnyH_take (i := 5) (oi := ?oD5) (v := ?vD5) ?hiD5 (by kernel_rfl) (by kernel_rfl) (by kernel_rfl) (fun _ _ _ h => h) ?hyD5 (by assumption) ?restD5
    case hiD5 => simp only [gA, gS, gZ]; rfl
    case hyD5 =>
      refine Or.inl ⟨by rfl, ?_⟩
      intro w hSw; (try dsimp only at hSw); go_simp <;> (with_reducible rfl)
    (try simp only [Act.put, pA, pZ, pS])
    refine wpAnyH_ready (rs := [6]) (by kernel_rfl) (by simp) ?_
    refine AllReadyH.cons rfl (fun K hK => ?_) AllReadyH.nil
    go_simp
    
    refine hK.out _ _ A5.out.2 (fun hHeldD6 => ?_)
    clear hK K
    (try simp only [Act.put, pA, pZ, pS])
    refine wpAnyH_done (by kernel_rfl) ?_ _
    refine NoPanic.normal ?_
    have HBX : Hid ((w5).heap[W.heap.size]? = some (.cells #[.string xn, .bool xs, .string s.d.1.nm, .int .i64 xc] 45 (0, 0))) := Lib.hid A5.out.1
    cases q with
    | none =>
      have HRE : Hid (r = .ok (s.ps ++ [⟨xn, xs, s.d.1.nm, xc⟩], xn :: s.L)) := Lib.hid (by rw [HR.out]; unfold propP; simp only; rw [← HQ.out]; rfl)
      have hneg : idxI none < 0 := by decide
      go_wp2_with fail
      have hq0 : w5.drew.cell? ⟨b, 20, none⟩ = some (.slice s.q.o s.q.n s.q.c) := cell_blk HS5.out.blk 20
      have HA7 : Hid (Below w5.drew.heap.size w5.drew (w5.drew.alloc (.cells #[.string xn, .bool xs, .string s.d.1.nm, .int .i64 xc] 45))) := Lib.hid (below_alloc1 _ _)
      have HS7 : Hid (LkG w0 (w5.drew.alloc (.cells #[.string xn, .bool xs, .string s.d.1.nm, .int .i64 xc] 45)) b { s with L := xn :: s.L, ln := if (metF s.L xn).isSome then s.ln else s.ln + 1 } LS.p3) := Lib.hid ((HS5.out.same (Below.refl _ _).drew).same HA7.out)
      have hq1 : (w5.drew.alloc (.cells #[.string xn, .bool xs, .string s.d.1.nm, .int .i64 xc] 45)).cell? ⟨b, 20, none⟩ = some (.slice s.q.o s.q.n s.q.c) := cell_blk HS7.out.blk 20
      have hq2 : (w5.alloc (.cells #[.string xn, .bool xs, .string s.d.1.nm, .int .i64 xc] 45)).drew.cell? ⟨b, 20, none⟩ = some (.slice s.q.o s.q.n s.q.c) := hq1
      have hq3 : (w5.alloc (.cells #[.string xn, .bool xs, .string s.d.1.nm, .int .i64 xc] 45)).cell? ⟨b, 20, none⟩ = some (.slice s.q.o s.q.n s.q.c) := hq1
      have HX7 : Hid ((w5.drew.alloc (.cells #[.string xn, .bool xs, .string s.d.1.nm, .int .i64 xc] 45)).heap[W.heap.size]? = some (.cells #[.string xn, .bool xs, .string s.d.1.nm, .int .i64 xc] 45 (0, 0))) := Lib.hid (alloc_blk HBX.out _)
      have hL : Hid (Lies (w5.drew.alloc (.cells #[.string xn, .bool xs, .string s.d.1.nm, .int .i64 xc] 45)) 4 (some ⟨w5.heap.size, 0, none⟩) ([[.string xn, .bool xs, .string s.d.1.nm, .int .i64 xc]] : List (List Value))) := Lib.hid (lies_new w5.drew [.string xn, .bool xs, .string s.d.1.nm, .int .i64 xc] 45 rfl)
      have hR1 : Hid ((s.ps.map PrP.row).length + ([[.string xn, .bool xs, .string s.d.1.nm, .int .i64 xc]] : List (List Value)).length ≤ maxLen) := Lib.hid (by have h0 := hbd.out; rw [List.length_map]; unfold maxLen; simp only [List.length_cons, List.length_nil]; omega)
      have hR2 : Hid (((s.ps.map PrP.row).length + ([[.string xn, .bool xs, .string s.d.1.nm, .int .i64 xc]] : List (List Value)).length) * 48 ≤ 140737488355328) := Lib.hid (by have h0 := hbd.out; rw [List.length_map]; simp only [List.length_cons, List.length_nil]; omega)
      have hBb : Hid (W.heap.size ≠ b) := Lib.hid (fun e => by have h1 := HBX.out; rw [e, HS5.out.blk] at h1; injection h1 with h2; injection h2 with _ h3 _; exact absurd h3 (by decide))
      have hBq : Hid (((.slice s.q.o s.q.n s.q.c) : Value).ownBlock ≠ some W.heap.size) := Lib.hid (fun e => HBQ.out e)
      refine wp_region_noPanic ?_
      refine wp_region_held_drew (S := (fun V => V.heap[W.heap.size]? = some (.cells #[.string xn, .bool xs, .string s.d.1.nm, .int .i64 xc] 45 (0, 0)))) (by kernel_rfl) (by exact HBX.out) (fun hHeld => ?_)
      refine wpAnyH_take (i := 0) (oi := ?oz13_) (v := ?vz13_) ?hiz13_ (by kernel_rfl) (by kernel_rfl) (by kernel_rfl) (fun _ _ _ h => h) ?hyz13_ (by assumption) ?restz13_
      case hiz13_ => simp only [gA, gZ]; rfl
      case hyz13_ =>
        refine Or.inl ⟨by rfl, ?_⟩
        intro w hSw; (try dsimp only at hSw); have u0 := cell_blk hSw 0; have u1 := cell_blk hSw 1; have u2 := cell_blk hSw 2; have u3 := cell_blk hSw 3; go_simp <;> (with_reducible rfl)
      (try simp only [Act.put, pA, pZ, pS])
      refine wpAnyH_take (i := 1) (oi := ?oz14_) (v := ?vz14_) ?hiz14_ (by kernel_rfl) (by kernel_rfl) (by kernel_rfl) (fun _ _ _ h => h) ?hyz14_ (by assumption) ?restz14_
      case hiz14_ => simp only [gA, gS, gZ]; rfl
      case hyz14_ =>
        refine Or.inl ⟨by rfl, ?_⟩
        intro w hSw; (try dsimp only at hSw); have u0 := cell_blk hSw 0; have u1 := cell_blk hSw 1; have u2 := cell_blk hSw 2; have u3 := cell_blk hSw 3; go_simp <;> (with_reducible rfl)
      (try simp only [Act.put, pA, pZ, pS])
      refine wpAnyH_take (i := 2) (oi := ?oz15_) (v := ?vz15_) ?hiz15_ (by kernel_rfl) (by kernel_rfl) (by kernel_rfl) (fun _ _ _ h => h) ?hyz15_ (by assumption) ?restz15_
      case hiz15_ => simp only [gA, gS, gZ]; rfl
      case hyz15_ =>
        refine Or.inl ⟨by rfl, ?_⟩
        intro w hSw; (try dsimp only at hSw); have u0 := cell_blk hSw 0; have u1 := cell_blk hSw 1; have u2 := cell_blk hSw 2; have u3 := cell_blk hSw 3; go_simp <;> (with_reducible rfl)
      (try simp only [Act.put, pA, pZ, pS])
      refine wpAnyH_take (i := 3) (oi := ?oz16_) (v := ?vz16_) ?hiz16_ (by kernel_rfl) (by kernel_rfl) (by kernel_rfl) (fun _ _ _ h => h) ?hyz16_ (by assumption) ?restz16_
      case hiz16_ => simp only [gA, gS, gZ]; rfl
      case hyz16_ =>
        refine Or.inl ⟨by rfl, ?_⟩
        intro w hSw; (try dsimp only at hSw); have u0 := cell_blk hSw 0; have u1 := cell_blk hSw 1; have u2 := cell_blk hSw 2; have u3 := cell_blk hSw 3; go_simp <;> (with_reducible rfl)
      (try simp only [Act.put, pA, pZ, pS])
      refine wpAnyH_take (i := 4) (oi := ?oz17_) (v := ?vz17_) ?hiz17_ (by kernel_rfl) (by kernel_rfl) (by kernel_rfl) (fun _ _ _ h => h) ?hyz17_ (by assumption) ?restz17_
      case hiz17_ => simp only [gA, gS, gZ]; rfl
      case hyz17_ =>
        refine Or.inl ⟨by rfl, ?_⟩
        intro w hSw; (try dsimp only at hSw); have u0 := cell_blk hSw 0; have u1 := cell_blk hSw 1; have u2 := cell_blk hSw 2; have u3 := cell_blk hSw 3; go_simp <;> (with_reducible rfl)
      (try simp only [Act.put, pA, pZ, pS])
      refine wpAnyH_take (i := 6) (oi := ?oz18_) (v := ?vz18_) ?hiz18_ (by kernel_rfl) (by kernel_rfl) (by kernel_rfl) (fun _ _ _ h => h) ?hyz18_ (by assumption) ?restz18_
      case hiz18_ => simp only [gA, gS, gZ]; rfl
      case hyz18_ =>
        refine Or.inl ⟨by rfl, ?_⟩
        intro w hSw; (try dsimp only at hSw); have u0 := cell_blk hSw 0; have u1 := cell_blk hSw 1; have u2 := cell_blk hSw 2; have u3 := cell_blk hSw 3; go_simp <;> (with_reducible rfl)
      (try simp only [Act.put, pA, pZ, pS])
      refine wpAnyH_ready (rs := [5, 7]) (by kernel_rfl) (by simp) ?_
      refine AllReadyH.cons rfl (fun K hK => ?_) (AllReadyH.cons rfl (fun K hK => ?_) AllReadyH.nil)
      · go_simp
        refine hK.out _ _ (by exact HBX.out) (fun hHeld5 => ?_)
        clear hK K
        (try simp only [Act.put, pA, pZ, pS])
        refine wpAnyH_ready (rs := [7]) (by kernel_rfl) (by simp) ?_
        refine AllReadyH.cons rfl (fun K hK => ?_) AllReadyH.nil
        go_simp
        refine hK.out _ _ (by exact HX7.out) (fun hHeld7 => ?_)
        clear hK K
        (try simp only [Act.put, pA, pZ, pS])
        refine wpAnyH_ready (rs := [8]) (by kernel_rfl) (by simp) ?_
        refine AllReadyH.cons rfl (fun K hK => ?_) AllReadyH.nil
        refine step_append_rows rfl (.tmp 45) (.tmp 47) 26 rfl 45 _ 4 48 Tryd.underlying26 info45 rfl (by decide) (.slice s.q.o s.q.n s.q.c) (s.ps.map PrP.row) (by simp [Act.eval]) HS7.out.own.oq (some ⟨w5.heap.size, 0, none⟩) 1 1 [[.string xn, .bool xs, .string s.d.1.nm, .int .i64 xc]] (by simp [Act.eval]) rfl (fun e => by cases e) hL.out (by simp [Value.oneCell']) (by simp) hR1.out (by have h := hR2.out; omega) ?_
        intro v6 w6 o6 g6 b6
        obtain ⟨a6, L6, c6, hv6, -⟩ := owns_slice o6
        subst hv6
        have S6 : w6.heap[W.heap.size]? = some (.cells #[.string xn, .bool xs, .string s.d.1.nm, .int .i64 xc] 45 (0, 0)) := (g6.block _ (lt_of_block HX7.out) (fun e => hBq.out e.symm)).trans HX7.out
        have B6 := Lib.hid ((g6.block b (lt_of_block HS7.out.blk) (fun e => own_nb (by decide) HS7.out.own.oq HS7.out.blk e.symm)).trans HS7.out.blk)
        have zc := cell_blk B6.out 20; have zf := free_blk B6.out 20
        have zc : w6.cell? ⟨b, 20, none⟩ = some (.slice s.q.o s.q.n s.q.c) := zc
        have HN := Lib.hid (HS7.out.put_q (v := ⟨a6, L6, c6⟩) (l := s.ps ++ [⟨xn, xs, s.d.1.nm, xc⟩]) (by rw [List.map_append]; exact o6) g6 b6)
        have S8 : (w6.setCell ⟨b, 20, none⟩ (.slice a6 L6 c6)).heap[W.heap.size]? = some (.cells #[.string xn, .bool xs, .string s.d.1.nm, .int .i64 xc] 45 (0, 0)) := set_other S6 hBb.out
        clear o6 g6 b6
        refine hK.out _ _ (by exact S6) (fun hHeld8 => ?_)
        clear hK K
        (try simp only [Act.put, pA])
        refine wpAnyH_take (i := 9) (oi := ?oz19_) (v := ?vz19_) ?hiz19_ (by kernel_rfl) (by kernel_rfl) (by kernel_rfl) (fun _ _ _ h => h) ?hyz19_ (by assumption) ?restz19_
        case hiz19_ => simp only [gA, gS, gZ]; rfl
        case hyz19_ =>
          refine Or.inl ⟨by rfl, ?_⟩
          intro w hSw; (try dsimp only at hSw); have u0 := cell_blk hSw 0; have u1 := cell_blk hSw 1; have u2 := cell_blk hSw 2; have u3 := cell_blk hSw 3; go_simp <;> (with_reducible rfl)
        (try simp only [Act.put])
        refine wpAnyH_take (i := 10) (oi := ?oz20_) (v := ?vz20_) ?hiz20_ (by kernel_rfl) (by kernel_rfl) (by kernel_rfl) (fun _ _ _ h => h) ?hyz20_ (by assumption) ?restz20_
        case hiz20_ => simp only [gA, gS, gZ]; rfl
        case hyz20_ =>
          refine Or.inl ⟨by rfl, ?_⟩
          intro w hSw; (try dsimp only at hSw); have u0 := cell_blk hSw 0; have u1 := cell_blk hSw 1; have u2 := cell_blk hSw 2; have u3 := cell_blk hSw 3; go_simp <;> (with_reducible rfl)
        (try simp only [Act.put])
        refine wpAnyH_take (i := 11) (oi := ?oz21_) (v := ?vz21_) ?hiz21_ (by kernel_rfl) (by kernel_rfl) (by kernel_rfl) (fun _ _ _ h => h) ?hyz21_ (by assumption) ?restz21_
        case hiz21_ => simp only [gA, gS, gZ]; rfl
        case hyz21_ =>
          refine Or.inl ⟨by rfl, ?_⟩
          intro w hSw; (try dsimp only at hSw); have u0 := cell_blk hSw 0; have u1 := cell_blk hSw 1; have u2 := cell_blk hSw 2; have u3 := cell_blk hSw 3; go_simp <;> (with_reducible rfl)
        (try simp only [Act.put])
        refine wpAnyH_ready (rs := [12]) (by kernel_rfl) (by simp) ?_
        refine AllReadyH.cons rfl (fun K hK => ?_) AllReadyH.nil
        go_simp
        refine hK.out _ _ (by exact S8) (fun hHeld12 => ?_)
        clear hK K
        (try simp only [Act.put])
        refine wpAnyH_done (by kernel_rfl) ?_ _
        refine NoPanic.normal ?_
        have HN2 := HN
        go_wp2_with fail
        go_ret
        rw [HRE.out]
        exact ⟨rfl, _, _, HN2.out, (by first | exact Nat.le_succ _ | exact if_le _ _)⟩
      · go_simp
        refine hK.out _ _ (by exact HX7.out) (fun hHeld7 => ?_)
        clear hK K
        (try simp only [Act.put, pA, pZ, pS])
        refine wpAnyH_ready (rs := [5]) (by kernel_rfl) (by simp) ?_
        refine AllReadyH.cons rfl (fun K hK => ?_) AllReadyH.nil
        go_simp
        refine hK.out _ _ (by exact HX7.out) (fun hHeld5 => ?_)
        clear hK K
        (try simp only [Act.put, pA, pZ, pS])
        refine wpAnyH_ready (rs := [8]) (by kernel_rfl) (by simp) ?_
        refine AllReadyH.cons rfl (fun K hK => ?_) AllReadyH.nil
        refine step_append_rows rfl (.tmp 45) (.tmp 47) 26 rfl 45 _ 4 48 Tryd.underlying26 info45 rfl (by decide) (.slice s.q.o s.q.n s.q.c) (s.ps.map PrP.row) (by simp [Act.eval]) HS7.out.own.oq (some ⟨w5.heap.size, 0, none⟩) 1 1 [[.string xn, .bool xs, .string s.d.1.nm, .int .i64 xc]] (by simp [Act.eval]) rfl (fun e => by cases e) hL.out (by simp [Value.oneCell']) (by simp) hR1.out (by have h := hR2.out; omega) ?_
        intro v6 w6 o6 g6 b6
        obtain ⟨a6, L6, c6, hv6, -⟩ := owns_slice o6
        subst hv6
        have S6 : w6.heap[W.heap.size]? = some (.cells #[.string xn, .bool xs, .string s.d.1.nm, .int .i64 xc] 45 (0, 0)) := (g6.block _ (lt_of_block HX7.out) (fun e => hBq.out e.symm)).trans HX7.out
        have B6 := Lib.hid ((g6.block b (lt_of_block HS7.out.blk) (fun e => own_nb (by decide) HS7.out.own.oq HS7.out.blk e.symm)).trans HS7.out.blk)
        have zc := cell_blk B6.out 20; have zf := free_blk B6.out 20
        have zc : w6.cell? ⟨b, 20, none⟩ = some (.slice s.q.o s.q.n s.q.c) := zc
        have HN := Lib.hid (HS7.out.put_q (v := ⟨a6, L6, c6⟩) (l := s.ps ++ [⟨xn, xs, s.d.1.nm, xc⟩]) (by rw [List.map_append]; exact o6) g6 b6)
        have S8 : (w6.setCell ⟨b, 20, none⟩ (.slice a6 L6 c6)).heap[W.heap.size]? = some (.cells #[.string xn, .bool xs, .string s.d.1.nm, .int .i64 xc] 45 (0, 0)) := set_other S6 hBb.out
        clear o6 g6 b6
        refine hK.out _ _ (by exact S6) (fun hHeld8 => ?_)
        clear hK K
        (try simp only [Act.put, pA])
        refine wpAnyH_take (i := 9) (oi := ?oz22_) (v := ?vz22_) ?hiz22_ (by kernel_rfl) (by kernel_rfl) (by kernel_rfl) (fun _ _ _ h => h) ?hyz22_ (by assumption) ?restz22_
        case hiz22_ => simp only [gA, gS, gZ]; rfl
        case hyz22_ =>
          refine Or.inl ⟨by rfl, ?_⟩
          intro w hSw; (try dsimp only at hSw); have u0 := cell_blk hSw 0; have u1 := cell_blk hSw 1; have u2 := cell_blk hSw 2; have u3 := cell_blk hSw 3; go_simp <;> (with_reducible rfl)
        (try simp only [Act.put])
        refine wpAnyH_take (i := 10) (oi := ?oz23_) (v := ?vz23_) ?hiz23_ (by kernel_rfl) (by kernel_rfl) (by kernel_rfl) (fun _ _ _ h => h) ?hyz23_ (by assumption) ?restz23_
        case hiz23_ => simp only [gA, gS, gZ]; rfl
        case hyz23_ =>
          refine Or.inl ⟨by rfl, ?_⟩
          intro w hSw; (try dsimp only at hSw); have u0 := cell_blk hSw 0; have u1 := cell_blk hSw 1; have u2 := cell_blk hSw 2; have u3 := cell_blk hSw 3; go_simp <;> (with_reducible rfl)
        (try simp only [Act.put])
        refine wpAnyH_take (i := 11) (oi := ?oz24_) (v := ?vz24_) ?hiz24_ (by kernel_rfl) (by kernel_rfl) (by kernel_rfl) (fun _ _ _ h => h) ?hyz24_ (by assumption) ?restz24_
        case hiz24_ => simp only [gA, gS, gZ]; rfl
        case hyz24_ =>
          refine Or.inl ⟨by rfl, ?_⟩
          intro w hSw; (try dsimp only at hSw); have u0 := cell_blk hSw 0; have u1 := cell_blk hSw 1; have u2 := cell_blk hSw 2; have u3 := cell_blk hSw 3; go_simp <;> (with_reducible rfl)
        (try simp only [Act.put])
        refine wpAnyH_ready (rs := [12]) (by kernel_rfl) (by simp) ?_
        refine AllReadyH.cons rfl (fun K hK => ?_) AllReadyH.nil
        go_simp
        refine hK.out _ _ (by exact S8) (fun hHeld12 => ?_)
        clear hK K
        (try simp only [Act.put])
        refine wpAnyH_done (by kernel_rfl) ?_ _
        refine NoPanic.normal ?_
        have HN2 := HN
        go_wp2_with fail
        go_ret
        rw [HRE.out]
        exact ⟨rfl, _, _, HN2.out, (by first | exact Nat.le_succ _ | exact if_le _ _)⟩
    | some i =>
      obtain ⟨hi, -, -⟩ := idxP_some HQ.out.symm
      have hlt : (i : Int) < (s.ps.length : Int) := by omega
      have HRI : Hid (RIn AnyB (w5) 4 (.slice s.q.o s.q.n s.q.c) (s.ps.map PrP.row)) := Lib.hid (RIn.of_owns HS5.out.own.oq (fun _ _ => trivial))
      obtain ⟨⟨yn, ys, yf, yc⟩, g, off, cp, hget, -, -, e, hg, -, hc⟩ := pr_cells HRI.out hi
      simp only at hc
      simp only [Value.slice.injEq] at e
      obtain ⟨e1, e2, e3⟩ := e
      obtain ⟨rfl, hown⟩ : off = 0 ∧ (Value.slice s.q.o s.q.n s.q.c).ownBlock = some g := by
        obtain ⟨a9, c9, hv9, -, -, -, -, h9⟩ := HS5.out.own.oq.any
        simp only [Value.slice.injEq] at hv9
        exact h9 g off (by rw [← hv9.1, e1])
      have h20 : (w5).cell? ⟨b, 20, none⟩ = some (.slice (some ⟨g, 0, none⟩) s.ps.length cp) := by
        have h9 : (w5).cell? ⟨b, 20, none⟩ = some (.slice s.q.o s.q.n s.q.c) := cell_blk HS5.out.blk 20
        rw [e1, e2, e3] at h9
        exact h9
      obtain ⟨d0, d1, d2, d3⟩ := hc (w5) (Below.refl _ _)
      have hz0 : (0 + i * 4) = i * 4 := by omega
      rw [hz0] at d0 d1 d2 d3
      have z0 := cell_blk HBX.out 0
      have z1 := cell_blk HBX.out 1
      have z2 := cell_blk HBX.out 2
      have z3 := cell_blk HBX.out 3
      have hii : idxI (some i) = (i : Int) := rfl
      have hnn : ¬ (i : Int) < 0 := by omega
      obtain ⟨n1, hn1⟩ : ∃ e, (xs != ys) = e := ⟨_, rfl⟩
      obtain ⟨n2, hn2⟩ : ∃ e, (xc != yc) = e := ⟨_, rfl⟩
      have hn2b : (xc == yc) = !n2 := by rw [← hn2]; cases h9 : xc == yc <;> simp [bne, h9]
      have HRE : Hid (r = if (le && (n1 || n2)) = true then .error 21 else if le = true then .ok (s.ps, xn :: s.L) else if n1 = true then .error 20 else .ok (s.ps.set i ⟨xn, xs, s.d.1.nm, xc⟩, xn :: s.L)) := Lib.hid (by
        have hget2 : s.ps[i]? = some ⟨yn, ys, yf, yc⟩ := hget
        rw [HR.out]
        unfold propP
        simp only
        rw [← HQ.out]
        simp only
        rw [hget2]
        simp only
        rw [hn1, hn2, HLE.out]
        rfl)
      have B9 : Hid (Below (w5).heap.size (w5) ((w5).alloc (.cells #[.string yn, .bool ys, .string yf, .int .i64 yc] 45))) := Lib.hid (below_alloc1 _ _)
      have HS9 := Lib.hid (HS5.out.same B9.out)
      have HX9 : Hid (((w5).alloc (.cells #[.string yn, .bool ys, .string yf, .int .i64 yc] 45)).heap[W.heap.size]? = some (.cells #[.string xn, .bool xs, .string s.d.1.nm, .int .i64 xc] 45 (0, 0))) := Lib.hid (alloc_blk HBX.out _)
      have HGE : Hid (s.q = ⟨some ⟨g, 0, none⟩, s.ps.length, cp⟩ ∧ (s.ps.map PrP.row)[i]? = some (PrP.row ⟨yn, ys, yf, yc⟩)) := Lib.hid ⟨by cases hsq : s.q; rw [hsq] at e1 e2 e3; simp only at e1 e2 e3; rw [e1, e2, e3], by rw [List.getElem?_map, hget]; rfl⟩
      have v0 := cell_blk HX9.out 0
      have v1 := cell_blk HX9.out 1
      have v2 := cell_blk HX9.out 2
      have v3 := cell_blk HX9.out 3
      clear hget hc e1 e2 e3 hown hg z0 z1 z2 z3
      cases xs with
      | false =>
        cases ys with
        | false =>
          obtain rfl : n1 = false := hn1.symm
          cases le with
          | true =>
            cases n2 with
            | true =>
              have HRZ : Hid (r = .error 21) := Lib.hid HRE.out
              go_wp2_with fail
              go_ret
              rw [HRZ.out]
              exact ⟨rfl, _, HS9.out, rfl, rfl⟩
            | false =>
              have HRZ : Hid (r = .ok (s.ps, xn :: s.L)) := Lib.hid HRE.out
              go_wp2_with fail
              go_ret
              rw [HRZ.out]
              exact ⟨rfl, _, _, HS9.out, (by first | exact Nat.le_succ _ | exact if_le _ _)⟩
          | false =>
            have HRZ : Hid (r = .ok (s.ps.set i ⟨xn, false, s.d.1.nm, xc⟩, xn :: s.L)) := Lib.hid HRE.out
            go_wp2_with fail
            obtain ⟨W9, hW9⟩ : ∃ W9, W9 = (w5).alloc (.cells #[.string yn, .bool false, .string yf, .int .i64 yc] 45) := ⟨_, rfl⟩
            rw [← hW9] at HS9 HX9 ⊢
            clear hW9 B9 d0 d1 d2 d3 v0 v1 v2 v3 h20
            have HS10 := Lib.hid (HS9.out.same (Below.refl _ _).drew)
            have HX10 : Hid (W9.drew.heap[W.heap.size]? = some (.cells #[.string xn, .bool false, .string s.d.1.nm, .int .i64 xc] 45 (0, 0))) := Lib.hid HX9.out
            have HOQ : Hid (Owns W9.drew 45 4 (.slice (some ⟨g, 0, none⟩) s.ps.length cp) (s.ps.map PrP.row)) := Lib.hid (by
              have h2 : Owns W9.drew 45 4 (.slice s.q.o s.q.n s.q.c) (s.ps.map PrP.row) := HS10.out.own.oq
              rw [HGE.out.1] at h2
              exact h2)
            have HPU := Lib.hid (owns_put4 HOQ.out HGE.out.2 (u0 := .string xn) (u1 := .bool false) (u2 := .string s.d.1.nm) (u3 := .int .i64 xc) rfl rfl rfl rfl)
            have h9 : W9.drew.cell? ⟨b, 20, none⟩ = some (.slice s.q.o s.q.n s.q.c) := cell_blk HS10.out.blk 20
            rw [HGE.out.1] at h9
            have HSS : Hid ((fun V => V.cell? ⟨b, 20, none⟩ = some (.slice (some ⟨g, 0, none⟩) s.ps.length cp) ∧ V.heap[W.heap.size]? = some (.cells #[.string xn, .bool false, .string s.d.1.nm, .int .i64 xc] 45 (0, 0))) W9.drew) := Lib.hid ⟨h9, HX10.out⟩
            obtain ⟨p0, p1, p2, p3⟩ : (W9.drew.cell? ⟨g, i * 4, none⟩ = some (.string yn) ∧ W9.drew.cell? ⟨g, i * 4 + 1, none⟩ = some (.bool false) ∧ W9.drew.cell? ⟨g, i * 4 + 2, none⟩ = some (.string yf) ∧ W9.drew.cell? ⟨g, i * 4 + 3, none⟩ = some (.int .i64 yc)) := by
              obtain ⟨a9, c9, hv9, -, -, hl9, -, -⟩ := HOQ.out.any
              simp only [Value.slice.injEq] at hv9
              obtain ⟨rfl, -, -⟩ := hv9
              obtain ⟨g9, o9, e9, -, -, hc9⟩ := hl9 i _ HGE.out.2
              cases e9
              refine ⟨?_, ?_, ?_, ?_⟩
              · simpa using hc9 0 _ rfl
              · simpa using hc9 1 _ rfl
              · simpa using hc9 2 _ rfl
              · simpa using hc9 3 _ rfl
            have f0 := HOQ.out.free (g := g) rfl (i * 4)
            have f1 := HOQ.out.free (g := g) rfl (i * 4 + 1)
            have f2 := HOQ.out.free (g := g) rfl (i * 4 + 2)
            have f3 := HOQ.out.free (g := g) rfl (i * 4 + 3)
            have HKP : Hid ((fun V => V.cell? ⟨b, 20, none⟩ = some (.slice (some ⟨g, 0, none⟩) s.ps.length cp) ∧ V.heap[W.heap.size]? = some (.cells #[.string xn, .bool false, .string s.d.1.nm, .int .i64 xc] 45 (0, 0))) ((((W9.drew.setCell ⟨g, i * 4, none⟩ (.string xn)).setCell ⟨g, i * 4 + 1, none⟩ (.bool false)).setCell ⟨g, i * 4 + 2, none⟩ (.string s.d.1.nm)).setCell ⟨g, i * 4 + 3, none⟩ (.int .i64 xc))) := Lib.hid (by
              have hm := (Mod.refl (fun j => j = g) W9.drew).grown HPU.out.2 (fun j e _ => (Option.some.inj e).symm)
              have hgb : b ≠ g := fun e => by obtain ⟨c9, h9⟩ := own_ty HOQ.out (k := g) rfl; rw [← e, HS10.out.blk] at h9; cases h9
              have hgx : W.heap.size ≠ g := fun e => HBQ.out (by rw [HGE.out.1]; show some g = _; rw [e])
              have h8 := cell_blk (hm.blk HS10.out.blk hgb) 20
              have h8 : (((((W9.drew.setCell ⟨g, i * 4, none⟩ (.string xn)).setCell ⟨g, i * 4 + 1, none⟩ (.bool false)).setCell ⟨g, i * 4 + 2, none⟩ (.string s.d.1.nm)).setCell ⟨g, i * 4 + 3, none⟩ (.int .i64 xc))).cell? ⟨b, 20, none⟩ = some (.slice s.q.o s.q.n s.q.c) := h8
              rw [HGE.out.1] at h8
              exact ⟨h8, hm.blk HX10.out hgx⟩)
            have HFN : Hid (LkG w0 ((((W9.drew.setCell ⟨g, i * 4, none⟩ (.string xn)).setCell ⟨g, i * 4 + 1, none⟩ (.bool false)).setCell ⟨g, i * 4 + 2, none⟩ (.string s.d.1.nm)).setCell ⟨g, i * 4 + 3, none⟩ (.int .i64 xc)) b { { s with L := xn :: s.L, ln := if (metF s.L xn).isSome then s.ln else s.ln + 1 } with ps := s.ps.set i ⟨xn, false, s.d.1.nm, xc⟩ } LS.p3) := Lib.hid (by
              have h1 := HPU.out.1
              have h2 := HPU.out.2
              have hr : (s.ps.map PrP.row).set i [.string xn, .bool false, .string s.d.1.nm, .int .i64 xc] = (s.ps.set i ⟨xn, false, s.d.1.nm, xc⟩).map PrP.row := by rw [List.map_set]; rfl
              rw [hr] at h1
              refine HS10.out.turn_q (l := s.ps.set i ⟨xn, false, s.d.1.nm, xc⟩) ?_ ?_
              · show Owns _ 45 4 (.slice s.q.o s.q.n s.q.c) _
                rw [HGE.out.1]
                exact h1
              · show World.grownBy _ _ (Value.slice s.q.o s.q.n s.q.c).ownBlock
                rw [HGE.out.1]
                exact h2)
            have q1 : W9.cell? ⟨g, i * 4 + 1, none⟩ = some (.bool false) := p1
            have q2 : W9.cell? ⟨g, i * 4 + 2, none⟩ = some (.string yf) := p2
            have q3 : W9.cell? ⟨g, i * 4 + 3, none⟩ = some (.int .i64 yc) := p3
            have x1 : W9.frozen? ⟨g, i * 4 + 1, none⟩ = false := f1
            have x2 : W9.frozen? ⟨g, i * 4 + 2, none⟩ = false := f2
            have x3 : W9.frozen? ⟨g, i * 4 + 3, none⟩ = false := f3
            clear h9
            refine wp_region_noPanic ?_
            refine wp_region_held_drew (S := (fun V => V.cell? ⟨b, 20, none⟩ = some (.slice (some ⟨g, 0, none⟩) s.ps.length cp) ∧ V.heap[W.heap.size]? = some (.cells #[.string xn, .bool false, .string s.d.1.nm, .int .i64 xc] 45 (0, 0)))) (by kernel_rfl) (by exact HSS.out) (fun hHeld => ?_)
            refine wpAnyH_take (i := 0) (oi := ?oK5k0) (v := ?vK5k0) ?hiK5k0 (by kernel_rfl) (by kernel_rfl) (by kernel_rfl) (fun _ _ _ h => h) ?hyK5k0 (by assumption) ?restK5k0
            case hiK5k0 => simp only [gA, gZ]; rfl
            case hyK5k0 =>
              refine Or.inl ⟨by rfl, ?_⟩
              intro w hSw; (try dsimp only at hSw); obtain ⟨hSw0, hSwB⟩ := hSw; have t0 := cell_blk hSwB 0; have t1 := cell_blk hSwB 1; have t2 := cell_blk hSwB 2; have t3 := cell_blk hSwB 3; go_simp <;> (with_reducible rfl)
            (try simp only [Act.put, pA, pZ, pS])
            refine wpAnyH_take (i := 1) (oi := ?oK5k1) (v := ?vK5k1) ?hiK5k1 (by kernel_rfl) (by kernel_rfl) (by kernel_rfl) (fun _ _ _ h => h) ?hyK5k1 (by assumption) ?restK5k1
            case hiK5k1 => simp only [gA, gS, gZ]; rfl
            case hyK5k1 =>
              refine Or.inl ⟨by rfl, ?_⟩
              intro w hSw; (try dsimp only at hSw); obtain ⟨hSw0, hSwB⟩ := hSw; have t0 := cell_blk hSwB 0; have t1 := cell_blk hSwB 1; have t2 := cell_blk hSwB 2; have t3 := cell_blk hSwB 3; go_simp <;> (with_reducible rfl)
            (try simp only [Act.put, pA, pZ, pS])
            refine wpAnyH_take (i := 2) (oi := ?oK5k2) (v := ?vK5k2) ?hiK5k2 (by kernel_rfl) (by kernel_rfl) (by kernel_rfl) (fun _ _ _ h => h) ?hyK5k2 (by assumption) ?restK5k2
            case hiK5k2 => simp only [gA, gS, gZ]; rfl
            case hyK5k2 =>
              refine Or.inl ⟨by rfl, ?_⟩
              intro w hSw; (try dsimp only at hSw); obtain ⟨hSw0, hSwB⟩ := hSw; have t0 := cell_blk hSwB 0; have t1 := cell_blk hSwB 1; have t2 := cell_blk hSwB 2; have t3 := cell_blk hSwB 3; go_simp <;> (with_reducible rfl)
            (try simp only [Act.put, pA, pZ, pS])
            refine wpAnyH_take (i := 3) (oi := ?oK5k3) (v := ?vK5k3) ?hiK5k3 (by kernel_rfl) (by kernel_rfl) (by kernel_rfl) (fun _ _ _ h => h) ?hyK5k3 (by assumption) ?restK5k3
            case hiK5k3 => simp only [gA, gS, gZ]; rfl
            case hyK5k3 =>
              refine Or.inl ⟨by rfl, ?_⟩
              intro w hSw; (try dsimp only at hSw); obtain ⟨hSw0, hSwB⟩ := hSw; have t0 := cell_blk hSwB 0; have t1 := cell_blk hSwB 1; have t2 := cell_blk hSwB 2; have t3 := cell_blk hSwB 3; go_simp <;> (with_reducible rfl)
            (try simp only [Act.put, pA, pZ, pS])
            refine wpAnyH_take (i := 4) (oi := ?oK5k4) (v := ?vK5k4) ?hiK5k4 (by kernel_rfl) (by kernel_rfl) (by kernel_rfl) (fun _ _ _ h => h) ?hyK5k4 (by assumption) ?restK5k4
            case hiK5k4 => simp only [gA, gS, gZ]; rfl
            case hyK5k4 =>
              refine Or.inl ⟨by rfl, ?_⟩
              intro w hSw; (try dsimp only at hSw); obtain ⟨hSw0, hSwB⟩ := hSw; have t0 := cell_blk hSwB 0; have t1 := cell_blk hSwB 1; have t2 := cell_blk hSwB 2; have t3 := cell_blk hSwB 3; go_simp <;> (with_reducible rfl)
            (try simp only [Act.put, pA, pZ, pS])
            refine wpAnyH_take (i := 5) (oi := ?oK5k5) (v := ?vK5k5) ?hiK5k5 (by kernel_rfl) (by kernel_rfl) (by kernel_rfl) (fun _ _ _ h => h) ?hyK5k5 (by assumption) ?restK5k5
            case hiK5k5 => simp only [gA, gS, gZ]; rfl
            case hyK5k5 =>
              refine Or.inl ⟨by rfl, ?_⟩
              intro w hSw; (try dsimp only at hSw); obtain ⟨hSw0, hSwB⟩ := hSw; have t0 := cell_blk hSwB 0; have t1 := cell_blk hSwB 1; have t2 := cell_blk hSwB 2; have t3 := cell_blk hSwB 3; go_simp <;> (with_reducible rfl)
            (try simp only [Act.put, pA, pZ, pS])
            refine wpAnyH_take (i := 6) (oi := ?oK5k6) (v := ?vK5k6) ?hiK5k6 (by kernel_rfl) (by kernel_rfl) (by kernel_rfl) (fun _ _ _ h => h) ?hyK5k6 (by assumption) ?restK5k6
            case hiK5k6 => simp only [gA, gS, gZ]; rfl
            case hyK5k6 =>
              refine Or.inl ⟨by rfl, ?_⟩
              intro w hSw; (try dsimp only at hSw); obtain ⟨hSw0, hSwB⟩ := hSw; have t0 := cell_blk hSwB 0; have t1 := cell_blk hSwB 1; have t2 := cell_blk hSwB 2; have t3 := cell_blk hSwB 3; go_simp <;> (with_reducible rfl)
            (try simp only [Act.put, pA, pZ, pS])
            refine wpAnyH_take (i := 7) (oi := ?oK5k7) (v := ?vK5k7) ?hiK5k7 (by kernel_rfl) (by kernel_rfl) (by kernel_rfl) (fun _ _ _ h => h) ?hyK5k7 (by assumption) ?restK5k7
            case hiK5k7 => simp only [gA, gS, gZ]; rfl
            case hyK5k7 =>
              refine Or.inl ⟨by rfl, ?_⟩
              intro w hSw; (try dsimp only at hSw); obtain ⟨hSw0, hSwB⟩ := hSw; have t0 := cell_blk hSwB 0; have t1 := cell_blk hSwB 1; have t2 := cell_blk hSwB 2; have t3 := cell_blk hSwB 3; go_simp <;> (with_reducible rfl)
            (try simp only [Act.put, pA, pZ, pS])
            refine wpAnyH_ready (rs := [8]) (by kernel_rfl) (by simp) ?_
            refine AllReadyH.cons rfl (fun K hK => ?_) AllReadyH.nil
            go_simp
            
            refine hK.out _ _ (by exact HKP.out) (fun hHeldC8 => ?_)
            clear hK K
            (try simp only [Act.put, pA, pZ, pS])
            refine wpAnyH_done (by kernel_rfl) ?_ _
            refine NoPanic.normal ?_
            go_wp2_with fail
            go_ret
            rw [HRZ.out]
            exact ⟨rfl, _, _, HFN.out, (by first | exact Nat.le_succ _ | exact if_le _ _)⟩
        | true =>
          obtain rfl : n1 = true := hn1.symm
          cases le with
          | true =>
            have HRZ : Hid (r = .error 21) := Lib.hid HRE.out
            go_wp2_with fail
            go_ret
            rw [HRZ.out]
            exact ⟨rfl, _, HS9.out, rfl, rfl⟩
          | false =>
            have HRZ : Hid (r = .error 20) := Lib.hid HRE.out
            go_wp2_with fail
            go_ret
            rw [HRZ.out]
            exact ⟨rfl, _, HS9.out, rfl, rfl⟩
      | true =>
        cases ys with
        | false =>
          obtain rfl : n1 = true := hn1.symm
          cases le with
          | true =>
            have HRZ : Hid (r = .error 21) := Lib.hid HRE.out
            go_wp2_with fail
            go_ret
            rw [HRZ.out]
            exact ⟨rfl, _, HS9.out, rfl, rfl⟩
          | false =>
            have HRZ : Hid (r = .error 20) := Lib.hid HRE.out
            go_wp2_with fail
            go_ret
            rw [HRZ.out]
            exact ⟨rfl, _, HS9.out, rfl, rfl⟩
        | true =>
          obtain rfl : n1 = false := hn1.symm
          cases le with
          | true =>
            cases n2 with
            | true =>
              have HRZ : Hid (r = .error 21) := Lib.hid HRE.out
              go_wp2_with fail
              go_ret
              rw [HRZ.out]
              exact ⟨rfl, _, HS9.out, rfl, rfl⟩
            | false =>
              have HRZ : Hid (r = .ok (s.ps, xn :: s.L)) := Lib.hid HRE.out
              go_wp2_with fail
              go_ret
              rw [HRZ.out]
              exact ⟨rfl, _, _, HS9.out, (by first | exact Nat.le_succ _ | exact if_le _ _)⟩
          | false =>
            have HRZ : Hid (r = .ok (s.ps.set i ⟨xn, true, s.d.1.nm, xc⟩, xn :: s.L)) := Lib.hid HRE.out
            go_wp2_with fail
            obtain ⟨W9, hW9⟩ : ∃ W9, W9 = (w5).alloc (.cells #[.string yn, .bool true, .string yf, .int .i64 yc] 45) := ⟨_, rfl⟩
            rw [← hW9] at HS9 HX9 ⊢
            clear hW9 B9 d0 d1 d2 d3 v0 v1 v2 v3 h20
            have HS10 := Lib.hid (HS9.out.same (Below.refl _ _).drew)
            have HX10 : Hid (W9.drew.heap[W.heap.size]? = some (.cells #[.string xn, .bool true, .string s.d.1.nm, .int .i64 xc] 45 (0, 0))) := Lib.hid HX9.out
            have HOQ : Hid (Owns W9.drew 45 4 (.slice (some ⟨g, 0, none⟩) s.ps.length cp) (s.ps.map PrP.row)) := Lib.hid (by
              have h2 : Owns W9.drew 45 4 (.slice s.q.o s.q.n s.q.c) (s.ps.map PrP.row) := HS10.out.own.oq
              rw [HGE.out.1] at h2
              exact h2)
            have HPU := Lib.hid (owns_put4 HOQ.out HGE.out.2 (u0 := .string xn) (u1 := .bool true) (u2 := .string s.d.1.nm) (u3 := .int .i64 xc) rfl rfl rfl rfl)
            have h9 : W9.drew.cell? ⟨b, 20, none⟩ = some (.slice s.q.o s.q.n s.q.c) := cell_blk HS10.out.blk 20
            rw [HGE.out.1] at h9
            have HSS : Hid ((fun V => V.cell? ⟨b, 20, none⟩ = some (.slice (some ⟨g, 0, none⟩) s.ps.length cp) ∧ V.heap[W.heap.size]? = some (.cells #[.string xn, .bool true, .string s.d.1.nm, .int .i64 xc] 45 (0, 0))) W9.drew) := Lib.hid ⟨h9, HX10.out⟩
            obtain ⟨p0, p1, p2, p3⟩ : (W9.drew.cell? ⟨g, i * 4, none⟩ = some (.string yn) ∧ W9.drew.cell? ⟨g, i * 4 + 1, none⟩ = some (.bool true) ∧ W9.drew.cell? ⟨g, i * 4 + 2, none⟩ = some (.string yf) ∧ W9.drew.cell? ⟨g, i * 4 + 3, none⟩ = some (.int .i64 yc)) := by
              obtain ⟨a9, c9, hv9, -, -, hl9, -, -⟩ := HOQ.out.any
              simp only [Value.slice.injEq] at hv9
              obtain ⟨rfl, -, -⟩ := hv9
              obtain ⟨g9, o9, e9, -, -, hc9⟩ := hl9 i _ HGE.out.2
              cases e9
              refine ⟨?_, ?_, ?_, ?_⟩
              · simpa using hc9 0 _ rfl
              · simpa using hc9 1 _ rfl
              · simpa using hc9 2 _ rfl
              · simpa using hc9 3 _ rfl
            have f0 := HOQ.out.free (g := g) rfl (i * 4)
            have f1 := HOQ.out.free (g := g) rfl (i * 4 + 1)
            have f2 := HOQ.out.free (g := g) rfl (i * 4 + 2)
            have f3 := HOQ.out.free (g := g) rfl (i * 4 + 3)
            have HKP : Hid ((fun V => V.cell? ⟨b, 20, none⟩ = some (.slice (some ⟨g, 0, none⟩) s.ps.length cp) ∧ V.heap[W.heap.size]? = some (.cells #[.string xn, .bool true, .string s.d.1.nm, .int .i64 xc] 45 (0, 0))) ((((W9.drew.setCell ⟨g, i * 4, none⟩ (.string xn)).setCell ⟨g, i * 4 + 1, none⟩ (.bool true)).setCell ⟨g, i * 4 + 2, none⟩ (.string s.d.1.nm)).setCell ⟨g, i * 4 + 3, none⟩ (.int .i64 xc))) := Lib.hid (by
              have hm := (Mod.refl (fun j => j = g) W9.drew).grown HPU.out.2 (fun j e _ => (Option.some.inj e).symm)
              have hgb : b ≠ g := fun e => by obtain ⟨c9, h9⟩ := own_ty HOQ.out (k := g) rfl; rw [← e, HS10.out.blk] at h9; cases h9
              have hgx : W.heap.size ≠ g := fun e => HBQ.out (by rw [HGE.out.1]; show some g = _; rw [e])
              have h8 := cell_blk (hm.blk HS10.out.blk hgb) 20
              have h8 : (((((W9.drew.setCell ⟨g, i * 4, none⟩ (.string xn)).setCell ⟨g, i * 4 + 1, none⟩ (.bool true)).setCell ⟨g, i * 4 + 2, none⟩ (.string s.d.1.nm)).setCell ⟨g, i * 4 + 3, none⟩ (.int .i64 xc))).cell? ⟨b, 20, none⟩ = some (.slice s.q.o s.q.n s.q.c) := h8
              rw [HGE.out.1] at h8
              exact ⟨h8, hm.blk HX10.out hgx⟩)
            have HFN : Hid (LkG w0 ((((W9.drew.setCell ⟨g, i * 4, none⟩ (.string xn)).setCell ⟨g, i * 4 + 1, none⟩ (.bool true)).setCell ⟨g, i * 4 + 2, none⟩ (.string s.d.1.nm)).setCell ⟨g, i * 4 + 3, none⟩ (.int .i64 xc)) b { { s with L := xn :: s.L, ln := if (metF s.L xn).isSome then s.ln else s.ln + 1 } with ps := s.ps.set i ⟨xn, true, s.d.1.nm, xc⟩ } LS.p3) := Lib.hid (by
              have h1 := HPU.out.1
              have h2 := HPU.out.2
              have hr : (s.ps.map PrP.row).set i [.string xn, .bool true, .string s.d.1.nm, .int .i64 xc] = (s.ps.set i ⟨xn, true, s.d.1.nm, xc⟩).map PrP.row := by rw [List.map_set]; rfl
              rw [hr] at h1
              refine HS10.out.turn_q (l := s.ps.set i ⟨xn, true, s.d.1.nm, xc⟩) ?_ ?_
              · show Owns _ 45 4 (.slice s.q.o s.q.n s.q.c) _
                rw [HGE.out.1]
                exact h1
              · show World.grownBy _ _ (Value.slice s.q.o s.q.n s.q.c).ownBlock
                rw [HGE.out.1]
                exact h2)
            have q1 : W9.cell? ⟨g, i * 4 + 1, none⟩ = some (.bool true) := p1
            have q2 : W9.cell? ⟨g, i * 4 + 2, none⟩ = some (.string yf) := p2
            have q3 : W9.cell? ⟨g, i * 4 + 3, none⟩ = some (.int .i64 yc) := p3
            have x1 : W9.frozen? ⟨g, i * 4 + 1, none⟩ = false := f1
            have x2 : W9.frozen? ⟨g, i * 4 + 2, none⟩ = false := f2
            have x3 : W9.frozen? ⟨g, i * 4 + 3, none⟩ = false := f3
            clear h9
            refine wp_region_noPanic ?_
            refine wp_region_held_drew (S := (fun V => V.cell? ⟨b, 20, none⟩ = some (.slice (some ⟨g, 0, none⟩) s.ps.length cp) ∧ V.heap[W.heap.size]? = some (.cells #[.string xn, .bool true, .string s.d.1.nm, .int .i64 xc] 45 (0, 0)))) (by kernel_rfl) (by exact HSS.out) (fun hHeld => ?_)
            refine wpAnyH_take (i := 0) (oi := ?oK8k0) (v := ?vK8k0) ?hiK8k0 (by kernel_rfl) (by kernel_rfl) (by kernel_rfl) (fun _ _ _ h => h) ?hyK8k0 (by assumption) ?restK8k0
            case hiK8k0 => simp only [gA, gZ]; rfl
            case hyK8k0 =>
              refine Or.inl ⟨by rfl, ?_⟩
              intro w hSw; (try dsimp only at hSw); obtain ⟨hSw0, hSwB⟩ := hSw; have t0 := cell_blk hSwB 0; have t1 := cell_blk hSwB 1; have t2 := cell_blk hSwB 2; have t3 := cell_blk hSwB 3; go_simp <;> (with_reducible rfl)
            (try simp only [Act.put, pA, pZ, pS])
            refine wpAnyH_take (i := 1) (oi := ?oK8k1) (v := ?vK8k1) ?hiK8k1 (by kernel_rfl) (by kernel_rfl) (by kernel_rfl) (fun _ _ _ h => h) ?hyK8k1 (by assumption) ?restK8k1
            case hiK8k1 => simp only [gA, gS, gZ]; rfl
            case hyK8k1 =>
              refine Or.inl ⟨by rfl, ?_⟩
              intro w hSw; (try dsimp only at hSw); obtain ⟨hSw0, hSwB⟩ := hSw; have t0 := cell_blk hSwB 0; have t1 := cell_blk hSwB 1; have t2 := cell_blk hSwB 2; have t3 := cell_blk hSwB 3; go_simp <;> (with_reducible rfl)
            (try simp only [Act.put, pA, pZ, pS])
            refine wpAnyH_take (i := 2) (oi := ?oK8k2) (v := ?vK8k2) ?hiK8k2 (by kernel_rfl) (by kernel_rfl) (by kernel_rfl) (fun _ _ _ h => h) ?hyK8k2 (by assumption) ?restK8k2
            case hiK8k2 => simp only [gA, gS, gZ]; rfl
            case hyK8k2 =>
              refine Or.inl ⟨by rfl, ?_⟩
              intro w hSw; (try dsimp only at hSw); obtain ⟨hSw0, hSwB⟩ := hSw; have t0 := cell_blk hSwB 0; have t1 := cell_blk hSwB 1; have t2 := cell_blk hSwB 2; have t3 := cell_blk hSwB 3; go_simp <;> (with_reducible rfl)
            (try simp only [Act.put, pA, pZ, pS])
            refine wpAnyH_take (i := 3) (oi := ?oK8k3) (v := ?vK8k3) ?hiK8k3 (by kernel_rfl) (by kernel_rfl) (by kernel_rfl) (fun _ _ _ h => h) ?hyK8k3 (by assumption) ?restK8k3
            case hiK8k3 => simp only [gA, gS, gZ]; rfl
            case hyK8k3 =>
              refine Or.inl ⟨by rfl, ?_⟩
              intro w hSw; (try dsimp only at hSw); obtain ⟨hSw0, hSwB⟩ := hSw; have t0 := cell_blk hSwB 0; have t1 := cell_blk hSwB 1; have t2 := cell_blk hSwB 2; have t3 := cell_blk hSwB 3; go_simp <;> (with_reducible rfl)
            (try simp only [Act.put, pA, pZ, pS])
            refine wpAnyH_take (i := 4) (oi := ?oK8k4) (v := ?vK8k4) ?hiK8k4 (by kernel_rfl) (by kernel_rfl) (by kernel_rfl) (fun _ _ _ h => h) ?hyK8k4 (by assumption) ?restK8k4
            case hiK8k4 => simp only [gA, gS, gZ]; rfl
            case hyK8k4 =>
              refine Or.inl ⟨by rfl, ?_⟩
              intro w hSw; (try dsimp only at hSw); obtain ⟨hSw0, hSwB⟩ := hSw; have t0 := cell_blk hSwB 0; have t1 := cell_blk hSwB 1; have t2 := cell_blk hSwB 2; have t3 := cell_blk hSwB 3; go_simp <;> (with_reducible rfl)
            (try simp only [Act.put, pA, pZ, pS])
            refine wpAnyH_take (i := 5) (oi := ?oK8k5) (v := ?vK8k5) ?hiK8k5 (by kernel_rfl) (by kernel_rfl) (by kernel_rfl) (fun _ _ _ h => h) ?hyK8k5 (by assumption) ?restK8k5
            case hiK8k5 => simp only [gA, gS, gZ]; rfl
            case hyK8k5 =>
              refine Or.inl ⟨by rfl, ?_⟩
              intro w hSw; (try dsimp only at hSw); obtain ⟨hSw0, hSwB⟩ := hSw; have t0 := cell_blk hSwB 0; have t1 := cell_blk hSwB 1; have t2 := cell_blk hSwB 2; have t3 := cell_blk hSwB 3; go_simp <;> (with_reducible rfl)
            (try simp only [Act.put, pA, pZ, pS])
            refine wpAnyH_take (i := 6) (oi := ?oK8k6) (v := ?vK8k6) ?hiK8k6 (by kernel_rfl) (by kernel_rfl) (by kernel_rfl) (fun _ _ _ h => h) ?hyK8k6 (by assumption) ?restK8k6
            case hiK8k6 => simp only [gA, gS, gZ]; rfl
            case hyK8k6 =>
              refine Or.inl ⟨by rfl, ?_⟩
              intro w hSw; (try dsimp only at hSw); obtain ⟨hSw0, hSwB⟩ := hSw; have t0 := cell_blk hSwB 0; have t1 := cell_blk hSwB 1; have t2 := cell_blk hSwB 2; have t3 := cell_blk hSwB 3; go_simp <;> (with_reducible rfl)
            (try simp only [Act.put, pA, pZ, pS])
            refine wpAnyH_take (i := 7) (oi := ?oK8k7) (v := ?vK8k7) ?hiK8k7 (by kernel_rfl) (by kernel_rfl) (by kernel_rfl) (fun _ _ _ h => h) ?hyK8k7 (by assumption) ?restK8k7
            case hiK8k7 => simp only [gA, gS, gZ]; rfl
            case hyK8k7 =>
              refine Or.inl ⟨by rfl, ?_⟩
              intro w hSw; (try dsimp only at hSw); obtain ⟨hSw0, hSwB⟩ := hSw; have t0 := cell_blk hSwB 0; have t1 := cell_blk hSwB 1; have t2 := cell_blk hSwB 2; have t3 := cell_blk hSwB 3; go_simp <;> (with_reducible rfl)
            (try simp only [Act.put, pA, pZ, pS])
            refine wpAnyH_ready (rs := [8]) (by kernel_rfl) (by simp) ?_
            refine AllReadyH.cons rfl (fun K hK => ?_) AllReadyH.nil
            go_simp
            
            refine hK.out _ _ (by exact HKP.out) (fun hHeldC8 => ?_)
            clear hK K
            (try simp only [Act.put, pA, pZ, pS])
            refine wpAnyH_done (by kernel_rfl) ?_ _
            refine NoPanic.normal ?_
            go_wp2_with fail
            go_ret
            rw [HRZ.out]
            exact ⟨rfl, _, _, HFN.out, (by first | exact Nat.le_succ _ | exact if_le _ _)⟩
end Go.Proofs.YtobjmajkcfhpoaaDoor
