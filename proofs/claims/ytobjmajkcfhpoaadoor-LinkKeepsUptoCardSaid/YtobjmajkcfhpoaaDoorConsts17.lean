/-
  The linker's consts (printed by genConsts17.py).
-/
import Derived.Test.YtobjmajkcfhpoaaDoorMeth17
import Derived.Test.YtobjmajkcfhpoaaDoorProps17
namespace Go.Proofs.YtobjmajkcfhpoaaDoor
open Go.RowKit

attribute [local go_sem] yld_undef
/-- What is left to do of consts: new faces, then one's own. -/
def cK (d : ClP) (kn : List KC) (hs l : List ByteArray) (cs : List CoP) : Except Int (List CoP) :=
  match freshC kn l cs with
  | .error e => .error e
  | .ok cs => ownC d.nm hs d.cs cs
def cJ (d : ClP) (kn : List KC) (hs l : List ByteArray) (n : ByteArray) (xs cs : List CoP) : Except Int (List CoP) :=
  match faceC n xs cs with
  | .error e => .error e
  | .ok cs => cK d kn hs l cs
/-- The class that a name means, or none. -/
def fKC (kn : List KC) (n : ByteArray) : KC := (findK kn n).getD KC.nil
theorem cK_cons (d : ClP) (kn : List KC) (hs l : List ByteArray) (n : ByteArray) (cs : List CoP) : cK d kn hs (n :: l) cs = cJ d kn hs l n (fKC kn n).1.cs cs := by
  unfold cK cJ fKC
  rw [freshC]
  cases faceC n ((findK kn n).getD KC.nil).1.cs cs <;> rfl
theorem cJ_cons (d : ClP) (kn : List KC) (hs l : List ByteArray) (n : ByteArray) (x : CoP) (xs cs : List CoP) : cJ d kn hs l n (x :: xs) cs = if eqB x.fr n = false then cJ d kn hs l n xs cs else if (placeC cs x.nm).isSome = true then .error 21 else cJ d kn hs l n xs (cs ++ [x]) := by
  unfold cJ
  rw [faceC]
  by_cases h1 : eqB x.fr n = false
  · rw [if_pos h1, if_pos h1]
  · rw [if_neg h1, if_neg h1]
    by_cases h2 : (placeC cs x.nm).isSome = true
    · rw [if_pos h2, if_pos h2]
    · rw [if_neg h2, if_neg h2]
theorem cK_eq (d : ClP) (kn : List KC) (p : KC) (hs : List ByteArray) : constsP d kn p hs = cK d kn hs hs p.1.cs := rfl
def ownQ (nm : ByteArray) (hs : List ByteArray) (r : List CoP) (cs : List CoP) (x : CoP) : Option Nat → Except Int (List CoP)
  | none => ownC nm hs r (cs ++ [⟨x.nm, nm, x.cd⟩])
  | some i => if hasB hs ((cs[i]?.map CoP.fr).getD ⟨#[]⟩) = true then .error 19 else ownC nm hs r (cs.set i ⟨x.nm, nm, x.cd⟩)
theorem ownC_cons (nm : ByteArray) (hs : List ByteArray) (x : CoP) (r cs : List CoP) : ownC nm hs (x :: r) cs = ownQ nm hs r cs x (placeC cs x.nm) := by
  rw [ownC]
  unfold ownQ
  cases placeC cs x.nm <;> rfl
/-- What consts answers. -/
def ConstsPost (w0 : World) (b : Nat) (s : LS) (r : Except Int (List CoP)) (e : Ending) (w' : World) : Prop :=
  match r with
  | .error c => e = .returned (.int .i64 c) ∧ c ≠ 0 ∧ ∃ s', LkG w0 w' b s' LS.p2 ∧ s'.g = s.g ∧ s'.l = s.l
  | .ok cs => e = .returned (.int .i64 0) ∧ ∃ v, LkG w0 w' b { s with c := v, cs := cs } LS.p2
def LS.cz (s : LS) (v : SV) (cs : List CoP) : LS := { s with c := v, cs := cs }
theorem findK_mem' {kn : List KC} {n : ByteArray} {x : KC} (h : findK kn n = some x) : x ∈ kn := by
  unfold findK fstP at h
  cases hi : idxP (fun x : KC => eqB x.1.nm n) kn with
  | none => rw [hi] at h; cases h
  | some i =>
    rw [hi] at h
    exact List.mem_of_getElem? h
theorem fk_at {w0 W : World} {b : Nat} {s : LS} (h : LkO w0 W b s) (n : ByteArray) : ClIn (NF b s.g s.l) W (fKC s.kn n).1 (fKC s.kn n).2 := by
  unfold fKC
  cases hf : findK s.kn n with
  | none => exact ClIn.zero
  | some x => exact (kin_at h).cls x (findK_mem' hf)
theorem pc_at {w0 W : World} {b : Nat} {s : LS} (h : LkO w0 W b s) : RIn (NF b s.g s.l) W 3 (.slice s.p.2.c.o s.p.2.c.n s.p.2.c.c) (s.p.1.cs.map CoP.row) :=
  h.pIn.hc.kept fun g hA hg => ⟨h.mod.block g hg hA, Nat.lt_of_lt_of_le hg h.mod.size, hA⟩
theorem dc_at {w0 W : World} {b : Nat} {s : LS} (h : LkO w0 W b s) : RIn (NF b s.g s.l) W 3 (.slice s.d.2.c.o s.d.2.c.n s.d.2.c.c) (s.d.1.cs.map CoP.row) :=
  h.dIn.hc.kept fun g hA hg => ⟨h.mod.block g hg hA, Nat.lt_of_lt_of_le hg h.mod.size, hA⟩
theorem hh_at {w0 W : World} {b : Nat} {s : LS} (h : LkO w0 W b s) : RIn AnyB W 1 (.slice s.h.o s.h.n s.h.c) (s.hs.map sR) := RIn.of_owns h.oh (fun _ _ => trivial)
theorem cc_at {w0 W : World} {b : Nat} {s : LS} (h : LkO w0 W b s) : RIn AnyB W 3 (.slice s.c.o s.c.n s.c.c) (s.cs.map CoP.row) := RIn.of_owns h.oc (fun _ _ => trivial)
theorem owns_put3 {w : World} {e g n cap : Nat} {rows : List (List Value)} (h : Owns w e 3 (.slice (some ⟨g, 0, none⟩) n cap) rows) {i : Nat} {a0 a1 a2 : Value} (hi : rows[i]? = some [a0, a1, a2]) {u0 u1 u2 : Value} (h0 : u0.oneCell' = true) (h1 : u1.oneCell' = true) (h2 : u2.oneCell' = true) :
    Owns (((w.setCell ⟨g, i * 3, none⟩ (u0)).setCell ⟨g, i * 3 + 1, none⟩ (u1)).setCell ⟨g, i * 3 + 2, none⟩ (u2)) e 3 (.slice (some ⟨g, 0, none⟩) n cap) (rows.set i [u0, u1, u2]) ∧
      w.grownBy (((w.setCell ⟨g, i * 3, none⟩ (u0)).setCell ⟨g, i * 3 + 1, none⟩ (u1)).setCell ⟨g, i * 3 + 2, none⟩ (u2)) (some g) := by
  have hlt : i < rows.length := (List.getElem?_eq_some_iff.1 hi).1
  have tr : ∀ {a b c : World}, a.grownBy b (some g) → b.grownBy c (some g) → a.grownBy c (some g) := fun p q => ⟨q.os.trans p.os, q.tape.trans p.tape, q.output.trans p.output, Nat.le_trans p.size q.size, fun k hk hne => (q.block k (Nat.lt_of_lt_of_le hk p.size) hne).trans (p.block k hk hne)⟩
  have k0 := h.setRow hi 0 (by decide) u0 h0
  have e0 : (rows.set i ([a0, a1, a2].set 0 u0))[i]? = some [u0, a1, a2] := by rw [List.getElem?_set_self (by simpa using hlt)]; rfl
  have k1 := k0.1.setRow e0 1 (by decide) u1 h1
  have e1 : ((rows.set i ([a0, a1, a2].set 0 u0)).set i ([u0, a1, a2].set 1 u1))[i]? = some [u0, u1, a2] := by rw [List.getElem?_set_self (by simpa using hlt)]; rfl
  have k2 := k1.1.setRow e1 2 (by decide) u2 h2
  refine ⟨?_, tr (tr k0.2 k1.2) k2.2⟩
  have := k2.1
  simp only [List.set_set] at this
  exact this
theorem size66 : (Tryd.prog.info? 66).map (·.size) = some 3 := by kernel_rfl
set_option maxHeartbeats 51200000 in
set_option maxRecDepth 100000 in
theorem consts_any {w0 W : World} {b : Nat} {s : LS} (PI : List CoP → Prop) (h : LkG w0 W b s LS.p1) (hc0 : s.c = ⟨none, 0, 0⟩) (hhs : s.hs.length ≤ 1048576) (hkn : s.kn.length ≤ 1048576) (hkc : ∀ x ∈ s.kn, x.1.cs.length ≤ 1048576) (hdc : s.d.1.cs.length ≤ 1048576) (hpc : s.p.1.cs.length ≤ 1048576) (hP0 : PI s.p.1.cs)
    (hpush : ∀ n ∈ s.hs, ∀ x ∈ (fKC s.kn n).1.cs, ∀ cs, PI cs → eqB x.fr n = true → placeC cs x.nm = none → PI (cs ++ [x]))
    (hown : ∀ x ∈ s.d.1.cs, ∀ cs, PI cs → placeC cs x.nm = none → PI (cs ++ [⟨x.nm, s.d.1.nm, x.cd⟩]))
    (hset : ∀ x ∈ s.d.1.cs, ∀ cs i, PI cs → placeC cs x.nm = some i → PI (cs.set i ⟨x.nm, s.d.1.nm, x.cd⟩)) (hle : ∀ l, PI l → l.length ≤ 1048576) :
    Calls Tryd.prog 17 #[.pointer (some ⟨b, 0, none⟩)] W (ConstsPost w0 b s (cK s.d.1 s.kn s.hs s.hs s.p.1.cs)) := by
  obtain ⟨r, hr⟩ : ∃ r, r = cK s.d.1 s.kn s.hs s.hs s.p.1.cs := ⟨_, rfl⟩
  rw [← hr]
  have HR : Hid (r = cK s.d.1 s.kn s.hs (s.hs.drop 0) s.p.1.cs) := Lib.hid hr
  have HS := Lib.hid h
  have h30 : W.cell? ⟨b, 30, none⟩ = some (.slice s.p.2.c.o s.p.2.c.n s.p.2.c.c) := cell_blk h.blk 30
  have HCL := Lib.hid (clone_co (pc_at h.own) (by omega))
  have HKC : Hid (∀ n, (fKC s.kn n).1.cs.length ≤ 1048576) := Lib.hid (fun n => by
    unfold fKC
    cases hf : findK s.kn n with
    | none => exact Nat.zero_le _
    | some x => exact hkc x (findK_mem' hf))
  clear hr h hpc hkc
  go_enter Tryd.func17, Tryd.ntmps17
  go_wp2_with fail
  refine HCL.out.mono ?_
  rintro _ w1 hcl
  obtain ⟨v, rfl, ho, hb, hn⟩ := hcl.sv
  have zc : w1.cell? ⟨b, 19, none⟩ = some (.slice s.d.2.c.o s.d.2.c.n s.d.2.c.c) := cell_blk (HS.out.same hb).blk 19
  have zf := free_blk (HS.out.same hb).blk 19
  have HS1 : Hid (LkG w0 (w1.setCell ⟨b, 19, none⟩ (.slice v.o v.n v.c)) b (s.cz v s.p.1.cs) LS.p2) := Lib.hid (HS.out.in_c ho (below_grown hb _) (by rw [hc0]; exact hn))
  have HRN : Hid (s.h.n = s.hs.length) := Lib.hid (by have h9 := rin_n (hh_at HS.out.own); rw [List.length_map] at h9; exact h9)
  have h35 : (w1.setCell ⟨b, 19, none⟩ (.slice v.o v.n v.c)).cell? ⟨b, 35, none⟩ = some (.slice s.h.o s.hs.length s.h.c) := by
    have h9 : (w1.setCell ⟨b, 19, none⟩ (.slice v.o v.n v.c)).cell? ⟨b, 35, none⟩ = some (.slice s.h.o s.h.n s.h.c) := cell_blk HS1.out.blk 35
    rw [HRN.out] at h9
    exact h9
  obtain ⟨W1, hW1⟩ : ∃ W1, W1 = w1.setCell ⟨b, 19, none⟩ (.slice v.o v.n v.c) := ⟨_, rfl⟩
  rw [← hW1] at HS1 h35
  have HW1 := Lib.hid hW1
  clear hcl ho hb hn hc0 h30 HCL hW1
  go_upto_region 2 with fail
  rw [← HW1.out]
  clear zc zf HW1
  go_wp2_with fail
  clear h35
  go_loopw [4, 5, 6, 8, 27] (fun _ _ _ _ kv wr => ∃ (k : Nat) (v1 : SV) (cs1 : List CoP), k ≤ s.hs.length ∧ kv = .int .i64 k ∧ Hid (LkG w0 wr b (s.cz v1 cs1) LS.p2) ∧ Hid (r = cK s.d.1 s.kn s.hs (s.hs.drop k) cs1) ∧ Hid (PI cs1)) (fun _ _ _ _ kv _ => s.hs.length - (intOf kv).toNat)
  case atStart => exact ⟨0, v, s.p.1.cs, Nat.zero_le _, rfl, HS1, HR, Lib.hid hP0⟩
  case round =>
    clear HS1 HR hP0
    obtain ⟨k, v1, cs1, hk, rfl, HS1, HR1, HPI1⟩ := hrel
    by_cases hlt : k < s.hs.length
    · have hi : (k : Int) < (s.hs.length : Int) := by omega
      obtain ⟨hw', hw⟩ := wr_sm (x := (k : Int) + 1) (by omega) (by omega)
      have HRI : Hid (RIn AnyB wr 1 (.slice s.h.o s.h.n s.h.c) (s.hs.map sR)) := Lib.hid (hh_at (s := s.cz v1 cs1) HS1.out.own)
      obtain ⟨n, g, off, cp, hn, hnm, -, e, hg, -, hc⟩ := s_cells HRI.out hlt
      simp only [Value.slice.injEq] at e
      obtain ⟨e1, -, -⟩ := e
      have d0 := hc _ (Below.refl _ _)
      have HNM := Lib.hid hnm
      have Hkl := Lib.hid hlt
      have h33 : wr.cell? ⟨b, 33, none⟩ = some (.slice s.K.o s.K.n s.K.c) := cell_blk HS1.out.blk 33
      have HFI := Lib.hid (find_any n (kin_at (s := s.cz v1 cs1) HS1.out.own).rows (show s.kn.length ≤ _ by omega))
      obtain ⟨f, hf⟩ : ∃ f, f = fKC s.kn n := ⟨_, rfl⟩
      obtain ⟨is, his⟩ : ∃ is, is = (findK s.kn n).isSome := ⟨_, rfl⟩
      have HF := Lib.hid hf
      have HFD : Hid (Calls Tryd.prog 14 #[.slice s.K.o s.K.n s.K.c, .string n] wr (fun e w' => Below wr.heap.size wr w' ∧ e = .returned (.tuple #[.agg #[.string f.1.nm, .int .i64 f.1.kd, .bool f.1.ab, .bool f.1.fi, .string f.1.pa, .slice f.2.f.o f.2.f.n f.2.f.c, .slice f.2.t.o f.2.t.n f.2.t.c, .slice f.2.a.o f.2.a.n f.2.a.c, .slice f.2.c.o f.2.c.n f.2.c.c, .slice f.2.p.o f.2.p.n f.2.p.c, .slice f.2.m.o f.2.m.n f.2.m.c], .bool is]))) := Lib.hid (by rw [hf, his]; exact HFI.out)
      have HR2 : Hid (r = cJ s.d.1 s.kn s.hs (s.hs.drop (k + 1)) n f.1.cs cs1) := Lib.hid (by rw [HR1.out, drop_at hn, cK_cons, hf])
      have HFL : Hid (f.1.cs.length ≤ 1048576) := Lib.hid (by rw [hf]; exact HKC.out n)
      clear hc hn hnm hlt HR1 HRI hg hf his HFI
      go_wp2_with fail
      refine HFD.out.mono ?_
      rintro _ w2 ⟨hb2, rfl⟩
      have HS2 := Lib.hid (HS1.out.same hb2)
      clear hb2 HFD h33 d0 e1 HS1
      have HS3 := Lib.hid (HS2.out.same (below_alloc1 w2 (.cells #[.string f.1.nm, .int .i64 f.1.kd, .bool f.1.ab, .bool f.1.fi, .string f.1.pa, .slice f.2.f.o f.2.f.n f.2.f.c, .slice f.2.t.o f.2.t.n f.2.t.c, .slice f.2.a.o f.2.a.n f.2.a.c, .slice f.2.c.o f.2.c.n f.2.c.c, .slice f.2.p.o f.2.p.n f.2.p.c, .slice f.2.m.o f.2.m.n f.2.m.c] 29)))
      have hx8 := cell_blk (heap_alloc_new w2 (.cells #[.string f.1.nm, .int .i64 f.1.kd, .bool f.1.ab, .bool f.1.fi, .string f.1.pa, .slice f.2.f.o f.2.f.n f.2.f.c, .slice f.2.t.o f.2.t.n f.2.t.c, .slice f.2.a.o f.2.a.n f.2.a.c, .slice f.2.c.o f.2.c.n f.2.c.c, .slice f.2.p.o f.2.p.n f.2.p.c, .slice f.2.m.o f.2.m.n f.2.m.c] 29)) 8
      have HFN : Hid (f.2.c.n = f.1.cs.length) := Lib.hid (by
        have h9 := (fk_at (s := s.cz v1 cs1) HS3.out.own n).hc
        rw [show fKC (s.cz v1 cs1).kn n = f from HF.out.symm] at h9
        have h7 := rin_n h9
        rw [List.length_map] at h7
        exact h7)
      go_upto_region 6 with fail
      obtain ⟨w3, hw3⟩ : ∃ w3, w3 = w2.alloc (.cells #[.string f.1.nm, .int .i64 f.1.kd, .bool f.1.ab, .bool f.1.fi, .string f.1.pa, .slice f.2.f.o f.2.f.n f.2.f.c, .slice f.2.t.o f.2.t.n f.2.t.c, .slice f.2.a.o f.2.a.n f.2.a.c, .slice f.2.c.o f.2.c.n f.2.c.c, .slice f.2.p.o f.2.p.n f.2.p.c, .slice f.2.m.o f.2.m.n f.2.m.c] 29) := ⟨_, rfl⟩
      rw [← hw3] at HS3 hx8 ⊢
      have x8 : w3.cell? ⟨w2.heap.size, 8, none⟩ = some (.slice f.2.c.o f.2.c.n f.2.c.c) := hx8
      rw [HFN.out] at x8
      clear hw3 hx8 HS2
      go_wp2_with fail
      clear x8
      obtain ⟨wa, hwa⟩ : ∃ wa, wa = wr := ⟨_, rfl⟩
      subst hwa
      go_loopw [8, 43] (fun _ jv wr => ∃ (j : Nat) (v1 : SV) (cs1 : List CoP), j ≤ f.1.cs.length ∧ jv = .int .i64 j ∧ Hid (LkG w0 wr b (s.cz v1 cs1) LS.p2) ∧ Hid (r = cJ s.d.1 s.kn s.hs (s.hs.drop (k + 1)) n (f.1.cs.drop j) cs1) ∧ Hid (PI cs1)) (fun _ jv _ => f.1.cs.length - (intOf jv).toNat)
      case atStart => exact ⟨0, v1, cs1, Nat.zero_le _, rfl, HS3, HR2, HPI1⟩
      case round =>
        clear HS3 HR2 HPI1
        obtain ⟨j, v1, cs1, hj, rfl, HS1, HR1, HPI1⟩ := hrel
        have hfl := HFL.out
        by_cases hlt : j < f.1.cs.length
        · have hi2 : (j : Int) < (f.1.cs.length : Int) := by omega
          obtain ⟨hw2', hw2⟩ := wr_sm (x := (j : Int) + 1) (by omega) (by omega)
          have HRI : Hid (RIn (NF b s.g s.l) wr 3 (.slice f.2.c.o f.2.c.n f.2.c.c) (f.1.cs.map CoP.row)) := Lib.hid (by rw [HF.out]; exact (fk_at (s := s.cz v1 cs1) HS1.out.own n).hc)
          obtain ⟨x, g, off, cp, hx, hxm, -, e, -, -, hc⟩ := co_cells HRI.out hlt
          simp only [Value.slice.injEq] at e
          obtain ⟨e1, -, -⟩ := e
          obtain ⟨d0, d1, d2⟩ := hc _ (Below.refl _ _)
          have Hlt := Lib.hid hlt
          obtain ⟨z, hz⟩ : ∃ z, (x.fr.toList == n.toList) = z := ⟨_, rfl⟩
          have hz2 : (x.fr.toList != n.toList) = !z := by rw [← hz]; rfl
          have HZ : Hid (eqB x.fr n = z) := Lib.hid hz
          have HR2 : Hid (r = if z = false then cJ s.d.1 s.kn s.hs (s.hs.drop (k + 1)) n (f.1.cs.drop (j + 1)) cs1 else if (placeC cs1 x.nm).isSome = true then .error 21 else cJ s.d.1 s.kn s.hs (s.hs.drop (k + 1)) n (f.1.cs.drop (j + 1)) (cs1 ++ [x])) := Lib.hid (by rw [HR1.out, drop_at hx, cJ_cons, HZ.out])
          have HXM : Hid (x ∈ (fKC s.kn n).1.cs) := Lib.hid (by rw [← HF.out]; exact hxm)
          have HS2 := Lib.hid (HS1.out.same (below_alloc1 wr (.cells #[.string x.nm, .string x.fr, .int .i64 x.cd] 66)))
          have X2 : Hid ((wr.alloc (.cells #[.string x.nm, .string x.fr, .int .i64 x.cd] 66)).heap[wr.heap.size]? = some (.cells #[.string x.nm, .string x.fr, .int .i64 x.cd] 66 (0, 0))) := Lib.hid (heap_alloc_new wr _)
          have HBQ : Hid ((Value.slice v1.o v1.n v1.c).ownBlock ≠ some wr.heap.size) := Lib.hid (fun e => by have := Owns.lt HS1.out.own.oc e; omega)
          clear hc hx hxm hlt HR1 HRI
          cases z with
          | false =>
            have HR3 : Hid (r = cJ s.d.1 s.kn s.hs (s.hs.drop (k + 1)) n (f.1.cs.drop (j + 1)) cs1) := Lib.hid HR2.out
            go_wp2_with fail
            clear e1 d0 d1 d2 hz hz2
            go_roundw
            case rel => exact ⟨j + 1, v1, cs1, Hlt.out, by go_num, HS2, HR3, HPI1⟩
            case measure => have := Hlt.out; simp [intOf]; omega
          | true =>
            go_wp2_with fail
            clear e1 d0 d1 d2 hz hz2 HS1

            obtain ⟨W1, hW1⟩ : ∃ W1, W1 = wr.alloc (.cells #[.string x.nm, .string x.fr, .int .i64 x.cd] 66) := ⟨_, rfl⟩
            rw [← hW1] at HS2 X2 ⊢
            clear hW1
            have HD0 : Hid (Below W1.heap.size W1 W1.drew) := Lib.hid (Below.refl _ _).drew
            have HSX : Hid (∀ V, Below W1.heap.size W1 V → (fun V => V.cell? ⟨b, 19, none⟩ = some (.slice v1.o v1.n v1.c) ∧ V.cell? ⟨wr.heap.size, 0, none⟩ = some (.string x.nm)) V) := Lib.hid (fun V hb => ⟨cell_blk (HS2.out.same hb).blk 19, cell_blk ((hb.block _ (lt_of_block X2.out)).trans X2.out) 0⟩)
            have HS0 := Lib.hid (HSX.out _ HD0.out)
            have HPL := Lib.hid (fun V (hb : Below W1.heap.size W1 V) => place_co (w := V) x.nm (cc_at (s := s.cz v1 cs1) (HS2.out.same hb).own) (Nat.le_trans (hle _ HPI1.out) (by decide)))
            obtain ⟨q, hq⟩ : ∃ q, q = placeC cs1 x.nm := ⟨_, rfl⟩
            have HQ := Lib.hid hq
            have HPL2 : Hid (∀ V, Below W1.heap.size W1 V → Calls Tryd.prog 45 #[.slice v1.o v1.n v1.c, .func (.func 27) #[] #[], .string x.nm] V (IntPost V (idxI q))) := Lib.hid (fun V hb => by rw [hq]; exact HPL.out V hb)
            clear hq HPL
            refine wp_region_noPanic ?_
            refine wp_region_held_drew (S := (fun V => V.cell? ⟨b, 19, none⟩ = some (.slice v1.o v1.n v1.c) ∧ V.cell? ⟨wr.heap.size, 0, none⟩ = some (.string x.nm))) (by kernel_rfl) (by exact HS0.out) (fun hHeld => ?_)
            refine wpAnyH_take (i := 0) (oi := ?oK1a0) (v := ?vK1a0) ?hiK1a0 (by kernel_rfl) (by kernel_rfl) (by kernel_rfl) (fun _ _ _ h => h) ?hyK1a0 (by assumption) ?restK1a0
            case hiK1a0 => simp only [gA, gZ]; rfl
            case hyK1a0 =>
              refine Or.inl ⟨by rfl, ?_⟩
              intro w hSw; (try dsimp only at hSw); go_simp <;> (with_reducible rfl)
            (try simp only [Act.put, pA, pZ, pS])
            refine wpAnyH_take (i := 1) (oi := ?oK1a1) (v := ?vK1a1) ?hiK1a1 (by kernel_rfl) (by kernel_rfl) (by kernel_rfl) (fun _ _ _ h => h) ?hyK1a1 (by assumption) ?restK1a1
            case hiK1a1 => simp only [gA, gS, gZ]; rfl
            case hyK1a1 =>
              refine Or.inl ⟨by rfl, ?_⟩
              intro w hSw; (try dsimp only at hSw); go_simp <;> (with_reducible rfl)
            (try simp only [Act.put, pA, pZ, pS])
            refine wpAnyH_take (i := 2) (oi := ?oK1a2) (v := ?vK1a2) ?hiK1a2 (by kernel_rfl) (by kernel_rfl) (by kernel_rfl) (fun _ _ _ h => h) ?hyK1a2 (by assumption) ?restK1a2
            case hiK1a2 => simp only [gA, gS, gZ]; rfl
            case hyK1a2 =>
              refine Or.inl ⟨by rfl, ?_⟩
              intro w hSw; (try dsimp only at hSw); go_simp <;> (with_reducible rfl)
            (try simp only [Act.put, pA, pZ, pS])
            refine wpAnyH_take (i := 3) (oi := ?oK1a3) (v := ?vK1a3) ?hiK1a3 (by kernel_rfl) (by kernel_rfl) (by kernel_rfl) (fun _ _ _ h => h) ?hyK1a3 (by assumption) ?restK1a3
            case hiK1a3 => simp only [gA, gS, gZ]; rfl
            case hyK1a3 =>
              refine Or.inl ⟨by rfl, ?_⟩
              intro w hSw; (try dsimp only at hSw); go_simp <;> (with_reducible rfl)
            (try simp only [Act.put, pA, pZ, pS])
            refine wpAnyH_take (i := 4) (oi := ?oK1a4) (v := ?vK1a4) ?hiK1a4 (by kernel_rfl) (by kernel_rfl) (by kernel_rfl) (fun _ _ _ h => h) ?hyK1a4 (by assumption) ?restK1a4
            case hiK1a4 => simp only [gA, gS, gZ]; rfl
            case hyK1a4 =>
              refine Or.inl ⟨by rfl, ?_⟩
              intro w hSw; (try dsimp only at hSw); go_simp <;> (with_reducible rfl)
            (try simp only [Act.put, pA, pZ, pS])
            refine wpAnyH_take (i := 5) (oi := ?oK1a5) (v := ?vK1a5) ?hiK1a5 (by kernel_rfl) (by kernel_rfl) (by kernel_rfl) (fun _ _ _ h => h) ?hyK1a5 (by assumption) ?restK1a5
            case hiK1a5 => simp only [gA, gS, gZ]; rfl
            case hyK1a5 =>
              refine Or.inl ⟨by rfl, ?_⟩
              intro w hSw; (try dsimp only at hSw); go_simp <;> (with_reducible rfl)
            (try simp only [Act.put, pA, pZ, pS])
            refine wpAnyH_take (i := 6) (oi := ?oK1a6) (v := ?vK1a6) ?hiK1a6 (by kernel_rfl) (by kernel_rfl) (by kernel_rfl) (fun _ _ _ h => h) ?hyK1a6 (by assumption) ?restK1a6
            case hiK1a6 => simp only [gA, gS, gZ]; rfl
            case hyK1a6 =>
              refine Or.inl ⟨by rfl, ?_⟩
              intro w hSw; (try dsimp only at hSw); go_simp <;> (with_reducible rfl)
            (try simp only [Act.put, pA, pZ, pS])
            refine wpAnyH_ready (rs := [7]) (by kernel_rfl) (by simp) ?_
            refine AllReadyH.cons rfl (fun K hK => ?_) AllReadyH.nil
            go_simp
            refine (HPL2.out _ HD0.out).mono ?_
            rintro _ w2 ⟨rfl, hb⟩
            have HD1 := Lib.hid (HD0.out.trans (hb.mono HD0.out.size))
            clear hb
            refine hK.out _ _ (HSX.out _ HD1.out) (fun hHeldA7 => ?_)
            clear hK K
            (try simp only [Act.put, pA, pZ, pS])
            refine wpAnyH_take (i := 8) (oi := ?oK1a8) (v := ?vK1a8) ?hiK1a8 (by kernel_rfl) (by kernel_rfl) (by kernel_rfl) (fun _ _ _ h => h) ?hyK1a8 (by assumption) ?restK1a8
            case hiK1a8 => simp only [gA, gS, gZ]; rfl
            case hyK1a8 =>
              refine Or.inl ⟨by rfl, ?_⟩
              intro w hSw; (try dsimp only at hSw); go_simp <;> (with_reducible rfl)
            (try simp only [Act.put, pA, pZ, pS])
            refine wpAnyH_done (by kernel_rfl) ?_ _
            refine NoPanic.normal ?_
            have HS3 := Lib.hid (HS2.out.same HD1.out)
            have X3 : Hid (w2.heap[wr.heap.size]? = some (.cells #[.string x.nm, .string x.fr, .int .i64 x.cd] 66 (0, 0))) := Lib.hid ((HD1.out.block _ (lt_of_block X2.out)).trans X2.out)
            clear HS0 HSX HPL2 HS2 X2 HD0 HD1 hHeldA7 hHeld
            cases q with
            | some i =>
              have HE : Hid (r = .error 21 ∧ LkG w0 w2 b (s.cz v1 cs1) LS.p2) := Lib.hid ⟨by rw [HR2.out, ← HQ.out]; rfl, HS3.out⟩
              have hge : 0 ≤ idxI (some i) := by show (0 : Int) ≤ (i : Int); omega
              go_wp2_with fail
              go_ret
              rw [HE.out.1]
              exact ⟨rfl, by decide, _, HE.out.2, rfl, rfl⟩
            | none =>
              have hneg : idxI none < 0 := by decide
              have hge : ¬ 0 ≤ idxI none := by decide
              have HR3 : Hid (r = cJ s.d.1 s.kn s.hs (s.hs.drop (k + 1)) n (f.1.cs.drop (j + 1)) (cs1 ++ [x])) := Lib.hid (by rw [HR2.out, ← HQ.out]; rfl)
              have HPI2 : Hid (PI (cs1 ++ [x])) := Lib.hid (hpush n HNM.out x HXM.out _ HPI1.out HZ.out HQ.out.symm)
              go_wp2_with fail
              have hq0 : w2.drew.cell? ⟨b, 19, none⟩ = some (.slice v1.o v1.n v1.c) := cell_blk HS3.out.blk 19
              have HA7 : Hid (Below w2.drew.heap.size w2.drew (w2.drew.alloc (.cells #[.string x.nm, .string x.fr, .int .i64 x.cd] 66))) := Lib.hid (below_alloc1 _ _)
              have HS7 : Hid (LkG w0 (w2.drew.alloc (.cells #[.string x.nm, .string x.fr, .int .i64 x.cd] 66)) b (s.cz v1 cs1) LS.p2) := Lib.hid ((HS3.out.same (Below.refl _ _).drew).same HA7.out)
              have hq1 : (w2.drew.alloc (.cells #[.string x.nm, .string x.fr, .int .i64 x.cd] 66)).cell? ⟨b, 19, none⟩ = some (.slice v1.o v1.n v1.c) := cell_blk HS7.out.blk 19
              have hq2 : (w2.alloc (.cells #[.string x.nm, .string x.fr, .int .i64 x.cd] 66)).drew.cell? ⟨b, 19, none⟩ = some (.slice v1.o v1.n v1.c) := hq1
              have hq3 : (w2.alloc (.cells #[.string x.nm, .string x.fr, .int .i64 x.cd] 66)).cell? ⟨b, 19, none⟩ = some (.slice v1.o v1.n v1.c) := hq1
              have HX7 : Hid ((w2.drew.alloc (.cells #[.string x.nm, .string x.fr, .int .i64 x.cd] 66)).heap[wr.heap.size]? = some (.cells #[.string x.nm, .string x.fr, .int .i64 x.cd] 66 (0, 0))) := Lib.hid (alloc_blk X3.out _)
              have hL : Hid (Lies (w2.drew.alloc (.cells #[.string x.nm, .string x.fr, .int .i64 x.cd] 66)) 3 (some ⟨w2.heap.size, 0, none⟩) ([[.string x.nm, .string x.fr, .int .i64 x.cd]] : List (List Value))) := Lib.hid (lies_new w2.drew [.string x.nm, .string x.fr, .int .i64 x.cd] 66 rfl)
              have hR1 : Hid ((cs1.map CoP.row).length + ([[.string x.nm, .string x.fr, .int .i64 x.cd]] : List (List Value)).length ≤ maxLen) := Lib.hid (by have h0 := (hle _ HPI1.out); rw [List.length_map]; unfold maxLen; simp only [List.length_cons, List.length_nil]; omega)
              have hR2 : Hid (((cs1.map CoP.row).length + ([[.string x.nm, .string x.fr, .int .i64 x.cd]] : List (List Value)).length) * 40 ≤ 140737488355328) := Lib.hid (by have h0 := (hle _ HPI1.out); rw [List.length_map]; simp only [List.length_cons, List.length_nil]; omega)
              have hBb : Hid (wr.heap.size ≠ b) := Lib.hid (fun e => by have h1 := X3.out; rw [e, HS3.out.blk] at h1; injection h1 with h2; injection h2 with _ h3 _; exact absurd h3 (by decide))
              have hBq : Hid (((.slice v1.o v1.n v1.c) : Value).ownBlock ≠ some wr.heap.size) := Lib.hid (fun e => HBQ.out e)
              refine wp_region_noPanic ?_
              refine wp_region_held_drew (S := (fun V => V.heap[wr.heap.size]? = some (.cells #[.string x.nm, .string x.fr, .int .i64 x.cd] 66 (0, 0)))) (by kernel_rfl) (by exact X3.out) (fun hHeld => ?_)
              refine wpAnyH_take (i := 0) (oi := ?oz1_) (v := ?vz1_) ?hiz1_ (by kernel_rfl) (by kernel_rfl) (by kernel_rfl) (fun _ _ _ h => h) ?hyz1_ (by assumption) ?restz1_
              case hiz1_ => simp only [gA, gZ]; rfl
              case hyz1_ =>
                refine Or.inl ⟨by rfl, ?_⟩
                intro w hSw; (try dsimp only at hSw); have u0 := cell_blk hSw 0; have u1 := cell_blk hSw 1; have u2 := cell_blk hSw 2; go_simp <;> (with_reducible rfl)
              (try simp only [Act.put, pA, pZ, pS])
              refine wpAnyH_take (i := 1) (oi := ?oz2_) (v := ?vz2_) ?hiz2_ (by kernel_rfl) (by kernel_rfl) (by kernel_rfl) (fun _ _ _ h => h) ?hyz2_ (by assumption) ?restz2_
              case hiz2_ => simp only [gA, gS, gZ]; rfl
              case hyz2_ =>
                refine Or.inl ⟨by rfl, ?_⟩
                intro w hSw; (try dsimp only at hSw); have u0 := cell_blk hSw 0; have u1 := cell_blk hSw 1; have u2 := cell_blk hSw 2; go_simp <;> (with_reducible rfl)
              (try simp only [Act.put, pA, pZ, pS])
              refine wpAnyH_take (i := 2) (oi := ?oz3_) (v := ?vz3_) ?hiz3_ (by kernel_rfl) (by kernel_rfl) (by kernel_rfl) (fun _ _ _ h => h) ?hyz3_ (by assumption) ?restz3_
              case hiz3_ => simp only [gA, gS, gZ]; rfl
              case hyz3_ =>
                refine Or.inl ⟨by rfl, ?_⟩
                intro w hSw; (try dsimp only at hSw); have u0 := cell_blk hSw 0; have u1 := cell_blk hSw 1; have u2 := cell_blk hSw 2; go_simp <;> (with_reducible rfl)
              (try simp only [Act.put, pA, pZ, pS])
              refine wpAnyH_take (i := 3) (oi := ?oz4_) (v := ?vz4_) ?hiz4_ (by kernel_rfl) (by kernel_rfl) (by kernel_rfl) (fun _ _ _ h => h) ?hyz4_ (by assumption) ?restz4_
              case hiz4_ => simp only [gA, gS, gZ]; rfl
              case hyz4_ =>
                refine Or.inl ⟨by rfl, ?_⟩
                intro w hSw; (try dsimp only at hSw); have u0 := cell_blk hSw 0; have u1 := cell_blk hSw 1; have u2 := cell_blk hSw 2; go_simp <;> (with_reducible rfl)
              (try simp only [Act.put, pA, pZ, pS])
              refine wpAnyH_take (i := 4) (oi := ?oz5_) (v := ?vz5_) ?hiz5_ (by kernel_rfl) (by kernel_rfl) (by kernel_rfl) (fun _ _ _ h => h) ?hyz5_ (by assumption) ?restz5_
              case hiz5_ => simp only [gA, gS, gZ]; rfl
              case hyz5_ =>
                refine Or.inl ⟨by rfl, ?_⟩
                intro w hSw; (try dsimp only at hSw); have u0 := cell_blk hSw 0; have u1 := cell_blk hSw 1; have u2 := cell_blk hSw 2; go_simp <;> (with_reducible rfl)
              (try simp only [Act.put, pA, pZ, pS])
              refine wpAnyH_take (i := 6) (oi := ?oz6_) (v := ?vz6_) ?hiz6_ (by kernel_rfl) (by kernel_rfl) (by kernel_rfl) (fun _ _ _ h => h) ?hyz6_ (by assumption) ?restz6_
              case hiz6_ => simp only [gA, gS, gZ]; rfl
              case hyz6_ =>
                refine Or.inl ⟨by rfl, ?_⟩
                intro w hSw; (try dsimp only at hSw); have u0 := cell_blk hSw 0; have u1 := cell_blk hSw 1; have u2 := cell_blk hSw 2; go_simp <;> (with_reducible rfl)
              (try simp only [Act.put, pA, pZ, pS])
              refine wpAnyH_ready (rs := [5, 7]) (by kernel_rfl) (by simp) ?_
              refine AllReadyH.cons rfl (fun K hK => ?_) (AllReadyH.cons rfl (fun K hK => ?_) AllReadyH.nil)
              · go_simp
                refine hK.out _ _ (by exact X3.out) (fun hHeld5 => ?_)
                clear hK K
                (try simp only [Act.put, pA, pZ, pS])
                refine wpAnyH_ready (rs := [7]) (by kernel_rfl) (by simp) ?_
                refine AllReadyH.cons rfl (fun K hK => ?_) AllReadyH.nil
                go_simp
                refine hK.out _ _ (by exact HX7.out) (fun hHeld7 => ?_)
                clear hK K
                (try simp only [Act.put, pA, pZ, pS])
                refine wpAnyH_ready (rs := [8]) (by kernel_rfl) (by simp) ?_
                refine AllReadyH.cons rfl (fun K hK => ?_) AllReadyH.nil
                refine step_append_rows rfl (.tmp 65) (.tmp 67) 25 rfl 66 _ 3 40 Tryd.underlying25 info66 rfl (by decide) (.slice v1.o v1.n v1.c) (cs1.map CoP.row) (by simp [Act.eval]) HS7.out.own.oc (some ⟨w2.heap.size, 0, none⟩) 1 1 [[.string x.nm, .string x.fr, .int .i64 x.cd]] (by simp [Act.eval]) rfl (fun e => by cases e) hL.out (by simp [Value.oneCell']) (by simp) hR1.out (by have h := hR2.out; omega) ?_
                intro v6 w6 o6 g6 b6
                obtain ⟨a6, L6, c6, hv6, -⟩ := owns_slice o6
                subst hv6
                have S6 : w6.heap[wr.heap.size]? = some (.cells #[.string x.nm, .string x.fr, .int .i64 x.cd] 66 (0, 0)) := (g6.block _ (lt_of_block HX7.out) (fun e => hBq.out e.symm)).trans HX7.out
                have B6 := Lib.hid ((g6.block b (lt_of_block HS7.out.blk) (fun e => own_nb (by decide) HS7.out.own.oc HS7.out.blk e.symm)).trans HS7.out.blk)
                have zc := cell_blk B6.out 19; have zf := free_blk B6.out 19
                have zc : w6.cell? ⟨b, 19, none⟩ = some (.slice v1.o v1.n v1.c) := zc
                have HN := Lib.hid (HS7.out.put_c (v := ⟨a6, L6, c6⟩) (l := cs1 ++ [x]) (by rw [List.map_append]; exact o6) g6 b6)
                have S8 : (w6.setCell ⟨b, 19, none⟩ (.slice a6 L6 c6)).heap[wr.heap.size]? = some (.cells #[.string x.nm, .string x.fr, .int .i64 x.cd] 66 (0, 0)) := set_other S6 hBb.out
                clear o6 g6 b6
                refine hK.out _ _ (by exact S6) (fun hHeld8 => ?_)
                clear hK K
                (try simp only [Act.put, pA])
                refine wpAnyH_take (i := 9) (oi := ?oz7_) (v := ?vz7_) ?hiz7_ (by kernel_rfl) (by kernel_rfl) (by kernel_rfl) (fun _ _ _ h => h) ?hyz7_ (by assumption) ?restz7_
                case hiz7_ => simp only [gA, gS, gZ]; rfl
                case hyz7_ =>
                  refine Or.inl ⟨by rfl, ?_⟩
                  intro w hSw; (try dsimp only at hSw); have u0 := cell_blk hSw 0; have u1 := cell_blk hSw 1; have u2 := cell_blk hSw 2; go_simp <;> (with_reducible rfl)
                (try simp only [Act.put])
                refine wpAnyH_take (i := 10) (oi := ?oz8_) (v := ?vz8_) ?hiz8_ (by kernel_rfl) (by kernel_rfl) (by kernel_rfl) (fun _ _ _ h => h) ?hyz8_ (by assumption) ?restz8_
                case hiz8_ => simp only [gA, gS, gZ]; rfl
                case hyz8_ =>
                  refine Or.inl ⟨by rfl, ?_⟩
                  intro w hSw; (try dsimp only at hSw); have u0 := cell_blk hSw 0; have u1 := cell_blk hSw 1; have u2 := cell_blk hSw 2; go_simp <;> (with_reducible rfl)
                (try simp only [Act.put])
                refine wpAnyH_take (i := 11) (oi := ?oz9_) (v := ?vz9_) ?hiz9_ (by kernel_rfl) (by kernel_rfl) (by kernel_rfl) (fun _ _ _ h => h) ?hyz9_ (by assumption) ?restz9_
                case hiz9_ => simp only [gA, gS, gZ]; rfl
                case hyz9_ =>
                  refine Or.inl ⟨by rfl, ?_⟩
                  intro w hSw; (try dsimp only at hSw); have u0 := cell_blk hSw 0; have u1 := cell_blk hSw 1; have u2 := cell_blk hSw 2; go_simp <;> (with_reducible rfl)
                (try simp only [Act.put])
                refine wpAnyH_ready (rs := [12]) (by kernel_rfl) (by simp) ?_
                refine AllReadyH.cons rfl (fun K hK => ?_) AllReadyH.nil
                go_simp
                refine hK.out _ _ (by exact S8) (fun hHeld12 => ?_)
                clear hK K
                (try simp only [Act.put])
                refine wpAnyH_done (by kernel_rfl) ?_ _
                refine NoPanic.normal ?_
                have HN2 := HN
                clear HN S8 S6 B6 zc zf
                go_wp2_with fail
                go_roundw
                case rel => exact ⟨j + 1, _, _, Hlt.out, by go_num, HN2, HR3, HPI2⟩
                case measure => have := Hlt.out; simp [intOf]; omega
              · go_simp
                refine hK.out _ _ (by exact HX7.out) (fun hHeld7 => ?_)
                clear hK K
                (try simp only [Act.put, pA, pZ, pS])
                refine wpAnyH_ready (rs := [5]) (by kernel_rfl) (by simp) ?_
                refine AllReadyH.cons rfl (fun K hK => ?_) AllReadyH.nil
                go_simp
                refine hK.out _ _ (by exact HX7.out) (fun hHeld5 => ?_)
                clear hK K
                (try simp only [Act.put, pA, pZ, pS])
                refine wpAnyH_ready (rs := [8]) (by kernel_rfl) (by simp) ?_
                refine AllReadyH.cons rfl (fun K hK => ?_) AllReadyH.nil
                refine step_append_rows rfl (.tmp 65) (.tmp 67) 25 rfl 66 _ 3 40 Tryd.underlying25 info66 rfl (by decide) (.slice v1.o v1.n v1.c) (cs1.map CoP.row) (by simp [Act.eval]) HS7.out.own.oc (some ⟨w2.heap.size, 0, none⟩) 1 1 [[.string x.nm, .string x.fr, .int .i64 x.cd]] (by simp [Act.eval]) rfl (fun e => by cases e) hL.out (by simp [Value.oneCell']) (by simp) hR1.out (by have h := hR2.out; omega) ?_
                intro v6 w6 o6 g6 b6
                obtain ⟨a6, L6, c6, hv6, -⟩ := owns_slice o6
                subst hv6
                have S6 : w6.heap[wr.heap.size]? = some (.cells #[.string x.nm, .string x.fr, .int .i64 x.cd] 66 (0, 0)) := (g6.block _ (lt_of_block HX7.out) (fun e => hBq.out e.symm)).trans HX7.out
                have B6 := Lib.hid ((g6.block b (lt_of_block HS7.out.blk) (fun e => own_nb (by decide) HS7.out.own.oc HS7.out.blk e.symm)).trans HS7.out.blk)
                have zc := cell_blk B6.out 19; have zf := free_blk B6.out 19
                have zc : w6.cell? ⟨b, 19, none⟩ = some (.slice v1.o v1.n v1.c) := zc
                have HN := Lib.hid (HS7.out.put_c (v := ⟨a6, L6, c6⟩) (l := cs1 ++ [x]) (by rw [List.map_append]; exact o6) g6 b6)
                have S8 : (w6.setCell ⟨b, 19, none⟩ (.slice a6 L6 c6)).heap[wr.heap.size]? = some (.cells #[.string x.nm, .string x.fr, .int .i64 x.cd] 66 (0, 0)) := set_other S6 hBb.out
                clear o6 g6 b6
                refine hK.out _ _ (by exact S6) (fun hHeld8 => ?_)
                clear hK K
                (try simp only [Act.put, pA])
                refine wpAnyH_take (i := 9) (oi := ?oz10_) (v := ?vz10_) ?hiz10_ (by kernel_rfl) (by kernel_rfl) (by kernel_rfl) (fun _ _ _ h => h) ?hyz10_ (by assumption) ?restz10_
                case hiz10_ => simp only [gA, gS, gZ]; rfl
                case hyz10_ =>
                  refine Or.inl ⟨by rfl, ?_⟩
                  intro w hSw; (try dsimp only at hSw); have u0 := cell_blk hSw 0; have u1 := cell_blk hSw 1; have u2 := cell_blk hSw 2; go_simp <;> (with_reducible rfl)
                (try simp only [Act.put])
                refine wpAnyH_take (i := 10) (oi := ?oz11_) (v := ?vz11_) ?hiz11_ (by kernel_rfl) (by kernel_rfl) (by kernel_rfl) (fun _ _ _ h => h) ?hyz11_ (by assumption) ?restz11_
                case hiz11_ => simp only [gA, gS, gZ]; rfl
                case hyz11_ =>
                  refine Or.inl ⟨by rfl, ?_⟩
                  intro w hSw; (try dsimp only at hSw); have u0 := cell_blk hSw 0; have u1 := cell_blk hSw 1; have u2 := cell_blk hSw 2; go_simp <;> (with_reducible rfl)
                (try simp only [Act.put])
                refine wpAnyH_take (i := 11) (oi := ?oz12_) (v := ?vz12_) ?hiz12_ (by kernel_rfl) (by kernel_rfl) (by kernel_rfl) (fun _ _ _ h => h) ?hyz12_ (by assumption) ?restz12_
                case hiz12_ => simp only [gA, gS, gZ]; rfl
                case hyz12_ =>
                  refine Or.inl ⟨by rfl, ?_⟩
                  intro w hSw; (try dsimp only at hSw); have u0 := cell_blk hSw 0; have u1 := cell_blk hSw 1; have u2 := cell_blk hSw 2; go_simp <;> (with_reducible rfl)
                (try simp only [Act.put])
                refine wpAnyH_ready (rs := [12]) (by kernel_rfl) (by simp) ?_
                refine AllReadyH.cons rfl (fun K hK => ?_) AllReadyH.nil
                go_simp
                refine hK.out _ _ (by exact S8) (fun hHeld12 => ?_)
                clear hK K
                (try simp only [Act.put])
                refine wpAnyH_done (by kernel_rfl) ?_ _
                refine NoPanic.normal ?_
                have HN2 := HN
                clear HN S8 S6 B6 zc zf
                go_wp2_with fail
                go_roundw
                case rel => exact ⟨j + 1, _, _, Hlt.out, by go_num, HN2, HR3, HPI2⟩
                case measure => have := Hlt.out; simp [intOf]; omega
        · obtain rfl : j = f.1.cs.length := by omega
          have HR3 : Hid (r = cK s.d.1 s.kn s.hs (s.hs.drop (k + 1)) cs1) := Lib.hid (by rw [HR1.out, List.drop_length]; rfl)
          go_wp2_with fail
          go_roundw
          case rel => exact ⟨k + 1, _, _, Hkl.out, by go_num, HS1, HR3, HPI1⟩
          case measure => have := Hkl.out; simp [intOf]; omega
    · obtain rfl : k = s.hs.length := by omega
      have HR3 : Hid (r = ownC s.d.1.nm s.hs (s.d.1.cs.drop 0) cs1) := Lib.hid (by rw [HR1.out, List.drop_length]; rfl)
      have HDN : Hid (s.d.2.c.n = s.d.1.cs.length) := Lib.hid (by have h9 := rin_n (dc_at (s := s.cz v1 cs1) HS1.out.own); rw [List.length_map] at h9; exact h9)
      have h8 : wr.cell? ⟨b, 8, none⟩ = some (.slice s.d.2.c.o s.d.1.cs.length s.d.2.c.c) := by
        have h9 : wr.cell? ⟨b, 8, none⟩ = some (.slice s.d.2.c.o s.d.2.c.n s.d.2.c.c) := cell_blk HS1.out.blk 8
        rw [HDN.out] at h9
        exact h9
      go_wp2_with fail
      clear h8
      obtain ⟨wa, hwa⟩ : ∃ wa, wa = wr := ⟨_, rfl⟩
      subst hwa
      go_loopw [10, 11, 80] (fun _ _ jv wr => ∃ (j : Nat) (v1 : SV) (cs1 : List CoP), j ≤ s.d.1.cs.length ∧ jv = .int .i64 j ∧ Hid (LkG w0 wr b (s.cz v1 cs1) LS.p2) ∧ Hid (r = ownC s.d.1.nm s.hs (s.d.1.cs.drop j) cs1) ∧ Hid (PI cs1)) (fun _ _ jv _ => s.d.1.cs.length - (intOf jv).toNat)
      case atStart => exact ⟨0, v1, cs1, Nat.zero_le _, rfl, HS1, HR3, HPI1⟩
      case round =>
        clear HS1 HR1 HR3 HPI1
        obtain ⟨j, v1, cs1, hj, rfl, HS1, HR1, HPI1⟩ := hrel
        by_cases hlt : j < s.d.1.cs.length
        · have hi2 : (j : Int) < (s.d.1.cs.length : Int) := by omega
          obtain ⟨hw2', hw2⟩ := wr_sm (x := (j : Int) + 1) (by omega) (by omega)
          have HRI : Hid (RIn (NF b s.g s.l) wr 3 (.slice s.d.2.c.o s.d.2.c.n s.d.2.c.c) (s.d.1.cs.map CoP.row)) := Lib.hid (dc_at (s := s.cz v1 cs1) HS1.out.own)
          obtain ⟨x, g, off, cp, hx, hxm, -, e, -, -, hc⟩ := co_cells HRI.out hlt
          simp only [Value.slice.injEq] at e
          obtain ⟨e1, -, -⟩ := e
          obtain ⟨d0, d1, d2⟩ := hc _ (Below.refl _ _)
          have Hlt := Lib.hid hlt
          have HR2 : Hid (r = ownQ s.d.1.nm s.hs (s.d.1.cs.drop (j + 1)) cs1 x (placeC cs1 x.nm)) := Lib.hid (by rw [HR1.out, drop_at hx, ownC_cons])
          have HXM := Lib.hid hxm
          have HSa := Lib.hid (HS1.out.same (below_alloc1 wr (.cells #[.string x.nm, .string x.fr, .int .i64 x.cd] 66)))
          have h0 : (wr.alloc (.cells #[.string x.nm, .string x.fr, .int .i64 x.cd] 66)).cell? ⟨b, 0, none⟩ = some (.string s.d.1.nm) := cell_blk HSa.out.blk 0
          have HS2 := Lib.hid (HS1.out.same (below_alloc1 wr (.cells #[.string x.nm, .string s.d.1.nm, .int .i64 x.cd] 66)))
          have X2 : Hid ((wr.alloc (.cells #[.string x.nm, .string s.d.1.nm, .int .i64 x.cd] 66)).heap[wr.heap.size]? = some (.cells #[.string x.nm, .string s.d.1.nm, .int .i64 x.cd] 66 (0, 0))) := Lib.hid (heap_alloc_new wr _)
          have HBQ : Hid ((Value.slice v1.o v1.n v1.c).ownBlock ≠ some wr.heap.size) := Lib.hid (fun e => by have := Owns.lt HS1.out.own.oc e; omega)
          clear hc hx hxm hlt HR1 HRI
          go_upto_region 19 with fail
          clear e1 d0 d1 d2 h0 HSa HS1
          obtain ⟨W1, hW1⟩ : ∃ W1, W1 = wr.alloc (.cells #[.string x.nm, .string s.d.1.nm, .int .i64 x.cd] 66) := ⟨_, rfl⟩
          rw [← hW1] at HS2 X2 ⊢
          clear hW1
          have HD0 : Hid (Below W1.heap.size W1 W1.drew) := Lib.hid (Below.refl _ _).drew
          have HSX : Hid (∀ V, Below W1.heap.size W1 V → (fun V => V.cell? ⟨b, 19, none⟩ = some (.slice v1.o v1.n v1.c) ∧ V.cell? ⟨wr.heap.size, 0, none⟩ = some (.string x.nm)) V) := Lib.hid (fun V hb => ⟨cell_blk (HS2.out.same hb).blk 19, cell_blk ((hb.block _ (lt_of_block X2.out)).trans X2.out) 0⟩)
          have HS0 := Lib.hid (HSX.out _ HD0.out)
          have HPL := Lib.hid (fun V (hb : Below W1.heap.size W1 V) => place_co (w := V) x.nm (cc_at (s := s.cz v1 cs1) (HS2.out.same hb).own) (Nat.le_trans (hle _ HPI1.out) (by decide)))
          obtain ⟨q, hq⟩ : ∃ q, q = placeC cs1 x.nm := ⟨_, rfl⟩
          have HQ := Lib.hid hq
          have HPL2 : Hid (∀ V, Below W1.heap.size W1 V → Calls Tryd.prog 45 #[.slice v1.o v1.n v1.c, .func (.func 27) #[] #[], .string x.nm] V (IntPost V (idxI q))) := Lib.hid (fun V hb => by rw [hq]; exact HPL.out V hb)
          clear hq HPL
          refine wp_region_noPanic ?_
          refine wp_region_held_drew (S := (fun V => V.cell? ⟨b, 19, none⟩ = some (.slice v1.o v1.n v1.c) ∧ V.cell? ⟨wr.heap.size, 0, none⟩ = some (.string x.nm))) (by kernel_rfl) (by exact HS0.out) (fun hHeld => ?_)
          refine wpAnyH_take (i := 0) (oi := ?oK4a0) (v := ?vK4a0) ?hiK4a0 (by kernel_rfl) (by kernel_rfl) (by kernel_rfl) (fun _ _ _ h => h) ?hyK4a0 (by assumption) ?restK4a0
          case hiK4a0 => simp only [gA, gZ]; rfl
          case hyK4a0 =>
            refine Or.inl ⟨by rfl, ?_⟩
            intro w hSw; (try dsimp only at hSw); go_simp <;> (with_reducible rfl)
          (try simp only [Act.put, pA, pZ, pS])
          refine wpAnyH_take (i := 1) (oi := ?oK4a1) (v := ?vK4a1) ?hiK4a1 (by kernel_rfl) (by kernel_rfl) (by kernel_rfl) (fun _ _ _ h => h) ?hyK4a1 (by assumption) ?restK4a1
          case hiK4a1 => simp only [gA, gS, gZ]; rfl
          case hyK4a1 =>
            refine Or.inl ⟨by rfl, ?_⟩
            intro w hSw; (try dsimp only at hSw); go_simp <;> (with_reducible rfl)
          (try simp only [Act.put, pA, pZ, pS])
          refine wpAnyH_take (i := 2) (oi := ?oK4a2) (v := ?vK4a2) ?hiK4a2 (by kernel_rfl) (by kernel_rfl) (by kernel_rfl) (fun _ _ _ h => h) ?hyK4a2 (by assumption) ?restK4a2
          case hiK4a2 => simp only [gA, gS, gZ]; rfl
          case hyK4a2 =>
            refine Or.inl ⟨by rfl, ?_⟩
            intro w hSw; (try dsimp only at hSw); go_simp <;> (with_reducible rfl)
          (try simp only [Act.put, pA, pZ, pS])
          refine wpAnyH_take (i := 3) (oi := ?oK4a3) (v := ?vK4a3) ?hiK4a3 (by kernel_rfl) (by kernel_rfl) (by kernel_rfl) (fun _ _ _ h => h) ?hyK4a3 (by assumption) ?restK4a3
          case hiK4a3 => simp only [gA, gS, gZ]; rfl
          case hyK4a3 =>
            refine Or.inl ⟨by rfl, ?_⟩
            intro w hSw; (try dsimp only at hSw); go_simp <;> (with_reducible rfl)
          (try simp only [Act.put, pA, pZ, pS])
          refine wpAnyH_take (i := 4) (oi := ?oK4a4) (v := ?vK4a4) ?hiK4a4 (by kernel_rfl) (by kernel_rfl) (by kernel_rfl) (fun _ _ _ h => h) ?hyK4a4 (by assumption) ?restK4a4
          case hiK4a4 => simp only [gA, gS, gZ]; rfl
          case hyK4a4 =>
            refine Or.inl ⟨by rfl, ?_⟩
            intro w hSw; (try dsimp only at hSw); go_simp <;> (with_reducible rfl)
          (try simp only [Act.put, pA, pZ, pS])
          refine wpAnyH_take (i := 5) (oi := ?oK4a5) (v := ?vK4a5) ?hiK4a5 (by kernel_rfl) (by kernel_rfl) (by kernel_rfl) (fun _ _ _ h => h) ?hyK4a5 (by assumption) ?restK4a5
          case hiK4a5 => simp only [gA, gS, gZ]; rfl
          case hyK4a5 =>
            refine Or.inl ⟨by rfl, ?_⟩
            intro w hSw; (try dsimp only at hSw); go_simp <;> (with_reducible rfl)
          (try simp only [Act.put, pA, pZ, pS])
          refine wpAnyH_take (i := 6) (oi := ?oK4a6) (v := ?vK4a6) ?hiK4a6 (by kernel_rfl) (by kernel_rfl) (by kernel_rfl) (fun _ _ _ h => h) ?hyK4a6 (by assumption) ?restK4a6
          case hiK4a6 => simp only [gA, gS, gZ]; rfl
          case hyK4a6 =>
            refine Or.inl ⟨by rfl, ?_⟩
            intro w hSw; (try dsimp only at hSw); go_simp <;> (with_reducible rfl)
          (try simp only [Act.put, pA, pZ, pS])
          refine wpAnyH_ready (rs := [7]) (by kernel_rfl) (by simp) ?_
          refine AllReadyH.cons rfl (fun K hK => ?_) AllReadyH.nil
          go_simp
          refine (HPL2.out _ HD0.out).mono ?_
          rintro _ w2 ⟨rfl, hb⟩
          have HD1 := Lib.hid (HD0.out.trans (hb.mono HD0.out.size))
          clear hb
          refine hK.out _ _ (HSX.out _ HD1.out) (fun hHeldA7 => ?_)
          clear hK K
          (try simp only [Act.put, pA, pZ, pS])
          refine wpAnyH_take (i := 8) (oi := ?oK4a8) (v := ?vK4a8) ?hiK4a8 (by kernel_rfl) (by kernel_rfl) (by kernel_rfl) (fun _ _ _ h => h) ?hyK4a8 (by assumption) ?restK4a8
          case hiK4a8 => simp only [gA, gS, gZ]; rfl
          case hyK4a8 =>
            refine Or.inl ⟨by rfl, ?_⟩
            intro w hSw; (try dsimp only at hSw); go_simp <;> (with_reducible rfl)
          (try simp only [Act.put, pA, pZ, pS])
          refine wpAnyH_done (by kernel_rfl) ?_ _
          refine NoPanic.normal ?_
          have HS3 := Lib.hid (HS2.out.same HD1.out)
          have X3 : Hid (w2.heap[wr.heap.size]? = some (.cells #[.string x.nm, .string s.d.1.nm, .int .i64 x.cd] 66 (0, 0))) := Lib.hid ((HD1.out.block _ (lt_of_block X2.out)).trans X2.out)
          clear HS0 HSX HPL2 HS2 X2 HD0 HD1 hHeldA7 hHeld
          cases q with
          | none =>
            have hneg : idxI none < 0 := by decide
            have HR3 : Hid (r = ownC s.d.1.nm s.hs (s.d.1.cs.drop (j + 1)) (cs1 ++ [⟨x.nm, s.d.1.nm, x.cd⟩])) := Lib.hid (by rw [HR2.out, ← HQ.out]; rfl)
            have HPI2 : Hid (PI (cs1 ++ [⟨x.nm, s.d.1.nm, x.cd⟩])) := Lib.hid (hown x HXM.out _ HPI1.out HQ.out.symm)
            go_wp2_with fail
            have hq0 : w2.drew.cell? ⟨b, 19, none⟩ = some (.slice v1.o v1.n v1.c) := cell_blk HS3.out.blk 19
            have HA7 : Hid (Below w2.drew.heap.size w2.drew (w2.drew.alloc (.cells #[.string x.nm, .string s.d.1.nm, .int .i64 x.cd] 66))) := Lib.hid (below_alloc1 _ _)
            have HS7 : Hid (LkG w0 (w2.drew.alloc (.cells #[.string x.nm, .string s.d.1.nm, .int .i64 x.cd] 66)) b (s.cz v1 cs1) LS.p2) := Lib.hid ((HS3.out.same (Below.refl _ _).drew).same HA7.out)
            have hq1 : (w2.drew.alloc (.cells #[.string x.nm, .string s.d.1.nm, .int .i64 x.cd] 66)).cell? ⟨b, 19, none⟩ = some (.slice v1.o v1.n v1.c) := cell_blk HS7.out.blk 19
            have hq2 : (w2.alloc (.cells #[.string x.nm, .string s.d.1.nm, .int .i64 x.cd] 66)).drew.cell? ⟨b, 19, none⟩ = some (.slice v1.o v1.n v1.c) := hq1
            have hq3 : (w2.alloc (.cells #[.string x.nm, .string s.d.1.nm, .int .i64 x.cd] 66)).cell? ⟨b, 19, none⟩ = some (.slice v1.o v1.n v1.c) := hq1
            have HX7 : Hid ((w2.drew.alloc (.cells #[.string x.nm, .string s.d.1.nm, .int .i64 x.cd] 66)).heap[wr.heap.size]? = some (.cells #[.string x.nm, .string s.d.1.nm, .int .i64 x.cd] 66 (0, 0))) := Lib.hid (alloc_blk X3.out _)
            have hL : Hid (Lies (w2.drew.alloc (.cells #[.string x.nm, .string s.d.1.nm, .int .i64 x.cd] 66)) 3 (some ⟨w2.heap.size, 0, none⟩) ([[.string x.nm, .string s.d.1.nm, .int .i64 x.cd]] : List (List Value))) := Lib.hid (lies_new w2.drew [.string x.nm, .string s.d.1.nm, .int .i64 x.cd] 66 rfl)
            have hR1 : Hid ((cs1.map CoP.row).length + ([[.string x.nm, .string s.d.1.nm, .int .i64 x.cd]] : List (List Value)).length ≤ maxLen) := Lib.hid (by have h0 := (hle _ HPI1.out); rw [List.length_map]; unfold maxLen; simp only [List.length_cons, List.length_nil]; omega)
            have hR2 : Hid (((cs1.map CoP.row).length + ([[.string x.nm, .string s.d.1.nm, .int .i64 x.cd]] : List (List Value)).length) * 40 ≤ 140737488355328) := Lib.hid (by have h0 := (hle _ HPI1.out); rw [List.length_map]; simp only [List.length_cons, List.length_nil]; omega)
            have hBb : Hid (wr.heap.size ≠ b) := Lib.hid (fun e => by have h1 := X3.out; rw [e, HS3.out.blk] at h1; injection h1 with h2; injection h2 with _ h3 _; exact absurd h3 (by decide))
            have hBq : Hid (((.slice v1.o v1.n v1.c) : Value).ownBlock ≠ some wr.heap.size) := Lib.hid (fun e => HBQ.out e)
            refine wp_region_noPanic ?_
            refine wp_region_held_drew (S := (fun V => V.heap[wr.heap.size]? = some (.cells #[.string x.nm, .string s.d.1.nm, .int .i64 x.cd] 66 (0, 0)))) (by kernel_rfl) (by exact X3.out) (fun hHeld => ?_)
            refine wpAnyH_take (i := 0) (oi := ?oz13_) (v := ?vz13_) ?hiz13_ (by kernel_rfl) (by kernel_rfl) (by kernel_rfl) (fun _ _ _ h => h) ?hyz13_ (by assumption) ?restz13_
            case hiz13_ => simp only [gA, gZ]; rfl
            case hyz13_ =>
              refine Or.inl ⟨by rfl, ?_⟩
              intro w hSw; (try dsimp only at hSw); have u0 := cell_blk hSw 0; have u1 := cell_blk hSw 1; have u2 := cell_blk hSw 2; go_simp <;> (with_reducible rfl)
            (try simp only [Act.put, pA, pZ, pS])
            refine wpAnyH_take (i := 1) (oi := ?oz14_) (v := ?vz14_) ?hiz14_ (by kernel_rfl) (by kernel_rfl) (by kernel_rfl) (fun _ _ _ h => h) ?hyz14_ (by assumption) ?restz14_
            case hiz14_ => simp only [gA, gS, gZ]; rfl
            case hyz14_ =>
              refine Or.inl ⟨by rfl, ?_⟩
              intro w hSw; (try dsimp only at hSw); have u0 := cell_blk hSw 0; have u1 := cell_blk hSw 1; have u2 := cell_blk hSw 2; go_simp <;> (with_reducible rfl)
            (try simp only [Act.put, pA, pZ, pS])
            refine wpAnyH_take (i := 2) (oi := ?oz15_) (v := ?vz15_) ?hiz15_ (by kernel_rfl) (by kernel_rfl) (by kernel_rfl) (fun _ _ _ h => h) ?hyz15_ (by assumption) ?restz15_
            case hiz15_ => simp only [gA, gS, gZ]; rfl
            case hyz15_ =>
              refine Or.inl ⟨by rfl, ?_⟩
              intro w hSw; (try dsimp only at hSw); have u0 := cell_blk hSw 0; have u1 := cell_blk hSw 1; have u2 := cell_blk hSw 2; go_simp <;> (with_reducible rfl)
            (try simp only [Act.put, pA, pZ, pS])
            refine wpAnyH_take (i := 3) (oi := ?oz16_) (v := ?vz16_) ?hiz16_ (by kernel_rfl) (by kernel_rfl) (by kernel_rfl) (fun _ _ _ h => h) ?hyz16_ (by assumption) ?restz16_
            case hiz16_ => simp only [gA, gS, gZ]; rfl
            case hyz16_ =>
              refine Or.inl ⟨by rfl, ?_⟩
              intro w hSw; (try dsimp only at hSw); have u0 := cell_blk hSw 0; have u1 := cell_blk hSw 1; have u2 := cell_blk hSw 2; go_simp <;> (with_reducible rfl)
            (try simp only [Act.put, pA, pZ, pS])
            refine wpAnyH_take (i := 4) (oi := ?oz17_) (v := ?vz17_) ?hiz17_ (by kernel_rfl) (by kernel_rfl) (by kernel_rfl) (fun _ _ _ h => h) ?hyz17_ (by assumption) ?restz17_
            case hiz17_ => simp only [gA, gS, gZ]; rfl
            case hyz17_ =>
              refine Or.inl ⟨by rfl, ?_⟩
              intro w hSw; (try dsimp only at hSw); have u0 := cell_blk hSw 0; have u1 := cell_blk hSw 1; have u2 := cell_blk hSw 2; go_simp <;> (with_reducible rfl)
            (try simp only [Act.put, pA, pZ, pS])
            refine wpAnyH_take (i := 6) (oi := ?oz18_) (v := ?vz18_) ?hiz18_ (by kernel_rfl) (by kernel_rfl) (by kernel_rfl) (fun _ _ _ h => h) ?hyz18_ (by assumption) ?restz18_
            case hiz18_ => simp only [gA, gS, gZ]; rfl
            case hyz18_ =>
              refine Or.inl ⟨by rfl, ?_⟩
              intro w hSw; (try dsimp only at hSw); have u0 := cell_blk hSw 0; have u1 := cell_blk hSw 1; have u2 := cell_blk hSw 2; go_simp <;> (with_reducible rfl)
            (try simp only [Act.put, pA, pZ, pS])
            refine wpAnyH_ready (rs := [5, 7]) (by kernel_rfl) (by simp) ?_
            refine AllReadyH.cons rfl (fun K hK => ?_) (AllReadyH.cons rfl (fun K hK => ?_) AllReadyH.nil)
            · go_simp
              refine hK.out _ _ (by exact X3.out) (fun hHeld5 => ?_)
              clear hK K
              (try simp only [Act.put, pA, pZ, pS])
              refine wpAnyH_ready (rs := [7]) (by kernel_rfl) (by simp) ?_
              refine AllReadyH.cons rfl (fun K hK => ?_) AllReadyH.nil
              go_simp
              refine hK.out _ _ (by exact HX7.out) (fun hHeld7 => ?_)
              clear hK K
              (try simp only [Act.put, pA, pZ, pS])
              refine wpAnyH_ready (rs := [8]) (by kernel_rfl) (by simp) ?_
              refine AllReadyH.cons rfl (fun K hK => ?_) AllReadyH.nil
              refine step_append_rows rfl (.tmp 114) (.tmp 116) 25 rfl 66 _ 3 40 Tryd.underlying25 info66 rfl (by decide) (.slice v1.o v1.n v1.c) (cs1.map CoP.row) (by simp [Act.eval]) HS7.out.own.oc (some ⟨w2.heap.size, 0, none⟩) 1 1 [[.string x.nm, .string s.d.1.nm, .int .i64 x.cd]] (by simp [Act.eval]) rfl (fun e => by cases e) hL.out (by simp [Value.oneCell']) (by simp) hR1.out (by have h := hR2.out; omega) ?_
              intro v6 w6 o6 g6 b6
              obtain ⟨a6, L6, c6, hv6, -⟩ := owns_slice o6
              subst hv6
              have S6 : w6.heap[wr.heap.size]? = some (.cells #[.string x.nm, .string s.d.1.nm, .int .i64 x.cd] 66 (0, 0)) := (g6.block _ (lt_of_block HX7.out) (fun e => hBq.out e.symm)).trans HX7.out
              have B6 := Lib.hid ((g6.block b (lt_of_block HS7.out.blk) (fun e => own_nb (by decide) HS7.out.own.oc HS7.out.blk e.symm)).trans HS7.out.blk)
              have zc := cell_blk B6.out 19; have zf := free_blk B6.out 19
              have zc : w6.cell? ⟨b, 19, none⟩ = some (.slice v1.o v1.n v1.c) := zc
              have HN := Lib.hid (HS7.out.put_c (v := ⟨a6, L6, c6⟩) (l := cs1 ++ [⟨x.nm, s.d.1.nm, x.cd⟩]) (by rw [List.map_append]; exact o6) g6 b6)
              have S8 : (w6.setCell ⟨b, 19, none⟩ (.slice a6 L6 c6)).heap[wr.heap.size]? = some (.cells #[.string x.nm, .string s.d.1.nm, .int .i64 x.cd] 66 (0, 0)) := set_other S6 hBb.out
              clear o6 g6 b6
              refine hK.out _ _ (by exact S6) (fun hHeld8 => ?_)
              clear hK K
              (try simp only [Act.put, pA])
              refine wpAnyH_take (i := 9) (oi := ?oz19_) (v := ?vz19_) ?hiz19_ (by kernel_rfl) (by kernel_rfl) (by kernel_rfl) (fun _ _ _ h => h) ?hyz19_ (by assumption) ?restz19_
              case hiz19_ => simp only [gA, gS, gZ]; rfl
              case hyz19_ =>
                refine Or.inl ⟨by rfl, ?_⟩
                intro w hSw; (try dsimp only at hSw); have u0 := cell_blk hSw 0; have u1 := cell_blk hSw 1; have u2 := cell_blk hSw 2; go_simp <;> (with_reducible rfl)
              (try simp only [Act.put])
              refine wpAnyH_take (i := 10) (oi := ?oz20_) (v := ?vz20_) ?hiz20_ (by kernel_rfl) (by kernel_rfl) (by kernel_rfl) (fun _ _ _ h => h) ?hyz20_ (by assumption) ?restz20_
              case hiz20_ => simp only [gA, gS, gZ]; rfl
              case hyz20_ =>
                refine Or.inl ⟨by rfl, ?_⟩
                intro w hSw; (try dsimp only at hSw); have u0 := cell_blk hSw 0; have u1 := cell_blk hSw 1; have u2 := cell_blk hSw 2; go_simp <;> (with_reducible rfl)
              (try simp only [Act.put])
              refine wpAnyH_take (i := 11) (oi := ?oz21_) (v := ?vz21_) ?hiz21_ (by kernel_rfl) (by kernel_rfl) (by kernel_rfl) (fun _ _ _ h => h) ?hyz21_ (by assumption) ?restz21_
              case hiz21_ => simp only [gA, gS, gZ]; rfl
              case hyz21_ =>
                refine Or.inl ⟨by rfl, ?_⟩
                intro w hSw; (try dsimp only at hSw); have u0 := cell_blk hSw 0; have u1 := cell_blk hSw 1; have u2 := cell_blk hSw 2; go_simp <;> (with_reducible rfl)
              (try simp only [Act.put])
              refine wpAnyH_ready (rs := [12]) (by kernel_rfl) (by simp) ?_
              refine AllReadyH.cons rfl (fun K hK => ?_) AllReadyH.nil
              go_simp
              refine hK.out _ _ (by exact S8) (fun hHeld12 => ?_)
              clear hK K
              (try simp only [Act.put])
              refine wpAnyH_done (by kernel_rfl) ?_ _
              refine NoPanic.normal ?_
              have HN2 := HN
              clear HN S8 S6 B6 zc zf
              go_wp2_with fail
              go_roundw
              case rel => exact ⟨j + 1, _, _, Hlt.out, by go_num, HN2, HR3, HPI2⟩
              case measure => have := Hlt.out; simp [intOf]; omega
            · go_simp
              refine hK.out _ _ (by exact HX7.out) (fun hHeld7 => ?_)
              clear hK K
              (try simp only [Act.put, pA, pZ, pS])
              refine wpAnyH_ready (rs := [5]) (by kernel_rfl) (by simp) ?_
              refine AllReadyH.cons rfl (fun K hK => ?_) AllReadyH.nil
              go_simp
              refine hK.out _ _ (by exact HX7.out) (fun hHeld5 => ?_)
              clear hK K
              (try simp only [Act.put, pA, pZ, pS])
              refine wpAnyH_ready (rs := [8]) (by kernel_rfl) (by simp) ?_
              refine AllReadyH.cons rfl (fun K hK => ?_) AllReadyH.nil
              refine step_append_rows rfl (.tmp 114) (.tmp 116) 25 rfl 66 _ 3 40 Tryd.underlying25 info66 rfl (by decide) (.slice v1.o v1.n v1.c) (cs1.map CoP.row) (by simp [Act.eval]) HS7.out.own.oc (some ⟨w2.heap.size, 0, none⟩) 1 1 [[.string x.nm, .string s.d.1.nm, .int .i64 x.cd]] (by simp [Act.eval]) rfl (fun e => by cases e) hL.out (by simp [Value.oneCell']) (by simp) hR1.out (by have h := hR2.out; omega) ?_
              intro v6 w6 o6 g6 b6
              obtain ⟨a6, L6, c6, hv6, -⟩ := owns_slice o6
              subst hv6
              have S6 : w6.heap[wr.heap.size]? = some (.cells #[.string x.nm, .string s.d.1.nm, .int .i64 x.cd] 66 (0, 0)) := (g6.block _ (lt_of_block HX7.out) (fun e => hBq.out e.symm)).trans HX7.out
              have B6 := Lib.hid ((g6.block b (lt_of_block HS7.out.blk) (fun e => own_nb (by decide) HS7.out.own.oc HS7.out.blk e.symm)).trans HS7.out.blk)
              have zc := cell_blk B6.out 19; have zf := free_blk B6.out 19
              have zc : w6.cell? ⟨b, 19, none⟩ = some (.slice v1.o v1.n v1.c) := zc
              have HN := Lib.hid (HS7.out.put_c (v := ⟨a6, L6, c6⟩) (l := cs1 ++ [⟨x.nm, s.d.1.nm, x.cd⟩]) (by rw [List.map_append]; exact o6) g6 b6)
              have S8 : (w6.setCell ⟨b, 19, none⟩ (.slice a6 L6 c6)).heap[wr.heap.size]? = some (.cells #[.string x.nm, .string s.d.1.nm, .int .i64 x.cd] 66 (0, 0)) := set_other S6 hBb.out
              clear o6 g6 b6
              refine hK.out _ _ (by exact S6) (fun hHeld8 => ?_)
              clear hK K
              (try simp only [Act.put, pA])
              refine wpAnyH_take (i := 9) (oi := ?oz22_) (v := ?vz22_) ?hiz22_ (by kernel_rfl) (by kernel_rfl) (by kernel_rfl) (fun _ _ _ h => h) ?hyz22_ (by assumption) ?restz22_
              case hiz22_ => simp only [gA, gS, gZ]; rfl
              case hyz22_ =>
                refine Or.inl ⟨by rfl, ?_⟩
                intro w hSw; (try dsimp only at hSw); have u0 := cell_blk hSw 0; have u1 := cell_blk hSw 1; have u2 := cell_blk hSw 2; go_simp <;> (with_reducible rfl)
              (try simp only [Act.put])
              refine wpAnyH_take (i := 10) (oi := ?oz23_) (v := ?vz23_) ?hiz23_ (by kernel_rfl) (by kernel_rfl) (by kernel_rfl) (fun _ _ _ h => h) ?hyz23_ (by assumption) ?restz23_
              case hiz23_ => simp only [gA, gS, gZ]; rfl
              case hyz23_ =>
                refine Or.inl ⟨by rfl, ?_⟩
                intro w hSw; (try dsimp only at hSw); have u0 := cell_blk hSw 0; have u1 := cell_blk hSw 1; have u2 := cell_blk hSw 2; go_simp <;> (with_reducible rfl)
              (try simp only [Act.put])
              refine wpAnyH_take (i := 11) (oi := ?oz24_) (v := ?vz24_) ?hiz24_ (by kernel_rfl) (by kernel_rfl) (by kernel_rfl) (fun _ _ _ h => h) ?hyz24_ (by assumption) ?restz24_
              case hiz24_ => simp only [gA, gS, gZ]; rfl
              case hyz24_ =>
                refine Or.inl ⟨by rfl, ?_⟩
                intro w hSw; (try dsimp only at hSw); have u0 := cell_blk hSw 0; have u1 := cell_blk hSw 1; have u2 := cell_blk hSw 2; go_simp <;> (with_reducible rfl)
              (try simp only [Act.put])
              refine wpAnyH_ready (rs := [12]) (by kernel_rfl) (by simp) ?_
              refine AllReadyH.cons rfl (fun K hK => ?_) AllReadyH.nil
              go_simp
              refine hK.out _ _ (by exact S8) (fun hHeld12 => ?_)
              clear hK K
              (try simp only [Act.put])
              refine wpAnyH_done (by kernel_rfl) ?_ _
              refine NoPanic.normal ?_
              have HN2 := HN
              clear HN S8 S6 B6 zc zf
              go_wp2_with fail
              go_roundw
              case rel => exact ⟨j + 1, _, _, Hlt.out, by go_num, HN2, HR3, HPI2⟩
              case measure => have := Hlt.out; simp [intOf]; omega
          | some i =>
            obtain ⟨hi, -, -⟩ := idxP_some HQ.out.symm
            have hlt : (i : Int) < (cs1.length : Int) := by omega
            have HRI : Hid (RIn AnyB w2 3 (.slice v1.o v1.n v1.c) (cs1.map CoP.row)) := Lib.hid (cc_at (s := s.cz v1 cs1) HS3.out.own)
            obtain ⟨⟨yn, yf, yc⟩, g, off, cp, hget, -, -, e, hg, -, hc⟩ := co_cells HRI.out hi
            simp only at hc
            simp only [Value.slice.injEq] at e
            obtain ⟨e1, e2, e3⟩ := e
            obtain ⟨rfl, hown9⟩ : off = 0 ∧ (Value.slice v1.o v1.n v1.c).ownBlock = some g := by
              obtain ⟨a9, c9, hv9, -, -, -, -, h9⟩ := HS3.out.own.oc.any
              have hv9 : Value.slice v1.o v1.n v1.c = _ := hv9
              simp only [Value.slice.injEq] at hv9
              exact h9 g off (by rw [← hv9.1, e1])
            have HGE : Hid (v1 = ⟨some ⟨g, 0, none⟩, cs1.length, cp⟩ ∧ (cs1.map CoP.row)[i]? = some (CoP.row ⟨yn, yf, yc⟩)) := Lib.hid ⟨by cases hsq : v1; rw [hsq] at e1 e2 e3; simp only at e1 e2 e3; rw [e1, e2, e3], by rw [List.getElem?_map, hget]; rfl⟩
            obtain ⟨d0, d1, d2⟩ := hc w2 (Below.refl _ _)
            have hz0 : (0 + i * 3) = i * 3 := by omega
            rw [hz0] at d0 d1 d2
            have hii : idxI (some i) = (i : Int) := rfl
            have hnn : ¬ (i : Int) < 0 := by omega
            obtain ⟨z, hz⟩ : ∃ z, z = hasB s.hs yf := ⟨_, rfl⟩
            have HR3 : Hid (r = if z = true then .error 19 else ownC s.d.1.nm s.hs (s.d.1.cs.drop (j + 1)) (cs1.set i ⟨x.nm, s.d.1.nm, x.cd⟩)) := Lib.hid (by
              have hget2 : cs1[i]? = some ⟨yn, yf, yc⟩ := hget
              rw [HR2.out, ← HQ.out]
              unfold ownQ
              simp only
              rw [hget2, hz]
              rfl)
            have HPI2 : Hid (PI (cs1.set i ⟨x.nm, s.d.1.nm, x.cd⟩)) := Lib.hid (hset x HXM.out _ i HPI1.out HQ.out.symm)
            have HSH : Hid ((fun V => V.cell? ⟨b, 35, none⟩ = some (.slice s.h.o s.h.n s.h.c) ∧ V.cell? ⟨b, 19, none⟩ = some (.slice (some ⟨g, 0, none⟩) cs1.length cp) ∧ V.cell? ⟨g, i * 3 + 1, none⟩ = some (.string yf)) w2.drew) := Lib.hid ⟨cell_blk HS3.out.blk 35, by
              have h9 : w2.drew.cell? ⟨b, 19, none⟩ = some (.slice v1.o v1.n v1.c) := cell_blk HS3.out.blk 19
              rw [HGE.out.1] at h9
              exact h9, d1⟩
            have HCT := Lib.hid (contains_any (w := w2.drew) yf (hh_at (s := s.cz v1 cs1) (HS3.out.same (Below.refl _ _).drew).own) (Nat.le_trans hhs (by decide)))
            have HCU : Hid (Calls Tryd.prog 22 #[.slice s.h.o s.h.n s.h.c, .string yf] w2.drew (fun e w' => e = .returned (.bool z) ∧ w' = w2.drew)) := Lib.hid (by rw [hz]; exact HCT.out)
            clear hget hc e1 e2 e3 hown9 hg HRI d0 d1 d2 hz HCT
            go_wp2_with fail
            refine wp_region_noPanic ?_
            refine wp_region_held_drew (S := (fun V => V.cell? ⟨b, 35, none⟩ = some (.slice s.h.o s.h.n s.h.c) ∧ V.cell? ⟨b, 19, none⟩ = some (.slice (some ⟨g, 0, none⟩) cs1.length cp) ∧ V.cell? ⟨g, i * 3 + 1, none⟩ = some (.string yf))) (by kernel_rfl) (by exact HSH.out) (fun hHeld => ?_)
            refine wpAnyH_take (i := 0) (oi := ?oK2b0) (v := ?vK2b0) ?hiK2b0 (by kernel_rfl) (by kernel_rfl) (by kernel_rfl) (fun _ _ _ h => h) ?hyK2b0 (by assumption) ?restK2b0
            case hiK2b0 => simp only [gA, gZ]; rfl
            case hyK2b0 =>
              refine Or.inl ⟨by rfl, ?_⟩
              intro w hSw; (try dsimp only at hSw); go_simp <;> (with_reducible rfl)
            (try simp only [Act.put, pA, pZ, pS])
            refine wpAnyH_take (i := 1) (oi := ?oK2b1) (v := ?vK2b1) ?hiK2b1 (by kernel_rfl) (by kernel_rfl) (by kernel_rfl) (fun _ _ _ h => h) ?hyK2b1 (by assumption) ?restK2b1
            case hiK2b1 => simp only [gA, gS, gZ]; rfl
            case hyK2b1 =>
              refine Or.inl ⟨by rfl, ?_⟩
              intro w hSw; (try dsimp only at hSw); go_simp <;> (with_reducible rfl)
            (try simp only [Act.put, pA, pZ, pS])
            refine wpAnyH_take (i := 2) (oi := ?oK2b2) (v := ?vK2b2) ?hiK2b2 (by kernel_rfl) (by kernel_rfl) (by kernel_rfl) (fun _ _ _ h => h) ?hyK2b2 (by assumption) ?restK2b2
            case hiK2b2 => simp only [gA, gS, gZ]; rfl
            case hyK2b2 =>
              refine Or.inl ⟨by rfl, ?_⟩
              intro w hSw; (try dsimp only at hSw); go_simp <;> (with_reducible rfl)
            (try simp only [Act.put, pA, pZ, pS])
            refine wpAnyH_take (i := 3) (oi := ?oK2b3) (v := ?vK2b3) ?hiK2b3 (by kernel_rfl) (by kernel_rfl) (by kernel_rfl) (fun _ _ _ h => h) ?hyK2b3 (by assumption) ?restK2b3
            case hiK2b3 => simp only [gA, gS, gZ]; rfl
            case hyK2b3 =>
              refine Or.inl ⟨by rfl, ?_⟩
              intro w hSw; (try dsimp only at hSw); go_simp <;> (with_reducible rfl)
            (try simp only [Act.put, pA, pZ, pS])
            refine wpAnyH_take (i := 4) (oi := ?oK2b4) (v := ?vK2b4) ?hiK2b4 (by kernel_rfl) (by kernel_rfl) (by kernel_rfl) (fun _ _ _ h => h) ?hyK2b4 (by assumption) ?restK2b4
            case hiK2b4 => simp only [gA, gS, gZ]; rfl
            case hyK2b4 =>
              refine Or.inl ⟨by rfl, ?_⟩
              intro w hSw; (try dsimp only at hSw); go_simp <;> (with_reducible rfl)
            (try simp only [Act.put, pA, pZ, pS])
            refine wpAnyH_take (i := 5) (oi := ?oK2b5) (v := ?vK2b5) ?hiK2b5 (by kernel_rfl) (by kernel_rfl) (by kernel_rfl) (fun _ _ _ h => h) ?hyK2b5 (by assumption) ?restK2b5
            case hiK2b5 => simp only [gA, gS, gZ]; rfl
            case hyK2b5 =>
              refine Or.inl ⟨by rfl, ?_⟩
              intro w hSw; (try dsimp only at hSw); go_simp <;> (with_reducible rfl)
            (try simp only [Act.put, pA, pZ, pS])
            refine wpAnyH_take (i := 6) (oi := ?oK2b6) (v := ?vK2b6) ?hiK2b6 (by kernel_rfl) (by kernel_rfl) (by kernel_rfl) (fun _ _ _ h => h) ?hyK2b6 (by assumption) ?restK2b6
            case hiK2b6 => simp only [gA, gS, gZ]; rfl
            case hyK2b6 =>
              refine Or.inl ⟨by rfl, ?_⟩
              intro w hSw; (try dsimp only at hSw); go_simp <;> (with_reducible rfl)
            (try simp only [Act.put, pA, pZ, pS])
            refine wpAnyH_take (i := 7) (oi := ?oK2b7) (v := ?vK2b7) ?hiK2b7 (by kernel_rfl) (by kernel_rfl) (by kernel_rfl) (fun _ _ _ h => h) ?hyK2b7 (by assumption) ?restK2b7
            case hiK2b7 => simp only [gA, gS, gZ]; rfl
            case hyK2b7 =>
              refine Or.inl ⟨by rfl, ?_⟩
              intro w hSw; (try dsimp only at hSw); go_simp <;> (with_reducible rfl)
            (try simp only [Act.put, pA, pZ, pS])
            refine wpAnyH_take (i := 8) (oi := ?oK2b8) (v := ?vK2b8) ?hiK2b8 (by kernel_rfl) (by kernel_rfl) (by kernel_rfl) (fun _ _ _ h => h) ?hyK2b8 (by assumption) ?restK2b8
            case hiK2b8 => simp only [gA, gS, gZ]; rfl
            case hyK2b8 =>
              refine Or.inl ⟨by rfl, ?_⟩
              intro w hSw; (try dsimp only at hSw); go_simp <;> (with_reducible rfl)
            (try simp only [Act.put, pA, pZ, pS])
            refine wpAnyH_take (i := 9) (oi := ?oK2b9) (v := ?vK2b9) ?hiK2b9 (by kernel_rfl) (by kernel_rfl) (by kernel_rfl) (fun _ _ _ h => h) ?hyK2b9 (by assumption) ?restK2b9
            case hiK2b9 => simp only [gA, gS, gZ]; rfl
            case hyK2b9 =>
              refine Or.inl ⟨by rfl, ?_⟩
              intro w hSw; (try dsimp only at hSw); go_simp <;> (with_reducible rfl)
            (try simp only [Act.put, pA, pZ, pS])
            refine wpAnyH_take (i := 10) (oi := ?oK2b10) (v := ?vK2b10) ?hiK2b10 (by kernel_rfl) (by kernel_rfl) (by kernel_rfl) (fun _ _ _ h => h) ?hyK2b10 (by assumption) ?restK2b10
            case hiK2b10 => simp only [gA, gS, gZ]; rfl
            case hyK2b10 =>
              refine Or.inl ⟨by rfl, ?_⟩
              intro w hSw; (try dsimp only at hSw); go_simp <;> (with_reducible rfl)
            (try simp only [Act.put, pA, pZ, pS])
            refine wpAnyH_take (i := 11) (oi := ?oK2b11) (v := ?vK2b11) ?hiK2b11 (by kernel_rfl) (by kernel_rfl) (by kernel_rfl) (fun _ _ _ h => h) ?hyK2b11 (by assumption) ?restK2b11
            case hiK2b11 => simp only [gA, gS, gZ]; rfl
            case hyK2b11 =>
              refine Or.inl ⟨by rfl, ?_⟩
              intro w hSw; (try dsimp only at hSw); go_simp <;> (with_reducible rfl)
            (try simp only [Act.put, pA, pZ, pS])
            refine wpAnyH_take (i := 12) (oi := ?oK2b12) (v := ?vK2b12) ?hiK2b12 (by kernel_rfl) (by kernel_rfl) (by kernel_rfl) (fun _ _ _ h => h) ?hyK2b12 (by assumption) ?restK2b12
            case hiK2b12 => simp only [gA, gS, gZ]; rfl
            case hyK2b12 =>
              refine Or.inl ⟨by rfl, ?_⟩
              intro w hSw; (try dsimp only at hSw); go_simp <;> (with_reducible rfl)
            (try simp only [Act.put, pA, pZ, pS])
            refine wpAnyH_ready (rs := [13]) (by kernel_rfl) (by simp) ?_
            refine AllReadyH.cons rfl (fun K hK => ?_) AllReadyH.nil
            go_simp
            refine HCU.out.mono ?_
            rintro _ w5 ⟨rfl, hw5⟩
            subst hw5
            refine hK.out _ _ (by exact HSH.out) (fun hHeldB13 => ?_)
            clear hK K
            (try simp only [Act.put, pA, pZ, pS])
            refine wpAnyH_take (i := 14) (oi := ?oK2b14) (v := ?vK2b14) ?hiK2b14 (by kernel_rfl) (by kernel_rfl) (by kernel_rfl) (fun _ _ _ h => h) ?hyK2b14 (by assumption) ?restK2b14
            case hiK2b14 => simp only [gA, gS, gZ]; rfl
            case hyK2b14 =>
              refine Or.inl ⟨by rfl, ?_⟩
              intro w hSw; (try dsimp only at hSw); go_simp <;> (with_reducible rfl)
            (try simp only [Act.put, pA, pZ, pS])
            refine wpAnyH_done (by kernel_rfl) ?_ _
            refine NoPanic.normal ?_
            have HS4 := Lib.hid (HS3.out.same (Below.refl _ _).drew)
            have X4 : Hid (w2.drew.heap[wr.heap.size]? = some (.cells #[.string x.nm, .string s.d.1.nm, .int .i64 x.cd] 66 (0, 0))) := Lib.hid X3.out
            obtain ⟨w4, hw4⟩ : ∃ w4, w4 = w2.drew := ⟨_, rfl⟩
            rw [← hw4] at HS4 X4 ⊢
            clear hw4 HS3 X3 HSH HCU
            cases z with
            | true =>
              have HF : Hid (r = .error 19) := Lib.hid HR3.out
              go_wp2_with fail
              go_ret
              rw [HF.out]
              exact ⟨rfl, by decide, _, HS4.out, rfl, rfl⟩
            | false =>
              have HR4 : Hid (r = ownC s.d.1.nm s.hs (s.d.1.cs.drop (j + 1)) (cs1.set i ⟨x.nm, s.d.1.nm, x.cd⟩)) := Lib.hid HR3.out
              have HOQ : Hid (Owns w4.drew 66 3 (.slice (some ⟨g, 0, none⟩) cs1.length cp) (cs1.map CoP.row)) := Lib.hid (by
                have h2 : Owns w4.drew 66 3 (.slice v1.o v1.n v1.c) (cs1.map CoP.row) := (HS4.out.same (Below.refl _ _).drew).own.oc
                rw [HGE.out.1] at h2
                exact h2)
              have HPU := Lib.hid (owns_put3 HOQ.out HGE.out.2 (u0 := .string x.nm) (u1 := .string s.d.1.nm) (u2 := .int .i64 x.cd) rfl rfl rfl)
              have h9 : w4.drew.cell? ⟨b, 19, none⟩ = some (.slice v1.o v1.n v1.c) := cell_blk HS4.out.blk 19
              rw [HGE.out.1] at h9
              have HSS : Hid ((fun V => V.cell? ⟨b, 19, none⟩ = some (.slice (some ⟨g, 0, none⟩) cs1.length cp) ∧ V.heap[wr.heap.size]? = some (.cells #[.string x.nm, .string s.d.1.nm, .int .i64 x.cd] 66 (0, 0))) w4.drew) := Lib.hid ⟨h9, X4.out⟩
              have P9 : Hid (w4.drew.cell? ⟨g, i * 3, none⟩ = some (.string yn) ∧ w4.drew.cell? ⟨g, i * 3 + 1, none⟩ = some (.string yf) ∧ w4.drew.cell? ⟨g, i * 3 + 2, none⟩ = some (.int .i64 yc)) := Lib.hid (by
                obtain ⟨a9, c9, hv9, -, -, hl9, -, -⟩ := HOQ.out.any
                simp only [Value.slice.injEq] at hv9
                obtain ⟨rfl, -, -⟩ := hv9
                obtain ⟨g9, o9, e9, -, -, hc9⟩ := hl9 i _ HGE.out.2
                cases e9
                exact ⟨by simpa using hc9 0 _ rfl, by simpa using hc9 1 _ rfl, by simpa using hc9 2 _ rfl⟩)
              have p0 := P9.out.1; have p1 := P9.out.2.1; have p2 := P9.out.2.2
              have f0 := HOQ.out.free (g := g) rfl (i * 3); have f1 := HOQ.out.free (g := g) rfl (i * 3 + 1); have f2 := HOQ.out.free (g := g) rfl (i * 3 + 2)
              have HTH : Hid (w4.drew.there g (i * 3) 3) := Lib.hid (by
                intro j hj
                have h6 : j = 0 ∨ j = 1 ∨ j = 2 := by omega
                rcases h6 with rfl | rfl | rfl
                · exact ⟨Option.isSome_iff_exists.2 ⟨_, p0⟩, f0⟩
                · exact ⟨Option.isSome_iff_exists.2 ⟨_, p1⟩, f1⟩
                · exact ⟨Option.isSome_iff_exists.2 ⟨_, p2⟩, f2⟩)
              clear p0 p1 p2 f0 f1 f2
              have HKP : Hid ((fun V => V.cell? ⟨b, 19, none⟩ = some (.slice (some ⟨g, 0, none⟩) cs1.length cp) ∧ V.heap[wr.heap.size]? = some (.cells #[.string x.nm, .string s.d.1.nm, .int .i64 x.cd] 66 (0, 0))) (((w4.drew.setCell ⟨g, i * 3, none⟩ (.string x.nm)).setCell ⟨g, i * 3 + 1, none⟩ (.string s.d.1.nm)).setCell ⟨g, i * 3 + 2, none⟩ (.int .i64 x.cd))) := Lib.hid (by
                have hm := (Mod.refl (fun j => j = g) w4.drew).grown HPU.out.2 (fun j e _ => (Option.some.inj e).symm)
                have hgb : b ≠ g := fun e => by obtain ⟨c9, h9⟩ := own_ty HOQ.out (k := g) rfl; rw [← e, (HS4.out.same (Below.refl _ _).drew).blk] at h9; cases h9
                have hgx : wr.heap.size ≠ g := fun e => HBQ.out (by rw [HGE.out.1]; show some g = _; rw [e])
                have h8 := cell_blk (hm.blk HS4.out.blk hgb) 19
                have h8 : (((w4.drew.setCell ⟨g, i * 3, none⟩ (.string x.nm)).setCell ⟨g, i * 3 + 1, none⟩ (.string s.d.1.nm)).setCell ⟨g, i * 3 + 2, none⟩ (.int .i64 x.cd)).cell? ⟨b, 19, none⟩ = some (.slice v1.o v1.n v1.c) := h8
                rw [HGE.out.1] at h8
                exact ⟨h8, hm.blk X4.out hgx⟩)
              have HFN : Hid (LkG w0 (((w4.drew.setCell ⟨g, i * 3, none⟩ (.string x.nm)).setCell ⟨g, i * 3 + 1, none⟩ (.string s.d.1.nm)).setCell ⟨g, i * 3 + 2, none⟩ (.int .i64 x.cd)) b (s.cz v1 (cs1.set i ⟨x.nm, s.d.1.nm, x.cd⟩)) LS.p2) := Lib.hid (by
                have h1 := HPU.out.1
                have h2 := HPU.out.2
                have hr : (cs1.map CoP.row).set i [.string x.nm, .string s.d.1.nm, .int .i64 x.cd] = (cs1.set i ⟨x.nm, s.d.1.nm, x.cd⟩).map CoP.row := by rw [List.map_set]; rfl
                rw [hr] at h1
                refine (HS4.out.same (Below.refl _ _).drew).turn_c (l := cs1.set i ⟨x.nm, s.d.1.nm, x.cd⟩) ?_ ?_
                · show Owns _ 66 3 (.slice v1.o v1.n v1.c) _
                  rw [HGE.out.1]
                  exact h1
                · show World.grownBy _ _ (Value.slice v1.o v1.n v1.c).ownBlock
                  rw [HGE.out.1]
                  exact h2)
              obtain ⟨W7, hW7⟩ : ∃ W7, W7 = (((w4.drew.setCell ⟨g, i * 3, none⟩ (.string x.nm)).setCell ⟨g, i * 3 + 1, none⟩ (.string s.d.1.nm)).setCell ⟨g, i * 3 + 2, none⟩ (.int .i64 x.cd)) := ⟨_, rfl⟩
              rw [← hW7] at HKP HFN
              have HW7 := Lib.hid hW7
              clear hW7 h9 HPU P9 HOQ
              go_wp2_with fail
              refine wp_region_noPanic ?_
              refine wp_region_held_drew (S := (fun V => V.cell? ⟨b, 19, none⟩ = some (.slice (some ⟨g, 0, none⟩) cs1.length cp) ∧ V.heap[wr.heap.size]? = some (.cells #[.string x.nm, .string s.d.1.nm, .int .i64 x.cd] 66 (0, 0)))) (by kernel_rfl) (by exact HSS.out) (fun hHeld => ?_)
              refine wpAnyH_take (i := 0) (oi := ?oK3c0) (v := ?vK3c0) ?hiK3c0 (by kernel_rfl) (by kernel_rfl) (by kernel_rfl) (fun _ _ _ h => h) ?hyK3c0 (by assumption) ?restK3c0
              case hiK3c0 => simp only [gA, gZ]; rfl
              case hyK3c0 =>
                refine Or.inl ⟨by rfl, ?_⟩
                intro w hSw; (try dsimp only at hSw); obtain ⟨hSw0, hSwB⟩ := hSw; have t0 := cell_blk hSwB 0; have t1 := cell_blk hSwB 1; have t2 := cell_blk hSwB 2; go_simp <;> (with_reducible rfl)
              (try simp only [Act.put, pA, pZ, pS])
              refine wpAnyH_take (i := 1) (oi := ?oK3c1) (v := ?vK3c1) ?hiK3c1 (by kernel_rfl) (by kernel_rfl) (by kernel_rfl) (fun _ _ _ h => h) ?hyK3c1 (by assumption) ?restK3c1
              case hiK3c1 => simp only [gA, gS, gZ]; rfl
              case hyK3c1 =>
                refine Or.inl ⟨by rfl, ?_⟩
                intro w hSw; (try dsimp only at hSw); obtain ⟨hSw0, hSwB⟩ := hSw; have t0 := cell_blk hSwB 0; have t1 := cell_blk hSwB 1; have t2 := cell_blk hSwB 2; go_simp <;> (with_reducible rfl)
              (try simp only [Act.put, pA, pZ, pS])
              refine wpAnyH_take (i := 2) (oi := ?oK3c2) (v := ?vK3c2) ?hiK3c2 (by kernel_rfl) (by kernel_rfl) (by kernel_rfl) (fun _ _ _ h => h) ?hyK3c2 (by assumption) ?restK3c2
              case hiK3c2 => simp only [gA, gS, gZ]; rfl
              case hyK3c2 =>
                refine Or.inl ⟨by rfl, ?_⟩
                intro w hSw; (try dsimp only at hSw); obtain ⟨hSw0, hSwB⟩ := hSw; have t0 := cell_blk hSwB 0; have t1 := cell_blk hSwB 1; have t2 := cell_blk hSwB 2; go_simp <;> (with_reducible rfl)
              (try simp only [Act.put, pA, pZ, pS])
              refine wpAnyH_take (i := 3) (oi := ?oK3c3) (v := ?vK3c3) ?hiK3c3 (by kernel_rfl) (by kernel_rfl) (by kernel_rfl) (fun _ _ _ h => h) ?hyK3c3 (by assumption) ?restK3c3
              case hiK3c3 => simp only [gA, gS, gZ]; rfl
              case hyK3c3 =>
                refine Or.inl ⟨by rfl, ?_⟩
                intro w hSw; (try dsimp only at hSw); obtain ⟨hSw0, hSwB⟩ := hSw; have t0 := cell_blk hSwB 0; have t1 := cell_blk hSwB 1; have t2 := cell_blk hSwB 2; go_simp <;> (with_reducible rfl)
              (try simp only [Act.put, pA, pZ, pS])
              refine wpAnyH_take (i := 4) (oi := ?oK3c4) (v := ?vK3c4) ?hiK3c4 (by kernel_rfl) (by kernel_rfl) (by kernel_rfl) (fun _ _ _ h => h) ?hyK3c4 (by assumption) ?restK3c4
              case hiK3c4 => simp only [gA, gS, gZ]; rfl
              case hyK3c4 =>
                refine Or.inl ⟨by rfl, ?_⟩
                intro w hSw; (try dsimp only at hSw); obtain ⟨hSw0, hSwB⟩ := hSw; have t0 := cell_blk hSwB 0; have t1 := cell_blk hSwB 1; have t2 := cell_blk hSwB 2; go_simp <;> (with_reducible rfl)
              (try simp only [Act.put, pA, pZ, pS])
              refine wpAnyH_take (i := 5) (oi := ?oK3c5) (v := ?vK3c5) ?hiK3c5 (by kernel_rfl) (by kernel_rfl) (by kernel_rfl) (fun _ _ _ h => h) ?hyK3c5 (by assumption) ?restK3c5
              case hiK3c5 => simp only [gA, gS, gZ]; rfl
              case hyK3c5 =>
                refine Or.inl ⟨by rfl, ?_⟩
                intro w hSw; (try dsimp only at hSw); obtain ⟨hSw0, hSwB⟩ := hSw; have t0 := cell_blk hSwB 0; have t1 := cell_blk hSwB 1; have t2 := cell_blk hSwB 2; go_simp <;> (with_reducible rfl)
              (try simp only [Act.put, pA, pZ, pS])
              refine wpAnyH_take (i := 6) (oi := ?oK3c6) (v := ?vK3c6) ?hiK3c6 (by kernel_rfl) (by kernel_rfl) (by kernel_rfl) (fun _ _ _ h => h) ?hyK3c6 (by assumption) ?restK3c6
              case hiK3c6 => simp only [gA, gS, gZ]; rfl
              case hyK3c6 =>
                refine Or.inl ⟨by rfl, ?_⟩
                intro w hSw; (try dsimp only at hSw); obtain ⟨hSw0, hSwB⟩ := hSw; have t0 := cell_blk hSwB 0; have t1 := cell_blk hSwB 1; have t2 := cell_blk hSwB 2; go_simp <;> (with_reducible rfl)
              (try simp only [Act.put, pA, pZ, pS])
              refine wpAnyH_take (i := 7) (oi := ?oK3c7) (v := ?vK3c7) ?hiK3c7 (by kernel_rfl) (by kernel_rfl) (by kernel_rfl) (fun _ _ _ h => h) ?hyK3c7 (by assumption) ?restK3c7
              case hiK3c7 => simp only [gA, gS, gZ]; rfl
              case hyK3c7 =>
                refine Or.inl ⟨by rfl, ?_⟩
                intro w hSw; (try dsimp only at hSw); obtain ⟨hSw0, hSwB⟩ := hSw; have t0 := cell_blk hSwB 0; have t1 := cell_blk hSwB 1; have t2 := cell_blk hSwB 2; go_simp <;> (with_reducible rfl)
              (try simp only [Act.put, pA, pZ, pS])
              refine wpAnyH_ready (rs := [8]) (by kernel_rfl) (by simp) ?_
              refine AllReadyH.cons rfl (fun K hK => ?_) AllReadyH.nil
              refine step_store_mid rfl 66 (.tmp 105) (.tmp 104) rfl g (i * 3) #[.string x.nm, .string s.d.1.nm, .int .i64 x.cd] (by simp [Act.eval]) (by simp [Act.eval]) HTH.out size66 (by simp [Value.oneCell']) ?_
              refine (show K _ W7 → _ from fun t => by rw [HW7.out] at t; exact t) (hK.out _ W7 (by exact HKP.out) (fun hHeldC8 => ?_))
              clear hK K
              (try simp only [Act.put, pA])
              refine wpAnyH_done (by kernel_rfl) ?_ _
              refine NoPanic.normal ?_
              go_wp2_with fail
              go_roundw
              case rel => exact ⟨j + 1, v1, _, Hlt.out, by go_num, HFN, HR4, HPI2⟩
              case measure => have := Hlt.out; simp [intOf]; omega
        · obtain rfl : j = s.d.1.cs.length := by omega
          have HR3 : Hid (r = .ok cs1) := Lib.hid (by rw [HR1.out, List.drop_length]; rfl)
          go_wp2_with fail
          go_ret
          rw [HR3.out]
          exact ⟨rfl, v1, HS1.out⟩
end Go.Proofs.YtobjmajkcfhpoaaDoor
