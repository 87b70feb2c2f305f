/-
  The walk of Is (printed by genIs17.py).
-/
import Derived.Test.YtobjmajkcfhpoaaDoorAsk17
namespace Go.Proofs.YtobjmajkcfhpoaaDoor
open Go.RowKit

attribute [local go_sem] yld_undef
theorem findK_mem {kn : List KC} {s : ByteArray} {x : KC} (h : findK kn s = some x) : x ∈ kn ∧ x.1.nm = s := by
  unfold findK fstP at h
  cases hq : idxP (fun x : KC => eqB x.1.nm s) kn with
  | none => rw [hq] at h; cases h
  | some i =>
    rw [hq] at h
    obtain ⟨hi, h1, -⟩ := idxP_some hq
    have h : kn[i]? = some x := h
    rw [List.getElem?_eq_getElem hi] at h
    cases h
    exact ⟨List.getElem_mem hi, eqB_iff.1 h1⟩
def isStep (kn : List KC) (of : ByteArray) (f : Nat) (e : Bool) (o : Option KC) : Bool :=
  if e = true then true else match o with | none => false | some c => if hasB c.1.fs of = true then true else if emT c.1.pa = true then false else isP kn of f c.1.pa
theorem isP_succ (kn : List KC) (of : ByteArray) (f : Nat) (nm : ByteArray) : isP kn of (f + 1) nm = isStep kn of f (eqB nm of) (findK kn nm) := by rw [isP]; rfl
set_option maxHeartbeats 3200000 in
set_option maxRecDepth 100000 in
theorem is_any {A B : Nat → Prop} {v : Value} {kn : List KC} {w : World} (name of : ByteArray) (hv : KnIn A B w v kn) (hl : kn.length ≤ 1073741824) (hf : ∀ x ∈ kn, x.1.fs.length ≤ 1073741824) :
    Calls Tryd.prog 7 #[.string name, .string of, v] w (BoolPost w (isP kn of (kn.length + 1) name)) := by
  obtain ⟨ao, cap, rfl, -, -⟩ := hv.rows.form
  rw [List.length_map] at hv ⊢
  have HV := Lib.hid hv
  have HL := Lib.hid hl
  have HF := Lib.hid hf
  obtain ⟨r, hr⟩ : ∃ r, r = isP kn of (kn.length + 1) name := ⟨_, rfl⟩
  rw [← hr]
  have HR0 : Hid (r = isP kn of (kn.length + 1 - 0) name) := Lib.hid hr
  obtain ⟨hn', hn⟩ := wr_sm (x := (kn.length : Int) + 1) (by omega) (by omega)
  clear hv hr hf
  go_enter Tryd.func7, Tryd.ntmps7
  go_wp2_with fail
  go_loopw [0, 7, 8, 12, 20, 31] (fun nv _ _ kv _ _ wr => ∃ (j : Nat) (nm : ByteArray), j ≤ kn.length + 1 ∧ nv = .string nm ∧ kv = .int .i64 j ∧ Hid (Below w.heap.size w wr) ∧ Hid (r = isP kn of (kn.length + 1 - j) nm)) (fun _ _ _ kv _ _ _ => kn.length + 1 - (intOf kv).toNat)
  case atStart => exact ⟨0, name, by omega, rfl, rfl, Lib.hid (Below.refl _ _), HR0⟩
  case round =>
    clear HR0
    obtain ⟨j, nm, hj, rfl, rfl, HB, HX⟩ := hrel
    by_cases hlt : j < kn.length + 1
    · have hi : (j : Int) < (kn.length : Int) + 1 := by omega
      obtain ⟨hw', hw⟩ := wr_sm (x := (j : Int) + 1) (by omega) (by omega)
      have HFI := Lib.hid (find_any nm (HV.out.rows.under HB.out) HL.out)
      obtain ⟨e, he⟩ : ∃ e, (nm.toList == of.toList) = e := ⟨_, rfl⟩
      obtain ⟨o, ho⟩ : ∃ o, o = findK kn nm := ⟨_, rfl⟩
      rw [← ho] at HFI
      have HO := Lib.hid ho
      have hstep : isP kn of (kn.length + 1 - j) nm = isStep kn of (kn.length + 1 - (j + 1)) e o := by
        rw [show kn.length + 1 - j = (kn.length + 1 - (j + 1)) + 1 by omega, isP_succ, ← ho]
        rw [show eqB nm of = e from he]
      have HXN := Lib.hid (HX.out.trans hstep)
      have HLT := Lib.hid hlt
      clear hstep ho hlt HX
      cases o with
      | none =>
        go_wp2_with fail
        refine HFI.out.mono ?_
        rintro _ w1 ⟨hb, rfl⟩
        have B1 := Lib.hid (HB.out.trans (hb.mono HB.out.size))
        have B2 : Hid (Below w.heap.size w (w1.alloc (.cells #[.string ⟨#[]⟩, .int .i64 0, .bool false, .bool false, .string ⟨#[]⟩, .slice none 0 0, .slice none 0 0, .slice none 0 0, .slice none 0 0, .slice none 0 0, .slice none 0 0] 29))) := Lib.hid (B1.out.alloc B1.out.size _)
        clear hb
        simp only [Option.getD_none, Option.isSome_none, KC.v, KC.nil, ClP.nil, VS6.nil]
        cases e with
        | true =>
          have hrt : r = true := HXN.out
          subst hrt
          go_wp2_with fail
          go_ret
          exact ⟨rfl, B2.out⟩
        | false =>
          have hrt : r = false := HXN.out
          subst hrt
          go_wp2_with fail
          go_ret
          exact ⟨rfl, B2.out⟩
      | some x =>
        obtain ⟨hxm, -⟩ := findK_mem HO.out.symm
        have HC := Lib.hid (HV.out.cls x hxm)
        have HFX := Lib.hid (HF.out x hxm)
        clear hxm
        go_wp2_with fail
        refine HFI.out.mono ?_
        rintro _ w1 ⟨hb, rfl⟩
        have B1 := Lib.hid (HB.out.trans (hb.mono HB.out.size))
        obtain ⟨w2, hw2⟩ : ∃ w2, w2 = w1.alloc (.cells #[.string x.1.nm, .int .i64 x.1.kd, .bool x.1.ab, .bool x.1.fi, .string x.1.pa, .slice x.2.f.o x.2.f.n x.2.f.c, .slice x.2.t.o x.2.t.n x.2.t.c, .slice x.2.a.o x.2.a.n x.2.a.c, .slice x.2.c.o x.2.c.n x.2.c.c, .slice x.2.p.o x.2.p.n x.2.p.c, .slice x.2.m.o x.2.m.n x.2.m.c] 29) := ⟨_, rfl⟩
        have hb2 : Below w.heap.size w w2 := hw2 ▸ B1.out.alloc B1.out.size _
        have hx2 : w2.heap[w1.heap.size]? = some (.cells #[.string x.1.nm, .int .i64 x.1.kd, .bool x.1.ab, .bool x.1.fi, .string x.1.pa, .slice x.2.f.o x.2.f.n x.2.f.c, .slice x.2.t.o x.2.t.n x.2.t.c, .slice x.2.a.o x.2.a.n x.2.a.c, .slice x.2.c.o x.2.c.n x.2.c.c, .slice x.2.p.o x.2.p.n x.2.p.c, .slice x.2.m.o x.2.m.n x.2.m.c] 29 (0, 0)) := hw2 ▸ heap_alloc_new w1 _
        have B2 := Lib.hid hb2
        have HX2 := Lib.hid hx2
        have HW2 := Lib.hid hw2
        have HCO := Lib.hid (contains_any of (HC.out.hf.under hb2) HFX.out)
        clear hb hb2 hx2 hw2
        simp only [Option.getD_some, Option.isSome_some, KC.v]
        cases e with
        | true =>
          have hrt : r = true := HXN.out
          subst hrt
          have B3 : Hid (Below w.heap.size w (w1.alloc (.cells #[.string x.1.nm, .int .i64 x.1.kd, .bool x.1.ab, .bool x.1.fi, .string x.1.pa, .slice x.2.f.o x.2.f.n x.2.f.c, .slice x.2.t.o x.2.t.n x.2.t.c, .slice x.2.a.o x.2.a.n x.2.a.c, .slice x.2.c.o x.2.c.n x.2.c.c, .slice x.2.p.o x.2.p.n x.2.p.c, .slice x.2.m.o x.2.m.n x.2.m.c] 29))) := Lib.hid (by rw [← HW2.out]; exact B2.out)
          go_wp2_with fail
          go_ret
          exact ⟨rfl, B3.out⟩
        | false =>
          obtain ⟨h, hh⟩ : ∃ h, h = hasB x.1.fs of := ⟨_, rfl⟩
          have HXH : Hid (r = if h = true then true else if emT x.1.pa = true then false else isP kn of (kn.length + 1 - (j + 1)) x.1.pa) := Lib.hid (by rw [hh]; exact HXN.out)
          rw [← hh] at HCO
          clear hh HXN
          go_wp2_with fail
          rw [← HW2.out]
          refine HCO.out.mono ?_
          rintro _ w3 ⟨rfl, hw3⟩
          subst hw3
          cases h with
          | true =>
            have hrt : r = true := HXH.out
            subst hrt
            go_wp2_with fail
            go_ret
            exact ⟨rfl, B2.out⟩
          | false =>
            have c4 := cell_blk HX2.out 4
            obtain ⟨p, hp⟩ : ∃ p, x.1.pa.toList.isEmpty = p := ⟨_, rfl⟩
            have HXP : Hid (r = if p = true then false else isP kn of (kn.length + 1 - (j + 1)) x.1.pa) := Lib.hid (by rw [← hp]; exact HXH.out)
            cases p with
            | true =>
              have hrt : r = false := HXP.out
              subst hrt
              go_wp2_with fail
              go_ret
              exact ⟨rfl, B2.out⟩
            | false =>
              have HX3 : Hid (r = isP kn of (kn.length + 1 - (j + 1)) x.1.pa) := Lib.hid HXP.out
              go_wp2_with fail
              go_roundw
              case rel => exact ⟨j + 1, x.1.pa, HLT.out, rfl, by go_num, B2, HX3⟩
              case measure => have := HLT.out; simp [intOf]; omega
    · obtain rfl : j = kn.length + 1 := by omega
      have hrt : r = false := by rw [HX.out, Nat.sub_self, isP]
      subst hrt
      have hi : ¬ (((kn.length + 1 : Nat) : Int) < (kn.length : Int) + 1) := by omega
      go_wp2_with fail
      go_ret
      exact ⟨rfl, HB.out⟩
end Go.Proofs.YtobjmajkcfhpoaaDoor
