/-
  The walk of Right (printed by genRight17.py).
  find, Method and Is (printed by genAsk17.py).
-/
import Derived.Test.YtobjmajkcfhpoaaDoorWp6
import Derived.Test.YtobjmajkcfhpoaaDoorWp5
namespace Go.Proofs.YtobjmajkcfhpoaaDoor
open Go.RowKit
attribute [local go_sem] yld_undef
structure SmC (c : ClP) : Prop where
 fl : c.fs.length ≤ 1048576
 tl : c.ts.length ≤ 1048576
 al : c.ad.length ≤ 1048576
 cl : c.cs.length ≤ 1048576
 pl : c.ps.length ≤ 1048576
 ml : c.ms.length ≤ 1048576
 nz : c.nm.size ≤ 1048576
 qz : c.pa.size ≤ 1048576
 fz : ∀ s ∈ c.fs, s.size ≤ 1048576
 tz : ∀ s ∈ c.ts, s.size ≤ 1048576
 cz : ∀ x ∈ c.cs, x.nm.size ≤ 1048576
 pz : ∀ x ∈ c.ps, x.nm.size ≤ 1048576
 mz : ∀ x ∈ c.ms, x.nm.size ≤ 1048576
 oz : ∀ a ∈ c.ad, a.ot.length ≤ 1048576 ∧ a.sa.size ≤ 1048576
def kindP (k : Int) (ab fi e q10 q11 p0 t0 a0 f0 c0 : Bool) : Bool :=
 if k = 1 then (!ab || !fi) && (ab || !q10)
 else if k = 2 then (((((!ab && !fi) && e) && p0) && t0) && a0) && !q11
 else if k = 3 then (((!ab && !fi) && e) && f0) && c0
 else false
def rightQ (q1 e q2 q3 q4 q5 q6 q7 q8 q9 : Bool) (r : Bool) : Bool :=
 if (((!q1 || (!e && !q2)) || !q3) || !q4) = true then false
 else if ((!q5 || !q6) || !q7) = true then false
 else if (q8 || q9) = true then false
 else r
theorem len0 (n : Nat) : decide (n = 0) = ((n : Int) == 0) := by by_cases h : n = 0 <;> simp [h]
theorem rightP_eq (d : ClP) : rightP d = rightQ (nmP d.nm) (emT d.pa) (nmP d.pa) (onceP nmP [] d.fs) (onceP nmP [] d.ts) (onceP wordP [] (d.cs.map CoP.nm)) (onceP wordP [] (d.ps.map PrP.nm)) (onceP wordP [] (d.ms.map MtP.nm)) (d.ad.any fun a => !adaptP a) (d.ms.any fun m => m.ab && m.fi)
  (kindP d.kd d.ab d.fi (emT d.pa) (d.ms.any fun m => m.ab) (d.ms.any fun m => !m.ab) ((d.ps.length : Int) == 0) ((d.ts.length : Int) == 0) ((d.ad.length : Int) == 0) ((d.fs.length : Int) == 0) ((d.cs.length : Int) == 0)) := by
 unfold rightP rightQ kindP; rw [len0, len0, len0, len0, len0]
set_option maxHeartbeats 12800000 in
set_option maxRecDepth 100000 in
theorem right_any {A : Nat → Prop} (x : KC) (w : World) (hx : ClIn A w x.1 x.2) (hs : SmC x.1) (ht : Tabs w) :
    Calls Tryd.prog 10 #[.agg #[.string x.1.nm, .int .i64 x.1.kd, .bool x.1.ab, .bool x.1.fi, .string x.1.pa, .slice x.2.f.o x.2.f.n x.2.f.c, .slice x.2.t.o x.2.t.n x.2.t.c, .slice x.2.a.o x.2.a.n x.2.a.c, .slice x.2.c.o x.2.c.n x.2.c.c, .slice x.2.p.o x.2.p.n x.2.p.c, .slice x.2.m.o x.2.m.n x.2.m.c]] w (BoolPost w (rightP x.1)) := by
  have S0 := Hd (at1_start w (.cells #[.string x.1.nm, .int .i64 x.1.kd, .bool x.1.ab, .bool x.1.fi, .string x.1.pa, .slice x.2.f.o x.2.f.n x.2.f.c, .slice x.2.t.o x.2.t.n x.2.t.c, .slice x.2.a.o x.2.a.n x.2.a.c, .slice x.2.c.o x.2.c.n x.2.c.c, .slice x.2.p.o x.2.p.n x.2.p.c, .slice x.2.m.o x.2.m.n x.2.m.c] 29))
  have nf : x.2.f.n = x.1.fs.length := by have := rin_len hx.hf; simpa using this
  have nt : x.2.t.n = x.1.ts.length := by have := rin_len hx.ht; simpa using this
  have nc : x.2.c.n = x.1.cs.length := by have := rin_len hx.hc; simpa using this
  have np : x.2.p.n = x.1.ps.length := by have := rin_len hx.hp; simpa using this
  have na : x.2.a.n = x.1.ad.length := by
    obtain ⟨xs, e, h, -⟩ := hx.ha
    have := rin_len h
    rw [List.length_map] at this
    rw [this, ← e, List.length_map]
  obtain ⟨q1, e1⟩ : ∃ q, q = nmP x.1.nm := ⟨_, rfl⟩
  obtain ⟨ep, hep⟩ : ∃ q, x.1.pa.toList.isEmpty = q := ⟨_, rfl⟩
  obtain ⟨q2, e2⟩ : ∃ q, q = nmP x.1.pa := ⟨_, rfl⟩
  obtain ⟨q3, e3⟩ : ∃ q, q = onceP nmP [] x.1.fs := ⟨_, rfl⟩
  obtain ⟨q4, e4⟩ : ∃ q, q = onceP nmP [] x.1.ts := ⟨_, rfl⟩
  obtain ⟨q5, e5⟩ : ∃ q, q = onceP wordP [] (x.1.cs.map CoP.nm) := ⟨_, rfl⟩
  obtain ⟨q6, e6⟩ : ∃ q, q = onceP wordP [] (x.1.ps.map PrP.nm) := ⟨_, rfl⟩
  obtain ⟨q7, e7⟩ : ∃ q, q = onceP wordP [] (x.1.ms.map MtP.nm) := ⟨_, rfl⟩
  obtain ⟨q8, e8⟩ : ∃ q, q = (x.1.ad.any fun a => !adaptP a) := ⟨_, rfl⟩
  obtain ⟨q9, e9⟩ : ∃ q, q = (x.1.ms.any fun m => m.ab && m.fi) := ⟨_, rfl⟩
  obtain ⟨q10, e10⟩ : ∃ q, q = (x.1.ms.any fun m => m.ab) := ⟨_, rfl⟩
  obtain ⟨q11, e11⟩ : ∃ q, q = (x.1.ms.any fun m => !m.ab) := ⟨_, rfl⟩
  obtain ⟨p0, hp0⟩ : ∃ q, ((x.2.p.n : Int) == 0) = q := ⟨_, rfl⟩
  obtain ⟨t0, ht0⟩ : ∃ q, ((x.2.t.n : Int) == 0) = q := ⟨_, rfl⟩
  obtain ⟨a0, ha0⟩ : ∃ q, ((x.2.a.n : Int) == 0) = q := ⟨_, rfl⟩
  obtain ⟨f0, hf0⟩ : ∃ q, ((x.2.f.n : Int) == 0) = q := ⟨_, rfl⟩
  obtain ⟨c0, hc0⟩ : ∃ q, ((x.2.c.n : Int) == 0) = q := ⟨_, rfl⟩
  obtain ⟨kd, hkd⟩ : ∃ k, k = x.1.kd := ⟨_, rfl⟩
  obtain ⟨ab, hab⟩ : ∃ b, b = x.1.ab := ⟨_, rfl⟩
  obtain ⟨fi, hfi⟩ : ∃ b, b = x.1.fi := ⟨_, rfl⟩
  obtain ⟨r, hr⟩ : ∃ r, r = rightP x.1 := ⟨_, rfl⟩
  rw [← hr]
  have HR : Hid (r = rightQ q1 ep q2 q3 q4 q5 q6 q7 q8 q9 (kindP kd ab fi ep q10 q11 p0 t0 a0 f0 c0)) := Hd (by
    rw [hr, rightP_eq, e1, e2, e3, e4, e5, e6, e7, e8, e9, e10, e11, hkd, hab, hfi, ← hp0, ← ht0, ← ha0, ← hf0, ← hc0, np, nt, na, nf, nc, ← hep]
    rfl)
  have H1 : Hid (∀ W, Below w.heap.size w W → Calls Tryd.prog 24 #[.string x.1.nm] W (BoolPost W q1)) := Hd (fun W h => by rw [e1]; exact name_any _ W (ht.mono h))
  have H2 : Hid (∀ W, Below w.heap.size w W → Calls Tryd.prog 24 #[.string x.1.pa] W (BoolPost W q2)) := Hd (fun W h => by rw [e2]; exact name_any _ W (ht.mono h))
  have H3 : Hid (∀ W, Below w.heap.size w W → Calls Tryd.prog 25 #[.slice x.2.f.o x.2.f.n x.2.f.c, .func (.func 24) #[] #[]] W (BoolPost W q3)) := Hd (fun W h => by rw [e3]; exact once_nmP (hx.hf.under h) (by have := hs.fl; omega) (fun s hs2 => by have := hs.fz s hs2; omega) (ht.mono h))
  have H4 : Hid (∀ W, Below w.heap.size w W → Calls Tryd.prog 25 #[.slice x.2.t.o x.2.t.n x.2.t.c, .func (.func 24) #[] #[]] W (BoolPost W q4)) := Hd (fun W h => by rw [e4]; exact once_nmP (hx.ht.under h) (by have := hs.tl; omega) (fun s hs2 => by have := hs.tz s hs2; omega) (ht.mono h))
  have N5 : Hid (∀ W, Below w.heap.size w W → Calls Tryd.prog 26 #[.slice x.2.c.o x.2.c.n x.2.c.c, .func (.func 27) #[] #[]] W (NamesPost W (x.1.cs.map CoP.nm))) := Hd (fun W h => named_co (hx.hc.under h) (by have := hs.cl; omega))
  have N6 : Hid (∀ W, Below w.heap.size w W → Calls Tryd.prog 29 #[.slice x.2.p.o x.2.p.n x.2.p.c, .func (.func 30) #[] #[]] W (NamesPost W (x.1.ps.map PrP.nm))) := Hd (fun W h => named_pr (hx.hp.under h) (by have := hs.pl; omega))
  have N7 : Hid (∀ W, Below w.heap.size w W → Calls Tryd.prog 31 #[.slice x.2.m.o x.2.m.n x.2.m.c, .func (.func 21) #[] #[]] W (NamesPost W (x.1.ms.map MtP.nm))) := Hd (fun W h => named_mt (hx.hm.under h) (by have := hs.ml; omega))
  have O5 : Hid (∀ W0 W a L c, Below w.heap.size w W → OR W0 W 9 1 (.slice a L c) ((x.1.cs.map CoP.nm).map sR) → Calls Tryd.prog 25 #[.slice a L c, .func (.func 28) #[] #[]] W (BoolPost W q5)) := Hd (fun W0 W a L c h ho => by rw [e5]; exact once_wordP (RIn.of_owns (A := AnyB) ho.own (fun _ _ => trivial)) (by have := hs.cl; rw [List.length_map]; omega) (fun s hs2 => by obtain ⟨y, hy, rfl⟩ := List.mem_map.1 hs2; have := hs.cz y hy; omega) (ht.mono h))
  have O6 : Hid (∀ W0 W a L c, Below w.heap.size w W → OR W0 W 9 1 (.slice a L c) ((x.1.ps.map PrP.nm).map sR) → Calls Tryd.prog 25 #[.slice a L c, .func (.func 28) #[] #[]] W (BoolPost W q6)) := Hd (fun W0 W a L c h ho => by rw [e6]; exact once_wordP (RIn.of_owns (A := AnyB) ho.own (fun _ _ => trivial)) (by have := hs.pl; rw [List.length_map]; omega) (fun s hs2 => by obtain ⟨y, hy, rfl⟩ := List.mem_map.1 hs2; have := hs.pz y hy; omega) (ht.mono h))
  have O7 : Hid (∀ W0 W a L c, Below w.heap.size w W → OR W0 W 9 1 (.slice a L c) ((x.1.ms.map MtP.nm).map sR) → Calls Tryd.prog 25 #[.slice a L c, .func (.func 28) #[] #[]] W (BoolPost W q7)) := Hd (fun W0 W a L c h ho => by rw [e7]; exact once_wordP (RIn.of_owns (A := AnyB) ho.own (fun _ _ => trivial)) (by have := hs.ml; rw [List.length_map]; omega) (fun s hs2 => by obtain ⟨y, hy, rfl⟩ := List.mem_map.1 hs2; have := hs.mz y hy; omega) (ht.mono h))
  have H8 : Hid (∀ W, Below w.heap.size w W → Calls Tryd.prog 32 #[.slice x.2.a.o x.2.a.n x.2.a.c, .func (.func 33) #[] #[]] W (BoolPost W q8)) := Hd (fun W h => by rw [e8]; exact any_ad33 (ht.mono h) (hx.ha.kept fun g hA hg => ⟨h.block g hg, Nat.lt_of_lt_of_le hg h.size, hA⟩) (fun a ha => by have := (hs.oz a ha).1; omega) (by have := hs.al; omega))
  have H9 : Hid (∀ W, Below w.heap.size w W → Calls Tryd.prog 35 #[.slice x.2.m.o x.2.m.n x.2.m.c, .func (.func 36) #[] #[]] W (BoolPost W q9)) := Hd (fun W h => by rw [e9]; exact any_m36 (hx.hm.under h) (by have := hs.ml; omega))
  have H10 : Hid (∀ W, Below w.heap.size w W → Calls Tryd.prog 35 #[.slice x.2.m.o x.2.m.n x.2.m.c, .func (.func 37) #[] #[]] W (BoolPost W q10)) := Hd (fun W h => by rw [e10]; exact any_m37 (hx.hm.under h) (by have := hs.ml; omega))
  have H11 : Hid (∀ W, Below w.heap.size w W → Calls Tryd.prog 35 #[.slice x.2.m.o x.2.m.n x.2.m.c, .func (.func 38) #[] #[]] W (BoolPost W q11)) := Hd (fun W h => by rw [e11]; exact any_m38 (hx.hm.under h) (by have := hs.ml; omega))
  rw [← hkd, ← hab, ← hfi] at S0 ⊢
  clear hx hs ht nf nt nc np na e1 e2 e3 e4 e5 e6 e7 e8 e9 e10 e11 hkd hab hfi hr
  have b0 := cB S0.out.a 0; have b1 := cB S0.out.a 1; have b2 := cB S0.out.a 2; have b3 := cB S0.out.a 3; have b4 := cB S0.out.a 4; have b5 := cB S0.out.a 5; have b6 := cB S0.out.a 6; have b7 := cB S0.out.a 7; have b8 := cB S0.out.a 8; have b9 := cB S0.out.a 9; have b10 := cB S0.out.a 10
  go_enter Tryd.func10, Tryd.ntmps10
  go_wp2_with fail
  refine (H1.out _ S0.out.below).mono ?_
  rintro _ _ ⟨rfl, hb⟩
  have S1 := Hd (S0.out.mono hb)
  clear hb b0 b1 b2 b3 b4 b5 b6 b7 b8 b9 b10
  have b0 := cB S1.out.a 0; have b1 := cB S1.out.a 1; have b2 := cB S1.out.a 2; have b3 := cB S1.out.a 3; have b4 := cB S1.out.a 4; have b5 := cB S1.out.a 5; have b6 := cB S1.out.a 6; have b7 := cB S1.out.a 7; have b8 := cB S1.out.a 8; have b9 := cB S1.out.a 9; have b10 := cB S1.out.a 10
  cases q1 with
  | false =>
    have hrf : r = false := HR.out
    subst hrf
    go_wp2_with fail
    go_ret
    exact ⟨rfl, S1.out.below⟩
  | true =>
    cases ep with
    | true =>
      go_wp2_with fail
      refine (H3.out _ S1.out.below).mono ?_
      rintro _ _ ⟨rfl, hb⟩
      have S3 := Hd (S1.out.mono hb)
      clear hb b0 b1 b2 b3 b4 b5 b6 b7 b8 b9 b10
      have b0 := cB S3.out.a 0; have b1 := cB S3.out.a 1; have b2 := cB S3.out.a 2; have b3 := cB S3.out.a 3; have b4 := cB S3.out.a 4; have b5 := cB S3.out.a 5; have b6 := cB S3.out.a 6; have b7 := cB S3.out.a 7; have b8 := cB S3.out.a 8; have b9 := cB S3.out.a 9; have b10 := cB S3.out.a 10
      cases q3 with
      | false =>
        have hrf : r = false := HR.out
        subst hrf
        go_wp2_with fail
        go_ret
        exact ⟨rfl, S3.out.below⟩
      | true =>
        go_wp2_with fail
        refine (H4.out _ S3.out.below).mono ?_
        rintro _ _ ⟨rfl, hb⟩
        have S4 := Hd (S3.out.mono hb)
        clear hb b0 b1 b2 b3 b4 b5 b6 b7 b8 b9 b10
        have b0 := cB S4.out.a 0; have b1 := cB S4.out.a 1; have b2 := cB S4.out.a 2; have b3 := cB S4.out.a 3; have b4 := cB S4.out.a 4; have b5 := cB S4.out.a 5; have b6 := cB S4.out.a 6; have b7 := cB S4.out.a 7; have b8 := cB S4.out.a 8; have b9 := cB S4.out.a 9; have b10 := cB S4.out.a 10
        cases q4 with
        | false =>
          have hrf : r = false := HR.out
          subst hrf
          go_wp2_with fail
          go_ret
          exact ⟨rfl, S4.out.below⟩
        | true =>
          go_wp2_with fail
          refine (N5.out _ S4.out.below).mono ?_
          rintro _ _ ⟨na, nl, nc, rfl, ho⟩
          have S4n := Hd (S4.out.mono ho.below)
          have HO := Hd ho
          clear ho b0 b1 b2 b3 b4 b5 b6 b7 b8 b9 b10
          have b0 := cB S4n.out.a 0; have b1 := cB S4n.out.a 1; have b2 := cB S4n.out.a 2; have b3 := cB S4n.out.a 3; have b4 := cB S4n.out.a 4; have b5 := cB S4n.out.a 5; have b6 := cB S4n.out.a 6; have b7 := cB S4n.out.a 7; have b8 := cB S4n.out.a 8; have b9 := cB S4n.out.a 9; have b10 := cB S4n.out.a 10
          go_wp2_with fail
          refine (O5.out _ _ _ _ _ S4n.out.below HO.out).mono ?_
          rintro _ _ ⟨rfl, hb⟩
          have S5 := Hd (S4n.out.mono hb)
          clear hb HO b0 b1 b2 b3 b4 b5 b6 b7 b8 b9 b10
          have b0 := cB S5.out.a 0; have b1 := cB S5.out.a 1; have b2 := cB S5.out.a 2; have b3 := cB S5.out.a 3; have b4 := cB S5.out.a 4; have b5 := cB S5.out.a 5; have b6 := cB S5.out.a 6; have b7 := cB S5.out.a 7; have b8 := cB S5.out.a 8; have b9 := cB S5.out.a 9; have b10 := cB S5.out.a 10
          cases q5 with
          | false =>
            have hrf : r = false := HR.out
            subst hrf
            go_wp2_with fail
            go_ret
            exact ⟨rfl, S5.out.below⟩
          | true =>
            go_wp2_with fail
            refine (N6.out _ S5.out.below).mono ?_
            rintro _ _ ⟨na, nl, nc, rfl, ho⟩
            have S5n := Hd (S5.out.mono ho.below)
            have HO := Hd ho
            clear ho b0 b1 b2 b3 b4 b5 b6 b7 b8 b9 b10
            have b0 := cB S5n.out.a 0; have b1 := cB S5n.out.a 1; have b2 := cB S5n.out.a 2; have b3 := cB S5n.out.a 3; have b4 := cB S5n.out.a 4; have b5 := cB S5n.out.a 5; have b6 := cB S5n.out.a 6; have b7 := cB S5n.out.a 7; have b8 := cB S5n.out.a 8; have b9 := cB S5n.out.a 9; have b10 := cB S5n.out.a 10
            go_wp2_with fail
            refine (O6.out _ _ _ _ _ S5n.out.below HO.out).mono ?_
            rintro _ _ ⟨rfl, hb⟩
            have S6 := Hd (S5n.out.mono hb)
            clear hb HO b0 b1 b2 b3 b4 b5 b6 b7 b8 b9 b10
            have b0 := cB S6.out.a 0; have b1 := cB S6.out.a 1; have b2 := cB S6.out.a 2; have b3 := cB S6.out.a 3; have b4 := cB S6.out.a 4; have b5 := cB S6.out.a 5; have b6 := cB S6.out.a 6; have b7 := cB S6.out.a 7; have b8 := cB S6.out.a 8; have b9 := cB S6.out.a 9; have b10 := cB S6.out.a 10
            cases q6 with
            | false =>
              have hrf : r = false := HR.out
              subst hrf
              go_wp2_with fail
              go_ret
              exact ⟨rfl, S6.out.below⟩
            | true =>
              go_wp2_with fail
              refine (N7.out _ S6.out.below).mono ?_
              rintro _ _ ⟨na, nl, nc, rfl, ho⟩
              have S6n := Hd (S6.out.mono ho.below)
              have HO := Hd ho
              clear ho b0 b1 b2 b3 b4 b5 b6 b7 b8 b9 b10
              have b0 := cB S6n.out.a 0; have b1 := cB S6n.out.a 1; have b2 := cB S6n.out.a 2; have b3 := cB S6n.out.a 3; have b4 := cB S6n.out.a 4; have b5 := cB S6n.out.a 5; have b6 := cB S6n.out.a 6; have b7 := cB S6n.out.a 7; have b8 := cB S6n.out.a 8; have b9 := cB S6n.out.a 9; have b10 := cB S6n.out.a 10
              go_wp2_with fail
              refine (O7.out _ _ _ _ _ S6n.out.below HO.out).mono ?_
              rintro _ _ ⟨rfl, hb⟩
              have S7 := Hd (S6n.out.mono hb)
              clear hb HO b0 b1 b2 b3 b4 b5 b6 b7 b8 b9 b10
              have b0 := cB S7.out.a 0; have b1 := cB S7.out.a 1; have b2 := cB S7.out.a 2; have b3 := cB S7.out.a 3; have b4 := cB S7.out.a 4; have b5 := cB S7.out.a 5; have b6 := cB S7.out.a 6; have b7 := cB S7.out.a 7; have b8 := cB S7.out.a 8; have b9 := cB S7.out.a 9; have b10 := cB S7.out.a 10
              cases q7 with
              | false =>
                have hrf : r = false := HR.out
                subst hrf
                go_wp2_with fail
                go_ret
                exact ⟨rfl, S7.out.below⟩
              | true =>
                go_wp2_with fail
                refine (H8.out _ S7.out.below).mono ?_
                rintro _ _ ⟨rfl, hb⟩
                have S8 := Hd (S7.out.mono hb)
                clear hb b0 b1 b2 b3 b4 b5 b6 b7 b8 b9 b10
                have b0 := cB S8.out.a 0; have b1 := cB S8.out.a 1; have b2 := cB S8.out.a 2; have b3 := cB S8.out.a 3; have b4 := cB S8.out.a 4; have b5 := cB S8.out.a 5; have b6 := cB S8.out.a 6; have b7 := cB S8.out.a 7; have b8 := cB S8.out.a 8; have b9 := cB S8.out.a 9; have b10 := cB S8.out.a 10
                cases q8 with
                | true =>
                  have hrf : r = false := HR.out
                  subst hrf
                  go_wp2_with fail
                  go_ret
                  exact ⟨rfl, S8.out.below⟩
                | false =>
                  go_wp2_with fail
                  refine (H9.out _ S8.out.below).mono ?_
                  rintro _ _ ⟨rfl, hb⟩
                  have S9 := Hd (S8.out.mono hb)
                  clear hb b0 b1 b2 b3 b4 b5 b6 b7 b8 b9 b10
                  have b0 := cB S9.out.a 0; have b1 := cB S9.out.a 1; have b2 := cB S9.out.a 2; have b3 := cB S9.out.a 3; have b4 := cB S9.out.a 4; have b5 := cB S9.out.a 5; have b6 := cB S9.out.a 6; have b7 := cB S9.out.a 7; have b8 := cB S9.out.a 8; have b9 := cB S9.out.a 9; have b10 := cB S9.out.a 10
                  cases q9 with
                  | true =>
                    have hrf : r = false := HR.out
                    subst hrf
                    go_wp2_with fail
                    go_ret
                    exact ⟨rfl, S9.out.below⟩
                  | false =>
                    go_wp2_with fail
                    refine (H10.out _ S9.out.below).mono ?_
                    rintro _ _ ⟨rfl, hb⟩
                    have S10 := Hd (S9.out.mono hb)
                    clear hb b0 b1 b2 b3 b4 b5 b6 b7 b8 b9 b10
                    have b0 := cB S10.out.a 0; have b1 := cB S10.out.a 1; have b2 := cB S10.out.a 2; have b3 := cB S10.out.a 3; have b4 := cB S10.out.a 4; have b5 := cB S10.out.a 5; have b6 := cB S10.out.a 6; have b7 := cB S10.out.a 7; have b8 := cB S10.out.a 8; have b9 := cB S10.out.a 9; have b10 := cB S10.out.a 10
                    go_wp2_with fail
                    refine (H11.out _ S10.out.below).mono ?_
                    rintro _ _ ⟨rfl, hb⟩
                    have S11 := Hd (S10.out.mono hb)
                    clear hb b0 b1 b2 b3 b4 b5 b6 b7 b8 b9 b10
                    have b0 := cB S11.out.a 0; have b1 := cB S11.out.a 1; have b2 := cB S11.out.a 2; have b3 := cB S11.out.a 3; have b4 := cB S11.out.a 4; have b5 := cB S11.out.a 5; have b6 := cB S11.out.a 6; have b7 := cB S11.out.a 7; have b8 := cB S11.out.a 8; have b9 := cB S11.out.a 9; have b10 := cB S11.out.a 10
                    have HK : Hid (r = kindP kd ab fi true q10 q11 p0 t0 a0 f0 c0) := Hd HR.out
                    have HB := Hd S11.out.below
                    clear HR H1 H2 H3 H4 N5 N6 N7 O5 O6 O7 H8 H9 H10 H11
                    by_cases k1 : kd = 1
                    · subst k1
                      cases ab <;> cases fi <;> cases q10
                      all_goals
                        have hrk := HK.out
                        simp [kindP] at hrk
                        subst hrk
                        go_wp2_with fail
                        go_ret
                        exact ⟨rfl, HB.out⟩
                    have k1' : (kd == 1) = false := by simpa using k1
                    by_cases k2 : kd = 2
                    · subst k2
                      cases ab <;> cases fi
                      all_goals
                        first
                          | (have hrk : r = false := HK.out
                             subst hrk
                             go_wp2_with fail
                             go_ret
                             exact ⟨rfl, HB.out⟩)
                          | (cases p0 <;> cases t0 <;> cases a0 <;> cases q11
                             all_goals
                               have hrk := HK.out
                               simp [kindP] at hrk
                               subst hrk
                               go_wp2_with fail
                               go_ret
                               exact ⟨rfl, HB.out⟩)
                    have k2' : (kd == 2) = false := by simpa using k2
                    by_cases k3 : kd = 3
                    · subst k3
                      cases ab <;> cases fi
                      all_goals
                        first
                          | (have hrk : r = false := HK.out
                             subst hrk
                             go_wp2_with fail
                             go_ret
                             exact ⟨rfl, HB.out⟩)
                          | (cases f0 <;> cases c0
                             all_goals
                               have hrk := HK.out
                               simp [kindP] at hrk
                               subst hrk
                               go_wp2_with fail
                               go_ret
                               exact ⟨rfl, HB.out⟩)
                    have k3' : (kd == 3) = false := by simpa using k3
                    have hrk : r = false := by rw [HK.out, kindP, if_neg k1, if_neg k2, if_neg k3]
                    subst hrk
                    clear k1 k2 k3
                    cases ab <;> cases fi
                    all_goals
                      go_wp2_with fail
                      go_ret
                      exact ⟨rfl, HB.out⟩
    | false =>
      go_wp2_with fail
      refine (H2.out _ S1.out.below).mono ?_
      rintro _ _ ⟨rfl, hb⟩
      have S2 := Hd (S1.out.mono hb)
      clear hb b0 b1 b2 b3 b4 b5 b6 b7 b8 b9 b10
      have b0 := cB S2.out.a 0; have b1 := cB S2.out.a 1; have b2 := cB S2.out.a 2; have b3 := cB S2.out.a 3; have b4 := cB S2.out.a 4; have b5 := cB S2.out.a 5; have b6 := cB S2.out.a 6; have b7 := cB S2.out.a 7; have b8 := cB S2.out.a 8; have b9 := cB S2.out.a 9; have b10 := cB S2.out.a 10
      cases q2 with
      | false =>
        have hrf : r = false := HR.out
        subst hrf
        go_wp2_with fail
        go_ret
        exact ⟨rfl, S2.out.below⟩
      | true =>
        go_wp2_with fail
        refine (H3.out _ S2.out.below).mono ?_
        rintro _ _ ⟨rfl, hb⟩
        have S3 := Hd (S2.out.mono hb)
        clear hb b0 b1 b2 b3 b4 b5 b6 b7 b8 b9 b10
        have b0 := cB S3.out.a 0; have b1 := cB S3.out.a 1; have b2 := cB S3.out.a 2; have b3 := cB S3.out.a 3; have b4 := cB S3.out.a 4; have b5 := cB S3.out.a 5; have b6 := cB S3.out.a 6; have b7 := cB S3.out.a 7; have b8 := cB S3.out.a 8; have b9 := cB S3.out.a 9; have b10 := cB S3.out.a 10
        cases q3 with
        | false =>
          have hrf : r = false := HR.out
          subst hrf
          go_wp2_with fail
          go_ret
          exact ⟨rfl, S3.out.below⟩
        | true =>
          go_wp2_with fail
          refine (H4.out _ S3.out.below).mono ?_
          rintro _ _ ⟨rfl, hb⟩
          have S4 := Hd (S3.out.mono hb)
          clear hb b0 b1 b2 b3 b4 b5 b6 b7 b8 b9 b10
          have b0 := cB S4.out.a 0; have b1 := cB S4.out.a 1; have b2 := cB S4.out.a 2; have b3 := cB S4.out.a 3; have b4 := cB S4.out.a 4; have b5 := cB S4.out.a 5; have b6 := cB S4.out.a 6; have b7 := cB S4.out.a 7; have b8 := cB S4.out.a 8; have b9 := cB S4.out.a 9; have b10 := cB S4.out.a 10
          cases q4 with
          | false =>
            have hrf : r = false := HR.out
            subst hrf
            go_wp2_with fail
            go_ret
            exact ⟨rfl, S4.out.below⟩
          | true =>
            go_wp2_with fail
            refine (N5.out _ S4.out.below).mono ?_
            rintro _ _ ⟨na, nl, nc, rfl, ho⟩
            have S4n := Hd (S4.out.mono ho.below)
            have HO := Hd ho
            clear ho b0 b1 b2 b3 b4 b5 b6 b7 b8 b9 b10
            have b0 := cB S4n.out.a 0; have b1 := cB S4n.out.a 1; have b2 := cB S4n.out.a 2; have b3 := cB S4n.out.a 3; have b4 := cB S4n.out.a 4; have b5 := cB S4n.out.a 5; have b6 := cB S4n.out.a 6; have b7 := cB S4n.out.a 7; have b8 := cB S4n.out.a 8; have b9 := cB S4n.out.a 9; have b10 := cB S4n.out.a 10
            go_wp2_with fail
            refine (O5.out _ _ _ _ _ S4n.out.below HO.out).mono ?_
            rintro _ _ ⟨rfl, hb⟩
            have S5 := Hd (S4n.out.mono hb)
            clear hb HO b0 b1 b2 b3 b4 b5 b6 b7 b8 b9 b10
            have b0 := cB S5.out.a 0; have b1 := cB S5.out.a 1; have b2 := cB S5.out.a 2; have b3 := cB S5.out.a 3; have b4 := cB S5.out.a 4; have b5 := cB S5.out.a 5; have b6 := cB S5.out.a 6; have b7 := cB S5.out.a 7; have b8 := cB S5.out.a 8; have b9 := cB S5.out.a 9; have b10 := cB S5.out.a 10
            cases q5 with
            | false =>
              have hrf : r = false := HR.out
              subst hrf
              go_wp2_with fail
              go_ret
              exact ⟨rfl, S5.out.below⟩
            | true =>
              go_wp2_with fail
              refine (N6.out _ S5.out.below).mono ?_
              rintro _ _ ⟨na, nl, nc, rfl, ho⟩
              have S5n := Hd (S5.out.mono ho.below)
              have HO := Hd ho
              clear ho b0 b1 b2 b3 b4 b5 b6 b7 b8 b9 b10
              have b0 := cB S5n.out.a 0; have b1 := cB S5n.out.a 1; have b2 := cB S5n.out.a 2; have b3 := cB S5n.out.a 3; have b4 := cB S5n.out.a 4; have b5 := cB S5n.out.a 5; have b6 := cB S5n.out.a 6; have b7 := cB S5n.out.a 7; have b8 := cB S5n.out.a 8; have b9 := cB S5n.out.a 9; have b10 := cB S5n.out.a 10
              go_wp2_with fail
              refine (O6.out _ _ _ _ _ S5n.out.below HO.out).mono ?_
              rintro _ _ ⟨rfl, hb⟩
              have S6 := Hd (S5n.out.mono hb)
              clear hb HO b0 b1 b2 b3 b4 b5 b6 b7 b8 b9 b10
              have b0 := cB S6.out.a 0; have b1 := cB S6.out.a 1; have b2 := cB S6.out.a 2; have b3 := cB S6.out.a 3; have b4 := cB S6.out.a 4; have b5 := cB S6.out.a 5; have b6 := cB S6.out.a 6; have b7 := cB S6.out.a 7; have b8 := cB S6.out.a 8; have b9 := cB S6.out.a 9; have b10 := cB S6.out.a 10
              cases q6 with
              | false =>
                have hrf : r = false := HR.out
                subst hrf
                go_wp2_with fail
                go_ret
                exact ⟨rfl, S6.out.below⟩
              | true =>
                go_wp2_with fail
                refine (N7.out _ S6.out.below).mono ?_
                rintro _ _ ⟨na, nl, nc, rfl, ho⟩
                have S6n := Hd (S6.out.mono ho.below)
                have HO := Hd ho
                clear ho b0 b1 b2 b3 b4 b5 b6 b7 b8 b9 b10
                have b0 := cB S6n.out.a 0; have b1 := cB S6n.out.a 1; have b2 := cB S6n.out.a 2; have b3 := cB S6n.out.a 3; have b4 := cB S6n.out.a 4; have b5 := cB S6n.out.a 5; have b6 := cB S6n.out.a 6; have b7 := cB S6n.out.a 7; have b8 := cB S6n.out.a 8; have b9 := cB S6n.out.a 9; have b10 := cB S6n.out.a 10
                go_wp2_with fail
                refine (O7.out _ _ _ _ _ S6n.out.below HO.out).mono ?_
                rintro _ _ ⟨rfl, hb⟩
                have S7 := Hd (S6n.out.mono hb)
                clear hb HO b0 b1 b2 b3 b4 b5 b6 b7 b8 b9 b10
                have b0 := cB S7.out.a 0; have b1 := cB S7.out.a 1; have b2 := cB S7.out.a 2; have b3 := cB S7.out.a 3; have b4 := cB S7.out.a 4; have b5 := cB S7.out.a 5; have b6 := cB S7.out.a 6; have b7 := cB S7.out.a 7; have b8 := cB S7.out.a 8; have b9 := cB S7.out.a 9; have b10 := cB S7.out.a 10
                cases q7 with
                | false =>
                  have hrf : r = false := HR.out
                  subst hrf
                  go_wp2_with fail
                  go_ret
                  exact ⟨rfl, S7.out.below⟩
                | true =>
                  go_wp2_with fail
                  refine (H8.out _ S7.out.below).mono ?_
                  rintro _ _ ⟨rfl, hb⟩
                  have S8 := Hd (S7.out.mono hb)
                  clear hb b0 b1 b2 b3 b4 b5 b6 b7 b8 b9 b10
                  have b0 := cB S8.out.a 0; have b1 := cB S8.out.a 1; have b2 := cB S8.out.a 2; have b3 := cB S8.out.a 3; have b4 := cB S8.out.a 4; have b5 := cB S8.out.a 5; have b6 := cB S8.out.a 6; have b7 := cB S8.out.a 7; have b8 := cB S8.out.a 8; have b9 := cB S8.out.a 9; have b10 := cB S8.out.a 10
                  cases q8 with
                  | true =>
                    have hrf : r = false := HR.out
                    subst hrf
                    go_wp2_with fail
                    go_ret
                    exact ⟨rfl, S8.out.below⟩
                  | false =>
                    go_wp2_with fail
                    refine (H9.out _ S8.out.below).mono ?_
                    rintro _ _ ⟨rfl, hb⟩
                    have S9 := Hd (S8.out.mono hb)
                    clear hb b0 b1 b2 b3 b4 b5 b6 b7 b8 b9 b10
                    have b0 := cB S9.out.a 0; have b1 := cB S9.out.a 1; have b2 := cB S9.out.a 2; have b3 := cB S9.out.a 3; have b4 := cB S9.out.a 4; have b5 := cB S9.out.a 5; have b6 := cB S9.out.a 6; have b7 := cB S9.out.a 7; have b8 := cB S9.out.a 8; have b9 := cB S9.out.a 9; have b10 := cB S9.out.a 10
                    cases q9 with
                    | true =>
                      have hrf : r = false := HR.out
                      subst hrf
                      go_wp2_with fail
                      go_ret
                      exact ⟨rfl, S9.out.below⟩
                    | false =>
                      go_wp2_with fail
                      refine (H10.out _ S9.out.below).mono ?_
                      rintro _ _ ⟨rfl, hb⟩
                      have S10 := Hd (S9.out.mono hb)
                      clear hb b0 b1 b2 b3 b4 b5 b6 b7 b8 b9 b10
                      have b0 := cB S10.out.a 0; have b1 := cB S10.out.a 1; have b2 := cB S10.out.a 2; have b3 := cB S10.out.a 3; have b4 := cB S10.out.a 4; have b5 := cB S10.out.a 5; have b6 := cB S10.out.a 6; have b7 := cB S10.out.a 7; have b8 := cB S10.out.a 8; have b9 := cB S10.out.a 9; have b10 := cB S10.out.a 10
                      go_wp2_with fail
                      refine (H11.out _ S10.out.below).mono ?_
                      rintro _ _ ⟨rfl, hb⟩
                      have S11 := Hd (S10.out.mono hb)
                      clear hb b0 b1 b2 b3 b4 b5 b6 b7 b8 b9 b10
                      have b0 := cB S11.out.a 0; have b1 := cB S11.out.a 1; have b2 := cB S11.out.a 2; have b3 := cB S11.out.a 3; have b4 := cB S11.out.a 4; have b5 := cB S11.out.a 5; have b6 := cB S11.out.a 6; have b7 := cB S11.out.a 7; have b8 := cB S11.out.a 8; have b9 := cB S11.out.a 9; have b10 := cB S11.out.a 10
                      have HK : Hid (r = kindP kd ab fi false q10 q11 p0 t0 a0 f0 c0) := Hd HR.out
                      have HB := Hd S11.out.below
                      clear HR H1 H2 H3 H4 N5 N6 N7 O5 O6 O7 H8 H9 H10 H11
                      by_cases k1 : kd = 1
                      · subst k1
                        cases ab <;> cases fi <;> cases q10
                        all_goals
                          have hrk := HK.out
                          simp [kindP] at hrk
                          subst hrk
                          go_wp2_with fail
                          go_ret
                          exact ⟨rfl, HB.out⟩
                      have k1' : (kd == 1) = false := by simpa using k1
                      by_cases k2 : kd = 2
                      · subst k2
                        cases ab <;> cases fi
                        all_goals
                          first
                            | (have hrk : r = false := HK.out
                               subst hrk
                               go_wp2_with fail
                               go_ret
                               exact ⟨rfl, HB.out⟩)
                            | (cases p0 <;> cases t0 <;> cases a0 <;> cases q11
                               all_goals
                                 have hrk := HK.out
                                 simp [kindP] at hrk
                                 subst hrk
                                 go_wp2_with fail
                                 go_ret
                                 exact ⟨rfl, HB.out⟩)
                      have k2' : (kd == 2) = false := by simpa using k2
                      by_cases k3 : kd = 3
                      · subst k3
                        cases ab <;> cases fi
                        all_goals
                          first
                            | (have hrk : r = false := HK.out
                               subst hrk
                               go_wp2_with fail
                               go_ret
                               exact ⟨rfl, HB.out⟩)
                            | (cases f0 <;> cases c0
                               all_goals
                                 have hrk := HK.out
                                 simp [kindP] at hrk
                                 subst hrk
                                 go_wp2_with fail
                                 go_ret
                                 exact ⟨rfl, HB.out⟩)
                      have k3' : (kd == 3) = false := by simpa using k3
                      have hrk : r = false := by rw [HK.out, kindP, if_neg k1, if_neg k2, if_neg k3]
                      subst hrk
                      clear k1 k2 k3
                      cases ab <;> cases fi
                      all_goals
                        go_wp2_with fail
                        go_ret
                        exact ⟨rfl, HB.out⟩
end Go.Proofs.YtobjmajkcfhpoaaDoor

namespace Go.Proofs.YtobjmajkcfhpoaaDoor
open Go.RowKit
attribute [local go_sem] yld_undef
theorem wpList_store_row {P : Program} {ops : Array Oper} {rest : List Oper} {op : Oper} {a : Act} {w : World} {Q : Exit → Act → World → Prop} (hgd : op.guard = none) (ty : TypeId) (x y : Operand) (ho : op.op = .store ty x y)
  (g : Nat) (cells : Array Value) (hx : a.eval x = .pointer (some ⟨g, 0, none⟩)) (hy : a.eval y = .agg cells)
  (t : TypeId) (old : Array Value) (hg : w.heap[g]? = some (.cells old t (0, 0))) (hi : (P.info? ty).map (·.size) = some cells.size)
  (hold : old.size = cells.size) (h1 : cells.all (·.oneCell') = true)
  (h : ∀ w', w'.heap[g]? = some (.cells cells t (0, 0)) → Mod (fun k => k = g) w w' → wpList P ops Q rest (a.put op.dst undef) w') : wpList P ops Q (op :: rest) a w :=
 wpList_plain hgd fun _ hK => wp_store_row ty x y ho g cells hx hy t old hg hi hold h1 (hK _ _ (h _ (setRow_heap _ _ _ _ _ _ hg) ⟨rfl, rfl, rfl, by simp, fun k _ hne => setRow_other _ _ _ _ hne⟩))
theorem size29 : (Tryd.prog.info? 29).map (·.size) = some 11 := by kernel_rfl
theorem size34 : (Tryd.prog.info? 34).map (·.size) = some 6 := by kernel_rfl
theorem mod_below' {w W0 w1 : World} {F : Nat → Prop} {g : Nat} (h : Below g w W0) (m : Mod F W0 w1) (hg : g ≤ W0.heap.size) (hF : ∀ k, F k → g ≤ k) : Below g w w1 :=
 ⟨m.os.trans h.os, m.tape.trans h.tape, m.output.trans h.output, Nat.le_trans h.size m.size, fun k hk => (m.block k (by omega) (fun e => by have := hF k e; omega)).trans (h.block k hk)⟩
def FindPost (w : World) (r : Option KC) (e : Ending) (w' : World) : Prop := Below w.heap.size w w' ∧ e = .returned (.tuple #[KC.v (r.getD KC.nil), .bool r.isSome])
def MethPost (w : World) (r : Option MtP) (e : Ending) (w' : World) : Prop := Below w.heap.size w w' ∧ e = .returned (.tuple #[MtP.v (r.getD ⟨⟨#[]⟩, false, false, false, ⟨#[]⟩, 0⟩), .bool r.isSome])
theorem fstP_some {α : Type} {p : α → Bool} {l : List α} {i : Nat} (h : idxP p l = some i) : fstP p l = l[i]? := by unfold fstP; rw [h]; rfl
theorem fstP_none {α : Type} {p : α → Bool} {l : List α} (h : idxP p l = none) : fstP p l = none := by unfold fstP; rw [h]; rfl
set_option maxHeartbeats 3200000 in
set_option maxRecDepth 100000 in
theorem find_any {A : Nat → Prop} {v : Value} {kn : List KC} {w : World} (s : ByteArray) (hv : RIn A w 11 v (kn.map KC.row)) (hl : kn.length ≤ 1073741824) :
  Calls Tryd.prog 14 #[v, .string s] w (FindPost w (findK kn s)) := by
 obtain ⟨ao, cap, rfl, -, -⟩ := hv.form; rw [List.length_map] at hv ⊢; obtain ⟨W, hW⟩ : ∃ W, W = (w.alloc (.cells #[.string s] 9)).alloc (.cells #[.string ⟨#[]⟩, .int .i64 0, .bool false, .bool false, .string ⟨#[]⟩, .slice none 0 0, .slice none 0 0, .slice none 0 0, .slice none 0 0, .slice none 0 0, .slice none 0 0] 29) := ⟨_, rfl⟩; have A2 := at2_start w (.cells #[.string s] 9) (.cells #[.string ⟨#[]⟩, .int .i64 0, .bool false, .bool false, .string ⟨#[]⟩, .slice none 0 0, .slice none 0 0, .slice none 0 0, .slice none 0 0, .slice none 0 0, .slice none 0 0] 29); rw [← hW] at A2; have HI := idx_find (w := W) s w.heap.size (cB A2.a 0) (hv.under A2.below) hl; have HA := Hd A2; have HW := Hd hW; have HV := Hd hv; obtain ⟨q, hq⟩ : ∃ q, q = idxP (fun x : KC => eqB x.1.nm s) kn := ⟨_, rfl⟩; rw [← hq] at HI; have HQ := Hd hq; clear hq hv A2 hW; go_enter Tryd.func14, Tryd.ntmps14; go_wp2_with fail; rw [← HW.out]; refine HI.mono ?_; rintro _ w1 ⟨rfl, hb1⟩; have A3 := Hd (HA.out.mono hb1); clear hb1 HI; cases q with
 | none =>
  have hn : idxI none < 0 := by decide
  have hrn : findK kn s = none := fstP_none HQ.out.symm; have HRN := Hd hrn; clear hrn; go_wp2_with (refine wpList_store_row rfl 29 (.tmp 4) (.tmp 12) rfl (w.heap.size + 1) #[.string ⟨#[]⟩, .int .i64 0, .bool false, .bool false, .string ⟨#[]⟩, .slice none 0 0, .slice none 0 0, .slice none 0 0, .slice none 0 0, .slice none 0 0, .slice none 0 0] (by rfl) (by rfl) 29 #[.string ⟨#[]⟩, .int .i64 0, .bool false, .bool false, .string ⟨#[]⟩, .slice none 0 0, .slice none 0 0, .slice none 0 0, .slice none 0 0, .slice none 0 0, .slice none 0 0] A3.out.b size29 rfl (by simp [Value.oneCell']) ?_; intro w2 hx2 hm2; have HX := Hd hx2; have HM := Hd hm2; clear hx2 hm2); go_wp2_with fail; have c0 := cB HX.out 0; have c1 := cB HX.out 1; have c2 := cB HX.out 2; have c3 := cB HX.out 3; have c4 := cB HX.out 4; have c5 := cB HX.out 5; have c6 := cB HX.out 6; have c7 := cB HX.out 7; have c8 := cB HX.out 8; have c9 := cB HX.out 9; have c10 := cB HX.out 10; exact bodyPost_ret (v := .tuple #[KC.v KC.nil, .bool false]) (by simp [results, Tryd.results14, go_sem, KC.v, KC.nil, ClP.nil, VS6.nil, c0, c1, c2, c3, c4, c5, c6, c7, c8, c9, c10]) rfl ⟨mod_below' A3.out.below HM.out A3.out.below.size (fun k e => by have e : k = w.heap.size + 1 := e; omega), by rw [HRN.out]; rfl⟩
 | some i =>
  obtain ⟨hi, -, -⟩ := idxP_some HQ.out.symm; obtain ⟨x, g, off, cp, hx, -, -, e, hg, -, hc⟩ := kc_cells HV.out hi; cases e; have hrn : findK kn s = some x := by rw [findK, fstP_some HQ.out.symm, hx]
  have HRN := Hd hrn; clear hrn; obtain ⟨d0, d1, d2, d3, d4, d5, d6, d7, d8, d9, d10⟩ := hc w1 A3.out.below; have hlt : (i : Int) < (kn.length : Int) := by omega
  have hii : idxI (some i) = (i : Int) := rfl; clear hx hc HQ; go_wp2_with (refine wpList_store_row rfl 29 (.tmp 4) (.tmp 16) rfl (w.heap.size + 1) #[.string x.1.nm, .int .i64 x.1.kd, .bool x.1.ab, .bool x.1.fi, .string x.1.pa, .slice x.2.f.o x.2.f.n x.2.f.c, .slice x.2.t.o x.2.t.n x.2.t.c, .slice x.2.a.o x.2.a.n x.2.a.c, .slice x.2.c.o x.2.c.n x.2.c.c, .slice x.2.p.o x.2.p.n x.2.p.c, .slice x.2.m.o x.2.m.n x.2.m.c] (by rfl) (by rfl) 29 #[.string ⟨#[]⟩, .int .i64 0, .bool false, .bool false, .string ⟨#[]⟩, .slice none 0 0, .slice none 0 0, .slice none 0 0, .slice none 0 0, .slice none 0 0, .slice none 0 0] A3.out.b size29 rfl (by simp [Value.oneCell']) ?_; intro w2 hx2 hm2; have HX := Hd hx2; have HM := Hd hm2; clear hx2 hm2); go_wp2_with fail; have c0 := cB HX.out 0; have c1 := cB HX.out 1; have c2 := cB HX.out 2; have c3 := cB HX.out 3; have c4 := cB HX.out 4; have c5 := cB HX.out 5; have c6 := cB HX.out 6; have c7 := cB HX.out 7; have c8 := cB HX.out 8; have c9 := cB HX.out 9; have c10 := cB HX.out 10; exact bodyPost_ret (v := .tuple #[KC.v x, .bool true]) (by simp [results, Tryd.results14, go_sem, KC.v, c0, c1, c2, c3, c4, c5, c6, c7, c8, c9, c10]) rfl ⟨mod_below' A3.out.below HM.out A3.out.below.size (fun k e => by have e : k = w.heap.size + 1 := e; omega), by rw [HRN.out]; rfl⟩
set_option maxHeartbeats 3200000 in
set_option maxRecDepth 100000 in
theorem method_any {A : Nat → Prop} {x : KC} {w : World} (s : ByteArray) (hx : ClIn A w x.1 x.2) (hl : x.1.ms.length ≤ 1073741824) :
  Calls Tryd.prog 6 #[.agg #[.string x.1.nm, .int .i64 x.1.kd, .bool x.1.ab, .bool x.1.fi, .string x.1.pa, .slice x.2.f.o x.2.f.n x.2.f.c, .slice x.2.t.o x.2.t.n x.2.t.c, .slice x.2.a.o x.2.a.n x.2.a.c, .slice x.2.c.o x.2.c.n x.2.c.c, .slice x.2.p.o x.2.p.n x.2.p.c, .slice x.2.m.o x.2.m.n x.2.m.c], .string s] w (MethPost w (methP x.1.ms s)) := by
 obtain ⟨W, hW⟩ : ∃ W, W = (w.alloc (.cells #[.string x.1.nm, .int .i64 x.1.kd, .bool x.1.ab, .bool x.1.fi, .string x.1.pa, .slice x.2.f.o x.2.f.n x.2.f.c, .slice x.2.t.o x.2.t.n x.2.t.c, .slice x.2.a.o x.2.a.n x.2.a.c, .slice x.2.c.o x.2.c.n x.2.c.c, .slice x.2.p.o x.2.p.n x.2.p.c, .slice x.2.m.o x.2.m.n x.2.m.c] 29)).alloc (.cells #[.string ⟨#[]⟩, .bool false, .bool false, .bool false, .string ⟨#[]⟩, .int .i64 0] 34) := ⟨_, rfl⟩; have A2 := at2_start w (.cells #[.string x.1.nm, .int .i64 x.1.kd, .bool x.1.ab, .bool x.1.fi, .string x.1.pa, .slice x.2.f.o x.2.f.n x.2.f.c, .slice x.2.t.o x.2.t.n x.2.t.c, .slice x.2.a.o x.2.a.n x.2.a.c, .slice x.2.c.o x.2.c.n x.2.c.c, .slice x.2.p.o x.2.p.n x.2.p.c, .slice x.2.m.o x.2.m.n x.2.m.c] 29) (.cells #[.string ⟨#[]⟩, .bool false, .bool false, .bool false, .string ⟨#[]⟩, .int .i64 0] 34); rw [← hW] at A2; have hv := hx.hm; obtain ⟨ao, cap, hvf, -, -⟩ := hv.form; have HI := place_mt (w := W) s (hv.under A2.below) hl; have HA := Hd A2; have HW := Hd hW; have HV := Hd hv; obtain ⟨q, hq⟩ : ∃ q, q = placeM x.1.ms s := ⟨_, rfl⟩; rw [← hq] at HI; have HQ := Hd hq; have z0 := cB A2.a 0; have z1 := cB A2.a 1; have z2 := cB A2.a 2; have z3 := cB A2.a 3; have z4 := cB A2.a 4; have z5 := cB A2.a 5; have z6 := cB A2.a 6; have z7 := cB A2.a 7; have z8 := cB A2.a 8; have z9 := cB A2.a 9; have z10 := cB A2.a 10; rw [hW] at z10; clear hq hv A2 hx hvf z0 z1 z2 z3 z4 z5 z6 z7 z8 z9; go_enter Tryd.func6, Tryd.ntmps6; go_wp2_with fail; rw [← HW.out]; refine HI.mono ?_
 rintro _ w1 ⟨rfl, hb1⟩; have A3 := Hd (HA.out.mono hb1); have z10 := cB A3.out.a 10; clear hb1 HI; cases q with
 | none =>
  have hn : idxI none < 0 := by decide
  have HRN : Hid (methP x.1.ms s = none) := Hd (fstP_none HQ.out.symm); go_wp2_with (refine wpList_store_row rfl 34 (.tmp 4) (.tmp 13) rfl (w.heap.size + 1) #[.string ⟨#[]⟩, .bool false, .bool false, .bool false, .string ⟨#[]⟩, .int .i64 0] (by rfl) (by rfl) 34 #[.string ⟨#[]⟩, .bool false, .bool false, .bool false, .string ⟨#[]⟩, .int .i64 0] A3.out.b size34 rfl (by simp [Value.oneCell']) ?_; intro w2 hx2 hm2; have HX := Hd hx2; have HM := Hd hm2; clear hx2 hm2); go_wp2_with fail; have c0 := cB HX.out 0; have c1 := cB HX.out 1; have c2 := cB HX.out 2; have c3 := cB HX.out 3; have c4 := cB HX.out 4; have c5 := cB HX.out 5; exact bodyPost_ret (v := .tuple #[MtP.v ⟨⟨#[]⟩, false, false, false, ⟨#[]⟩, 0⟩, .bool false]) (by simp [results, Tryd.results6, go_sem, MtP.v, c0, c1, c2, c3, c4, c5]) rfl ⟨mod_below' A3.out.below HM.out A3.out.below.size (fun k e => by have e : k = w.heap.size + 1 := e; omega), by rw [HRN.out]; rfl⟩
 | some i =>
  obtain ⟨hi, -, -⟩ := idxP_some HQ.out.symm; obtain ⟨m, g, off, cp, hx, -, -, e, hg, -, hc⟩ := mt_cells HV.out hi; have HRN : Hid (methP x.1.ms s = some m) := Hd (by rw [methP, fstP_some HQ.out.symm, hx]); obtain ⟨d0, d1, d2, d3, d4, d5⟩ := hc w1 A3.out.below; simp only [Value.slice.injEq] at e; obtain ⟨e1, e2, e3⟩ := e; rw [e1, e2] at z10; have hlt : (i : Int) < (x.1.ms.length : Int) := by omega
  have hii : idxI (some i) = (i : Int) := rfl; clear hx hc HQ; go_wp2_with (refine wpList_store_row rfl 34 (.tmp 4) (.tmp 18) rfl (w.heap.size + 1) #[.string m.nm, .bool m.st, .bool m.ab, .bool m.fi, .string m.fr, .int .i64 m.cd] (by rfl) (by rfl) 34 #[.string ⟨#[]⟩, .bool false, .bool false, .bool false, .string ⟨#[]⟩, .int .i64 0] A3.out.b size34 rfl (by simp [Value.oneCell']) ?_; intro w2 hx2 hm2; have HX := Hd hx2; have HM := Hd hm2; clear hx2 hm2); go_wp2_with fail; have c0 := cB HX.out 0; have c1 := cB HX.out 1; have c2 := cB HX.out 2; have c3 := cB HX.out 3; have c4 := cB HX.out 4; have c5 := cB HX.out 5; exact bodyPost_ret (v := .tuple #[MtP.v m, .bool true]) (by simp [results, Tryd.results6, go_sem, MtP.v, c0, c1, c2, c3, c4, c5]) rfl ⟨mod_below' A3.out.below HM.out A3.out.below.size (fun k e => by have e : k = w.heap.size + 1 := e; omega), by rw [HRN.out]; rfl⟩
end Go.Proofs.YtobjmajkcfhpoaaDoor
