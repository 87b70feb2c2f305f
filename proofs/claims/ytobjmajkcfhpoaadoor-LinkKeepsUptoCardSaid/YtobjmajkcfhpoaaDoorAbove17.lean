/-
  The linker's above (printed by genAbove17.py).
-/
import Derived.Test.YtobjmajkcfhpoaaDoorConsts17
import Derived.Test.YtobjmajkcfhpoaaDoorAdapts17
import Derived.Deep.CutRange
namespace Go.Proofs.YtobjmajkcfhpoaaDoor
open Go.RowKit

attribute [local go_sem] yld_undef
/-- What is left to do of above: the traits. -/
def tK (d : ClP) (kn : List KC) (p : KC) (st : List ByteArray × List ByteArray) (l : List ByteArray) (rs : List KC) : Except Int AboveP :=
  match traitsP kn l rs with
  | .error e => .error e
  | .ok rs => if adaptsP d.ts rs d.ad = 0 then .ok ⟨p, st.1, st.2, rs⟩ else .error (adaptsP d.ts rs d.ad)
/-- What is left to do of above: the faces. -/
def fK (d : ClP) (kn : List KC) (p : KC) (l : List ByteArray) (st : List ByteArray × List ByteArray) : Except Int AboveP :=
  match facesP kn l st with
  | .error e => .error e
  | .ok s => tK d kn p s d.ts []
def exP (r : Except Int KC) (f : KC → Except Int AboveP) : Except Int AboveP :=
  match r with
  | .error e => .error e
  | .ok p => f p
theorem aboveP_eq (d : ClP) (kn : List KC) : aboveP d kn = exP (parentP kn d.pa) (fun p => fK d kn p d.fs (p.1.fs, [])) := by
  unfold aboveP exP fK
  cases parentP kn d.pa with
  | error e => rfl
  | ok p => rfl
/-- What one answers, as a result. -/
def exR (q : KC × Int) (f : KC → Except Int AboveP) : Except Int AboveP := if q.2 = 0 then f q.1 else .error q.2
theorem fK_cons (d : ClP) (kn : List KC) (p : KC) (n : ByteArray) (l : List ByteArray) (st : List ByteArray × List ByteArray) : fK d kn p (n :: l) st = exR (oneR kn n 2) (fun f => fK d kn p l (putF (f.1.fs ++ [n]) st)) := by
  unfold fK exR
  rw [facesP, oneP_R]
  by_cases h : (oneR kn n 2).2 = 0
  · rw [if_pos h, if_pos h]
  · rw [if_neg h, if_neg h]
theorem tK_cons (d : ClP) (kn : List KC) (p : KC) (st : List ByteArray × List ByteArray) (n : ByteArray) (l : List ByteArray) (rs : List KC) : tK d kn p st (n :: l) rs = exR (oneR kn n 3) (fun t => tK d kn p st l (rs ++ [t])) := by
  unfold tK exR
  rw [traitsP, oneP_R]
  by_cases h : (oneR kn n 3).2 = 0
  · rw [if_pos h, if_pos h]
  · rw [if_neg h, if_neg h]
def parQ (q : KC × Int) : Except Int KC := if q.2 = 0 then (if q.1.1.fi = true then .error 19 else .ok q.1) else .error q.2
theorem parentP_R (kn : List KC) (pa : ByteArray) : parentP kn pa = if emT pa = true then .ok KC.nil else parQ (oneR kn pa 1) := by
  unfold parentP parQ
  rw [oneP_R]
  by_cases h : emT pa = true
  · rw [if_pos h, if_pos h]
  · rw [if_neg h, if_neg h]
    by_cases h2 : (oneR kn pa 1).2 = 0
    · rw [if_pos h2, if_pos h2]
    · rw [if_neg h2, if_neg h2]
theorem oneR_in {kn : List KC} {n : ByteArray} {k : Int} : (oneR kn n k).1 = KC.nil ∨ (oneR kn n k).1 ∈ kn := by
  unfold oneR oneQ
  cases h : findK kn n with
  | none => exact .inl rfl
  | some c =>
    refine .inr ?_
    simp only
    split <;> exact findK_mem' h
/-- Where it is right it is a known one. -/
theorem oneR_mem {kn : List KC} {n : ByteArray} {k : Int} (h : (oneR kn n k).2 = 0) : (oneR kn n k).1 ∈ kn := by
  unfold oneR oneQ at h ⊢
  cases hf : findK kn n with
  | none => rw [hf] at h; cases h
  | some c =>
    simp only
    split <;> exact findK_mem' hf
theorem LS.p_eta {s : LS} {x : KC} (h : s.p = x) : { s with p := x } = s := by subst h; rfl
/-- What above answers. -/
def AbovePost (w0 : World) (b : Nat) (s : LS) (r : Except Int AboveP) (e : Ending) (w' : World) : Prop :=
  match r with
  | .error c => e = .returned (.int .i64 c) ∧ c ≠ 0 ∧ ∃ s' J, LkG w0 w' b s' J ∧ s'.g = s.g ∧ s'.l = s.l
  | .ok a => e = .returned (.int .i64 0) ∧ ∃ f h r, LkG w0 w' b { s with p := a.p, f := f, fs := a.fs, h := h, hs := a.hs, r := r, rs := a.rs } LS.p1
theorem one_g {w0 W : World} {b : Nat} {s : LS} {J : LS → LS} (h : LkG w0 W b s J) (hJ : (J s).cells[33]? = some (.slice s.K.o s.K.n s.K.c)) (hl : s.kn.length ≤ 1048576) (name : ByteArray) (kind : Int) {x : KC} {e : Int} (hq : oneR s.kn name kind = (x, e)) :
    Calls Tryd.prog 42 #[.pointer (some ⟨b, 0, none⟩), .string name, .int .i64 kind] W (fun en w' => Below W.heap.size W w' ∧ en = .returned (.tuple #[.agg #[.string x.1.nm, .int .i64 x.1.kd, .bool x.1.ab, .bool x.1.fi, .string x.1.pa, .slice x.2.f.o x.2.f.n x.2.f.c, .slice x.2.t.o x.2.t.n x.2.t.c, .slice x.2.a.o x.2.a.n x.2.a.c, .slice x.2.c.o x.2.c.n x.2.c.c, .slice x.2.p.o x.2.p.n x.2.p.c, .slice x.2.m.o x.2.m.n x.2.m.c], .int .i64 e])) := by
  have h1 := one_any h.own ((cell_blk h.blk 33).trans hJ) hl name kind
  rw [hq] at h1
  exact h1
def LS.ap (s : LS) (p : KC) (f : SV) (fs : List ByteArray) (h : SV) (hs : List ByteArray) (r : SV) (rs : List KC) : LS := { s with p := p, f := f, fs := fs, h := h, hs := hs, r := r, rs := rs }
/-- A row of texts that a call goes over, apart from the two that it appends to. -/
structure TI (w : World) (s : LS) (v : Value) (rows : List (List Value)) : Prop where
  own : Owns w 9 1 v rows
  df : ∀ k, v.ownBlock = some k → (Value.slice s.f.o s.f.n s.f.c).ownBlock ≠ some k
  dh : ∀ k, v.ownBlock = some k → (Value.slice s.h.o s.h.n s.h.c).ownBlock ≠ some k
theorem TI.same {w w' : World} {s : LS} {v : Value} {rows : List (List Value)} (h : TI w s v rows) (m : Below w.heap.size w w') : TI w' s v rows := ⟨h.own.mod (Mod.of_below (F := fun _ => False) m) (fun _ _ x => x), h.df, h.dh⟩
theorem push_f {w0 W w3 : World} {b : Nat} {s : LS} {v3 tv : Value} {rows : List (List Value)} {y : ByteArray} (h : LkG w0 W b s LS.p1) (t : TI W s tv rows) (o3 : Owns w3 9 1 v3 (s.fs.map sR ++ [[.string y]])) (g3 : W.grownBy w3 (Value.slice s.f.o s.f.n s.f.c).ownBlock) (n3 : v3.ownBlock = (Value.slice s.f.o s.f.n s.f.c).ownBlock ∨ ∃ j, v3.ownBlock = some j ∧ W.heap.size ≤ j) :
    ∃ a L c, v3 = .slice a L c ∧ w3.cell? ⟨b, 16, none⟩ = some (.slice s.f.o s.f.n s.f.c) ∧ w3.frozen? ⟨b, 16, none⟩ = false ∧ LkG w0 (w3.setCell ⟨b, 16, none⟩ (.slice a L c)) b { s with f := ⟨a, L, c⟩, fs := s.fs ++ [y] } LS.p1 ∧ TI (w3.setCell ⟨b, 16, none⟩ (.slice a L c)) { s with f := ⟨a, L, c⟩, fs := s.fs ++ [y] } tv rows := by
  obtain ⟨a, L, c, rfl, -⟩ := owns_slice o3
  have hb := (g3.block b (lt_of_block h.blk) (fun e => own_nb (by decide) h.own.of h.blk e.symm)).trans h.blk
  rw [← sR_snoc] at o3
  refine ⟨a, L, c, rfl, cell_blk hb 16, free_blk hb 16, h.put_f (v := ⟨a, L, c⟩) o3 g3 n3, ⟨?_, fun k hk e => ?_, t.dh⟩⟩
  · refine t.own.mod ((((Mod.refl (fun k => (Value.slice s.f.o s.f.n s.f.c).ownBlock = some k ∨ k = b) W).grown g3 (fun j e _ => .inl e)).setCell ⟨b, 16, none⟩ _ (fun _ => .inr rfl))) (fun k hk hx => ?_)
    rcases hx with hx | hx
    · exact t.df k hk hx
    · exact own_nb (by decide) t.own h.blk (by rw [← hx]; exact hk)
  · rcases n3 with n3 | ⟨j, n3, hj⟩
    · exact t.df k hk (by rw [← n3]; exact e)
    · have hlt := Owns.lt t.own hk
      rw [n3] at e
      cases e
      omega
theorem push_h {w0 W w3 : World} {b : Nat} {s : LS} {v3 tv : Value} {rows : List (List Value)} {y : ByteArray} (h : LkG w0 W b s LS.p1) (t : TI W s tv rows) (o3 : Owns w3 9 1 v3 (s.hs.map sR ++ [[.string y]])) (g3 : W.grownBy w3 (Value.slice s.h.o s.h.n s.h.c).ownBlock) (n3 : v3.ownBlock = (Value.slice s.h.o s.h.n s.h.c).ownBlock ∨ ∃ j, v3.ownBlock = some j ∧ W.heap.size ≤ j) :
    ∃ a L c, v3 = .slice a L c ∧ w3.cell? ⟨b, 35, none⟩ = some (.slice s.h.o s.h.n s.h.c) ∧ w3.frozen? ⟨b, 35, none⟩ = false ∧ LkG w0 (w3.setCell ⟨b, 35, none⟩ (.slice a L c)) b { s with h := ⟨a, L, c⟩, hs := s.hs ++ [y] } LS.p1 ∧ TI (w3.setCell ⟨b, 35, none⟩ (.slice a L c)) { s with h := ⟨a, L, c⟩, hs := s.hs ++ [y] } tv rows := by
  obtain ⟨a, L, c, rfl, -⟩ := owns_slice o3
  have hb := (g3.block b (lt_of_block h.blk) (fun e => own_nb (by decide) h.own.oh h.blk e.symm)).trans h.blk
  rw [← sR_snoc] at o3
  refine ⟨a, L, c, rfl, cell_blk hb 35, free_blk hb 35, h.put_h (v := ⟨a, L, c⟩) o3 g3 n3, ⟨?_, t.df, fun k hk e => ?_⟩⟩
  · refine t.own.mod ((((Mod.refl (fun k => (Value.slice s.h.o s.h.n s.h.c).ownBlock = some k ∨ k = b) W).grown g3 (fun j e _ => .inl e)).setCell ⟨b, 35, none⟩ _ (fun _ => .inr rfl))) (fun k hk hx => ?_)
    rcases hx with hx | hx
    · exact t.dh k hk hx
    · exact own_nb (by decide) t.own h.blk (by rw [← hx]; exact hk)
  · rcases n3 with n3 | ⟨j, n3, hj⟩
    · exact t.dh k hk (by rw [← n3]; exact e)
    · have hlt := Owns.lt t.own hk
      rw [n3] at e
      cases e
      omega
theorem pf_at {w0 W : World} {b : Nat} {s : LS} (h : LkO w0 W b s) : RIn (NF b s.g s.l) W 1 (.slice s.p.2.f.o s.p.2.f.n s.p.2.f.c) (s.p.1.fs.map sR) :=
  h.pIn.hf.kept fun g hA hg => ⟨h.mod.block g hg hA, Nat.lt_of_lt_of_le hg h.mod.size, hA⟩
theorem df_at {w0 W : World} {b : Nat} {s : LS} (h : LkO w0 W b s) : RIn (NF b s.g s.l) W 1 (.slice s.d.2.f.o s.d.2.f.n s.d.2.f.c) (s.d.1.fs.map sR) :=
  h.dIn.hf.kept fun g hA hg => ⟨h.mod.block g hg hA, Nat.lt_of_lt_of_le hg h.mod.size, hA⟩
theorem ff_at {w0 W : World} {b : Nat} {s : LS} (h : LkO w0 W b s) : RIn AnyB W 1 (.slice s.f.o s.f.n s.f.c) (s.fs.map sR) := RIn.of_owns h.of (fun _ _ => trivial)
theorem st_fits {r : List Value} {rows : List (List Value)} (h : rows.length ≤ 1073741824) : rows.length + ([r] : List (List Value)).length ≤ maxLen ∧ (rows.length + ([r] : List (List Value)).length) * 16 ≤ 140737488355328 := by
  unfold maxLen
  simp only [List.length_cons, List.length_nil]
  omega
theorem putF_cons (x : ByteArray) (r : List ByteArray) (fs hs : List ByteArray) : putF (x :: r) (fs, hs) = putF r (if hasB fs x = true then (fs, hs) else (fs ++ [x], hs ++ [x])) := rfl
/-- The first part: the parent. -/
def ParQ (w0 : World) (b : Nat) (s : LS) (r : Except Int AboveP) (wx : World) : Prop := ∃ x : KC, LkG w0 wx b { s with p := x } LS.p0 ∧ r = fK s.d.1 s.kn x s.d.1.fs (x.1.fs, []) ∧ (x = KC.nil ∨ x ∈ s.kn)
set_option maxHeartbeats 51200000 in
set_option maxRecDepth 100000 in
theorem above_any {w0 W : World} {b : Nat} {s : LS} (PI : List ByteArray × List ByteArray → Prop) (h : LkG w0 W b s LS.p0) (hp0 : s.p = KC.nil) (hf0 : s.f = ⟨none, 0, 0⟩) (hh0 : s.hs = []) (hr0 : s.rs = []) (hkn : s.kn.length ≤ 1048576) (hdf : s.d.1.fs.length ≤ 1048576) (hdt : s.d.1.ts.length ≤ 1048576) (had : s.d.1.ad.length ≤ 1048576) (hot : ∀ a ∈ s.d.1.ad, a.ot.length ≤ 1048576) (hkf : ∀ x ∈ s.kn, x.1.fs.length ≤ 1048576) (hkm : ∀ x ∈ s.kn, x.1.ms.length ≤ 1048576)
    (hP0 : ∀ p, (p = KC.nil ∨ p ∈ s.kn) → PI (p.1.fs, [])) (hpush : ∀ fs hs y, PI (fs, hs) → hasB fs y = false → (y ∈ s.d.1.fs ∨ ∃ x ∈ s.kn, y ∈ x.1.fs) → PI (fs ++ [y], hs ++ [y])) (hle : ∀ st, PI st → st.1.length ≤ 1048576 ∧ st.2.length ≤ 1048576) :
    Calls Tryd.prog 16 #[.pointer (some ⟨b, 0, none⟩)] W (AbovePost w0 b s (aboveP s.d.1 s.kn)) := by
  obtain ⟨r, hr⟩ : ∃ r, r = aboveP s.d.1 s.kn := ⟨_, rfl⟩
  rw [← hr]
  have HR : Hid (r = exP (parentP s.kn s.d.1.pa) (fun p => fK s.d.1 s.kn p s.d.1.fs (p.1.fs, []))) := Lib.hid (by rw [hr, aboveP_eq])
  have HS := Lib.hid h
  have HP0 := Lib.hid hp0
  have h4 : W.cell? ⟨b, 4, none⟩ = some (.string s.d.1.pa) := cell_blk h.blk 4
  obtain ⟨z, hz⟩ : ∃ z, s.d.1.pa.toList.isEmpty = z := ⟨_, rfl⟩
  have HZ : Hid (emT s.d.1.pa = z) := Lib.hid hz
  obtain ⟨⟨x, e⟩, hq⟩ : ∃ q, oneR s.kn s.d.1.pa 1 = q := ⟨_, rfl⟩
  have HQ := Lib.hid hq
  have HX1 := Lib.hid (oneR_in (kn := s.kn) (n := s.d.1.pa) (k := 1))
  clear hr h hp0 hq
  go_enter Tryd.func16, Tryd.ntmps16
  go_upto_if 20 with fail
  go_cut [3, 4] from 21 to 43 (fun _ _ wx => Hid (ParQ w0 b s r wx))
  case first =>
    cases z with
    | true =>
      go_wp2_with fail
      go_meet
      exact Lib.hid ⟨KC.nil, by rw [LS.p_eta HP0.out]; exact HS.out, by rw [HR.out, parentP_R, if_pos HZ.out]; rfl, .inl rfl⟩
    | false =>
      have HON := Lib.hid (one_g HS.out rfl hkn s.d.1.pa 1 HQ.out)
      have HPQ : Hid (r = exP (parQ (x, e)) (fun p => fK s.d.1 s.kn p s.d.1.fs (p.1.fs, []))) := Lib.hid (by rw [HR.out, parentP_R, if_neg (by rw [HZ.out]; decide), HQ.out])
      have HXM : Hid (e = 0 → x ∈ s.kn) := Lib.hid (fun he => by have h9 := oneR_mem (kn := s.kn) (n := s.d.1.pa) (k := 1); rw [HQ.out] at h9; exact h9 he)
      obtain ⟨y, hy⟩ : ∃ y, (e == 0) = y := ⟨_, rfl⟩
      have hy2 : (e != 0) = !y := by rw [← hy]; rfl
      have HY := Lib.hid hy
      clear HR HX1
      go_wp2_with fail
      refine HON.out.mono ?_
      rintro _ w1 ⟨hb, rfl⟩
      have HS1 := Lib.hid (HS.out.same hb)
      have HS2 := Lib.hid (HS1.out.same (below_alloc1 w1 (.cells #[.string x.1.nm, .int .i64 x.1.kd, .bool x.1.ab, .bool x.1.fi, .string x.1.pa, .slice x.2.f.o x.2.f.n x.2.f.c, .slice x.2.t.o x.2.t.n x.2.t.c, .slice x.2.a.o x.2.a.n x.2.a.c, .slice x.2.c.o x.2.c.n x.2.c.c, .slice x.2.p.o x.2.p.n x.2.p.c, .slice x.2.m.o x.2.m.n x.2.m.c] 29)))
      have X2 : Hid ((w1.alloc (.cells #[.string x.1.nm, .int .i64 x.1.kd, .bool x.1.ab, .bool x.1.fi, .string x.1.pa, .slice x.2.f.o x.2.f.n x.2.f.c, .slice x.2.t.o x.2.t.n x.2.t.c, .slice x.2.a.o x.2.a.n x.2.a.c, .slice x.2.c.o x.2.c.n x.2.c.c, .slice x.2.p.o x.2.p.n x.2.p.c, .slice x.2.m.o x.2.m.n x.2.m.c] 29)).heap[w1.heap.size]? = some (.cells #[.string x.1.nm, .int .i64 x.1.kd, .bool x.1.ab, .bool x.1.fi, .string x.1.pa, .slice x.2.f.o x.2.f.n x.2.f.c, .slice x.2.t.o x.2.t.n x.2.t.c, .slice x.2.a.o x.2.a.n x.2.a.c, .slice x.2.c.o x.2.c.n x.2.c.c, .slice x.2.p.o x.2.p.n x.2.p.c, .slice x.2.m.o x.2.m.n x.2.m.c] 29 (0, 0))) := Lib.hid (heap_alloc_new w1 _)
      clear hb HON h4
      go_upto_region 3 with fail
      obtain ⟨w2, hw2⟩ : ∃ w2, w2 = w1.alloc (.cells #[.string x.1.nm, .int .i64 x.1.kd, .bool x.1.ab, .bool x.1.fi, .string x.1.pa, .slice x.2.f.o x.2.f.n x.2.f.c, .slice x.2.t.o x.2.t.n x.2.t.c, .slice x.2.a.o x.2.a.n x.2.a.c, .slice x.2.c.o x.2.c.n x.2.c.c, .slice x.2.p.o x.2.p.n x.2.p.c, .slice x.2.m.o x.2.m.n x.2.m.c] 29) := ⟨_, rfl⟩
      rw [← hw2] at HS2 X2 ⊢
      clear hw2 HS1
      cases y with
      | false =>
        have HE : Hid (r = .error e ∧ e ≠ 0) := Lib.hid (by
          have he : e ≠ 0 := by simpa using HY.out
          exact ⟨by rw [HPQ.out]; unfold parQ; rw [if_neg (show ¬ (x, e).2 = 0 from he)]; rfl, he⟩)
        go_wp2_with fail
        go_ret
        rw [HE.out.1]
        exact ⟨rfl, HE.out.2, _, _, HS2.out, rfl, rfl⟩
      | true =>
        have he : e = 0 := by simpa using HY.out
        subst he
        have HXK : Hid (x ∈ s.kn) := Lib.hid (HXM.out rfl)
        clear hy hy2 HY HXM
        obtain ⟨fi, hfi⟩ : ∃ fi, x.1.fi = fi := ⟨_, rfl⟩
        have HFI := Lib.hid hfi
        have x3 : w2.cell? ⟨w1.heap.size, 3, none⟩ = some (.bool fi) := by rw [← hfi]; exact cell_blk X2.out 3
        clear hfi
        cases fi with
        | true =>
          have HE : Hid (r = .error 19) := Lib.hid (by rw [HPQ.out]; unfold parQ; rw [if_pos rfl, if_pos HFI.out]; rfl)
          go_wp2_with fail
          go_ret
          rw [HE.out]
          exact ⟨rfl, by decide, _, _, HS2.out, rfl, rfl⟩
        | false =>
          have HE : Hid (r = fK s.d.1 s.kn x s.d.1.fs (x.1.fs, [])) := Lib.hid (by rw [HPQ.out]; unfold parQ; rw [if_pos rfl, if_neg (by rw [HFI.out]; decide)]; rfl)
          have HXI : Hid (ClIn (NF b s.g s.l) w0 x.1 x.2) := Lib.hid (HS2.out.own.kIn.cls x HXK.out)
          have HPP := Lib.hid (HS2.out.put_p HXI.out)
          have HTH : Hid (w2.there b 22 11) := Lib.hid (by
            intro j hj
            refine ⟨?_, free_blk HS2.out.blk (22 + j)⟩
            rw [cell_blk HS2.out.blk]
            have h38 : (LS.p0 s).cells.size = 38 := rfl
            rw [Array.getElem?_eq_getElem (by omega)]
            rfl)
          go_upto_region 7 with fail
          clear x3
          have c0 := cell_blk X2.out 0; have c1 := cell_blk X2.out 1; have c2 := cell_blk X2.out 2; have c3 := cell_blk X2.out 3; have c4 := cell_blk X2.out 4; have c5 := cell_blk X2.out 5; have c6 := cell_blk X2.out 6; have c7 := cell_blk X2.out 7; have c8 := cell_blk X2.out 8; have c9 := cell_blk X2.out 9; have c10 := cell_blk X2.out 10
          go_wp2_with (refine wpList_store_mid rfl 29 (.tmp 43) (.tmp 41) rfl b 22 #[.string x.1.nm, .int .i64 x.1.kd, .bool x.1.ab, .bool x.1.fi, .string x.1.pa, .slice x.2.f.o x.2.f.n x.2.f.c, .slice x.2.t.o x.2.t.n x.2.t.c, .slice x.2.a.o x.2.a.n x.2.a.c, .slice x.2.c.o x.2.c.n x.2.c.c, .slice x.2.p.o x.2.p.n x.2.p.c, .slice x.2.m.o x.2.m.n x.2.m.c] (by rfl) (by rfl) HTH.out size29 (by simp [Value.oneCell']) ?_)
          go_meet
          exact Lib.hid ⟨x, HPP.out, HE.out, .inr HXK.out⟩
  case rest =>
    obtain ⟨p, hS1, hR1, hpm⟩ := hcut.out
    have HS1 := Lib.hid hS1
    have HR1 := Lib.hid hR1
    have HPM := Lib.hid hpm
    clear hcut hS1 hR1 hpm HS HR HX1 HQ HP0 HZ hz h4
    have h27 : wc.cell? ⟨b, 27, none⟩ = some (.slice p.2.f.o p.2.f.n p.2.f.c) := cell_blk HS1.out.blk 27
    have HCL := Lib.hid (clone_s (w := wc) (pf_at (s := { s with p := p }) HS1.out.own) (Nat.le_trans (hle _ (hP0 p HPM.out)).1 (by decide)))
    have HCL2 : Hid (Calls Tryd.prog 15 #[.slice p.2.f.o p.2.f.n p.2.f.c] wc (ClonePost wc 9 1 (p.1.fs.map sR))) := HCL
    clear HCL
    go_wp2_with fail
    refine HCL2.out.mono ?_
    rintro _ w1 hcl
    obtain ⟨v, rfl, ho, hb, hn⟩ := hcl.sv
    have zc : w1.cell? ⟨b, 16, none⟩ = some (.slice s.d.2.f.o s.d.2.f.n s.d.2.f.c) := cell_blk (HS1.out.same hb).blk 16
    have zf := free_blk (HS1.out.same hb).blk 16
    have HS2 : Hid (LkG w0 (w1.setCell ⟨b, 16, none⟩ (.slice v.o v.n v.c)) b (s.ap p v p.1.fs s.h s.hs s.r s.rs) LS.p1) := Lib.hid (HS1.out.in_f ho (below_grown hb _) (by show _ = (Value.slice s.f.o s.f.n s.f.c).ownBlock ∨ _; rw [hf0]; exact hn))
    have HDN : Hid (s.d.2.f.n = s.d.1.fs.length) := Lib.hid (by have h9 := rin_n (df_at (s := { s with p := p }) HS1.out.own); rw [List.length_map] at h9; exact h9)
    have h5 : (w1.setCell ⟨b, 16, none⟩ (.slice v.o v.n v.c)).cell? ⟨b, 5, none⟩ = some (.slice s.d.2.f.o s.d.1.fs.length s.d.2.f.c) := by
      have h9 : (w1.setCell ⟨b, 16, none⟩ (.slice v.o v.n v.c)).cell? ⟨b, 5, none⟩ = some (.slice s.d.2.f.o s.d.2.f.n s.d.2.f.c) := cell_blk HS2.out.blk 5
      rw [HDN.out] at h9
      exact h9
    obtain ⟨W1, hW1⟩ : ∃ W1, W1 = w1.setCell ⟨b, 16, none⟩ (.slice v.o v.n v.c) := ⟨_, rfl⟩
    rw [← hW1] at HS2 h5
    have HW1 := Lib.hid hW1
    have HPI : Hid (PI (p.1.fs, s.hs)) := Lib.hid (by rw [hh0]; exact hP0 p HPM.out)
    have HR2 : Hid (r = fK s.d.1 s.kn p (s.d.1.fs.drop 0) (p.1.fs, s.hs)) := Lib.hid (by rw [hh0]; exact HR1.out)
    clear hcl ho hb hn hf0 h27 HCL2 hW1 HR1
    go_upto_region 9 with fail
    rw [← HW1.out]
    clear zc zf HW1 HS1
    go_wp2_with fail
    clear h5
    go_loopw [6, 7, 8, 10, 60] (fun _ _ _ _ kv wr => ∃ (k : Nat) (f1 : SV) (fs1 : List ByteArray) (h1 : SV) (hs1 : List ByteArray), k ≤ s.d.1.fs.length ∧ kv = .int .i64 k ∧ Hid (LkG w0 wr b (s.ap p f1 fs1 h1 hs1 s.r s.rs) LS.p1) ∧ Hid (r = fK s.d.1 s.kn p (s.d.1.fs.drop k) (fs1, hs1)) ∧ Hid (PI (fs1, hs1))) (fun _ _ _ _ kv _ => s.d.1.fs.length - (intOf kv).toNat)
    case atStart => exact ⟨0, v, p.1.fs, s.h, s.hs, Nat.zero_le _, rfl, HS2, HR2, HPI⟩
    case round =>
      clear HS2 HR2 HPI
      obtain ⟨k, f1, fs1, h1, hs1, hk, rfl, HS1, HR1, HPI1⟩ := hrel
      by_cases hlt : k < s.d.1.fs.length
      · have hi : (k : Int) < (s.d.1.fs.length : Int) := by omega
        obtain ⟨hw', hw⟩ := wr_sm (x := (k : Int) + 1) (by omega) (by omega)
        have HDF : Hid (RIn (NF b s.g s.l) wr 1 (.slice s.d.2.f.o s.d.2.f.n s.d.2.f.c) (s.d.1.fs.map sR)) := Lib.hid (df_at (s := s.ap p f1 fs1 h1 hs1 s.r s.rs) HS1.out.own)
        obtain ⟨n, g, off, cp, hn, hnm, -, e, hg, -, hc⟩ := s_cells HDF.out hlt
        simp only [Value.slice.injEq] at e
        obtain ⟨e1, -, -⟩ := e
        have d0 := hc _ (Below.refl _ _)
        have HNM : Hid (n ∈ s.d.1.fs) := Lib.hid hnm
        have Hkl := Lib.hid hlt
        obtain ⟨⟨x, e⟩, hq⟩ : ∃ q, oneR s.kn n 2 = q := ⟨_, rfl⟩
        have HQ := Lib.hid hq
        have HON := Lib.hid (one_g HS1.out rfl hkn n 2 hq)
        have HR2 : Hid (r = exR (x, e) (fun f => fK s.d.1 s.kn p (s.d.1.fs.drop (k + 1)) (putF (f.1.fs ++ [n]) (fs1, hs1)))) := Lib.hid (by rw [HR1.out, drop_at hn, fK_cons, hq])
        have HXM : Hid (e = 0 → x ∈ s.kn) := Lib.hid (fun he => by have h9 := oneR_mem (kn := s.kn) (n := n) (k := 2); rw [hq] at h9; exact h9 he)
        obtain ⟨y, hy⟩ : ∃ y, (e == 0) = y := ⟨_, rfl⟩
        have hy2 : (e != 0) = !y := by rw [← hy]; rfl
        have HY := Lib.hid hy
        clear hc hn hnm hlt HR1 hg hq HQ HDF
        go_wp2_with fail
        refine HON.out.mono ?_
        rintro _ w2 ⟨hb2, rfl⟩
        have HS2 := Lib.hid ((HS1.out.same hb2).same (below_alloc1 w2 (.cells #[.string x.1.nm, .int .i64 x.1.kd, .bool x.1.ab, .bool x.1.fi, .string x.1.pa, .slice x.2.f.o x.2.f.n x.2.f.c, .slice x.2.t.o x.2.t.n x.2.t.c, .slice x.2.a.o x.2.a.n x.2.a.c, .slice x.2.c.o x.2.c.n x.2.c.c, .slice x.2.p.o x.2.p.n x.2.p.c, .slice x.2.m.o x.2.m.n x.2.m.c] 29)))
        have X2 : Hid ((w2.alloc (.cells #[.string x.1.nm, .int .i64 x.1.kd, .bool x.1.ab, .bool x.1.fi, .string x.1.pa, .slice x.2.f.o x.2.f.n x.2.f.c, .slice x.2.t.o x.2.t.n x.2.t.c, .slice x.2.a.o x.2.a.n x.2.a.c, .slice x.2.c.o x.2.c.n x.2.c.c, .slice x.2.p.o x.2.p.n x.2.p.c, .slice x.2.m.o x.2.m.n x.2.m.c] 29)).heap[w2.heap.size]? = some (.cells #[.string x.1.nm, .int .i64 x.1.kd, .bool x.1.ab, .bool x.1.fi, .string x.1.pa, .slice x.2.f.o x.2.f.n x.2.f.c, .slice x.2.t.o x.2.t.n x.2.t.c, .slice x.2.a.o x.2.a.n x.2.a.c, .slice x.2.c.o x.2.c.n x.2.c.c, .slice x.2.p.o x.2.p.n x.2.p.c, .slice x.2.m.o x.2.m.n x.2.m.c] 29 (0, 0))) := Lib.hid (heap_alloc_new w2 _)
        clear hb2 HON HS1 e1 d0
        cases y with
        | false =>
          have HE : Hid (r = .error e ∧ e ≠ 0) := Lib.hid (by
            have he : e ≠ 0 := by simpa using HY.out
            exact ⟨by rw [HR2.out]; unfold exR; rw [if_neg (show ¬ (x, e).2 = 0 from he)], he⟩)
          go_wp2_with fail
          go_ret
          rw [HE.out.1]
          exact ⟨rfl, HE.out.2, _, _, HS2.out, rfl, rfl⟩
        | true =>
          have he : e = 0 := by simpa using HY.out
          subst he
          have HXK : Hid (x ∈ s.kn) := Lib.hid (HXM.out rfl)
          obtain ⟨l, hl⟩ : ∃ l, l = x.1.fs ++ [n] := ⟨_, rfl⟩
          have HL := Lib.hid hl
          have HR3 : Hid (r = fK s.d.1 s.kn p (s.d.1.fs.drop (k + 1)) (putF (l.drop 0) (fs1, hs1))) := Lib.hid (by rw [HR2.out, hl]; rfl)
          have HLM : Hid (l.length ≤ 1048577 ∧ ∀ y ∈ l, y ∈ s.d.1.fs ∨ ∃ x ∈ s.kn, y ∈ x.1.fs) := Lib.hid (by
            rw [hl]
            refine ⟨by rw [List.length_append]; have := hkf x HXK.out; simp; omega, fun y hy => ?_⟩
            rcases List.mem_append.1 hy with hy | hy
            · exact .inr ⟨x, HXK.out, hy⟩
            · rw [List.mem_singleton.1 hy]; exact .inl HNM.out)
          clear hy hy2 HY HXM hl
          go_upto_region 15 with fail
          obtain ⟨w3, hw3⟩ : ∃ w3, w3 = w2.alloc (.cells #[.string x.1.nm, .int .i64 x.1.kd, .bool x.1.ab, .bool x.1.fi, .string x.1.pa, .slice x.2.f.o x.2.f.n x.2.f.c, .slice x.2.t.o x.2.t.n x.2.t.c, .slice x.2.a.o x.2.a.n x.2.a.c, .slice x.2.c.o x.2.c.n x.2.c.c, .slice x.2.p.o x.2.p.n x.2.p.c, .slice x.2.m.o x.2.m.n x.2.m.c] 29) := ⟨_, rfl⟩
          rw [← hw3] at HS2 X2 ⊢
          clear hw3
          have x5 := cell_blk X2.out 5
          have HCL := Lib.hid (clone_s ((kin_at (s := s.ap p f1 fs1 h1 hs1 s.r s.rs) HS2.out.own).cls x HXK.out).hf (Nat.le_trans (hkf x HXK.out) (by decide)))
          go_wp2_with fail
          refine HCL.out.mono ?_
          rintro _ w4 hcl
          obtain ⟨v4, rfl, ho, hb, hn⟩ := hcl.sv
          have O4 : Hid (OR w3 w4 9 1 (.slice v4.o v4.n v4.c) (x.1.fs.map sR)) := Lib.hid ⟨ho, hb, fun g e => by rcases hn with hn | ⟨j, hn, hj⟩ <;> rw [hn] at e <;> cases e; exact hj⟩
          have O5 := Lib.hid (O4.out.same (below_alloc1 w4 (.cells #[.string n] 9)))
          have hL := Lib.hid (lies_new w4 [.string n] 9 (size := 1) rfl)
          have HF : Hid ((x.1.fs.map sR).length + ([[.string n]] : List (List Value)).length ≤ maxLen ∧ ((x.1.fs.map sR).length + ([[.string n]] : List (List Value)).length) * 16 ≤ 140737488355328) := Lib.hid (st_fits (by rw [List.length_map]; exact Nat.le_trans (hkf x HXK.out) (by decide)))
          clear hcl ho hb hn x5 HCL O4
          go_wp2_with (at_builtin; refine wpList_append_rows rfl (.tmp 75) (.tmp 77) 23 rfl 9 _ 1 16 Tryd.underlying23 info9 rfl (by decide) (.slice v4.o v4.n v4.c) (x.1.fs.map sR) (by rfl) O5.out.own (some ⟨w4.heap.size, 0, none⟩) 1 1 ([[.string n]] : List (List Value)) (by rfl) rfl (fun e => by cases e) hL.out (by simp [Value.oneCell']) (by simp) HF.out.1 (by have h := HF.out.2; omega) ?_; intro v5 w5 o5 g5 n5; have R7 := O5.out.next o5 g5 n5; obtain ⟨a8, L8, c8, hv8, hl8⟩ := R7.slice; subst hv8; have R8 := Lib.hid R7; have HL8 := Lib.hid hl8; clear o5 g5 n5 R7 hl8)
          have HLN : Hid (L8 = l.length) := Lib.hid (by rw [HL8.out, HL.out]; simp)
          have HTI : Hid (TI w5 (s.ap p f1 fs1 h1 hs1 s.r s.rs) (.slice a8 l.length c8) (l.map sR)) := Lib.hid (by
            have h9 := R8.out
            rw [HLN.out, ← sR_snoc, ← HL.out] at h9
            exact ⟨h9.own, fun k hk e => by have := h9.fresh k hk; have := Owns.lt HS2.out.own.of e; omega, fun k hk e => by have := h9.fresh k hk; have := Owns.lt HS2.out.own.oh e; omega⟩)
          have HS5 := Lib.hid (HS2.out.same R8.out.below)
          have hl9 : L8 = l.length := HLN.out
          subst hl9
          clear R8 HL8 HLN HF hL O5 HS2 X2
          obtain ⟨wa, hwa⟩ : ∃ wa, wa = wr := ⟨_, rfl⟩
          subst hwa
          go_loopw [10, 80] (fun _ jv wr => ∃ (j : Nat) (f1 : SV) (fs1 : List ByteArray) (h1 : SV) (hs1 : List ByteArray), j ≤ l.length ∧ jv = .int .i64 j ∧ Hid (LkG w0 wr b (s.ap p f1 fs1 h1 hs1 s.r s.rs) LS.p1) ∧ Hid (r = fK s.d.1 s.kn p (s.d.1.fs.drop (k + 1)) (putF (l.drop j) (fs1, hs1))) ∧ Hid (PI (fs1, hs1)) ∧ Hid (TI wr (s.ap p f1 fs1 h1 hs1 s.r s.rs) (.slice a8 l.length c8) (l.map sR))) (fun _ jv _ => l.length - (intOf jv).toNat)
          case atStart => exact ⟨0, f1, fs1, h1, hs1, Nat.zero_le _, rfl, HS5, HR3, HPI1, HTI⟩
          case round =>
            clear HS5 HR3 HR2 HPI1 HTI
            obtain ⟨j, f1, fs1, h1, hs1, hj, rfl, HS1, HR1, HPI1, HTI⟩ := hrel
            have hlm := HLM.out.1
            by_cases hlt : j < l.length
            · have hi2 : (j : Int) < (l.length : Int) := by omega
              obtain ⟨hw2', hw2⟩ := wr_sm (x := (j : Int) + 1) (by omega) (by omega)
              obtain ⟨y, g, off, cp, hy, hym, -, e, -, -, hc⟩ := s_cells (RIn.of_owns (A := AnyB) HTI.out.own (fun _ _ => trivial)) hlt
              simp only [Value.slice.injEq] at e
              obtain ⟨e1, -, -⟩ := e
              have d0 := hc _ (Below.refl _ _)
              have Hlt := Lib.hid hlt
              have HYM := Lib.hid (HLM.out.2 y hym)
              have h16 : wr.cell? ⟨b, 16, none⟩ = some (.slice f1.o f1.n f1.c) := cell_blk HS1.out.blk 16
              obtain ⟨z, hz⟩ : ∃ z, z = hasB fs1 y := ⟨_, rfl⟩
              have HCT : Hid (Calls Tryd.prog 22 #[.slice f1.o f1.n f1.c, .string y] wr (fun e w' => e = .returned (.bool z) ∧ w' = wr)) := Lib.hid (by rw [hz]; exact contains_any y (ff_at (s := s.ap p f1 fs1 h1 hs1 s.r s.rs) HS1.out.own) (Nat.le_trans (hle _ HPI1.out).1 (by decide)))
              have HR2 : Hid (r = fK s.d.1 s.kn p (s.d.1.fs.drop (k + 1)) (putF (l.drop (j + 1)) (if z = true then (fs1, hs1) else (fs1 ++ [y], hs1 ++ [y])))) := Lib.hid (by rw [HR1.out, drop_at hy, putF_cons, hz])
              have HZ := Lib.hid hz.symm
              clear hc hy hym hlt hz HR1
              go_wp2_with fail
              refine HCT.out.mono ?_
              rintro _ w6 ⟨rfl, hw6⟩
              subst hw6
              clear HCT e1 d0
              cases z with
              | true =>
                have HR3 : Hid (r = fK s.d.1 s.kn p (s.d.1.fs.drop (k + 1)) (putF (l.drop (j + 1)) (fs1, hs1))) := Lib.hid HR2.out
                go_wp2_with fail
                go_roundw
                case rel => exact ⟨j + 1, _, _, _, _, Hlt.out, by go_num, HS1, HR3, HPI1, HTI⟩
                case measure => have := Hlt.out; simp [intOf]; omega
              | false =>
                have HR3 : Hid (r = fK s.d.1 s.kn p (s.d.1.fs.drop (k + 1)) (putF (l.drop (j + 1)) (fs1 ++ [y], hs1 ++ [y]))) := Lib.hid HR2.out
                have HPI2 : Hid (PI (fs1 ++ [y], hs1 ++ [y])) := Lib.hid (hpush _ _ _ HPI1.out HZ.out HYM.out)
                have HPL := Lib.hid (hle _ HPI1.out)
                have HSa := Lib.hid (HS1.out.same (below_alloc1 w6 (.cells #[.string y] 9)))
                have HTa := Lib.hid (HTI.out.same (below_alloc1 w6 (.cells #[.string y] 9)))
                have hL := Lib.hid (lies_new w6 [.string y] 9 (size := 1) rfl)
                have HF : Hid ((fs1.map sR).length + ([[.string y]] : List (List Value)).length ≤ maxLen ∧ ((fs1.map sR).length + ([[.string y]] : List (List Value)).length) * 16 ≤ 140737488355328) := Lib.hid (st_fits (by rw [List.length_map]; exact Nat.le_trans HPL.out.1 (by decide)))
                go_upto_region 20 with (at_builtin; refine wpList_append_rows rfl (.tmp 97) (.tmp 99) 23 rfl 9 _ 1 16 Tryd.underlying23 info9 rfl (by decide) (.slice f1.o f1.n f1.c) (fs1.map sR) (by rfl) HSa.out.own.of (some ⟨w6.heap.size, 0, none⟩) 1 1 ([[.string y]] : List (List Value)) (by rfl) rfl (fun e => by cases e) hL.out (by simp [Value.oneCell']) (by simp) HF.out.1 (by have h := HF.out.2; omega) ?_; intro v5 w5 o5 g5 n5; obtain ⟨a7, L7, c7, hv7, zc, zf, h7, t7⟩ := push_f HSa.out HTa.out o5 g5 n5; subst hv7; have zc : w5.cell? ⟨b, 16, none⟩ = some (.slice f1.o f1.n f1.c) := zc; have H7 := Lib.hid h7; have T7 := Lib.hid t7; clear o5 g5 n5 h7 t7)
                have HS7 : Hid (LkG w0 (w5.setCell ⟨b, 16, none⟩ (.slice a7 L7 c7)) b (s.ap p ⟨a7, L7, c7⟩ (fs1 ++ [y]) h1 hs1 s.r s.rs) LS.p1) := Lib.hid H7.out
                have T7b : Hid (TI (w5.setCell ⟨b, 16, none⟩ (.slice a7 L7 c7)) (s.ap p ⟨a7, L7, c7⟩ (fs1 ++ [y]) h1 hs1 s.r s.rs) (.slice a8 l.length c8) (l.map sR)) := Lib.hid T7.out
                obtain ⟨w7, hw7⟩ : ∃ w7, w7 = w5.setCell ⟨b, 16, none⟩ (.slice a7 L7 c7) := ⟨_, rfl⟩
                rw [← hw7] at HS7 T7b ⊢
                clear hw7 H7 T7 zc zf hL HF HSa HTa h16 HS1 HTI
                have h35 : w7.cell? ⟨b, 35, none⟩ = some (.slice h1.o h1.n h1.c) := cell_blk HS7.out.blk 35
                have HSa := Lib.hid (HS7.out.same (below_alloc1 w7 (.cells #[.string y] 9)))
                have HTa := Lib.hid (T7b.out.same (below_alloc1 w7 (.cells #[.string y] 9)))
                have hL := Lib.hid (lies_new w7 [.string y] 9 (size := 1) rfl)
                have HF : Hid ((hs1.map sR).length + ([[.string y]] : List (List Value)).length ≤ maxLen ∧ ((hs1.map sR).length + ([[.string y]] : List (List Value)).length) * 16 ≤ 140737488355328) := Lib.hid (st_fits (by rw [List.length_map]; exact Nat.le_trans HPL.out.2 (by decide)))
                go_wp2_with (at_builtin; refine wpList_append_rows rfl (.tmp 108) (.tmp 110) 23 rfl 9 _ 1 16 Tryd.underlying23 info9 rfl (by decide) (.slice h1.o h1.n h1.c) (hs1.map sR) (by rfl) HSa.out.own.oh (some ⟨w7.heap.size, 0, none⟩) 1 1 ([[.string y]] : List (List Value)) (by rfl) rfl (fun e => by cases e) hL.out (by simp [Value.oneCell']) (by simp) HF.out.1 (by have h := HF.out.2; omega) ?_; intro v9 w9 o9 g9 n9; obtain ⟨a9, L9, c9, hv9, zc, zf, h9, t9⟩ := push_h HSa.out HTa.out o9 g9 n9; subst hv9; have zc : w9.cell? ⟨b, 35, none⟩ = some (.slice h1.o h1.n h1.c) := zc; have H9 := Lib.hid h9; have T9 := Lib.hid t9; clear o9 g9 n9 h9 t9)
                go_roundw
                case rel => exact ⟨j + 1, ⟨a7, L7, c7⟩, _, ⟨a9, L9, c9⟩, _, Hlt.out, by go_num, H9, HR3, HPI2, T9⟩
                case measure => have := Hlt.out; simp [intOf]; omega
            · obtain rfl : j = l.length := by omega
              have HR3 : Hid (r = fK s.d.1 s.kn p (s.d.1.fs.drop (k + 1)) (fs1, hs1)) := Lib.hid (by rw [HR1.out, List.drop_length]; rfl)
              go_wp2_with fail
              go_roundw
              case rel => exact ⟨k + 1, _, _, _, _, Hkl.out, by go_num, HS1, HR3, HPI1⟩
              case measure => have := Hkl.out; simp [intOf]; omega
      · obtain rfl : k = s.d.1.fs.length := by omega
        have HR3 : Hid (r = tK s.d.1 s.kn p (fs1, hs1) (s.d.1.ts.drop 0) s.rs) := Lib.hid (by rw [HR1.out, List.drop_length, hr0]; rfl)
        have HDN2 : Hid (s.d.2.t.n = s.d.1.ts.length) := Lib.hid (by have h9 := rin_n (dt_at (s := s.ap p f1 fs1 h1 hs1 s.r s.rs) HS1.out.own); rw [List.length_map] at h9; exact h9)
        have h6 : wr.cell? ⟨b, 6, none⟩ = some (.slice s.d.2.t.o s.d.1.ts.length s.d.2.t.c) := by
          have h9 : wr.cell? ⟨b, 6, none⟩ = some (.slice s.d.2.t.o s.d.2.t.n s.d.2.t.c) := cell_blk HS1.out.blk 6
          rw [HDN2.out] at h9
          exact h9
        have HRS : Hid (s.rs.length = 0 ∧ ∀ t ∈ s.rs, t ∈ s.kn) := Lib.hid (by rw [hr0]; exact ⟨rfl, fun t h => by cases h⟩)
        go_wp2_with fail
        clear h6 HR1
        obtain ⟨wa, hwa⟩ : ∃ wa, wa = wr := ⟨_, rfl⟩
        subst hwa
        go_loopw [12, 13, 14, 122] (fun _ _ _ jv wr => ∃ (j : Nat) (r1 : SV) (rs1 : List KC), j ≤ s.d.1.ts.length ∧ jv = .int .i64 j ∧ Hid (LkG w0 wr b (s.ap p f1 fs1 h1 hs1 r1 rs1) LS.p1) ∧ Hid (r = tK s.d.1 s.kn p (fs1, hs1) (s.d.1.ts.drop j) rs1) ∧ Hid (rs1.length = j ∧ ∀ t ∈ rs1, t ∈ s.kn)) (fun _ _ _ jv _ => s.d.1.ts.length - (intOf jv).toNat)
        case atStart => exact ⟨0, s.r, s.rs, Nat.zero_le _, rfl, HS1, HR3, HRS⟩
        case round =>
          clear HS1 HR3 HRS
          obtain ⟨j, r1, rs1, hj, rfl, HS1, HR1, HRS⟩ := hrel
          by_cases hlt : j < s.d.1.ts.length
          · have hi2 : (j : Int) < (s.d.1.ts.length : Int) := by omega
            obtain ⟨hw2', hw2⟩ := wr_sm (x := (j : Int) + 1) (by omega) (by omega)
            have HDT : Hid (RIn (NF b s.g s.l) wr 1 (.slice s.d.2.t.o s.d.2.t.n s.d.2.t.c) (s.d.1.ts.map sR)) := Lib.hid (dt_at (s := s.ap p f1 fs1 h1 hs1 r1 rs1) HS1.out.own)
            obtain ⟨n, g, off, cp, hn, hnm, -, e, hg, -, hc⟩ := s_cells HDT.out hlt
            simp only [Value.slice.injEq] at e
            obtain ⟨e1, -, -⟩ := e
            have d0 := hc _ (Below.refl _ _)
            have Hlt := Lib.hid hlt
            obtain ⟨⟨x, e⟩, hq⟩ : ∃ q, oneR s.kn n 3 = q := ⟨_, rfl⟩
            have HON := Lib.hid (one_g HS1.out rfl hkn n 3 hq)
            have HR2 : Hid (r = exR (x, e) (fun t => tK s.d.1 s.kn p (fs1, hs1) (s.d.1.ts.drop (j + 1)) (rs1 ++ [t]))) := Lib.hid (by rw [HR1.out, drop_at hn, tK_cons, hq])
            have HXM : Hid (e = 0 → x ∈ s.kn) := Lib.hid (fun he => by have h9 := oneR_mem (kn := s.kn) (n := n) (k := 3); rw [hq] at h9; exact h9 he)
            obtain ⟨y, hy⟩ : ∃ y, (e == 0) = y := ⟨_, rfl⟩
            have hy2 : (e != 0) = !y := by rw [← hy]; rfl
            have HY := Lib.hid hy
            clear hc hn hnm hlt HR1 hg hq HDT
            go_wp2_with fail
            refine HON.out.mono ?_
            rintro _ w2 ⟨hb2, rfl⟩
            have HS0 := Lib.hid (HS1.out.same hb2)
            have HS2 := Lib.hid (HS0.out.same (below_alloc1 w2 (.cells #[.string x.1.nm, .int .i64 x.1.kd, .bool x.1.ab, .bool x.1.fi, .string x.1.pa, .slice x.2.f.o x.2.f.n x.2.f.c, .slice x.2.t.o x.2.t.n x.2.t.c, .slice x.2.a.o x.2.a.n x.2.a.c, .slice x.2.c.o x.2.c.n x.2.c.c, .slice x.2.p.o x.2.p.n x.2.p.c, .slice x.2.m.o x.2.m.n x.2.m.c] 29)))
            have X2 : Hid ((w2.alloc (.cells #[.string x.1.nm, .int .i64 x.1.kd, .bool x.1.ab, .bool x.1.fi, .string x.1.pa, .slice x.2.f.o x.2.f.n x.2.f.c, .slice x.2.t.o x.2.t.n x.2.t.c, .slice x.2.a.o x.2.a.n x.2.a.c, .slice x.2.c.o x.2.c.n x.2.c.c, .slice x.2.p.o x.2.p.n x.2.p.c, .slice x.2.m.o x.2.m.n x.2.m.c] 29)).heap[w2.heap.size]? = some (.cells #[.string x.1.nm, .int .i64 x.1.kd, .bool x.1.ab, .bool x.1.fi, .string x.1.pa, .slice x.2.f.o x.2.f.n x.2.f.c, .slice x.2.t.o x.2.t.n x.2.t.c, .slice x.2.a.o x.2.a.n x.2.a.c, .slice x.2.c.o x.2.c.n x.2.c.c, .slice x.2.p.o x.2.p.n x.2.p.c, .slice x.2.m.o x.2.m.n x.2.m.c] 29 (0, 0))) := Lib.hid (heap_alloc_new w2 _)
            have HBQ : Hid ((Value.slice r1.o r1.n r1.c).ownBlock ≠ some w2.heap.size) := Lib.hid (fun e => by have := Owns.lt HS0.out.own.or e; omega)
            clear hb2 HON HS1 e1 d0 HS0
            cases y with
            | false =>
              have HE : Hid (r = .error e ∧ e ≠ 0) := Lib.hid (by
                have he : e ≠ 0 := by simpa using HY.out
                exact ⟨by rw [HR2.out]; unfold exR; rw [if_neg (show ¬ (x, e).2 = 0 from he)], he⟩)
              go_wp2_with fail
              go_ret
              rw [HE.out.1]
              exact ⟨rfl, HE.out.2, _, _, HS2.out, rfl, rfl⟩
            | true =>
              have he : e = 0 := by simpa using HY.out
              subst he
              have HXK : Hid (x ∈ s.kn) := Lib.hid (HXM.out rfl)
              have HR3 : Hid (r = tK s.d.1 s.kn p (fs1, hs1) (s.d.1.ts.drop (j + 1)) (rs1 ++ [x])) := Lib.hid HR2.out
              have HRS2 : Hid ((rs1 ++ [x]).length = j + 1 ∧ ∀ t ∈ rs1 ++ [x], t ∈ s.kn) := Lib.hid ⟨by rw [List.length_append, HRS.out.1]; rfl, fun t ht => by
                rcases List.mem_append.1 ht with ht | ht
                · exact HRS.out.2 t ht
                · rw [List.mem_singleton.1 ht]; exact HXK.out⟩
              have HRI : Hid (∀ t ∈ rs1 ++ [x], ClIn (NF b s.g s.l) w0 t.1 t.2) := Lib.hid (fun t ht => HS2.out.own.kIn.cls t (HRS2.out.2 t ht))
              have HRB : Hid (rs1.length ≤ 1048576) := Lib.hid (by rw [HRS.out.1]; exact Nat.le_trans hj hdt)
              clear hy hy2 HY HXM HR2
              go_upto_region 29 with fail
              obtain ⟨w3, hw3⟩ : ∃ w3, w3 = w2.alloc (.cells #[.string x.1.nm, .int .i64 x.1.kd, .bool x.1.ab, .bool x.1.fi, .string x.1.pa, .slice x.2.f.o x.2.f.n x.2.f.c, .slice x.2.t.o x.2.t.n x.2.t.c, .slice x.2.a.o x.2.a.n x.2.a.c, .slice x.2.c.o x.2.c.n x.2.c.c, .slice x.2.p.o x.2.p.n x.2.p.c, .slice x.2.m.o x.2.m.n x.2.m.c] 29) := ⟨_, rfl⟩
              rw [← hw3] at HS2 X2 ⊢
              clear hw3
              have hq0 : w3.drew.cell? ⟨b, 34, none⟩ = some (.slice r1.o r1.n r1.c) := cell_blk HS2.out.blk 34
              have HA7 : Hid (Below w3.drew.heap.size w3.drew (w3.drew.alloc (.cells #[.string x.1.nm, .int .i64 x.1.kd, .bool x.1.ab, .bool x.1.fi, .string x.1.pa, .slice x.2.f.o x.2.f.n x.2.f.c, .slice x.2.t.o x.2.t.n x.2.t.c, .slice x.2.a.o x.2.a.n x.2.a.c, .slice x.2.c.o x.2.c.n x.2.c.c, .slice x.2.p.o x.2.p.n x.2.p.c, .slice x.2.m.o x.2.m.n x.2.m.c] 29))) := Lib.hid (below_alloc1 _ _)
              have HS7 : Hid (LkG w0 (w3.drew.alloc (.cells #[.string x.1.nm, .int .i64 x.1.kd, .bool x.1.ab, .bool x.1.fi, .string x.1.pa, .slice x.2.f.o x.2.f.n x.2.f.c, .slice x.2.t.o x.2.t.n x.2.t.c, .slice x.2.a.o x.2.a.n x.2.a.c, .slice x.2.c.o x.2.c.n x.2.c.c, .slice x.2.p.o x.2.p.n x.2.p.c, .slice x.2.m.o x.2.m.n x.2.m.c] 29)) b (s.ap p f1 fs1 h1 hs1 r1 rs1) LS.p1) := Lib.hid ((HS2.out.same (Below.refl _ _).drew).same HA7.out)
              have hq1 : (w3.drew.alloc (.cells #[.string x.1.nm, .int .i64 x.1.kd, .bool x.1.ab, .bool x.1.fi, .string x.1.pa, .slice x.2.f.o x.2.f.n x.2.f.c, .slice x.2.t.o x.2.t.n x.2.t.c, .slice x.2.a.o x.2.a.n x.2.a.c, .slice x.2.c.o x.2.c.n x.2.c.c, .slice x.2.p.o x.2.p.n x.2.p.c, .slice x.2.m.o x.2.m.n x.2.m.c] 29)).cell? ⟨b, 34, none⟩ = some (.slice r1.o r1.n r1.c) := cell_blk HS7.out.blk 34
              have hq2 : (w3.alloc (.cells #[.string x.1.nm, .int .i64 x.1.kd, .bool x.1.ab, .bool x.1.fi, .string x.1.pa, .slice x.2.f.o x.2.f.n x.2.f.c, .slice x.2.t.o x.2.t.n x.2.t.c, .slice x.2.a.o x.2.a.n x.2.a.c, .slice x.2.c.o x.2.c.n x.2.c.c, .slice x.2.p.o x.2.p.n x.2.p.c, .slice x.2.m.o x.2.m.n x.2.m.c] 29)).drew.cell? ⟨b, 34, none⟩ = some (.slice r1.o r1.n r1.c) := hq1
              have hq3 : (w3.alloc (.cells #[.string x.1.nm, .int .i64 x.1.kd, .bool x.1.ab, .bool x.1.fi, .string x.1.pa, .slice x.2.f.o x.2.f.n x.2.f.c, .slice x.2.t.o x.2.t.n x.2.t.c, .slice x.2.a.o x.2.a.n x.2.a.c, .slice x.2.c.o x.2.c.n x.2.c.c, .slice x.2.p.o x.2.p.n x.2.p.c, .slice x.2.m.o x.2.m.n x.2.m.c] 29)).cell? ⟨b, 34, none⟩ = some (.slice r1.o r1.n r1.c) := hq1
              have HX7 : Hid ((w3.drew.alloc (.cells #[.string x.1.nm, .int .i64 x.1.kd, .bool x.1.ab, .bool x.1.fi, .string x.1.pa, .slice x.2.f.o x.2.f.n x.2.f.c, .slice x.2.t.o x.2.t.n x.2.t.c, .slice x.2.a.o x.2.a.n x.2.a.c, .slice x.2.c.o x.2.c.n x.2.c.c, .slice x.2.p.o x.2.p.n x.2.p.c, .slice x.2.m.o x.2.m.n x.2.m.c] 29)).heap[w2.heap.size]? = some (.cells #[.string x.1.nm, .int .i64 x.1.kd, .bool x.1.ab, .bool x.1.fi, .string x.1.pa, .slice x.2.f.o x.2.f.n x.2.f.c, .slice x.2.t.o x.2.t.n x.2.t.c, .slice x.2.a.o x.2.a.n x.2.a.c, .slice x.2.c.o x.2.c.n x.2.c.c, .slice x.2.p.o x.2.p.n x.2.p.c, .slice x.2.m.o x.2.m.n x.2.m.c] 29 (0, 0))) := Lib.hid (alloc_blk X2.out _)
              have hL : Hid (Lies (w3.drew.alloc (.cells #[.string x.1.nm, .int .i64 x.1.kd, .bool x.1.ab, .bool x.1.fi, .string x.1.pa, .slice x.2.f.o x.2.f.n x.2.f.c, .slice x.2.t.o x.2.t.n x.2.t.c, .slice x.2.a.o x.2.a.n x.2.a.c, .slice x.2.c.o x.2.c.n x.2.c.c, .slice x.2.p.o x.2.p.n x.2.p.c, .slice x.2.m.o x.2.m.n x.2.m.c] 29)) 11 (some ⟨w3.heap.size, 0, none⟩) ([[.string x.1.nm, .int .i64 x.1.kd, .bool x.1.ab, .bool x.1.fi, .string x.1.pa, .slice x.2.f.o x.2.f.n x.2.f.c, .slice x.2.t.o x.2.t.n x.2.t.c, .slice x.2.a.o x.2.a.n x.2.a.c, .slice x.2.c.o x.2.c.n x.2.c.c, .slice x.2.p.o x.2.p.n x.2.p.c, .slice x.2.m.o x.2.m.n x.2.m.c]] : List (List Value))) := Lib.hid (lies_new w3.drew [.string x.1.nm, .int .i64 x.1.kd, .bool x.1.ab, .bool x.1.fi, .string x.1.pa, .slice x.2.f.o x.2.f.n x.2.f.c, .slice x.2.t.o x.2.t.n x.2.t.c, .slice x.2.a.o x.2.a.n x.2.a.c, .slice x.2.c.o x.2.c.n x.2.c.c, .slice x.2.p.o x.2.p.n x.2.p.c, .slice x.2.m.o x.2.m.n x.2.m.c] 29 rfl)
              have hR1 : Hid ((rs1.map KC.row).length + ([[.string x.1.nm, .int .i64 x.1.kd, .bool x.1.ab, .bool x.1.fi, .string x.1.pa, .slice x.2.f.o x.2.f.n x.2.f.c, .slice x.2.t.o x.2.t.n x.2.t.c, .slice x.2.a.o x.2.a.n x.2.a.c, .slice x.2.c.o x.2.c.n x.2.c.c, .slice x.2.p.o x.2.p.n x.2.p.c, .slice x.2.m.o x.2.m.n x.2.m.c]] : List (List Value)).length ≤ maxLen) := Lib.hid (by have h0 := HRB.out; rw [List.length_map]; unfold maxLen; simp only [List.length_cons, List.length_nil]; omega)
              have hR2 : Hid (((rs1.map KC.row).length + ([[.string x.1.nm, .int .i64 x.1.kd, .bool x.1.ab, .bool x.1.fi, .string x.1.pa, .slice x.2.f.o x.2.f.n x.2.f.c, .slice x.2.t.o x.2.t.n x.2.t.c, .slice x.2.a.o x.2.a.n x.2.a.c, .slice x.2.c.o x.2.c.n x.2.c.c, .slice x.2.p.o x.2.p.n x.2.p.c, .slice x.2.m.o x.2.m.n x.2.m.c]] : List (List Value)).length) * 192 ≤ 140737488355328) := Lib.hid (by have h0 := HRB.out; rw [List.length_map]; simp only [List.length_cons, List.length_nil]; omega)
              have hBb : Hid (w2.heap.size ≠ b) := Lib.hid (fun e => by have h1 := X2.out; rw [e, HS2.out.blk] at h1; injection h1 with h2; injection h2 with _ h3 _; exact absurd h3 (by decide))
              have hBq : Hid (((.slice r1.o r1.n r1.c) : Value).ownBlock ≠ some w2.heap.size) := Lib.hid (fun e => HBQ.out e)
              refine wp_region_noPanic ?_
              refine wp_region_held_drew (S := (fun V => V.heap[w2.heap.size]? = some (.cells #[.string x.1.nm, .int .i64 x.1.kd, .bool x.1.ab, .bool x.1.fi, .string x.1.pa, .slice x.2.f.o x.2.f.n x.2.f.c, .slice x.2.t.o x.2.t.n x.2.t.c, .slice x.2.a.o x.2.a.n x.2.a.c, .slice x.2.c.o x.2.c.n x.2.c.c, .slice x.2.p.o x.2.p.n x.2.p.c, .slice x.2.m.o x.2.m.n x.2.m.c] 29 (0, 0)))) (by kernel_rfl) (by exact X2.out) (fun hHeld => ?_)
              refine wpAnyH_take (i := 0) (oi := ?oz1_) (v := ?vz1_) ?hiz1_ (by kernel_rfl) (by kernel_rfl) (by kernel_rfl) (fun _ _ _ h => h) ?hyz1_ (by assumption) ?restz1_
              case hiz1_ => simp only [gA, gZ]; rfl
              case hyz1_ =>
                refine Or.inl ⟨by rfl, ?_⟩
                intro w hSw; (try dsimp only at hSw); have u0 := cell_blk hSw 0; have u1 := cell_blk hSw 1; have u2 := cell_blk hSw 2; have u3 := cell_blk hSw 3; have u4 := cell_blk hSw 4; have u5 := cell_blk hSw 5; have u6 := cell_blk hSw 6; have u7 := cell_blk hSw 7; have u8 := cell_blk hSw 8; have u9 := cell_blk hSw 9; have u10 := cell_blk hSw 10; go_simp <;> (with_reducible rfl)
              (try simp only [Act.put, pA, pZ, pS])
              refine wpAnyH_take (i := 1) (oi := ?oz2_) (v := ?vz2_) ?hiz2_ (by kernel_rfl) (by kernel_rfl) (by kernel_rfl) (fun _ _ _ h => h) ?hyz2_ (by assumption) ?restz2_
              case hiz2_ => simp only [gA, gS, gZ]; rfl
              case hyz2_ =>
                refine Or.inl ⟨by rfl, ?_⟩
                intro w hSw; (try dsimp only at hSw); have u0 := cell_blk hSw 0; have u1 := cell_blk hSw 1; have u2 := cell_blk hSw 2; have u3 := cell_blk hSw 3; have u4 := cell_blk hSw 4; have u5 := cell_blk hSw 5; have u6 := cell_blk hSw 6; have u7 := cell_blk hSw 7; have u8 := cell_blk hSw 8; have u9 := cell_blk hSw 9; have u10 := cell_blk hSw 10; go_simp <;> (with_reducible rfl)
              (try simp only [Act.put, pA, pZ, pS])
              refine wpAnyH_take (i := 2) (oi := ?oz3_) (v := ?vz3_) ?hiz3_ (by kernel_rfl) (by kernel_rfl) (by kernel_rfl) (fun _ _ _ h => h) ?hyz3_ (by assumption) ?restz3_
              case hiz3_ => simp only [gA, gS, gZ]; rfl
              case hyz3_ =>
                refine Or.inl ⟨by rfl, ?_⟩
                intro w hSw; (try dsimp only at hSw); have u0 := cell_blk hSw 0; have u1 := cell_blk hSw 1; have u2 := cell_blk hSw 2; have u3 := cell_blk hSw 3; have u4 := cell_blk hSw 4; have u5 := cell_blk hSw 5; have u6 := cell_blk hSw 6; have u7 := cell_blk hSw 7; have u8 := cell_blk hSw 8; have u9 := cell_blk hSw 9; have u10 := cell_blk hSw 10; go_simp <;> (with_reducible rfl)
              (try simp only [Act.put, pA, pZ, pS])
              refine wpAnyH_take (i := 3) (oi := ?oz4_) (v := ?vz4_) ?hiz4_ (by kernel_rfl) (by kernel_rfl) (by kernel_rfl) (fun _ _ _ h => h) ?hyz4_ (by assumption) ?restz4_
              case hiz4_ => simp only [gA, gS, gZ]; rfl
              case hyz4_ =>
                refine Or.inl ⟨by rfl, ?_⟩
                intro w hSw; (try dsimp only at hSw); have u0 := cell_blk hSw 0; have u1 := cell_blk hSw 1; have u2 := cell_blk hSw 2; have u3 := cell_blk hSw 3; have u4 := cell_blk hSw 4; have u5 := cell_blk hSw 5; have u6 := cell_blk hSw 6; have u7 := cell_blk hSw 7; have u8 := cell_blk hSw 8; have u9 := cell_blk hSw 9; have u10 := cell_blk hSw 10; go_simp <;> (with_reducible rfl)
              (try simp only [Act.put, pA, pZ, pS])
              refine wpAnyH_take (i := 5) (oi := ?oz5_) (v := ?vz5_) ?hiz5_ (by kernel_rfl) (by kernel_rfl) (by kernel_rfl) (fun _ _ _ h => h) ?hyz5_ (by assumption) ?restz5_
              case hiz5_ => simp only [gA, gS, gZ]; rfl
              case hyz5_ =>
                refine Or.inl ⟨by rfl, ?_⟩
                intro w hSw; (try dsimp only at hSw); have u0 := cell_blk hSw 0; have u1 := cell_blk hSw 1; have u2 := cell_blk hSw 2; have u3 := cell_blk hSw 3; have u4 := cell_blk hSw 4; have u5 := cell_blk hSw 5; have u6 := cell_blk hSw 6; have u7 := cell_blk hSw 7; have u8 := cell_blk hSw 8; have u9 := cell_blk hSw 9; have u10 := cell_blk hSw 10; go_simp <;> (with_reducible rfl)
              (try simp only [Act.put, pA, pZ, pS])
              refine wpAnyH_ready (rs := [4, 6]) (by kernel_rfl) (by simp) ?_
              refine AllReadyH.cons rfl (fun K hK => ?_) (AllReadyH.cons rfl (fun K hK => ?_) AllReadyH.nil)
              · go_simp
                refine hK.out _ _ (by exact X2.out) (fun hHeld4 => ?_)
                clear hK K
                (try simp only [Act.put, pA, pZ, pS])
                refine wpAnyH_ready (rs := [6]) (by kernel_rfl) (by simp) ?_
                refine AllReadyH.cons rfl (fun K hK => ?_) AllReadyH.nil
                go_simp
                refine hK.out _ _ (by exact HX7.out) (fun hHeld6 => ?_)
                clear hK K
                (try simp only [Act.put, pA, pZ, pS])
                refine wpAnyH_ready (rs := [7]) (by kernel_rfl) (by simp) ?_
                refine AllReadyH.cons rfl (fun K hK => ?_) AllReadyH.nil
                refine step_append_rows rfl (.tmp 139) (.tmp 141) 22 rfl 29 _ 11 192 Tryd.underlying22 info29 rfl (by decide) (.slice r1.o r1.n r1.c) (rs1.map KC.row) (by simp [Act.eval]) HS7.out.own.or (some ⟨w3.heap.size, 0, none⟩) 1 1 [[.string x.1.nm, .int .i64 x.1.kd, .bool x.1.ab, .bool x.1.fi, .string x.1.pa, .slice x.2.f.o x.2.f.n x.2.f.c, .slice x.2.t.o x.2.t.n x.2.t.c, .slice x.2.a.o x.2.a.n x.2.a.c, .slice x.2.c.o x.2.c.n x.2.c.c, .slice x.2.p.o x.2.p.n x.2.p.c, .slice x.2.m.o x.2.m.n x.2.m.c]] (by simp [Act.eval]) rfl (fun e => by cases e) hL.out (by simp [Value.oneCell']) (by simp) hR1.out (by have h := hR2.out; omega) ?_
                intro v6 w6 o6 g6 b6
                obtain ⟨a6, L6, c6, hv6, -⟩ := owns_slice o6
                subst hv6
                have S6 : w6.heap[w2.heap.size]? = some (.cells #[.string x.1.nm, .int .i64 x.1.kd, .bool x.1.ab, .bool x.1.fi, .string x.1.pa, .slice x.2.f.o x.2.f.n x.2.f.c, .slice x.2.t.o x.2.t.n x.2.t.c, .slice x.2.a.o x.2.a.n x.2.a.c, .slice x.2.c.o x.2.c.n x.2.c.c, .slice x.2.p.o x.2.p.n x.2.p.c, .slice x.2.m.o x.2.m.n x.2.m.c] 29 (0, 0)) := (g6.block _ (lt_of_block HX7.out) (fun e => hBq.out e.symm)).trans HX7.out
                have B6 := Lib.hid ((g6.block b (lt_of_block HS7.out.blk) (fun e => own_nb (by decide) HS7.out.own.or HS7.out.blk e.symm)).trans HS7.out.blk)
                have zc := cell_blk B6.out 34; have zf := free_blk B6.out 34
                have zc : w6.cell? ⟨b, 34, none⟩ = some (.slice r1.o r1.n r1.c) := zc
                have HN := Lib.hid (HS7.out.put_r (v := ⟨a6, L6, c6⟩) (l := rs1 ++ [x]) HRI.out (by rw [List.map_append]; exact o6) g6 b6)
                have S8 : (w6.setCell ⟨b, 34, none⟩ (.slice a6 L6 c6)).heap[w2.heap.size]? = some (.cells #[.string x.1.nm, .int .i64 x.1.kd, .bool x.1.ab, .bool x.1.fi, .string x.1.pa, .slice x.2.f.o x.2.f.n x.2.f.c, .slice x.2.t.o x.2.t.n x.2.t.c, .slice x.2.a.o x.2.a.n x.2.a.c, .slice x.2.c.o x.2.c.n x.2.c.c, .slice x.2.p.o x.2.p.n x.2.p.c, .slice x.2.m.o x.2.m.n x.2.m.c] 29 (0, 0)) := set_other S6 hBb.out
                clear o6 g6 b6
                refine hK.out _ _ (by exact S6) (fun hHeld7 => ?_)
                clear hK K
                (try simp only [Act.put, pA])
                refine wpAnyH_take (i := 8) (oi := ?oz6_) (v := ?vz6_) ?hiz6_ (by kernel_rfl) (by kernel_rfl) (by kernel_rfl) (fun _ _ _ h => h) ?hyz6_ (by assumption) ?restz6_
                case hiz6_ => simp only [gA, gS, gZ]; rfl
                case hyz6_ =>
                  refine Or.inl ⟨by rfl, ?_⟩
                  intro w hSw; (try dsimp only at hSw); have u0 := cell_blk hSw 0; have u1 := cell_blk hSw 1; have u2 := cell_blk hSw 2; have u3 := cell_blk hSw 3; have u4 := cell_blk hSw 4; have u5 := cell_blk hSw 5; have u6 := cell_blk hSw 6; have u7 := cell_blk hSw 7; have u8 := cell_blk hSw 8; have u9 := cell_blk hSw 9; have u10 := cell_blk hSw 10; go_simp <;> (with_reducible rfl)
                (try simp only [Act.put])
                refine wpAnyH_take (i := 9) (oi := ?oz7_) (v := ?vz7_) ?hiz7_ (by kernel_rfl) (by kernel_rfl) (by kernel_rfl) (fun _ _ _ h => h) ?hyz7_ (by assumption) ?restz7_
                case hiz7_ => simp only [gA, gS, gZ]; rfl
                case hyz7_ =>
                  refine Or.inl ⟨by rfl, ?_⟩
                  intro w hSw; (try dsimp only at hSw); have u0 := cell_blk hSw 0; have u1 := cell_blk hSw 1; have u2 := cell_blk hSw 2; have u3 := cell_blk hSw 3; have u4 := cell_blk hSw 4; have u5 := cell_blk hSw 5; have u6 := cell_blk hSw 6; have u7 := cell_blk hSw 7; have u8 := cell_blk hSw 8; have u9 := cell_blk hSw 9; have u10 := cell_blk hSw 10; go_simp <;> (with_reducible rfl)
                (try simp only [Act.put])
                refine wpAnyH_ready (rs := [10]) (by kernel_rfl) (by simp) ?_
                refine AllReadyH.cons rfl (fun K hK => ?_) AllReadyH.nil
                go_simp
                refine hK.out _ _ (by exact S8) (fun hHeld10 => ?_)
                clear hK K
                (try simp only [Act.put])
                refine wpAnyH_done (by kernel_rfl) ?_ _
                refine NoPanic.normal ?_
                have HN2 := HN
                clear HN S8 S6 B6 zc zf
                go_wp2_with fail
                go_roundw
                case rel => exact ⟨j + 1, _, _, Hlt.out, by go_num, HN2, HR3, HRS2⟩
                case measure => have := Hlt.out; simp [intOf]; omega
              · go_simp
                refine hK.out _ _ (by exact HX7.out) (fun hHeld6 => ?_)
                clear hK K
                (try simp only [Act.put, pA, pZ, pS])
                refine wpAnyH_ready (rs := [4]) (by kernel_rfl) (by simp) ?_
                refine AllReadyH.cons rfl (fun K hK => ?_) AllReadyH.nil
                go_simp
                refine hK.out _ _ (by exact HX7.out) (fun hHeld4 => ?_)
                clear hK K
                (try simp only [Act.put, pA, pZ, pS])
                refine wpAnyH_ready (rs := [7]) (by kernel_rfl) (by simp) ?_
                refine AllReadyH.cons rfl (fun K hK => ?_) AllReadyH.nil
                refine step_append_rows rfl (.tmp 139) (.tmp 141) 22 rfl 29 _ 11 192 Tryd.underlying22 info29 rfl (by decide) (.slice r1.o r1.n r1.c) (rs1.map KC.row) (by simp [Act.eval]) HS7.out.own.or (some ⟨w3.heap.size, 0, none⟩) 1 1 [[.string x.1.nm, .int .i64 x.1.kd, .bool x.1.ab, .bool x.1.fi, .string x.1.pa, .slice x.2.f.o x.2.f.n x.2.f.c, .slice x.2.t.o x.2.t.n x.2.t.c, .slice x.2.a.o x.2.a.n x.2.a.c, .slice x.2.c.o x.2.c.n x.2.c.c, .slice x.2.p.o x.2.p.n x.2.p.c, .slice x.2.m.o x.2.m.n x.2.m.c]] (by simp [Act.eval]) rfl (fun e => by cases e) hL.out (by simp [Value.oneCell']) (by simp) hR1.out (by have h := hR2.out; omega) ?_
                intro v6 w6 o6 g6 b6
                obtain ⟨a6, L6, c6, hv6, -⟩ := owns_slice o6
                subst hv6
                have S6 : w6.heap[w2.heap.size]? = some (.cells #[.string x.1.nm, .int .i64 x.1.kd, .bool x.1.ab, .bool x.1.fi, .string x.1.pa, .slice x.2.f.o x.2.f.n x.2.f.c, .slice x.2.t.o x.2.t.n x.2.t.c, .slice x.2.a.o x.2.a.n x.2.a.c, .slice x.2.c.o x.2.c.n x.2.c.c, .slice x.2.p.o x.2.p.n x.2.p.c, .slice x.2.m.o x.2.m.n x.2.m.c] 29 (0, 0)) := (g6.block _ (lt_of_block HX7.out) (fun e => hBq.out e.symm)).trans HX7.out
                have B6 := Lib.hid ((g6.block b (lt_of_block HS7.out.blk) (fun e => own_nb (by decide) HS7.out.own.or HS7.out.blk e.symm)).trans HS7.out.blk)
                have zc := cell_blk B6.out 34; have zf := free_blk B6.out 34
                have zc : w6.cell? ⟨b, 34, none⟩ = some (.slice r1.o r1.n r1.c) := zc
                have HN := Lib.hid (HS7.out.put_r (v := ⟨a6, L6, c6⟩) (l := rs1 ++ [x]) HRI.out (by rw [List.map_append]; exact o6) g6 b6)
                have S8 : (w6.setCell ⟨b, 34, none⟩ (.slice a6 L6 c6)).heap[w2.heap.size]? = some (.cells #[.string x.1.nm, .int .i64 x.1.kd, .bool x.1.ab, .bool x.1.fi, .string x.1.pa, .slice x.2.f.o x.2.f.n x.2.f.c, .slice x.2.t.o x.2.t.n x.2.t.c, .slice x.2.a.o x.2.a.n x.2.a.c, .slice x.2.c.o x.2.c.n x.2.c.c, .slice x.2.p.o x.2.p.n x.2.p.c, .slice x.2.m.o x.2.m.n x.2.m.c] 29 (0, 0)) := set_other S6 hBb.out
                clear o6 g6 b6
                refine hK.out _ _ (by exact S6) (fun hHeld7 => ?_)
                clear hK K
                (try simp only [Act.put, pA])
                refine wpAnyH_take (i := 8) (oi := ?oz8_) (v := ?vz8_) ?hiz8_ (by kernel_rfl) (by kernel_rfl) (by kernel_rfl) (fun _ _ _ h => h) ?hyz8_ (by assumption) ?restz8_
                case hiz8_ => simp only [gA, gS, gZ]; rfl
                case hyz8_ =>
                  refine Or.inl ⟨by rfl, ?_⟩
                  intro w hSw; (try dsimp only at hSw); have u0 := cell_blk hSw 0; have u1 := cell_blk hSw 1; have u2 := cell_blk hSw 2; have u3 := cell_blk hSw 3; have u4 := cell_blk hSw 4; have u5 := cell_blk hSw 5; have u6 := cell_blk hSw 6; have u7 := cell_blk hSw 7; have u8 := cell_blk hSw 8; have u9 := cell_blk hSw 9; have u10 := cell_blk hSw 10; go_simp <;> (with_reducible rfl)
                (try simp only [Act.put])
                refine wpAnyH_take (i := 9) (oi := ?oz9_) (v := ?vz9_) ?hiz9_ (by kernel_rfl) (by kernel_rfl) (by kernel_rfl) (fun _ _ _ h => h) ?hyz9_ (by assumption) ?restz9_
                case hiz9_ => simp only [gA, gS, gZ]; rfl
                case hyz9_ =>
                  refine Or.inl ⟨by rfl, ?_⟩
                  intro w hSw; (try dsimp only at hSw); have u0 := cell_blk hSw 0; have u1 := cell_blk hSw 1; have u2 := cell_blk hSw 2; have u3 := cell_blk hSw 3; have u4 := cell_blk hSw 4; have u5 := cell_blk hSw 5; have u6 := cell_blk hSw 6; have u7 := cell_blk hSw 7; have u8 := cell_blk hSw 8; have u9 := cell_blk hSw 9; have u10 := cell_blk hSw 10; go_simp <;> (with_reducible rfl)
                (try simp only [Act.put])
                refine wpAnyH_ready (rs := [10]) (by kernel_rfl) (by simp) ?_
                refine AllReadyH.cons rfl (fun K hK => ?_) AllReadyH.nil
                go_simp
                refine hK.out _ _ (by exact S8) (fun hHeld10 => ?_)
                clear hK K
                (try simp only [Act.put])
                refine wpAnyH_done (by kernel_rfl) ?_ _
                refine NoPanic.normal ?_
                have HN2 := HN
                clear HN S8 S6 B6 zc zf
                go_wp2_with fail
                go_roundw
                case rel => exact ⟨j + 1, _, _, Hlt.out, by go_num, HN2, HR3, HRS2⟩
                case measure => have := Hlt.out; simp [intOf]; omega
          · obtain rfl : j = s.d.1.ts.length := by omega
            obtain ⟨z, hz⟩ : ∃ z, z = adaptsP s.d.1.ts rs1 s.d.1.ad := ⟨_, rfl⟩
            have HR3 : Hid (r = if z = 0 then .ok ⟨p, fs1, hs1, rs1⟩ else .error z) := Lib.hid (by rw [HR1.out, List.drop_length, hz]; rfl)
            have HAD : Hid (Calls Tryd.prog 43 #[.pointer (some ⟨b, 0, none⟩)] wr (AdaptsPost wr z)) := Lib.hid (by
              rw [hz]
              exact adapts_any (s := s.ap p f1 fs1 h1 hs1 r1 rs1) HS1.out.own (cell_blk HS1.out.blk 6) (cell_blk HS1.out.blk 7) (cell_blk HS1.out.blk 34) (show rs1.length ≤ _ by rw [HRS.out.1]; exact hdt) (fun t ht => hkm t (HRS.out.2 t ht)) hdt had hot)
            clear hz HR1
            go_wp2_with fail
            refine HAD.out.mono ?_
            rintro _ w6 ⟨rfl, hb⟩
            have HS6 := Lib.hid (HS1.out.same hb)
            clear hb HAD
            go_wp2_with fail
            go_ret
            rw [HR3.out]
            by_cases hz : z = 0
            · rw [if_pos hz]
              subst hz
              exact ⟨rfl, f1, h1, r1, HS6.out⟩
            · rw [if_neg hz]
              exact ⟨rfl, hz, _, _, HS6.out, rfl, rfl⟩
end Go.Proofs.YtobjmajkcfhpoaaDoor
