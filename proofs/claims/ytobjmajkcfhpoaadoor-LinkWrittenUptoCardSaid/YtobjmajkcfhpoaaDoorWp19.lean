/-
  Link (printed by genLink17.py).
-/
import Derived.Test.YtobjmajkcfhpoaaDoorWp17
import Derived.Test.YtobjmajkcfhpoaaDoorWp18
import Derived.Test.YtobjmajkcfhpoaaDoorWp12
import Derived.Test.YtobjmajkcfhpoaaDoorWp16
namespace Go.Proofs.YtobjmajkcfhpoaaDoor
open Go.RowKit
attribute [local go_sem] yld_undef
def NT (w : World) (g : Nat) : Prop := ∃ c t fr, w.heap[g]? = some (.cells c t fr) ∧ t ≠ 29
def LinkPost (w : World) (r : Except Int ClP) (e : Ending) (w' : World) : Prop :=
 match r with
 | .error c => e = .returned (.tuple #[KC.v KC.nil, .int .i64 c]) ∧ c ≠ 0 ∧ Below w.heap.size w w'
 | .ok cl => ∃ V : VS6, e = .returned (.tuple #[KC.v (cl, V), .int .i64 0]) ∧ Below w.heap.size w w' ∧ ClIn (NT w') w' cl V
def lK (d : ClP) (kn : List KC) : Except Int ClP :=
 match aboveP d kn with
 | .error e => .error e
 | .ok a => match constsP d kn a.p a.hs with
  | .error e => .error e
  | .ok cs => match allPs d a.p a.rs with
   | .error e => .error e
   | .ok ps => match allMs d kn a.p a.fs a.rs with
    | .error e => .error e
    | .ok ms => .ok ⟨d.nm, d.kd, d.ab, d.fi, d.pa, a.fs, d.ts, d.ad, cs, ps.1, ms⟩
theorem linkP_eq (d : ClP) (kn : List KC) : linkP d kn = if rightP d = false then .error 1 else if (findK kn d.nm).isSome = true then .error 9 else lK d kn := rfl
theorem blk_ty {w : World} {b b' : Nat} {c c' : Array Value} {t t' : TypeId} {fr fr' : Nat × Nat} (h : w.heap[b]? = some (.cells c t fr)) (h' : w.heap[b']? = some (.cells c' t' fr')) (ht : t ≠ t') : b ≠ b' := by
 intro e; rw [e, h'] at h; injection h with h; injection h with _ h _; exact ht h.symm
def S0 (d : KC) (K : SV) (kn : List KC) (tv sa : SV) (g l : Nat) : LS := { d := d, p := KC.nil, K := K, kn := kn, f := ⟨none, 0, 0⟩, fs := [], t := tv, a := sa, c := ⟨none, 0, 0⟩, cs := [], q := ⟨none, 0, 0⟩, ps := [], m := ⟨none, 0, 0⟩, ms := [], r := ⟨none, 0, 0⟩, rs := [], h := ⟨none, 0, 0⟩, hs := [], g := g, G := [], gn := 0, l := l, L := [], ln := 0, x := ⟨none, 0, 0⟩, xs := [] }
def PX (d : KC) (K : SV) (tv sa : SV) (g l : Nat) : Array Value := (LS.p0 (S0 d K [] tv sa g l)).cells
structure LPO (w : World) (b g l : Nat) (tv : SV) (ts : List ByteArray) (W : World) (sa : SV) (ys : List (AdP × SV)) : Prop where
 below : Below w.heap.size w W
 hb : ∃ c, W.heap[b]? = some (.cells c 51 (0, 0))
 gm : mSB.Is W g (gvF []) 0
 lm : mSB.Is W l (metF []) 0
 ot : Owns W 9 1 (.slice tv.o tv.n tv.c) (ts.map sR)
 oa : Owns W 54 4 (.slice sa.o sa.n sa.c) (ys.map AdP.row)
 oy : ∀ y ∈ ys, Owns W 9 1 (.slice y.2.o y.2.n y.2.c) (y.1.ot.map sR)
 fa : ∀ k, (Value.slice sa.o sa.n sa.c).ownBlock = some k → w.heap.size ≤ k
 nb : w.heap.size ≤ b
structure LP (w : World) (b g l : Nat) (d : KC) (K : SV) (tv : SV) (W : World) (sa : SV) (ys : List (AdP × SV)) : Prop where
 own : LPO w b g l tv d.1.ts W sa ys
 blk : W.heap[b]? = some (.cells (PX d K tv sa g l) 51 (0, 0))
section
variable {w W W1 W3 : World} {b g l : Nat} {d : KC} {K tv sa : SV} {ys : List (AdP × SV)}
theorem LP.same (h : LP w b g l d K tv W sa ys) (m : Below W.heap.size W W1) : LP w b g l d K tv W1 sa ys := by
 have mm := Mod.of_below (F := fun _ => False) m; have k := h.own; have hb := mm.blk h.blk (fun x => x); exact ⟨⟨k.below.trans (m.mono k.below.size), ⟨_, hb⟩, k.gm.under m, k.lm.under m, k.ot.mod mm (fun _ _ x => x), k.oa.mod mm (fun _ _ x => x), fun y hy => (k.oy y hy).mod mm (fun _ _ x => x), k.fa, k.nb⟩, hb⟩
theorem LP.put_a (h : LP w b g l d K tv W sa ys) {v : SV} {l9 : List (AdP × SV)} (hl : ∀ y ∈ l9, Owns W 9 1 (.slice y.2.o y.2.n y.2.c) (y.1.ot.map sR)) (o3 : Owns W3 54 4 (.slice v.o v.n v.c) (l9.map AdP.row)) (g3 : W.grownBy W3 (Value.slice sa.o sa.n sa.c).ownBlock) (n3 : (Value.slice v.o v.n v.c).ownBlock = (Value.slice sa.o sa.n sa.c).ownBlock ∨ ∃ j, (Value.slice v.o v.n v.c).ownBlock = some j ∧ W.heap.size ≤ j) : LP w b g l d K tv (W3.setCell ⟨b, 18, none⟩ (.slice v.o v.n v.c)) v l9 := by
 have k := h.own; have mm : Mod (fun j => (Value.slice sa.o sa.n sa.c).ownBlock = some j ∨ j = b) W (W3.setCell ⟨b, 18, none⟩ (.slice v.o v.n v.c)) := ((Mod.refl _ W).grown g3 (fun j e _ => .inl e)).setCell ⟨b, 18, none⟩ _ (fun _ => .inr rfl); have m1 : Mod (fun j => (Value.slice sa.o sa.n sa.c).ownBlock = some j) W W3 := (Mod.refl _ W).grown g3 (fun j e _ => e); have hb := set_blk (m1.blk h.blk (own_nb (by decide) k.oa h.blk)) 18 (.slice v.o v.n v.c); have ob : Owns (W3.setCell ⟨b, 18, none⟩ (.slice v.o v.n v.c)) 54 4 (.slice v.o v.n v.c) (l9.map AdP.row) := o3.mod ((Mod.refl (fun k => k = b) W3).setCell ⟨b, 18, none⟩ _ (fun _ => rfl)) (fun j e x => own_nb (by decide) o3 (m1.blk h.blk (own_nb (by decide) k.oa h.blk)) (by rw [← x]; exact e)); have hgb : g ≠ b := fun e => by
  obtain ⟨D, ⟨es, clock, h2, -⟩, -⟩ := k.gm; rw [e, h.blk] at h2; cases h2
 have hlb : l ≠ b := fun e => by
  obtain ⟨D, ⟨es, clock, h2, -⟩, -⟩ := k.lm; rw [e, h.blk] at h2; cases h2
 have n9 : ∀ {v9 : Value} {rows : List (List Value)}, Owns W 9 1 v9 rows → Owns (W3.setCell ⟨b, 18, none⟩ (.slice v.o v.n v.c)) 9 1 v9 rows := fun o9 => o9.mod mm (fun j e x => by
  rcases x with x | x
  ·exact own_ne (by decide) o9 k.oa e x
  ·exact own_nb (by decide) o9 h.blk (by rw [← x]; exact e))
 refine ⟨⟨?_, ⟨_, hb⟩, k.gm.mod mm (fun x => by rcases x with x | x; exact own_nm k.oa k.gm x; exact hgb x), k.lm.mod mm (fun x => by rcases x with x | x; exact own_nm k.oa k.lm x; exact hlb x), n9 k.ot, ob, fun y hy => n9 (hl y hy), fun j e => ?_, k.nb⟩, ?_⟩
 ·exact k.below.trans (mm.belowB (fun j hj x => by rcases x with x | x; have := k.fa j x; omega; have := k.nb; omega) k.below.size)
 ·rcases n3 with n3 | ⟨j2, n3, hj⟩
  ·exact k.fa j (by rw [← n3]; exact e)
  ·rw [n3] at e; cases e; have := k.below.size; omega
 ·simpa [PX, S0, LS.cells, LS.p0] using hb
theorem three (w : World) (X : Array Value) : mSB.Is (((w.alloc (.map #[] 0)).alloc (.map #[] 0)).alloc (.cells X 51)) w.heap.size (gvF []) 0 ∧ mSB.Is (((w.alloc (.map #[] 0)).alloc (.map #[] 0)).alloc (.cells X 51)) (w.heap.size + 1) (metF []) 0 ∧ (((w.alloc (.map #[] 0)).alloc (.map #[] 0)).alloc (.cells X 51)).heap[w.heap.size + 1 + 1]? = some (.cells X 51 (0, 0)) ∧ Below w.heap.size w (((w.alloc (.map #[] 0)).alloc (.map #[] 0)).alloc (.cells X 51)) := by
 have b1 := below_alloc1 w (.map #[] 0); have b2 := below_alloc1 (w.alloc (.map #[] 0)) (.map #[] 0); have b3 := below_alloc1 ((w.alloc (.map #[] 0)).alloc (.map #[] 0)) (.cells X 51); have s1 : (w.alloc (.map #[] 0)).heap.size = w.heap.size + 1 := by simp
 have s2 : ((w.alloc (.map #[] 0)).alloc (.map #[] 0)).heap.size = w.heap.size + 1 + 1 := by simp
 refine ⟨(((MSpec.made (S := mSB) w).congr (fun x _ => rfl)).under b2).under b3, ?_, ?_, (b1.trans (b2.mono b1.size)).trans (b3.mono (by omega))⟩
 ·have h := (MSpec.made (S := mSB) (w.alloc (.map #[] 0))).congr (G := metF []) (fun x _ => rfl); rw [s1] at h; exact h.under b3
 ·have h := heap_alloc_new ((w.alloc (.map #[] 0)).alloc (.map #[] 0)) (.cells X 51); rw [s2] at h; exact h
theorem LP.lk {A A' B : Nat → Prop} {kn : List KC} (h : LP w b g l d K tv W sa ys) (hd : ClIn A w d.1 d.2) (hk : KnIn A' B w (.slice K.o K.n K.c) kn) (hys : ys.map (·.1) = d.1.ad) (hgl : g ≠ l) (hg : w.heap.size ≤ g) (hl : w.heap.size ≤ l) : LkG W W b (S0 d K kn tv sa g l) LS.p0 := by
 have k := h.own; have nf : ∀ {C : Nat → Prop} (j : Nat), C j → j < w.heap.size → W.heap[j]? = w.heap[j]? ∧ j < W.heap.size ∧ NF b g l j := fun j _ hj => ⟨k.below.block j hj, Nat.lt_of_lt_of_le hj k.below.size, fun x => by have := k.nb; rcases x with x | x | x <;> omega⟩
 have no : ∀ {e : TypeId} {size : Nat} {v : Value} {rows : List (List Value)}, e ≠ 51 → Owns W e size v rows → ∀ j, v.ownBlock = some j → NF b g l j := fun he o j e x => by
  rcases x with x | x | x
  ·exact own_nb he o h.blk (by rw [← x]; exact e)
  ·exact own_nm o k.gm (by rw [← x]; exact e)
  ·exact own_nm o k.lm (by rw [← x]; exact e)
 refine ⟨⟨⟨_, h.blk⟩, Mod.refl _ _, hd.kept nf, ClIn.zero, ⟨hk.rows.kept nf, fun x hx => (hk.cls x hx).kept nf⟩, fun x hx => (by cases hx), RIn.of_owns k.ot (no (by decide) k.ot), ⟨ys, hys, RIn.of_owns k.oa (no (by decide) k.oa), fun y hy => RIn.of_owns (k.oy y hy) (no (by decide) (k.oy y hy))⟩, hgl, k.gm, k.lm, Owns.empty _ _ _, Owns.empty _ _ _, Owns.empty _ _ _, Owns.empty _ _ _, Owns.empty _ _ _, Owns.empty _ _ _, fun k e => (by cases e), fun k e => (by cases e), fun k e => (by cases e), fun k e => (by cases e), fun k e => (by cases e), fun k e => (by cases e), fun k e => (by cases e), Owns.empty _ _ _, fun k e => (by cases e)⟩, h.blk⟩
end
def lK1 (d : ClP) (kn : List KC) (a : AboveP) : Except Int ClP :=
 match constsP d kn a.p a.hs with
 | .error e => .error e
 | .ok cs => match allPs d a.p a.rs with
  | .error e => .error e
  | .ok ps => match allMs d kn a.p a.fs a.rs with
   | .error e => .error e
   | .ok ms => .ok ⟨d.nm, d.kd, d.ab, d.fi, d.pa, a.fs, d.ts, d.ad, cs, ps.1, ms⟩
def lK2 (d : ClP) (kn : List KC) (a : AboveP) (cs : List CoP) : Except Int ClP :=
 match allPs d a.p a.rs with
 | .error e => .error e
 | .ok ps => match allMs d kn a.p a.fs a.rs with
  | .error e => .error e
  | .ok ms => .ok ⟨d.nm, d.kd, d.ab, d.fi, d.pa, a.fs, d.ts, d.ad, cs, ps.1, ms⟩
def lK3 (d : ClP) (kn : List KC) (a : AboveP) (cs : List CoP) (ps : List PrP) : Except Int ClP :=
 match allMs d kn a.p a.fs a.rs with
 | .error e => .error e
 | .ok ms => .ok ⟨d.nm, d.kd, d.ab, d.fi, d.pa, a.fs, d.ts, d.ad, cs, ps, ms⟩
def exA {α : Type} (r : Except Int α) (f : α → Except Int ClP) : Except Int ClP :=
 match r with
 | .error e => .error e
 | .ok a => f a
theorem lK_ex (d : ClP) (kn : List KC) : lK d kn = exA (aboveP d kn) (lK1 d kn) := by
 unfold lK exA; cases aboveP d kn <;> rfl
theorem lK1_ex (d : ClP) (kn : List KC) (a : AboveP) : lK1 d kn a = exA (constsP d kn a.p a.hs) (lK2 d kn a) := by
 unfold lK1 exA; cases constsP d kn a.p a.hs <;> rfl
theorem lK2_ex (d : ClP) (kn : List KC) (a : AboveP) (cs : List CoP) : lK2 d kn a cs = exA (allPs d a.p a.rs) (fun ps => lK3 d kn a cs ps.1) := by
 unfold lK2 exA; cases allPs d a.p a.rs <;> rfl
theorem lK3_ex (d : ClP) (kn : List KC) (a : AboveP) (cs : List CoP) (ps : List PrP) : lK3 d kn a cs ps = exA (allMs d kn a.p a.fs a.rs) (fun ms => .ok ⟨d.nm, d.kd, d.ab, d.fi, d.pa, a.fs, d.ts, d.ad, cs, ps, ms⟩) := by
 unfold lK3 exA; cases allMs d kn a.p a.fs a.rs <;> rfl
structure AbU (U : List ByteArray) (kn : List KC) (a : AboveP) : Prop where
 p : a.p = KC.nil ∨ a.p ∈ kn
 f : PIf U (a.fs, a.hs)
 r : ∀ t ∈ a.rs, t ∈ kn
 rl : a.rs.length ≤ 1048576
theorem putF_keeps {U : List ByteArray} : ∀ (l : List ByteArray) (st : List ByteArray × List ByteArray), (∀ y ∈ l, y ∈ U) → PIf U st → PIf U (putF l st)
 | [], _, _, h => h
 | y :: l, (fs, hs), hu, h => by
  rw [putF_cons]
  refine putF_keeps l _ (fun z hz => hu z (by simp [hz])) ?_
  split
  ·exact h
  ·rename_i hy
   exact h.push (by simpa using hy) (hu y (by simp))
theorem facesP_keeps {U : List ByteArray} {kn : List KC} (hk : ∀ x ∈ kn, KnU U x.1) : ∀ (l : List ByteArray) (st st' : List ByteArray × List ByteArray), (∀ y ∈ l, y ∈ U) → PIf U st → facesP kn l st = .ok st' → PIf U st'
 | [], st, st', _, h, e => by cases e; exact h
 | n :: l, st, st', hu, h, e => by
  rw [facesP, oneP_R] at e
  by_cases h0 : (oneR kn n 2).2 = 0
  ·rw [if_pos h0] at e
   simp only at e
   refine facesP_keeps hk l _ st' (fun z hz => hu z (by simp [hz])) (putF_keeps _ _ (fun y hy => ?_) h) e
   rcases List.mem_append.1 hy with hy | hy
   ·exact (hk _ (oneR_mem h0)).fs.mem hy
   ·rw [List.mem_singleton.1 hy]; exact hu n (by simp)
  ·rw [if_neg h0] at e
   cases e
theorem traitsP_keeps {kn : List KC} : ∀ (l : List ByteArray) (rs rs' : List KC), (∀ t ∈ rs, t ∈ kn) → traitsP kn l rs = .ok rs' → (∀ t ∈ rs', t ∈ kn) ∧ rs'.length = rs.length + l.length
 | [], rs, rs', h, e => by cases e; exact ⟨h, rfl⟩
 | n :: l, rs, rs', h, e => by
  rw [traitsP, oneP_R] at e
  by_cases h0 : (oneR kn n 3).2 = 0
  ·rw [if_pos h0] at e
   simp only at e
   have h1 := traitsP_keeps l (rs ++ [(oneR kn n 3).1]) rs' (fun t ht => by
    rcases List.mem_append.1 ht with ht | ht
    ·exact h t ht
    ·rw [List.mem_singleton.1 ht]; exact oneR_mem h0) e
   refine ⟨h1.1, ?_⟩
   rw [h1.2, List.length_append, List.length_cons, List.length_cons, List.length_nil]
   omega
  ·rw [if_neg h0] at e
   cases e
theorem aboveP_keeps {U : List ByteArray} {kn : List KC} {d : ClP} {a : AboveP} (hk : ∀ x ∈ kn, KnU U x.1) (hd : DeU U d) (e : aboveP d kn = .ok a) : AbU U kn a := by
 unfold aboveP at e; cases hp : parentP kn d.pa with
 | error c => rw [hp] at e; cases e
 | ok p =>
  rw [hp] at e; simp only at e; have hpm : p = KC.nil ∨ p ∈ kn := by
   rw [parentP_R] at hp; split at hp
   ·cases hp; exact .inl rfl
   ·unfold parQ at hp; split at hp
    ·rename_i h0; split at hp
     ·cases hp
     ·cases hp; exact .inr (oneR_mem h0)
    ·cases hp
  have hpu : PIf U (p.1.fs, []) := by
   refine ⟨?_, Nat.zero_le _, fun x hx => by cases hx⟩; rcases hpm with rfl | hpm
   ·exact PIn.nil
   ·exact (hk p hpm).fs
  cases hf : facesP kn d.fs (p.1.fs, []) with
  | error c => rw [hf] at e; cases e
  | ok s =>
   rw [hf] at e; simp only at e; cases ht : traitsP kn d.ts [] with
   | error c => rw [ht] at e; cases e
   | ok rs =>
    rw [ht] at e; simp only at e; split at e
    ·cases e; obtain ⟨h1, h2⟩ := traitsP_keeps d.ts [] rs (fun t h => by cases h) ht; refine ⟨hpm, facesP_keeps hk d.fs _ s hd.fs hpu hf, h1, ?_⟩; rw [h2, List.length_nil, Nat.zero_add]; exact hd.sm.tl
    ·cases e
theorem AbU.pk {U : List ByteArray} {kn : List KC} {a : AboveP} (h : AbU U kn a) (hk : ∀ x ∈ kn, KnU U x.1) : KnU U a.p.1 := by
 rcases h.p with e | e
 ·rw [e]; exact KnU.nil U
 ·exact hk _ e
def Stg (U : List ByteArray) (w0 : World) (b : Nat) (s : LS) (r : Except Int ClP) (W : World) : Nat → Prop
 | 0 => LkG w0 W b s LS.p0 ∧ r = lK s.d.1 s.kn
 | 1 => ∃ a f h rr, AbU U s.kn a ∧ LkG w0 W b { s with p := a.p, f := f, fs := a.fs, h := h, hs := a.hs, r := rr, rs := a.rs } LS.p1 ∧ r = lK1 s.d.1 s.kn a
 | 2 => ∃ a f h rr cs c, AbU U s.kn a ∧ LkG w0 W b { s with p := a.p, f := f, fs := a.fs, h := h, hs := a.hs, r := rr, rs := a.rs, c := c, cs := cs } LS.p2 ∧ r = lK2 s.d.1 s.kn a cs
 | 3 => ∃ a f h rr cs c ps q L n, AbU U s.kn a ∧ LkG w0 W b { s with p := a.p, f := f, fs := a.fs, h := h, hs := a.hs, r := rr, rs := a.rs, c := c, cs := cs, q := q, ps := ps, L := L, ln := n } LS.p3 ∧ r = lK3 s.d.1 s.kn a cs ps
 | _ => ∃ a f h rr cs c ps q L n ms m G gn x xs, AbU U s.kn a ∧ LkIs w0 W b { s with p := a.p, f := f, fs := a.fs, h := h, hs := a.hs, r := rr, rs := a.rs, c := c, cs := cs, q := q, ps := ps, L := L, ln := n, m := m, ms := ms, G := G, gn := gn, x := x, xs := xs } ∧ r = .ok ⟨s.d.1.nm, s.d.1.kd, s.d.1.ab, s.d.1.fi, s.d.1.pa, a.fs, s.d.1.ts, s.d.1.ad, cs, ps, ms⟩
def StepPost (U : List ByteArray) (w0 : World) (b : Nat) (s : LS) (r : Except Int ClP) (i : Nat) (e : Ending) (w' : World) : Prop :=
 ∃ c : Int, e = .returned (.int .i64 c) ∧ ((c = 0 ∧ Stg U w0 b s r w' (i + 1)) ∨ (c ≠ 0 ∧ r = .error c ∧ ∃ s' J, LkG w0 w' b s' J ∧ s'.g = s.g ∧ s'.l = s.l))
theorem psK_eq (d : ClP) (p : KC) (rs : List KC) : allPs d p rs = psK d rs (p.1.ps, []) := by
 unfold allPs psK; cases traitPs d.nm rs (p.1.ps, []) <;> rfl
section
variable {U : List ByteArray} {w0 W : World} {b g l : Nat} {d : KC} {K : SV} {kn : List KC} {tv sa : SV} {r : Except Int ClP}
theorem stage0 (hU : SmU U) (hD : DeU U d.1) (hK : ∀ x ∈ kn, KnU U x.1) (hkn : kn.length ≤ 1048576) (h : Stg U w0 b (S0 d K kn tv sa g l) r W 0) : Calls Tryd.prog 16 #[.pointer (some ⟨b, 0, none⟩)] W (StepPost U w0 b (S0 d K kn tv sa g l) r 0) := by
 obtain ⟨h0, hr⟩ := h; refine (above_any (PIf U) h0 rfl rfl rfl rfl hkn hD.sm.fl hD.sm.tl hD.sm.al (fun a ha => (hD.sm.oz a ha).1) (fun x hx => (hK x hx).lfs hU) (fun x hx => (hK x hx).lms hU) (fun p hp => ⟨?_, Nat.zero_le _, fun x hx => by cases hx⟩) (fun fs hs y h1 h2 h3 => h1.push h2 ?_) (fun st h1 => h1.len hU)).mono ?_
 ·rcases hp with rfl | hp
  ·exact PIn.nil
  ·exact (hK p hp).fs
 ·rcases h3 with h3 | ⟨x, hx, h3⟩
  ·exact hD.fs y h3
  ·exact (hK x hx).fs.mem h3
 ·intro e w' hp; have hr : r = exA (aboveP d.1 kn) (lK1 d.1 kn) := by rw [hr]; exact lK_ex _ _
  have hp : AbovePost w0 b (S0 d K kn tv sa g l) (aboveP d.1 kn) e w' := hp; cases ha : aboveP d.1 kn with
  | error c =>
   rw [ha] at hp hr; obtain ⟨rfl, h1, h2⟩ := hp; exact ⟨c, rfl, .inr ⟨h1, hr, h2⟩⟩
  | ok a =>
   rw [ha] at hp hr; obtain ⟨rfl, f, h1, rr, h2⟩ := hp; exact ⟨0, rfl, .inl ⟨rfl, a, f, h1, rr, aboveP_keeps hK hD ha, h2, hr⟩⟩
theorem stage1 (hU : SmU U) (hD : DeU U d.1) (hK : ∀ x ∈ kn, KnU U x.1) (hkn : kn.length ≤ 1048576) (h : Stg U w0 b (S0 d K kn tv sa g l) r W 1) : Calls Tryd.prog 17 #[.pointer (some ⟨b, 0, none⟩)] W (StepPost U w0 b (S0 d K kn tv sa g l) r 1) := by
 obtain ⟨a, f, h1, rr, hA, h0, hr⟩ := h; refine (consts_any (PIn CoP.nm U) h0 rfl (hA.f.len hU).2 hkn (fun x hx => (hK x hx).lcs hU) hD.sm.cl ((hA.pk hK).lcs hU) (hA.pk hK).cs (fun n hn x hx cs h2 h3 h4 => h2.push ((fKC_kn hK n).cs.mem hx) h4) (fun x hx cs h2 h3 => h2.push (x := ⟨x.nm, d.1.nm, x.cd⟩) (hD.cs x hx) h3) (fun x hx cs i h2 h3 => h2.set (x := ⟨x.nm, d.1.nm, x.cd⟩) h3) (fun l h2 => Nat.le_trans h2.len hU.len)).mono ?_; intro e w' hp; have hr : r = exA (constsP d.1 kn a.p a.hs) (lK2 d.1 kn a) := by rw [hr]; exact lK1_ex _ _ _
 have hp : ConstsPost w0 b { S0 d K kn tv sa g l with p := a.p, f := f, fs := a.fs, h := h1, hs := a.hs, r := rr, rs := a.rs } (constsP d.1 kn a.p a.hs) e w' := hp; cases ha : constsP d.1 kn a.p a.hs with
 | error c =>
  rw [ha] at hp hr; obtain ⟨rfl, h1, s', h2⟩ := hp; exact ⟨c, rfl, .inr ⟨h1, hr, s', _, h2⟩⟩
 | ok cs =>
  rw [ha] at hp hr; obtain ⟨rfl, c, h2⟩ := hp; exact ⟨0, rfl, .inl ⟨rfl, a, f, h1, rr, cs, c, hA, h2, hr⟩⟩
theorem stage2 (hU : SmU U) (hD : DeU U d.1) (hK : ∀ x ∈ kn, KnU U x.1) (h : Stg U w0 b (S0 d K kn tv sa g l) r W 2) : Calls Tryd.prog 18 #[.pointer (some ⟨b, 0, none⟩)] W (StepPost U w0 b (S0 d K kn tv sa g l) r 2) := by
 obtain ⟨a, f, h1, rr, cs, c, hA, h0, hr⟩ := h; refine (props_any (PIn PrP.nm U) h0 rfl hA.rl hD.sm.pl (fun x hx => hD.sm.pz x hx) (fun t ht => ⟨(hK t (hA.r t ht)).lps hU, fun x hx => hU.size _ ((hK t (hA.r t ht)).ps.mem hx)⟩) ((hA.pk hK).lps hU) (hA.pk hK).ps (fun x tr st st' h2 h3 h4 => propP_keeps h3 ?_ h4) (fun l h2 => Nat.le_trans h2.len hU.len) (Nat.zero_le _)).mono ?_
 ·rcases h2 with h2 | ⟨t, ht, h2⟩
  ·exact hD.ps x h2
  ·exact (hK t (hA.r t ht)).ps.mem h2
 ·intro e w' hp; have hr : r = exA (allPs d.1 a.p a.rs) (fun ps => lK3 d.1 kn a cs ps.1) := by rw [hr]; exact lK2_ex _ _ _ _
  have hp : PropsPost w0 b { S0 d K kn tv sa g l with p := a.p, f := f, fs := a.fs, h := h1, hs := a.hs, r := rr, rs := a.rs, c := c, cs := cs } (allPs d.1 a.p a.rs) e w' := by rw [psK_eq]; exact hp
  cases ha : allPs d.1 a.p a.rs with
  | error c =>
   rw [ha] at hp hr; obtain ⟨rfl, h1, s', h2⟩ := hp; exact ⟨c, rfl, .inr ⟨h1, hr, s', _, h2⟩⟩
  | ok ps =>
   rw [ha] at hp hr; obtain ⟨rfl, v, n, h2⟩ := hp; exact ⟨0, rfl, .inl ⟨rfl, a, f, h1, rr, cs, c, ps.1, v, ps.2, n, hA, h2, hr⟩⟩
theorem stage3 (hU : SmU U) (hD : DeU U d.1) (hK : ∀ x ∈ kn, KnU U x.1) (hkn : kn.length ≤ 1048576) (h : Stg U w0 b (S0 d K kn tv sa g l) r W 3) : Calls Tryd.prog 19 #[.pointer (some ⟨b, 0, none⟩)] W (StepPost U w0 b (S0 d K kn tv sa g l) r 3) := by
 obtain ⟨a, f, h1, rr, cs, c, ps, q, L, n, hA, h0, hr⟩ := h; have hgn : ∀ m ∈ giftsP d.1.ad a.rs, m.nm ∈ U := gifts_names hD.ad (fun t ht => hK t (hA.r t ht)); refine (methods_any (PIn MtP.nm U) h0 rfl rfl (Nat.zero_le _) (hA.f.len hU).1 hkn (fun x hx => (hK x hx).lms hU) hD.sm.ml ((hA.pk hK).lms hU) hA.rl (fun t ht => (hK t (hA.r t ht)).lms hU) hD.sm.al (fun x hx => (hD.sm.oz x hx).1) (fun m hm => hU.size _ (hgn m hm)) (fun m hm => hD.sm.mz m hm) (hA.pk hK).ms (fun n hn m hm ms h2 h3 => h2.push ((fKC_kn hK n).ms.mem hm) h3) (fun m tr st st' h2 h3 h4 => methodP_keeps h3 ?_ h4) (fun l h2 => Nat.le_trans h2.len hU.len)).mono ?_
 ·rcases h2 with h2 | h2
  ·exact hgn m h2
  ·exact hD.ms m h2
 ·intro e w' hp; have hr : r = exA (allMs d.1 kn a.p a.fs a.rs) (fun ms => .ok ⟨d.1.nm, d.1.kd, d.1.ab, d.1.fi, d.1.pa, a.fs, d.1.ts, d.1.ad, cs, ps, ms⟩) := by rw [hr]; exact lK3_ex _ _ _ _ _
  have hp : MethsQ w0 b { S0 d K kn tv sa g l with p := a.p, f := f, fs := a.fs, h := h1, hs := a.hs, r := rr, rs := a.rs, c := c, cs := cs, q := q, ps := ps, L := L, ln := n } (allMs d.1 kn a.p a.fs a.rs) e w' := hp; cases ha : allMs d.1 kn a.p a.fs a.rs with
  | error c =>
   rw [ha] at hp hr; obtain ⟨rfl, h1, h2⟩ := hp; exact ⟨c, rfl, .inr ⟨h1, hr, h2⟩⟩
  | ok ms =>
   rw [ha] at hp hr; obtain ⟨rfl, v, G, gn, x, xs, h2⟩ := hp; exact ⟨0, rfl, .inl ⟨rfl, a, f, h1, rr, cs, c, ps, q, L, n, ms, v, G, gn, x, xs, hA, h2, hr⟩⟩
end
theorem stg_mod {U : List ByteArray} {w0 W : World} {b g l : Nat} {d : KC} {K : SV} {kn : List KC} {tv sa : SV} {r : Except Int ClP} : ∀ {j : Nat}, Stg U w0 b (S0 d K kn tv sa g l) r W j → Mod (LF b g l) w0 W
 | 0, h => h.1.own.mod
 | 1, h => by obtain ⟨a, f, h1, rr, hA, h0, hr⟩ := h; exact h0.own.mod
 | 2, h => by obtain ⟨a, f, h1, rr, cs, c, hA, h0, hr⟩ := h; exact h0.own.mod
 | 3, h => by obtain ⟨a, f, h1, rr, cs, c, ps, q, L, n, hA, h0, hr⟩ := h; exact h0.own.mod
 | _ + 4, h => by obtain ⟨a, f, h1, rr, cs, c, ps, q, L, n, ms, m, G, gn, x, xs, hA, h0, hr⟩ := h; exact h0.own.mod
theorem own_nt {w : World} {e : TypeId} {size : Nat} {v : Value} {rows : List (List Value)} (he : e ≠ 29) (h : Owns w e size v rows) : ∀ k, v.ownBlock = some k → NT w k := fun k hk => by
 obtain ⟨cur, h1⟩ := own_ty h hk
 exact ⟨cur, e, _, h1, he⟩
theorem LP.ta {w W : World} {b g l : Nat} {d : KC} {K tv sa : SV} {ys : List (AdP × SV)} (h : LP w b g l d K tv W sa ys) (hys : ys.map (·.1) = d.1.ad) : RIn (fun k => NT W k ∧ NF b g l k) W 1 (.slice tv.o tv.n tv.c) (d.1.ts.map sR) ∧ AdIn (fun k => NT W k ∧ NF b g l k) W (.slice sa.o sa.n sa.c) d.1.ad := by
 have k := h.own; have no : ∀ {e : TypeId} {size : Nat} {v : Value} {rows : List (List Value)}, e ≠ 51 → e ≠ 29 → Owns W e size v rows → ∀ j, v.ownBlock = some j → NT W j ∧ NF b g l j := fun he h29 o j e => ⟨own_nt h29 o j e, fun x => by
  rcases x with x | x | x
  ·exact own_nb he o h.blk (by rw [← x]; exact e)
  ·exact own_nm o k.gm (by rw [← x]; exact e)
  ·exact own_nm o k.lm (by rw [← x]; exact e)⟩
 exact ⟨RIn.of_owns k.ot (no (by decide) (by decide) k.ot), ys, hys, RIn.of_owns k.oa (no (by decide) (by decide) k.oa), fun y hy => RIn.of_owns (k.oy y hy) (no (by decide) (by decide) (k.oy y hy))⟩
theorem ClIn.over {w w' : World} {c : ClP} {V : VS6} {B1 : Nat} {z : Array Value} {fr : Nat × Nat} (h : ClIn (NT w) w c V) (m : Mod (fun k => k = B1) w w') (hB : w.heap[B1]? = some (.cells z 29 fr)) : ClIn (NT w') w' c V :=
 h.kept fun g hA hg => by
  obtain ⟨c, t, fr, h1, ht⟩ := hA
  have e := m.block g hg (blk_ty h1 hB ht)
  exact ⟨e, Nat.lt_of_lt_of_le hg m.size, c, t, fr, e.trans h1, ht⟩
set_option maxHeartbeats 51200000 in
set_option maxRecDepth 100000 in
theorem link_any {A A' B : Nat → Prop} {w : World} {U : List ByteArray} (hU : SmU U) (d : KC) (K : SV) (kn : List KC) (hd : ClIn A w d.1 d.2) (hk : KnIn A' B w (.slice K.o K.n K.c) kn) (hD : DeU U d.1) (hK : ∀ x ∈ kn, KnU U x.1) (hkn : kn.length ≤ 1048576) (ht : Tabs w) :
  Calls Tryd.prog 5 #[.agg #[.string d.1.nm, .int .i64 d.1.kd, .bool d.1.ab, .bool d.1.fi, .string d.1.pa, .slice d.2.f.o d.2.f.n d.2.f.c, .slice d.2.t.o d.2.t.n d.2.t.c, .slice d.2.a.o d.2.a.n d.2.a.c, .slice d.2.c.o d.2.c.n d.2.c.c, .slice d.2.p.o d.2.p.n d.2.p.c, .slice d.2.m.o d.2.m.n d.2.m.c], .slice K.o K.n K.c] w (LinkPost w (linkP d.1 kn)) := by
 have hmm := @run_makeMap Tryd.prog; obtain ⟨r, hr⟩ : ∃ r, r = linkP d.1 kn := ⟨_, rfl⟩; rw [← hr]; obtain ⟨q, hq⟩ : ∃ q, q = rightP d.1 := ⟨_, rfl⟩; obtain ⟨is, his⟩ : ∃ is, is = (findK kn d.1.nm).isSome := ⟨_, rfl⟩; obtain ⟨f, hf⟩ : ∃ f, f = (findK kn d.1.nm).getD KC.nil := ⟨_, rfl⟩; have HR : Hid (r = if q = false then .error 1 else if is = true then .error 9 else lK d.1 kn) := Hd (by rw [hr, linkP_eq, hq, his]); have A0 := Hd (at2_start w (.cells #[.string d.1.nm, .int .i64 d.1.kd, .bool d.1.ab, .bool d.1.fi, .string d.1.pa, .slice d.2.f.o d.2.f.n d.2.f.c, .slice d.2.t.o d.2.t.n d.2.t.c, .slice d.2.a.o d.2.a.n d.2.a.c, .slice d.2.c.o d.2.c.n d.2.c.c, .slice d.2.p.o d.2.p.n d.2.p.c, .slice d.2.m.o d.2.m.n d.2.m.c] 29) (.cells #[.string ⟨#[]⟩, .int .i64 0, .bool false, .bool false, .string ⟨#[]⟩, .slice none 0 0, .slice none 0 0, .slice none 0 0, .slice none 0 0, .slice none 0 0, .slice none 0 0] 29)); have HRI : Hid (Calls Tryd.prog 10 #[.agg #[.string d.1.nm, .int .i64 d.1.kd, .bool d.1.ab, .bool d.1.fi, .string d.1.pa, .slice d.2.f.o d.2.f.n d.2.f.c, .slice d.2.t.o d.2.t.n d.2.t.c, .slice d.2.a.o d.2.a.n d.2.a.c, .slice d.2.c.o d.2.c.n d.2.c.c, .slice d.2.p.o d.2.p.n d.2.p.c, .slice d.2.m.o d.2.m.n d.2.m.c]] ((w.alloc (.cells #[.string d.1.nm, .int .i64 d.1.kd, .bool d.1.ab, .bool d.1.fi, .string d.1.pa, .slice d.2.f.o d.2.f.n d.2.f.c, .slice d.2.t.o d.2.t.n d.2.t.c, .slice d.2.a.o d.2.a.n d.2.a.c, .slice d.2.c.o d.2.c.n d.2.c.c, .slice d.2.p.o d.2.p.n d.2.p.c, .slice d.2.m.o d.2.m.n d.2.m.c] 29)).alloc (.cells #[.string ⟨#[]⟩, .int .i64 0, .bool false, .bool false, .string ⟨#[]⟩, .slice none 0 0, .slice none 0 0, .slice none 0 0, .slice none 0 0, .slice none 0 0, .slice none 0 0] 29)) (BoolPost ((w.alloc (.cells #[.string d.1.nm, .int .i64 d.1.kd, .bool d.1.ab, .bool d.1.fi, .string d.1.pa, .slice d.2.f.o d.2.f.n d.2.f.c, .slice d.2.t.o d.2.t.n d.2.t.c, .slice d.2.a.o d.2.a.n d.2.a.c, .slice d.2.c.o d.2.c.n d.2.c.c, .slice d.2.p.o d.2.p.n d.2.p.c, .slice d.2.m.o d.2.m.n d.2.m.c] 29)).alloc (.cells #[.string ⟨#[]⟩, .int .i64 0, .bool false, .bool false, .string ⟨#[]⟩, .slice none 0 0, .slice none 0 0, .slice none 0 0, .slice none 0 0, .slice none 0 0, .slice none 0 0] 29)) q)) := Hd (by rw [hq]; exact right_any d _ (hd.under A0.out.below) hD.sm (ht.mono A0.out.below))
 have HFI : Hid (∀ V, Below w.heap.size w V → Calls Tryd.prog 14 #[.slice K.o K.n K.c, .string d.1.nm] V (fun e w' => Below V.heap.size V w' ∧ e = .returned (.tuple #[.agg #[.string f.1.nm, .int .i64 f.1.kd, .bool f.1.ab, .bool f.1.fi, .string f.1.pa, .slice f.2.f.o f.2.f.n f.2.f.c, .slice f.2.t.o f.2.t.n f.2.t.c, .slice f.2.a.o f.2.a.n f.2.a.c, .slice f.2.c.o f.2.c.n f.2.c.c, .slice f.2.p.o f.2.p.n f.2.p.c, .slice f.2.m.o f.2.m.n f.2.m.c], .bool is]))) := Hd (fun V hV => by rw [his, hf]; exact find_any d.1.nm (hk.under hV).rows (by omega)); have HD := Hd hd; have HKN := Hd hk; have HDU := Hd hD; have HKU := Hd hK; clear hr hq his hf hd hk hD hK ht; go_enter Tryd.func5, Tryd.ntmps5; go_wp2_with fail; refine HRI.out.mono ?_; rintro _ w1 ⟨rfl, hb⟩; have A1 := Hd (A0.out.mono hb); clear hb HRI A0; cases q with
 | false =>
  have HF : Hid (r = .error 1) := Hd HR.out; go_wp2_with (refine wpList_store_row rfl 29 (.tmp 4) (.tmp 17) rfl (w.heap.size + 1) #[.string ⟨#[]⟩, .int .i64 0, .bool false, .bool false, .string ⟨#[]⟩, .slice none 0 0, .slice none 0 0, .slice none 0 0, .slice none 0 0, .slice none 0 0, .slice none 0 0] (by rfl) (by rfl) 29 #[.string ⟨#[]⟩, .int .i64 0, .bool false, .bool false, .string ⟨#[]⟩, .slice none 0 0, .slice none 0 0, .slice none 0 0, .slice none 0 0, .slice none 0 0, .slice none 0 0] A1.out.b size29 rfl (by simp [Value.oneCell']) ?_; intro w4 hx4 hm4; have HX := Hd hx4; have HM := Hd hm4; clear hx4 hm4); go_wp2_with fail; have c0 := cB HX.out 0; have c1 := cB HX.out 1; have c2 := cB HX.out 2; have c3 := cB HX.out 3; have c4 := cB HX.out 4; have c5 := cB HX.out 5; have c6 := cB HX.out 6; have c7 := cB HX.out 7; have c8 := cB HX.out 8; have c9 := cB HX.out 9; have c10 := cB HX.out 10; exact bodyPost_ret (v := .tuple #[KC.v KC.nil, .int .i64 1]) (by simp [results, Tryd.results5, go_sem, KC.v, KC.nil, ClP.nil, VS6.nil, c0, c1, c2, c3, c4, c5, c6, c7, c8, c9, c10]) rfl (by rw [HF.out]; exact ⟨rfl, by decide, mod_below' A1.out.below HM.out A1.out.below.size (fun k e => by have e : k = w.heap.size + 1 := e; omega)⟩)
 | true =>
  have HFC := Hd (HFI.out w1 A1.out.below); have c0 := cB A1.out.a 0; go_wp2_with fail; refine HFC.out.mono ?_; rintro _ w2 ⟨hb, rfl⟩; have A2 := Hd (A1.out.mono hb); clear hb HFC A1 c0; have A3 := Hd (A2.out.mono (below_alloc1 w2 (.cells #[.string f.1.nm, .int .i64 f.1.kd, .bool f.1.ab, .bool f.1.fi, .string f.1.pa, .slice f.2.f.o f.2.f.n f.2.f.c, .slice f.2.t.o f.2.t.n f.2.t.c, .slice f.2.a.o f.2.a.n f.2.a.c, .slice f.2.c.o f.2.c.n f.2.c.c, .slice f.2.p.o f.2.p.n f.2.p.c, .slice f.2.m.o f.2.m.n f.2.m.c] 29))); go_upto_region 4 with fail; obtain ⟨w3, hw3⟩ : ∃ w3, w3 = w2.alloc (.cells #[.string f.1.nm, .int .i64 f.1.kd, .bool f.1.ab, .bool f.1.fi, .string f.1.pa, .slice f.2.f.o f.2.f.n f.2.f.c, .slice f.2.t.o f.2.t.n f.2.t.c, .slice f.2.a.o f.2.a.n f.2.a.c, .slice f.2.c.o f.2.c.n f.2.c.c, .slice f.2.p.o f.2.p.n f.2.p.c, .slice f.2.m.o f.2.m.n f.2.m.c] 29) := ⟨_, rfl⟩; rw [← hw3] at A3 ⊢; clear hw3 A2; cases is with
  | true =>
   have HF : Hid (r = .error 9) := Hd HR.out; go_wp2_with (refine wpList_store_row rfl 29 (.tmp 4) (.tmp 26) rfl (w.heap.size + 1) #[.string ⟨#[]⟩, .int .i64 0, .bool false, .bool false, .string ⟨#[]⟩, .slice none 0 0, .slice none 0 0, .slice none 0 0, .slice none 0 0, .slice none 0 0, .slice none 0 0] (by rfl) (by rfl) 29 #[.string ⟨#[]⟩, .int .i64 0, .bool false, .bool false, .string ⟨#[]⟩, .slice none 0 0, .slice none 0 0, .slice none 0 0, .slice none 0 0, .slice none 0 0, .slice none 0 0] A3.out.b size29 rfl (by simp [Value.oneCell']) ?_; intro w4 hx4 hm4; have HX := Hd hx4; have HM := Hd hm4; clear hx4 hm4); go_wp2_with fail; have c0 := cB HX.out 0; have c1 := cB HX.out 1; have c2 := cB HX.out 2; have c3 := cB HX.out 3; have c4 := cB HX.out 4; have c5 := cB HX.out 5; have c6 := cB HX.out 6; have c7 := cB HX.out 7; have c8 := cB HX.out 8; have c9 := cB HX.out 9; have c10 := cB HX.out 10; exact bodyPost_ret (v := .tuple #[KC.v KC.nil, .int .i64 9]) (by simp [results, Tryd.results5, go_sem, KC.v, KC.nil, ClP.nil, VS6.nil, c0, c1, c2, c3, c4, c5, c6, c7, c8, c9, c10]) rfl (by rw [HF.out]; exact ⟨rfl, by decide, mod_below' A3.out.below HM.out A3.out.below.size (fun k e => by have e : k = w.heap.size + 1 := e; omega)⟩)
  | false =>
   have HR2 : Hid (r = lK d.1 kn) := Hd HR.out; have c0 := cB A3.out.a 0; have c1 := cB A3.out.a 1; have c2 := cB A3.out.a 2; have c3 := cB A3.out.a 3; have c4 := cB A3.out.a 4; have c5 := cB A3.out.a 5; have c6 := cB A3.out.a 6; have c7 := cB A3.out.a 7; have c8 := cB A3.out.a 8; have c9 := cB A3.out.a 9; have c10 := cB A3.out.a 10; go_upto_region 7 with fail; clear c0 c1 c2 c3 c4 c5 c6 c7 c8 c9 c10; obtain ⟨hg0, hl0, hb0, hbl⟩ := three w3 (PX d K d.2.t d.2.a w3.heap.size (w3.heap.size + 1)); have HG0 := Hd hg0; have HL0 := Hd hl0; have HB0 := Hd hb0; have A4 := Hd (A3.out.mono hbl); have HGS : Hid (w.heap.size ≤ w3.heap.size) := Hd A3.out.below.size; clear hg0 hl0 hb0 hbl A3 hmm; show Code.wp _ _ _ _ (((w3.alloc (.map #[] 0)).alloc (.map #[] 0)).alloc (.cells (PX d K d.2.t d.2.a w3.heap.size (w3.heap.size + 1)) 51))
   obtain ⟨w4, hw4⟩ : ∃ w4, w4 = ((w3.alloc (.map #[] 0)).alloc (.map #[] 0)).alloc (.cells (PX d K d.2.t d.2.a w3.heap.size (w3.heap.size + 1)) 51) := ⟨_, rfl⟩; rw [← hw4] at HG0 HL0 HB0 A4 ⊢; clear hw4; obtain ⟨b, hb⟩ : ∃ b, b = w3.heap.size + 1 + 1 := ⟨_, rfl⟩; rw [← hb] at HB0 ⊢; obtain ⟨l, hl⟩ : ∃ l, l = w3.heap.size + 1 := ⟨_, rfl⟩; rw [← hl] at HB0 HL0; obtain ⟨g, hg⟩ : ∃ g, g = w3.heap.size := ⟨_, rfl⟩; rw [← hg] at HB0 HG0 HGS; have HGL : Hid (g ≠ l ∧ w.heap.size ≤ g ∧ w.heap.size ≤ l ∧ w.heap.size ≤ b) := Hd (by have := HGS.out; omega); clear hb hl hg HGS; have HCL := Hd (clone_s (w := w4) (HD.out.ht.under A4.out.below) (Nat.le_trans HDU.out.sm.tl (by decide))); have x6 := cB A4.out.a 6; go_wp2_with fail; refine HCL.out.mono ?_; rintro _ w5 hcl; obtain ⟨tv, rfl, ho, hb, hn⟩ := hcl.sv; have A5 := Hd (A4.out.mono hb); have HB5 : Hid (w5.heap[b]? = some (.cells (PX d K d.2.t d.2.a g l) 51 (0, 0))) := Hd ((hb.block _ (lt_of_block HB0.out)).trans HB0.out); have HG5 := Hd (HG0.out.under hb); have HL5 := Hd (HL0.out.under hb); have HT5 := Hd ho; have zc : w5.cell? ⟨b, 17, none⟩ = some (.slice d.2.t.o d.2.t.n d.2.t.c) := cB HB5.out 17; have zf := free_blk HB5.out 17; clear hcl ho hb hn x6 HCL A4 HB0 HG0 HL0; go_upto_region 8 with fail; have HB6 : Hid ((w5.setCell ⟨b, 17, none⟩ (.slice tv.o tv.n tv.c)).heap[b]? = some (.cells (PX d K tv d.2.a g l) 51 (0, 0))) := Hd (by
    have := set_blk HB5.out 17 (.slice tv.o tv.n tv.c); simpa [PX, S0, LS.cells, LS.p0] using this)
   have HM6 : Hid (Mod (fun k => k = b) w5 (w5.setCell ⟨b, 17, none⟩ (.slice tv.o tv.n tv.c))) := Hd ((Mod.refl _ w5).setCell ⟨b, 17, none⟩ _ (fun _ => rfl)); obtain ⟨w6, hw6⟩ : ∃ w6, w6 = w5.setCell ⟨b, 17, none⟩ (.slice tv.o tv.n tv.c) := ⟨_, rfl⟩; rw [← hw6] at HB6 HM6 ⊢; clear hw6 zc zf; have zc : w6.cell? ⟨b, 18, none⟩ = some (.slice d.2.a.o d.2.a.n d.2.a.c) := cB HB6.out 18; have zf := free_blk HB6.out 18; go_upto_region 9 with fail; have HB7 : Hid ((w6.setCell ⟨b, 18, none⟩ (.slice none 0 0)).heap[b]? = some (.cells (PX d K tv ⟨none, 0, 0⟩ g l) 51 (0, 0))) := Hd (by
    have := set_blk HB6.out 18 (.slice none 0 0); simpa [PX, S0, LS.cells, LS.p0] using this)
   have HM7 : Hid (Mod (fun k => k = b) w5 (w6.setCell ⟨b, 18, none⟩ (.slice none 0 0))) := Hd (HM6.out.setCell ⟨b, 18, none⟩ _ (fun _ => rfl)); obtain ⟨w7, hw7⟩ : ∃ w7, w7 = w6.setCell ⟨b, 18, none⟩ (.slice none 0 0) := ⟨_, rfl⟩; rw [← hw7] at HB7 HM7 ⊢; clear hw7 zc zf; have HWB : Hid (Below w.heap.size w w7) := Hd (A5.out.below.trans (HM7.out.belowB (fun j hj x => by have := HGL.out.2.2.2; omega) A5.out.below.size)); have A7 : Hid (w7.heap[w.heap.size]? = some (.cells #[.string d.1.nm, .int .i64 d.1.kd, .bool d.1.ab, .bool d.1.fi, .string d.1.pa, .slice d.2.f.o d.2.f.n d.2.f.c, .slice d.2.t.o d.2.t.n d.2.t.c, .slice d.2.a.o d.2.a.n d.2.a.c, .slice d.2.c.o d.2.c.n d.2.c.c, .slice d.2.p.o d.2.p.n d.2.p.c, .slice d.2.m.o d.2.m.n d.2.m.c] 29 (0, 0)) ∧ w7.heap[w.heap.size + 1]? = some (.cells #[.string ⟨#[]⟩, .int .i64 0, .bool false, .bool false, .string ⟨#[]⟩, .slice none 0 0, .slice none 0 0, .slice none 0 0, .slice none 0 0, .slice none 0 0, .slice none 0 0] 29 (0, 0))) := Hd ⟨HM7.out.blk A5.out.a (blk_ty A5.out.a HB5.out (by decide)), HM7.out.blk A5.out.b (blk_ty A5.out.b HB5.out (by decide))⟩; have HS7 : Hid (LP w b g l d K tv w7 ⟨none, 0, 0⟩ []) := Hd ⟨⟨HWB.out, ⟨_, HB7.out⟩, HG5.out.mod HM7.out (fun e => by obtain ⟨D, ⟨es, clock, h2, -⟩, -⟩ := HG5.out; rw [e, HB5.out] at h2; cases h2), HL5.out.mod HM7.out (fun e => by obtain ⟨D, ⟨es, clock, h2, -⟩, -⟩ := HL5.out; rw [e, HB5.out] at h2; cases h2), HT5.out.mod HM7.out (fun k e x => own_nb (by decide) HT5.out HB5.out (by rw [← x]; exact e)), Owns.empty _ _ _, fun y hy => (by cases hy), fun k e => (by cases e), HGL.out.2.2.2⟩, HB7.out⟩
   clear HM7 HM6 HB7 HB6 HB5 HG5 HL5 HT5 A5 HWB; obtain ⟨xs, hxs, hxr, hxo⟩ := HD.out.ha; have HXS := Hd hxs; have HXR := Hd hxr; have HXO := Hd hxo; have HXN : Hid (d.2.a.n = xs.length) := Hd (by have h9 := rin_n hxr; rw [List.length_map] at h9; exact h9); have HXL : Hid (xs.length ≤ 1048576 ∧ ∀ a ∈ xs, a.1.ot.length ≤ 1048576) := Hd ⟨by have h9 := HDU.out.sm.al; rw [← hxs, List.length_map] at h9; exact h9, fun a ha => (HDU.out.sm.oz a.1 (by rw [← hxs]; exact List.mem_map_of_mem ha)).1⟩; have x7 : w7.cell? ⟨w.heap.size, 7, none⟩ = some (.slice d.2.a.o d.2.a.n d.2.a.c) := cB A7.out.1 7; rw [HXN.out] at x7; obtain ⟨ao, hao⟩ : ∃ ao, ao = d.2.a.o := ⟨_, rfl⟩; rw [← hao] at x7; have HAO := Hd hao; clear hao; clear hxs hxr hxo; go_wp2_with fail; clear x7; have HY0 : Hid (([] : List (AdP × SV)).map (·.1) = (xs.take 0).map (·.1)) := Hd rfl; go_loopw [10, 48] (fun _ kv wr => ∃ (k : Nat) (sa : SV) (ys : List (AdP × SV)), k ≤ xs.length ∧ kv = .int .i64 k ∧ Hid (LP w b g l d K tv wr sa ys) ∧ Hid (ys.map (·.1) = (xs.take k).map (·.1)) ∧ Hid (wr.heap[w.heap.size]? = some (.cells #[.string d.1.nm, .int .i64 d.1.kd, .bool d.1.ab, .bool d.1.fi, .string d.1.pa, .slice d.2.f.o d.2.f.n d.2.f.c, .slice d.2.t.o d.2.t.n d.2.t.c, .slice d.2.a.o d.2.a.n d.2.a.c, .slice d.2.c.o d.2.c.n d.2.c.c, .slice d.2.p.o d.2.p.n d.2.p.c, .slice d.2.m.o d.2.m.n d.2.m.c] 29 (0, 0)) ∧ wr.heap[w.heap.size + 1]? = some (.cells #[.string ⟨#[]⟩, .int .i64 0, .bool false, .bool false, .string ⟨#[]⟩, .slice none 0 0, .slice none 0 0, .slice none 0 0, .slice none 0 0, .slice none 0 0, .slice none 0 0] 29 (0, 0)))) (fun _ kv _ => xs.length - (intOf kv).toNat)
   case atStart => exact ⟨0, _, _, Nat.zero_le _, rfl, HS7, HY0, A7⟩
   case round =>
    clear HS7 HY0 A7; obtain ⟨k, sa, ys, hk, rfl, HS1, HY1, AX⟩ := hrel; have hxl := HXL.out.1; by_cases hlt : k < xs.length
    ·have hi : (k : Int) < (xs.length : Int) := by omega
     obtain ⟨hw', hw⟩ := wr_sm (x := (k : Int) + 1) (by omega) (by omega); obtain ⟨a, g2, off, cp, ha, ham, -, e, hg, -, hc⟩ := ad_cells (HXR.out.under HS1.out.own.below) hlt; simp only [Value.slice.injEq] at e; obtain ⟨e1, -, -⟩ := e; obtain rfl : ao = some ⟨g2, off, none⟩ := by rw [HAO.out]; exact e1
     clear e1; obtain ⟨d0, d1, d2, d3⟩ := hc _ (Below.refl _ _); have Hkl := Hd hlt; have HB1 := Hd (below_alloc1 wr (.cells #[.string a.1.tr, .string a.1.nm, .slice a.2.o a.2.n a.2.c, .string a.1.sa] 54)); have X1 : Hid ((wr.alloc (.cells #[.string a.1.tr, .string a.1.nm, .slice a.2.o a.2.n a.2.c, .string a.1.sa] 54)).heap[wr.heap.size]? = some (.cells #[.string a.1.tr, .string a.1.nm, .slice a.2.o a.2.n a.2.c, .string a.1.sa] 54 (0, 0))) := Hd (heap_alloc_new wr _); have HCL := Hd (clone_s ((HXO.out a ham).under (HS1.out.own.below.trans (HB1.out.mono HS1.out.own.below.size))) (Nat.le_trans (HXL.out.2 a ham) (by decide))); have HYN : Hid (∀ v : SV, (ys ++ [(a.1, v)]).map (·.1) = (xs.take (k + 1)).map (·.1)) := Hd (fun v => by rw [List.map_append, HY1.out, List.take_add_one, ha, List.map_append]; rfl); have HYB : Hid (ys.length ≤ 1048576) := Hd (by have h9 := congrArg List.length HY1.out; rw [List.length_map, List.length_map, List.length_take] at h9; omega); clear hc ha ham hlt hg; go_wp2_with fail; refine HCL.out.mono ?_; rintro _ w8 hcl; obtain ⟨v, rfl, ho, hb, hn⟩ := hcl.sv; have X8 : Hid (w8.heap[wr.heap.size]? = some (.cells #[.string a.1.tr, .string a.1.nm, .slice a.2.o a.2.n a.2.c, .string a.1.sa] 54 (0, 0))) := Hd ((hb.block _ (lt_of_block X1.out)).trans X1.out); have z2 := cB X8.out 2; have f2 := free_blk X8.out 2; have HV8 := Hd ho; have HBB : Hid (Below wr.heap.size wr w8) := Hd (HB1.out.trans (hb.mono (by simp))); clear hcl ho hb hn d0 d1 d2 d3 HCL X1 HB1; go_upto_region 13 with fail
     have X9 : Hid ((w8.setCell ⟨wr.heap.size, 2, none⟩ (.slice v.o v.n v.c)).heap[wr.heap.size]? = some (.cells #[.string a.1.tr, .string a.1.nm, .slice v.o v.n v.c, .string a.1.sa] 54 (0, 0))) := Hd (by
      have := set_blk X8.out 2 (.slice v.o v.n v.c); simpa using this)
     have HM9 : Hid (Mod (fun k => k = wr.heap.size) w8 (w8.setCell ⟨wr.heap.size, 2, none⟩ (.slice v.o v.n v.c))) := Hd ((Mod.refl _ w8).setCell ⟨wr.heap.size, 2, none⟩ _ (fun _ => rfl)); obtain ⟨w9, hw9⟩ : ∃ w9, w9 = w8.setCell ⟨wr.heap.size, 2, none⟩ (.slice v.o v.n v.c) := ⟨_, rfl⟩; rw [← hw9] at X9 HM9 ⊢; have HB9 : Hid (Below wr.heap.size wr w9) := Hd (mod_below' HBB.out HM9.out HBB.out.size (fun k e => Nat.le_of_eq e.symm)); have HS9 := Hd (HS1.out.same HB9.out); have HV9 : Hid (Owns w9 9 1 (.slice v.o v.n v.c) (a.1.ot.map sR)) := Hd (HV8.out.mod HM9.out (fun k e x => own_nb (by decide) HV8.out X8.out (by rw [← x]; exact e))); have HBQ : Hid ((Value.slice sa.o sa.n sa.c).ownBlock ≠ some wr.heap.size) := Hd (fun e => by have := Owns.lt HS1.out.own.oa e; omega); have AX9 : Hid (w9.heap[w.heap.size]? = some (.cells #[.string d.1.nm, .int .i64 d.1.kd, .bool d.1.ab, .bool d.1.fi, .string d.1.pa, .slice d.2.f.o d.2.f.n d.2.f.c, .slice d.2.t.o d.2.t.n d.2.t.c, .slice d.2.a.o d.2.a.n d.2.a.c, .slice d.2.c.o d.2.c.n d.2.c.c, .slice d.2.p.o d.2.p.n d.2.p.c, .slice d.2.m.o d.2.m.n d.2.m.c] 29 (0, 0)) ∧ w9.heap[w.heap.size + 1]? = some (.cells #[.string ⟨#[]⟩, .int .i64 0, .bool false, .bool false, .string ⟨#[]⟩, .slice none 0 0, .slice none 0 0, .slice none 0 0, .slice none 0 0, .slice none 0 0, .slice none 0 0] 29 (0, 0))) := Hd ⟨(HB9.out.block _ (lt_of_block AX.out.1)).trans AX.out.1, (HB9.out.block _ (lt_of_block AX.out.2)).trans AX.out.2⟩; have HYS : Hid (∀ y ∈ ys ++ [(a.1, v)], Owns (w9.drew.alloc (.cells #[.string a.1.tr, .string a.1.nm, .slice v.o v.n v.c, .string a.1.sa] 54)) 9 1 (.slice y.2.o y.2.n y.2.c) (y.1.ot.map sR)) := Hd (fun y hy => by
      have hbl : Below w9.heap.size w9 (w9.drew.alloc (.cells #[.string a.1.tr, .string a.1.nm, .slice v.o v.n v.c, .string a.1.sa] 54)) := (Below.refl _ w9).drew.alloc (Nat.le_refl _) _; rcases List.mem_append.1 hy with hy | hy
      ·exact (HS9.out.own.oy y hy).mod (Mod.of_below (F := fun _ => False) hbl) (fun _ _ x => x)
      ·rw [List.mem_singleton.1 hy]; exact HV9.out.mod (Mod.of_below (F := fun _ => False) hbl) (fun _ _ x => x))
     clear hw9 z2 f2 X8 HV8 HM9 HBB HS1 AX HB9; have hq0 : w9.drew.cell? ⟨b, 18, none⟩ = some (.slice sa.o sa.n sa.c) := cB HS9.out.blk 18; have HA7 : Hid (Below w9.drew.heap.size w9.drew (w9.drew.alloc (.cells #[.string a.1.tr, .string a.1.nm, .slice v.o v.n v.c, .string a.1.sa] 54))) := Hd (below_alloc1 _ _); have HS7 : Hid (LP w b g l d K tv (w9.drew.alloc (.cells #[.string a.1.tr, .string a.1.nm, .slice v.o v.n v.c, .string a.1.sa] 54)) sa ys) := Hd ((HS9.out.same (Below.refl _ _).drew).same HA7.out); have hq1 : (w9.drew.alloc (.cells #[.string a.1.tr, .string a.1.nm, .slice v.o v.n v.c, .string a.1.sa] 54)).cell? ⟨b, 18, none⟩ = some (.slice sa.o sa.n sa.c) := cB HS7.out.blk 18; have hq2 : (w9.alloc (.cells #[.string a.1.tr, .string a.1.nm, .slice v.o v.n v.c, .string a.1.sa] 54)).drew.cell? ⟨b, 18, none⟩ = some (.slice sa.o sa.n sa.c) := hq1; have hq3 : (w9.alloc (.cells #[.string a.1.tr, .string a.1.nm, .slice v.o v.n v.c, .string a.1.sa] 54)).cell? ⟨b, 18, none⟩ = some (.slice sa.o sa.n sa.c) := hq1; have HX7 : Hid ((w9.drew.alloc (.cells #[.string a.1.tr, .string a.1.nm, .slice v.o v.n v.c, .string a.1.sa] 54)).heap[wr.heap.size]? = some (.cells #[.string a.1.tr, .string a.1.nm, .slice v.o v.n v.c, .string a.1.sa] 54 (0, 0))) := Hd (alloc_blk X9.out _); have hL : Hid (Lies (w9.drew.alloc (.cells #[.string a.1.tr, .string a.1.nm, .slice v.o v.n v.c, .string a.1.sa] 54)) 4 (some ⟨w9.heap.size, 0, none⟩) ([[.string a.1.tr, .string a.1.nm, .slice v.o v.n v.c, .string a.1.sa]] : List (List Value))) := Hd (lies_new w9.drew [.string a.1.tr, .string a.1.nm, .slice v.o v.n v.c, .string a.1.sa] 54 rfl)
     have hR1 : Hid ((ys.map AdP.row).length + ([[.string a.1.tr, .string a.1.nm, .slice v.o v.n v.c, .string a.1.sa]] : List (List Value)).length ≤ maxLen) := Hd (by have h0 := HYB.out; rw [List.length_map]; unfold maxLen; simp only [List.length_cons, List.length_nil]; omega); have hR2 : Hid (((ys.map AdP.row).length + ([[.string a.1.tr, .string a.1.nm, .slice v.o v.n v.c, .string a.1.sa]] : List (List Value)).length) * 72 ≤ 140737488355328) := Hd (by have h0 := HYB.out; rw [List.length_map]; simp only [List.length_cons, List.length_nil]; omega); have hBb : Hid (wr.heap.size ≠ b) := Hd (fun e => by have h1 := X9.out; rw [e, HS9.out.blk] at h1; injection h1 with h2; injection h2 with _ h3 _; exact absurd h3 (by decide)); have hBq : Hid (((.slice sa.o sa.n sa.c) : Value).ownBlock ≠ some wr.heap.size) := Hd (fun e => HBQ.out e); refine wp_region_noPanic ?_; refine wp_region_held_drew (S := (fun V => V.heap[wr.heap.size]? = some (.cells #[.string a.1.tr, .string a.1.nm, .slice v.o v.n v.c, .string a.1.sa] 54 (0, 0)))) (by kernel_rfl) (by exact X9.out) (fun hHeld => ?_); refine tkb 0 ?_; refine tkb 1 ?_; refine tkb 2 ?_; refine tkb 3 ?_; refine tkb 4 ?_; refine tkb 6 ?_; refine rd2 5 7 (fun K hK => ?_) (fun K hK => ?_)
     ·go_simp; refine hK.out _ _ (by exact X9.out) (fun hHeld5 => ?_); clear hK K; (try simp only [Act.put, pA, pZ, pS]); refine rd 7 (fun K hK => ?_); go_simp; refine hK.out _ _ (by exact HX7.out) (fun hHeld7 => ?_); clear hK K; (try simp only [Act.put, pA, pZ, pS]); refine rd 8 (fun K hK => ?_); refine step_append_rows rfl (.tmp 61) (.tmp 63) 24 rfl 54 _ 4 72 Tryd.underlying24 info54 rfl (by decide) (.slice sa.o sa.n sa.c) (ys.map AdP.row) (by simp [Act.eval]) HS7.out.own.oa (some ⟨w9.heap.size, 0, none⟩) 1 1 [[.string a.1.tr, .string a.1.nm, .slice v.o v.n v.c, .string a.1.sa]] (by simp [Act.eval]) rfl (fun e => by cases e) hL.out (by simp [Value.oneCell']) (by simp) hR1.out (by have h := hR2.out; omega) ?_; intro v6 w6 o6 g6 b6; obtain ⟨a6, L6, c6, hv6, -⟩ := owns_slice o6; subst hv6; have S6 : w6.heap[wr.heap.size]? = some (.cells #[.string a.1.tr, .string a.1.nm, .slice v.o v.n v.c, .string a.1.sa] 54 (0, 0)) := (g6.block _ (lt_of_block HX7.out) (fun e => hBq.out e.symm)).trans HX7.out; have B6 := Hd ((g6.block b (lt_of_block HS7.out.blk) (fun e => own_nb (by decide) HS7.out.own.oa HS7.out.blk e.symm)).trans HS7.out.blk); have zc := cB B6.out 18; have zf := free_blk B6.out 18; have zc : w6.cell? ⟨b, 18, none⟩ = some (.slice sa.o sa.n sa.c) := zc; have HN := Hd (HS7.out.put_a (v := ⟨a6, L6, c6⟩) (l9 := ys ++ [(a.1, v)]) HYS.out (by rw [List.map_append]; exact o6) g6 b6); have S8 : (w6.setCell ⟨b, 18, none⟩ (.slice a6 L6 c6)).heap[wr.heap.size]? = some (.cells #[.string a.1.tr, .string a.1.nm, .slice v.o v.n v.c, .string a.1.sa] 54 (0, 0)) := set_other S6 hBb.out
      have G6 : Hid (∀ {k : Nat} (c : Array Value), w9.heap[k]? = some (.cells c 29 (0, 0)) → (w6.setCell ⟨b, 18, none⟩ (.slice a6 L6 c6)).heap[k]? = some (.cells c 29 (0, 0))) := Hd (fun c hk => set_other ((g6.block _ (by have := lt_of_block hk; simp; omega) (fun e => by have h1 : (w9.drew.alloc (.cells #[.string a.1.tr, .string a.1.nm, .slice v.o v.n v.c, .string a.1.sa] 54)).heap[_]? = _ := alloc_blk (w := w9.drew) hk _; exact own_nb (by decide) HS7.out.own.oa h1 e.symm)).trans (alloc_blk (w := w9.drew) hk _)) (fun e => by rw [e, (show w9.heap[b]? = _ from HS9.out.blk)] at hk; cases hk)); clear o6 g6 b6; refine hK.out _ _ (by exact S6) (fun hHeld8 => ?_); clear hK K; (try simp only [Act.put, pA]); refine tkb 9 ?_; refine tkb 10 ?_; refine tkb 11 ?_; refine rd 12 (fun K hK => ?_); go_simp; refine hK.out _ _ (by exact S8) (fun hHeld12 => ?_); clear hK K; (try simp only [Act.put]); refine dn (NoPanic.normal ?_); have HN2 := HN; have AX2 : Hid ((w6.setCell ⟨b, 18, none⟩ (.slice a6 L6 c6)).heap[w.heap.size]? = some (.cells #[.string d.1.nm, .int .i64 d.1.kd, .bool d.1.ab, .bool d.1.fi, .string d.1.pa, .slice d.2.f.o d.2.f.n d.2.f.c, .slice d.2.t.o d.2.t.n d.2.t.c, .slice d.2.a.o d.2.a.n d.2.a.c, .slice d.2.c.o d.2.c.n d.2.c.c, .slice d.2.p.o d.2.p.n d.2.p.c, .slice d.2.m.o d.2.m.n d.2.m.c] 29 (0, 0)) ∧ (w6.setCell ⟨b, 18, none⟩ (.slice a6 L6 c6)).heap[w.heap.size + 1]? = some (.cells #[.string ⟨#[]⟩, .int .i64 0, .bool false, .bool false, .string ⟨#[]⟩, .slice none 0 0, .slice none 0 0, .slice none 0 0, .slice none 0 0, .slice none 0 0, .slice none 0 0] 29 (0, 0))) := Hd ⟨G6.out _ AX9.out.1, G6.out _ AX9.out.2⟩
      clear HN S8 S6 B6 zc zf; go_wp2_with fail; go_roundw
      case rel => exact ⟨k + 1, _, _, Hkl.out, by go_num, HN2, Hd (HYN.out v), AX2⟩
      case measure => exact meas_lt Hkl.out
     ·go_simp; refine hK.out _ _ (by exact HX7.out) (fun hHeld7 => ?_); clear hK K; (try simp only [Act.put, pA, pZ, pS]); refine rd 5 (fun K hK => ?_); go_simp; refine hK.out _ _ (by exact HX7.out) (fun hHeld5 => ?_); clear hK K; (try simp only [Act.put, pA, pZ, pS]); refine rd 8 (fun K hK => ?_); refine step_append_rows rfl (.tmp 61) (.tmp 63) 24 rfl 54 _ 4 72 Tryd.underlying24 info54 rfl (by decide) (.slice sa.o sa.n sa.c) (ys.map AdP.row) (by simp [Act.eval]) HS7.out.own.oa (some ⟨w9.heap.size, 0, none⟩) 1 1 [[.string a.1.tr, .string a.1.nm, .slice v.o v.n v.c, .string a.1.sa]] (by simp [Act.eval]) rfl (fun e => by cases e) hL.out (by simp [Value.oneCell']) (by simp) hR1.out (by have h := hR2.out; omega) ?_; intro v6 w6 o6 g6 b6; obtain ⟨a6, L6, c6, hv6, -⟩ := owns_slice o6; subst hv6; have S6 : w6.heap[wr.heap.size]? = some (.cells #[.string a.1.tr, .string a.1.nm, .slice v.o v.n v.c, .string a.1.sa] 54 (0, 0)) := (g6.block _ (lt_of_block HX7.out) (fun e => hBq.out e.symm)).trans HX7.out; have B6 := Hd ((g6.block b (lt_of_block HS7.out.blk) (fun e => own_nb (by decide) HS7.out.own.oa HS7.out.blk e.symm)).trans HS7.out.blk); have zc := cB B6.out 18; have zf := free_blk B6.out 18; have zc : w6.cell? ⟨b, 18, none⟩ = some (.slice sa.o sa.n sa.c) := zc; have HN := Hd (HS7.out.put_a (v := ⟨a6, L6, c6⟩) (l9 := ys ++ [(a.1, v)]) HYS.out (by rw [List.map_append]; exact o6) g6 b6); have S8 : (w6.setCell ⟨b, 18, none⟩ (.slice a6 L6 c6)).heap[wr.heap.size]? = some (.cells #[.string a.1.tr, .string a.1.nm, .slice v.o v.n v.c, .string a.1.sa] 54 (0, 0)) := set_other S6 hBb.out
      have G6 : Hid (∀ {k : Nat} (c : Array Value), w9.heap[k]? = some (.cells c 29 (0, 0)) → (w6.setCell ⟨b, 18, none⟩ (.slice a6 L6 c6)).heap[k]? = some (.cells c 29 (0, 0))) := Hd (fun c hk => set_other ((g6.block _ (by have := lt_of_block hk; simp; omega) (fun e => by have h1 : (w9.drew.alloc (.cells #[.string a.1.tr, .string a.1.nm, .slice v.o v.n v.c, .string a.1.sa] 54)).heap[_]? = _ := alloc_blk (w := w9.drew) hk _; exact own_nb (by decide) HS7.out.own.oa h1 e.symm)).trans (alloc_blk (w := w9.drew) hk _)) (fun e => by rw [e, (show w9.heap[b]? = _ from HS9.out.blk)] at hk; cases hk)); clear o6 g6 b6; refine hK.out _ _ (by exact S6) (fun hHeld8 => ?_); clear hK K; (try simp only [Act.put, pA]); refine tkb 9 ?_; refine tkb 10 ?_; refine tkb 11 ?_; refine rd 12 (fun K hK => ?_); go_simp; refine hK.out _ _ (by exact S8) (fun hHeld12 => ?_); clear hK K; (try simp only [Act.put]); refine dn (NoPanic.normal ?_); have HN2 := HN; have AX2 : Hid ((w6.setCell ⟨b, 18, none⟩ (.slice a6 L6 c6)).heap[w.heap.size]? = some (.cells #[.string d.1.nm, .int .i64 d.1.kd, .bool d.1.ab, .bool d.1.fi, .string d.1.pa, .slice d.2.f.o d.2.f.n d.2.f.c, .slice d.2.t.o d.2.t.n d.2.t.c, .slice d.2.a.o d.2.a.n d.2.a.c, .slice d.2.c.o d.2.c.n d.2.c.c, .slice d.2.p.o d.2.p.n d.2.p.c, .slice d.2.m.o d.2.m.n d.2.m.c] 29 (0, 0)) ∧ (w6.setCell ⟨b, 18, none⟩ (.slice a6 L6 c6)).heap[w.heap.size + 1]? = some (.cells #[.string ⟨#[]⟩, .int .i64 0, .bool false, .bool false, .string ⟨#[]⟩, .slice none 0 0, .slice none 0 0, .slice none 0 0, .slice none 0 0, .slice none 0 0, .slice none 0 0] 29 (0, 0))) := Hd ⟨G6.out _ AX9.out.1, G6.out _ AX9.out.2⟩
      clear HN S8 S6 B6 zc zf; go_wp2_with fail; go_roundw
      case rel => exact ⟨k + 1, _, _, Hkl.out, by go_num, HN2, Hd (HYN.out v), AX2⟩
      case measure => exact meas_lt Hkl.out
    ·obtain rfl : k = xs.length := by omega
     have HYE : Hid (ys.map (·.1) = d.1.ad) := Hd (by rw [HY1.out, List.take_length, HXS.out]); clear HY1; go_wp2_with fail; have HSW := Hd (HS1.out.same (below_alloc1 wr (.cells #[.func (.func 16) #[.pointer (some ⟨b, 0, none⟩)] #[], .func (.func 17) #[.pointer (some ⟨b, 0, none⟩)] #[], .func (.func 18) #[.pointer (some ⟨b, 0, none⟩)] #[], .func (.func 19) #[.pointer (some ⟨b, 0, none⟩)] #[]] 55))); have HF0 : Hid ((wr.alloc (.cells #[.func (.func 16) #[.pointer (some ⟨b, 0, none⟩)] #[], .func (.func 17) #[.pointer (some ⟨b, 0, none⟩)] #[], .func (.func 18) #[.pointer (some ⟨b, 0, none⟩)] #[], .func (.func 19) #[.pointer (some ⟨b, 0, none⟩)] #[]] 55)).heap[wr.heap.size]? = some (.cells #[.func (.func 16) #[.pointer (some ⟨b, 0, none⟩)] #[], .func (.func 17) #[.pointer (some ⟨b, 0, none⟩)] #[], .func (.func 18) #[.pointer (some ⟨b, 0, none⟩)] #[], .func (.func 19) #[.pointer (some ⟨b, 0, none⟩)] #[]] 55 (0, 0)) ∧ (wr.alloc (.cells #[.func (.func 16) #[.pointer (some ⟨b, 0, none⟩)] #[], .func (.func 17) #[.pointer (some ⟨b, 0, none⟩)] #[], .func (.func 18) #[.pointer (some ⟨b, 0, none⟩)] #[], .func (.func 19) #[.pointer (some ⟨b, 0, none⟩)] #[]] 55)).heap[w.heap.size + 1]? = some (.cells #[.string ⟨#[]⟩, .int .i64 0, .bool false, .bool false, .string ⟨#[]⟩, .slice none 0 0, .slice none 0 0, .slice none 0 0, .slice none 0 0, .slice none 0 0, .slice none 0 0] 29 (0, 0))) := Hd ⟨heap_alloc_new wr _, alloc_blk AX.out.2 _⟩; obtain ⟨F, hF⟩ : ∃ F, F = wr.heap.size := ⟨_, rfl⟩; obtain ⟨w0, hw0⟩ : ∃ w0, w0 = wr.alloc (.cells #[.func (.func 16) #[.pointer (some ⟨b, 0, none⟩)] #[], .func (.func 17) #[.pointer (some ⟨b, 0, none⟩)] #[], .func (.func 18) #[.pointer (some ⟨b, 0, none⟩)] #[], .func (.func 19) #[.pointer (some ⟨b, 0, none⟩)] #[]] 55) := ⟨_, rfl⟩
     rw [← hw0] at HSW HF0 ⊢; rw [← hF] at HF0 ⊢; have HST : Hid (Stg U w0 b (S0 d K kn tv sa g l) r w0 0) := Hd ⟨HSW.out.lk HD.out HKN.out HYE.out HGL.out.1 HGL.out.2.1 HGL.out.2.2.1, HR2.out⟩; have HTA := Hd (HSW.out.ta HYE.out); have HBW : Hid (∀ V, Mod (LF b g l) w0 V → Below w.heap.size w V ∧ V.heap[F]? = some (.cells #[.func (.func 16) #[.pointer (some ⟨b, 0, none⟩)] #[], .func (.func 17) #[.pointer (some ⟨b, 0, none⟩)] #[], .func (.func 18) #[.pointer (some ⟨b, 0, none⟩)] #[], .func (.func 19) #[.pointer (some ⟨b, 0, none⟩)] #[]] 55 (0, 0)) ∧ V.heap[w.heap.size + 1]? = some (.cells #[.string ⟨#[]⟩, .int .i64 0, .bool false, .bool false, .string ⟨#[]⟩, .slice none 0 0, .slice none 0 0, .slice none 0 0, .slice none 0 0, .slice none 0 0, .slice none 0 0] 29 (0, 0))) := Hd (fun V hm => by
      have nl : ∀ {k : Nat} {c : Array Value} {t : TypeId} {fr : Nat × Nat}, w0.heap[k]? = some (.cells c t fr) → t ≠ 51 → ¬ LF b g l k := fun hk ht x => by
       rcases x with x | x | x
       ·exact blk_ty hk HSW.out.blk ht x
       ·obtain ⟨D, ⟨es, clock, h2, -⟩, -⟩ := HSW.out.own.gm; rw [x, h2] at hk; cases hk
       ·obtain ⟨D, ⟨es, clock, h2, -⟩, -⟩ := HSW.out.own.lm; rw [x, h2] at hk; cases hk
      exact ⟨HSW.out.own.below.trans (hm.belowB (fun j hj x => by have := HGL.out.2; rcases x with x | x | x <;> omega) HSW.out.own.below.size), hm.blk HF0.out.1 (nl HF0.out.1 (by decide)), hm.blk HF0.out.2 (nl HF0.out.2 (by decide))⟩)
     clear HSW HF0 hF hw0 HS1 HYE AX; obtain ⟨wa, hwa⟩ : ∃ wa, wa = wr := ⟨_, rfl⟩; subst hwa; go_loopw [12, 13, 79] (fun _ _ jv wr => ∃ j : Nat, j ≤ 4 ∧ jv = .int .i64 j ∧ Hid (Stg U w0 b (S0 d K kn tv sa g l) r wr j)) (fun _ _ jv _ => 4 - (intOf jv).toNat)
     case atStart => exact ⟨0, by decide, rfl, HST⟩
     case round =>
      clear HST; obtain ⟨j, hj, rfl, HST⟩ := hrel; have HW := Hd (HBW.out wr (stg_mod HST.out)); have HEX : Hid (∀ w5 (c : Int), (∃ s' J, LkG w0 w5 b s' J ∧ s'.g = g ∧ s'.l = l) → Below w.heap.size w w5 ∧ w5.heap[w.heap.size + 1]? = some (.cells #[.string ⟨#[]⟩, .int .i64 0, .bool false, .bool false, .string ⟨#[]⟩, .slice none 0 0, .slice none 0 0, .slice none 0 0, .slice none 0 0, .slice none 0 0, .slice none 0 0] 29 (0, 0))) := Hd (fun w5 c ⟨s', J, h1, h2, h3⟩ => by
       have hm := h1.own.mod; rw [h2, h3] at hm; exact ⟨(HBW.out w5 hm).1, (HBW.out w5 hm).2.2⟩)
      have hcs : j = 0 ∨ j = 1 ∨ j = 2 ∨ j = 3 ∨ j = 4 := by omega
      rcases hcs with rfl | rfl | rfl | rfl | rfl
      ·have cf := cB HW.out.2.1 0; have HCA := Hd (stage0 hU HDU.out HKU.out hkn HST.out); obtain ⟨hw', hw⟩ := wr_sm (x := (0 : Int) + 1) (by omega) (by omega); go_wp2_with fail; refine HCA.out.mono ?_; rintro _ w5 ⟨c, rfl, h5⟩; have H5 := Hd h5; clear h5 cf HCA; obtain ⟨y, hy⟩ : ∃ y, (c == 0) = y := ⟨_, rfl⟩; have hy2 : (c != 0) = !y := by rw [← hy]; rfl
       have HY := Hd hy; cases y with
       | true =>
        have hc : c = 0 := by simpa using HY.out
        subst hc; have HS2 : Hid (Stg U w0 b (S0 d K kn tv sa g l) r w5 (0 + 1)) := Hd (by
         rcases H5.out with h | h
         ·exact h.2
         ·exact absurd rfl h.1)
        clear hy hy2 HY; go_wp2_with fail; go_roundw
        case rel => exact ⟨0 + 1, by decide, by go_num, HS2⟩
        case measure => simp [intOf]
       | false =>
        have HE : Hid (r = .error c ∧ c ≠ 0 ∧ Below w.heap.size w w5 ∧ w5.heap[w.heap.size + 1]? = some (.cells #[.string ⟨#[]⟩, .int .i64 0, .bool false, .bool false, .string ⟨#[]⟩, .slice none 0 0, .slice none 0 0, .slice none 0 0, .slice none 0 0, .slice none 0 0, .slice none 0 0] 29 (0, 0))) := Hd (by
         have hc : c ≠ 0 := by simpa using HY.out
         rcases H5.out with h | h
         ·exact absurd h.1 hc
         ·exact ⟨h.2.1, h.1, HEX.out w5 c h.2.2⟩)
        clear H5; go_wp2_with (refine wpList_store_row rfl 29 (.tmp 4) (.tmp 87) rfl (w.heap.size + 1) #[.string ⟨#[]⟩, .int .i64 0, .bool false, .bool false, .string ⟨#[]⟩, .slice none 0 0, .slice none 0 0, .slice none 0 0, .slice none 0 0, .slice none 0 0, .slice none 0 0] (by rfl) (by rfl) 29 #[.string ⟨#[]⟩, .int .i64 0, .bool false, .bool false, .string ⟨#[]⟩, .slice none 0 0, .slice none 0 0, .slice none 0 0, .slice none 0 0, .slice none 0 0, .slice none 0 0] HE.out.2.2.2 size29 rfl (by simp [Value.oneCell']) ?_; intro w6 hx6 hm6; have HX := Hd hx6; have HM := Hd hm6; clear hx6 hm6); go_wp2_with fail; have c0 := cB HX.out 0; have c1 := cB HX.out 1; have c2 := cB HX.out 2; have c3 := cB HX.out 3; have c4 := cB HX.out 4; have c5 := cB HX.out 5; have c6 := cB HX.out 6; have c7 := cB HX.out 7; have c8 := cB HX.out 8; have c9 := cB HX.out 9; have c10 := cB HX.out 10; exact bodyPost_ret (v := .tuple #[KC.v KC.nil, .int .i64 c]) (by simp [results, Tryd.results5, go_sem, KC.v, KC.nil, ClP.nil, VS6.nil, c0, c1, c2, c3, c4, c5, c6, c7, c8, c9, c10]) rfl (by rw [HE.out.1]; exact ⟨rfl, HE.out.2.1, mod_below' HE.out.2.2.1 HM.out HE.out.2.2.1.size (fun k e => by have e : k = w.heap.size + 1 := e; omega)⟩)
      ·have cf := cB HW.out.2.1 1; have HCA := Hd (stage1 hU HDU.out HKU.out hkn HST.out); obtain ⟨hw', hw⟩ := wr_sm (x := (1 : Int) + 1) (by omega) (by omega); go_wp2_with fail; refine HCA.out.mono ?_; rintro _ w5 ⟨c, rfl, h5⟩; have H5 := Hd h5; clear h5 cf HCA; obtain ⟨y, hy⟩ : ∃ y, (c == 0) = y := ⟨_, rfl⟩; have hy2 : (c != 0) = !y := by rw [← hy]; rfl
       have HY := Hd hy; cases y with
       | true =>
        have hc : c = 0 := by simpa using HY.out
        subst hc; have HS2 : Hid (Stg U w0 b (S0 d K kn tv sa g l) r w5 (1 + 1)) := Hd (by
         rcases H5.out with h | h
         ·exact h.2
         ·exact absurd rfl h.1)
        clear hy hy2 HY; go_wp2_with fail; go_roundw
        case rel => exact ⟨1 + 1, by decide, by go_num, HS2⟩
        case measure => simp [intOf]
       | false =>
        have HE : Hid (r = .error c ∧ c ≠ 0 ∧ Below w.heap.size w w5 ∧ w5.heap[w.heap.size + 1]? = some (.cells #[.string ⟨#[]⟩, .int .i64 0, .bool false, .bool false, .string ⟨#[]⟩, .slice none 0 0, .slice none 0 0, .slice none 0 0, .slice none 0 0, .slice none 0 0, .slice none 0 0] 29 (0, 0))) := Hd (by
         have hc : c ≠ 0 := by simpa using HY.out
         rcases H5.out with h | h
         ·exact absurd h.1 hc
         ·exact ⟨h.2.1, h.1, HEX.out w5 c h.2.2⟩)
        clear H5; go_wp2_with (refine wpList_store_row rfl 29 (.tmp 4) (.tmp 87) rfl (w.heap.size + 1) #[.string ⟨#[]⟩, .int .i64 0, .bool false, .bool false, .string ⟨#[]⟩, .slice none 0 0, .slice none 0 0, .slice none 0 0, .slice none 0 0, .slice none 0 0, .slice none 0 0] (by rfl) (by rfl) 29 #[.string ⟨#[]⟩, .int .i64 0, .bool false, .bool false, .string ⟨#[]⟩, .slice none 0 0, .slice none 0 0, .slice none 0 0, .slice none 0 0, .slice none 0 0, .slice none 0 0] HE.out.2.2.2 size29 rfl (by simp [Value.oneCell']) ?_; intro w6 hx6 hm6; have HX := Hd hx6; have HM := Hd hm6; clear hx6 hm6); go_wp2_with fail; have c0 := cB HX.out 0; have c1 := cB HX.out 1; have c2 := cB HX.out 2; have c3 := cB HX.out 3; have c4 := cB HX.out 4; have c5 := cB HX.out 5; have c6 := cB HX.out 6; have c7 := cB HX.out 7; have c8 := cB HX.out 8; have c9 := cB HX.out 9; have c10 := cB HX.out 10; exact bodyPost_ret (v := .tuple #[KC.v KC.nil, .int .i64 c]) (by simp [results, Tryd.results5, go_sem, KC.v, KC.nil, ClP.nil, VS6.nil, c0, c1, c2, c3, c4, c5, c6, c7, c8, c9, c10]) rfl (by rw [HE.out.1]; exact ⟨rfl, HE.out.2.1, mod_below' HE.out.2.2.1 HM.out HE.out.2.2.1.size (fun k e => by have e : k = w.heap.size + 1 := e; omega)⟩)
      ·have cf := cB HW.out.2.1 2; have HCA := Hd (stage2 hU HDU.out HKU.out HST.out); obtain ⟨hw', hw⟩ := wr_sm (x := (2 : Int) + 1) (by omega) (by omega); go_wp2_with fail; refine HCA.out.mono ?_; rintro _ w5 ⟨c, rfl, h5⟩; have H5 := Hd h5; clear h5 cf HCA; obtain ⟨y, hy⟩ : ∃ y, (c == 0) = y := ⟨_, rfl⟩; have hy2 : (c != 0) = !y := by rw [← hy]; rfl
       have HY := Hd hy; cases y with
       | true =>
        have hc : c = 0 := by simpa using HY.out
        subst hc; have HS2 : Hid (Stg U w0 b (S0 d K kn tv sa g l) r w5 (2 + 1)) := Hd (by
         rcases H5.out with h | h
         ·exact h.2
         ·exact absurd rfl h.1)
        clear hy hy2 HY; go_wp2_with fail; go_roundw
        case rel => exact ⟨2 + 1, by decide, by go_num, HS2⟩
        case measure => simp [intOf]
       | false =>
        have HE : Hid (r = .error c ∧ c ≠ 0 ∧ Below w.heap.size w w5 ∧ w5.heap[w.heap.size + 1]? = some (.cells #[.string ⟨#[]⟩, .int .i64 0, .bool false, .bool false, .string ⟨#[]⟩, .slice none 0 0, .slice none 0 0, .slice none 0 0, .slice none 0 0, .slice none 0 0, .slice none 0 0] 29 (0, 0))) := Hd (by
         have hc : c ≠ 0 := by simpa using HY.out
         rcases H5.out with h | h
         ·exact absurd h.1 hc
         ·exact ⟨h.2.1, h.1, HEX.out w5 c h.2.2⟩)
        clear H5; go_wp2_with (refine wpList_store_row rfl 29 (.tmp 4) (.tmp 87) rfl (w.heap.size + 1) #[.string ⟨#[]⟩, .int .i64 0, .bool false, .bool false, .string ⟨#[]⟩, .slice none 0 0, .slice none 0 0, .slice none 0 0, .slice none 0 0, .slice none 0 0, .slice none 0 0] (by rfl) (by rfl) 29 #[.string ⟨#[]⟩, .int .i64 0, .bool false, .bool false, .string ⟨#[]⟩, .slice none 0 0, .slice none 0 0, .slice none 0 0, .slice none 0 0, .slice none 0 0, .slice none 0 0] HE.out.2.2.2 size29 rfl (by simp [Value.oneCell']) ?_; intro w6 hx6 hm6; have HX := Hd hx6; have HM := Hd hm6; clear hx6 hm6); go_wp2_with fail; have c0 := cB HX.out 0; have c1 := cB HX.out 1; have c2 := cB HX.out 2; have c3 := cB HX.out 3; have c4 := cB HX.out 4; have c5 := cB HX.out 5; have c6 := cB HX.out 6; have c7 := cB HX.out 7; have c8 := cB HX.out 8; have c9 := cB HX.out 9; have c10 := cB HX.out 10; exact bodyPost_ret (v := .tuple #[KC.v KC.nil, .int .i64 c]) (by simp [results, Tryd.results5, go_sem, KC.v, KC.nil, ClP.nil, VS6.nil, c0, c1, c2, c3, c4, c5, c6, c7, c8, c9, c10]) rfl (by rw [HE.out.1]; exact ⟨rfl, HE.out.2.1, mod_below' HE.out.2.2.1 HM.out HE.out.2.2.1.size (fun k e => by have e : k = w.heap.size + 1 := e; omega)⟩)
      ·have cf := cB HW.out.2.1 3; have HCA := Hd (stage3 hU HDU.out HKU.out hkn HST.out); obtain ⟨hw', hw⟩ := wr_sm (x := (3 : Int) + 1) (by omega) (by omega); go_wp2_with fail; refine HCA.out.mono ?_; rintro _ w5 ⟨c, rfl, h5⟩; have H5 := Hd h5; clear h5 cf HCA; obtain ⟨y, hy⟩ : ∃ y, (c == 0) = y := ⟨_, rfl⟩; have hy2 : (c != 0) = !y := by rw [← hy]; rfl
       have HY := Hd hy; cases y with
       | true =>
        have hc : c = 0 := by simpa using HY.out
        subst hc; have HS2 : Hid (Stg U w0 b (S0 d K kn tv sa g l) r w5 (3 + 1)) := Hd (by
         rcases H5.out with h | h
         ·exact h.2
         ·exact absurd rfl h.1)
        clear hy hy2 HY; go_wp2_with fail; go_roundw
        case rel => exact ⟨3 + 1, by decide, by go_num, HS2⟩
        case measure => simp [intOf]
       | false =>
        have HE : Hid (r = .error c ∧ c ≠ 0 ∧ Below w.heap.size w w5 ∧ w5.heap[w.heap.size + 1]? = some (.cells #[.string ⟨#[]⟩, .int .i64 0, .bool false, .bool false, .string ⟨#[]⟩, .slice none 0 0, .slice none 0 0, .slice none 0 0, .slice none 0 0, .slice none 0 0, .slice none 0 0] 29 (0, 0))) := Hd (by
         have hc : c ≠ 0 := by simpa using HY.out
         rcases H5.out with h | h
         ·exact absurd h.1 hc
         ·exact ⟨h.2.1, h.1, HEX.out w5 c h.2.2⟩)
        clear H5; go_wp2_with (refine wpList_store_row rfl 29 (.tmp 4) (.tmp 87) rfl (w.heap.size + 1) #[.string ⟨#[]⟩, .int .i64 0, .bool false, .bool false, .string ⟨#[]⟩, .slice none 0 0, .slice none 0 0, .slice none 0 0, .slice none 0 0, .slice none 0 0, .slice none 0 0] (by rfl) (by rfl) 29 #[.string ⟨#[]⟩, .int .i64 0, .bool false, .bool false, .string ⟨#[]⟩, .slice none 0 0, .slice none 0 0, .slice none 0 0, .slice none 0 0, .slice none 0 0, .slice none 0 0] HE.out.2.2.2 size29 rfl (by simp [Value.oneCell']) ?_; intro w6 hx6 hm6; have HX := Hd hx6; have HM := Hd hm6; clear hx6 hm6); go_wp2_with fail; have c0 := cB HX.out 0; have c1 := cB HX.out 1; have c2 := cB HX.out 2; have c3 := cB HX.out 3; have c4 := cB HX.out 4; have c5 := cB HX.out 5; have c6 := cB HX.out 6; have c7 := cB HX.out 7; have c8 := cB HX.out 8; have c9 := cB HX.out 9; have c10 := cB HX.out 10; exact bodyPost_ret (v := .tuple #[KC.v KC.nil, .int .i64 c]) (by simp [results, Tryd.results5, go_sem, KC.v, KC.nil, ClP.nil, VS6.nil, c0, c1, c2, c3, c4, c5, c6, c7, c8, c9, c10]) rfl (by rw [HE.out.1]; exact ⟨rfl, HE.out.2.1, mod_below' HE.out.2.2.1 HM.out HE.out.2.2.1.size (fun k e => by have e : k = w.heap.size + 1 := e; omega)⟩)
      ·obtain ⟨a, f, h1, rr, cs, c, ps, q, L, n, ms, m, G, gn, x, xs, hA, hS, hr⟩ := HST.out; have HS := Hd hS; have HF := Hd hr; have HM0 := Hd (stg_mod HST.out); clear hA hS hr; have e11 : wr.cell? ⟨b, 11, none⟩ = some (.string d.1.nm) := cB HS.out.blk 11; have e12 : wr.cell? ⟨b, 12, none⟩ = some (.int .i64 d.1.kd) := cB HS.out.blk 12; have e13 : wr.cell? ⟨b, 13, none⟩ = some (.bool d.1.ab) := cB HS.out.blk 13; have e14 : wr.cell? ⟨b, 14, none⟩ = some (.bool d.1.fi) := cB HS.out.blk 14; have e15 : wr.cell? ⟨b, 15, none⟩ = some (.string d.1.pa) := cB HS.out.blk 15; have e16 : wr.cell? ⟨b, 16, none⟩ = some (.slice f.o f.n f.c) := cB HS.out.blk 16; have e17 : wr.cell? ⟨b, 17, none⟩ = some (.slice tv.o tv.n tv.c) := cB HS.out.blk 17; have e18 : wr.cell? ⟨b, 18, none⟩ = some (.slice sa.o sa.n sa.c) := cB HS.out.blk 18; have e19 : wr.cell? ⟨b, 19, none⟩ = some (.slice c.o c.n c.c) := cB HS.out.blk 19; have e20 : wr.cell? ⟨b, 20, none⟩ = some (.slice q.o q.n q.c) := cB HS.out.blk 20; have e21 : wr.cell? ⟨b, 21, none⟩ = some (.slice m.o m.n m.c) := cB HS.out.blk 21; go_wp2_with (refine wpList_store_row rfl 29 (.tmp 4) (.tmp 93) rfl (w.heap.size + 1) #[.string d.1.nm, .int .i64 d.1.kd, .bool d.1.ab, .bool d.1.fi, .string d.1.pa, .slice f.o f.n f.c, .slice tv.o tv.n tv.c, .slice sa.o sa.n sa.c, .slice c.o c.n c.c, .slice q.o q.n q.c, .slice m.o m.n m.c] (by rfl) (by rfl) 29 #[.string ⟨#[]⟩, .int .i64 0, .bool false, .bool false, .string ⟨#[]⟩, .slice none 0 0, .slice none 0 0, .slice none 0 0, .slice none 0 0, .slice none 0 0, .slice none 0 0] HW.out.2.2 size29 rfl (by simp [Value.oneCell']) ?_; intro w6 hx6 hm6; have HX := Hd hx6; have HM := Hd hm6; clear hx6 hm6)
       go_wp2_with fail; have c0 := cB HX.out 0; have c1 := cB HX.out 1; have c2 := cB HX.out 2; have c3 := cB HX.out 3; have c4 := cB HX.out 4; have c5 := cB HX.out 5; have c6 := cB HX.out 6; have c7 := cB HX.out 7; have c8 := cB HX.out 8; have c9 := cB HX.out 9; have c10 := cB HX.out 10; refine bodyPost_ret (v := .tuple #[KC.v (⟨d.1.nm, d.1.kd, d.1.ab, d.1.fi, d.1.pa, a.fs, d.1.ts, d.1.ad, cs, ps, ms⟩, ⟨f, tv, sa, c, q, m⟩), .int .i64 0]) (by simp [results, Tryd.results5, go_sem, KC.v, c0, c1, c2, c3, c4, c5, c6, c7, c8, c9, c10]) rfl ?_; rw [HF.out]; refine ⟨⟨f, tv, sa, c, q, m⟩, rfl, mod_below' HW.out.1 HM.out HW.out.1.size (fun k e => by have e : k = w.heap.size + 1 := e; omega), ?_⟩; have hcl : ClIn (NT wr) wr ⟨d.1.nm, d.1.kd, d.1.ab, d.1.fi, d.1.pa, a.fs, d.1.ts, d.1.ad, cs, ps, ms⟩ ⟨f, tv, sa, c, q, m⟩ := by
        have k9 := HS.out.own; have nt0 : ∀ j, (NT w0 j ∧ NF b g l j) → j < w0.heap.size → wr.heap[j]? = w0.heap[j]? ∧ j < wr.heap.size ∧ NT wr j := fun j ⟨⟨c9, t9, fr9, h9, ht9⟩, hn⟩ hj => ⟨HM0.out.block j hj hn, Nat.lt_of_lt_of_le hj HM0.out.size, c9, t9, fr9, (HM0.out.block j hj hn).trans h9, ht9⟩
        exact ⟨RIn.of_owns k9.of (own_nt (by decide) k9.of), HTA.out.1.kept nt0, HTA.out.2.kept nt0, RIn.of_owns k9.oc (own_nt (by decide) k9.oc), RIn.of_owns k9.oq (own_nt (by decide) k9.oq), RIn.of_owns k9.om (own_nt (by decide) k9.om)⟩
       exact hcl.over HM.out HW.out.2.2
end Go.Proofs.YtobjmajkcfhpoaaDoor
