/-
  The walk of 'does': one call of both lists.
-/
import Derived.Test.YtgpdhmgbmhfooaaDoorRAppend07
namespace Go.Proofs.YtgpdhmgbmhfooaaDoor
open Go.RowKit

/-- One act of a script. -/
structure A where
  kind : Int
  n : Int
  k : K
structure A.Good (a : A) : Prop where
  key : a.k.Good
abbrev AV (a : A) : Value := .agg #[.int .i64 a.kind, .int .i64 a.n, .bool a.k.b, .int .i64 a.k.n, .string a.k.t]
abbrev AB (a : A) : Obj := .cells #[.int .i64 a.kind, .int .i64 a.n, .bool a.k.b, .int .i64 a.k.n, .string a.k.t] 36 (0, 0)
/-- The parts of both lists in memory. -/
structure Pt where
  sh : Bool
  v : Value
  mb : Nat
  c : Array Value
  rv : Value
/-- Both lists, made since the heap had n blocks. -/
structure Duo (n : Nat) (W : World) (b rb ro : Nat) (p : Pt) (l r : LS) : Prop where
  lst : ListIs W b p.sh p.v p.mb l
  ref : RefAt W rb ro p.c p.rv r
  nb : n ≤ b
  nv : ∀ g, p.v.ownBlock = some g → n ≤ g
  nm : n ≤ p.mb
  nr : n ≤ rb
/-- How both lists' parts may go on. -/
structure Gone (n : Nat) (ro : Nat) (p q : Pt) : Prop where
  goes : Goes n p.sh p.v p.mb q.sh q.v q.mb
  rest : ∀ i, i ≠ ro → i ≠ ro + 1 → q.c[i]? = p.c[i]?
  new : q.rv = p.rv ∨ ∀ g, q.rv.ownBlock = some g → n ≤ g
theorem Gone.refl (n ro : Nat) (p : Pt) : Gone n ro p p := ⟨Goes.refl _ _ _ _, fun _ _ _ => rfl, .inl rfl⟩
theorem Goes.trans {n n' : Nat} (hn : n ≤ n') {sh : Bool} {v : Value} {mb : Nat} {sh' : Bool} {v' : Value} {mb' : Nat} {sh2 : Bool} {v2 : Value} {mb2 : Nat} (h : Goes n sh v mb sh' v' mb') (k : Goes n' sh' v' mb' sh2 v2 mb2) : Goes n sh v mb sh2 v2 mb2 := by
  rcases k with ⟨rfl, rfl, rfl⟩ | ⟨k1, k2, k3⟩
  · exact h
  · refine .inr ⟨k1, fun g e => ?_, ?_⟩
    · rcases k2 g e with k2 | ⟨k2, k2'⟩
      · exact .inl (by omega)
      · rcases h with ⟨rfl, rfl, rfl⟩ | ⟨h1, h2, h3⟩
        · exact .inr ⟨k2, k2'⟩
        · exact h2 g k2'
    · rcases k3 with k3 | ⟨k3, rfl⟩
      · exact .inl (by omega)
      · rcases h with ⟨rfl, rfl, rfl⟩ | ⟨h1, h2, h3⟩
        · exact .inr ⟨k3, rfl⟩
        · exact h3
theorem Goes.foot {n : Nat} {b : Nat} {sh : Bool} {v : Value} {mb : Nat} {sh' : Bool} {v' : Value} {mb' : Nat} (h : Goes n sh v mb sh' v' mb') {k : Nat} (hk : k < n) (hf : Foot b sh' v' mb' k) : Foot b sh v mb k := by
  rcases h with ⟨rfl, rfl, rfl⟩ | ⟨h1, h2, h3⟩
  · exact hf
  · rcases hf with hf | ⟨_, hf | hf⟩
    · exact .inl hf
    · rcases h2 k hf with h | ⟨h, h'⟩
      · omega
      · exact .inr ⟨h, .inl h'⟩
    · rcases h3 with h | ⟨h, h'⟩
      · omega
      · exact .inr ⟨h, .inr (hf.trans h')⟩
theorem Gone.trans {n n' ro : Nat} (hn : n ≤ n') {p q s : Pt} (h : Gone n ro p q) (k : Gone n' ro q s) : Gone n ro p s := by
  refine ⟨h.goes.trans hn k.goes, fun i h0 h1 => (k.rest i h0 h1).trans (h.rest i h0 h1), ?_⟩
  rcases k.new with k | k
  · rcases h.new with h | h
    · exact .inl (k.trans h)
    · exact .inr fun g e => h g (k ▸ e)
  · exact .inr fun g e => Nat.le_trans hn (k g e)
/-- The blocks of a list are no blocks of the document's. -/
theorem foot_not47 {W : World} {b : Nat} {sh : Bool} {v : Value} {mb : Nat} {l : LS} (i : ListIs W b sh v mb l) {rb : Nat} {c : Array Value} {t : TypeId} (hB : W.heap[rb]? = some (.cells c t (0, 0))) (h1 : t ≠ 61) (h2 : t ≠ 88) : ¬ Foot b sh v mb rb := by
  rintro (rfl | ⟨_, h | rfl⟩)
  · rw [i.blk] at hB; cases hB; exact h1 rfl
  · obtain ⟨cur, hc⟩ := owns_type i.own h
    rw [hB] at hc; cases hc; exact h2 rfl
  · obtain ⟨D, ⟨es, clock, hm, _⟩, _⟩ := i.map
    rw [hB] at hm; cases hm
theorem RefAt.listOp {W W' : World} {b : Nat} {sh : Bool} {v : Value} {mb : Nat} {l : LS} (i : ListIs W b sh v mb l) {rb ro : Nat} {c : Array Value} {rv : Value} {r : LS} (j : RefAt W rb ro c rv r) (m : Mod (Foot b sh v mb) W W') : RefAt W' rb ro c rv r :=
  j.mod m (foot_not47 i j.blk (by decide) (by decide)) (fun g e => by
    obtain ⟨cur, hc⟩ := owns_type j.own e
    exact foot_not47 i hc (by decide) (by decide))
theorem ListIs.refOp {W W' : World} {b : Nat} {sh : Bool} {v : Value} {mb : Nat} {l : LS} (i : ListIs W b sh v mb l) {rb : Nat} {c : Array Value} (hB : W.heap[rb]? = some (.cells c 47 (0, 0))) (m : Mod (fun k => k = rb) W W') : ListIs W' b sh v mb l :=
  i.mod m (fun e => foot_not47 i hB (by decide) (by decide) (.inl e.symm))
    (fun e => by
      obtain ⟨D, ⟨es, clock, hm, _⟩, _⟩ := i.map
      rw [e, hB] at hm; cases hm)
    (fun g e x => by
      obtain ⟨cur, hc⟩ := owns_type i.own e
      rw [x, hB] at hc; cases hc)

theorem blk_ne {w : World} {b b' : Nat} {c c' : Array Value} {t t' : TypeId} {fr fr' : Nat × Nat} (h : w.heap[b]? = some (.cells c t fr)) (h' : w.heap[b']? = some (.cells c' t' fr')) (hne : t ≠ t') : b ≠ b' := fun e => by
  rw [e, h'] at h
  injection h with h
  injection h with _ h _
  exact hne h.symm
/-- A call of 'does' is under way. -/
structure PS (n : Nat) (w W : World) (b rb ro : Nat) (p0 p : Pt) (l r : LS) (B : Nat) (a : A) : Prop where
  tabs : ∀ W, Below n w W → Tabs W
  duo : Duo n W b rb ro p l r
  act : W.heap[B]? = some (AB a)
  hB : w.heap.size ≤ B
  hn : n ≤ w.heap.size
  old : b < w.heap.size ∧ rb < w.heap.size
  mod : Mod (fun k => Foot b p0.sh p0.v p0.mb k ∨ k = rb) w W
  below : Below n w W
  gone : Gone w.heap.size ro p0 p
theorem PS.tabsW {n : Nat} {w W : World} {b rb ro : Nat} {p0 p : Pt} {l r : LS} {B : Nat} {a : A} (h : PS n w W b rb ro p0 p l r B a) : Tabs W := h.tabs W h.below
theorem PS.mono {n : Nat} {w W W' : World} {b rb ro : Nat} {p0 p : Pt} {l r : LS} {B : Nat} {a : A} (h : PS n w W b rb ro p0 p l r B a) (hb : Below W.heap.size W W') : PS n w W' b rb ro p0 p l r B a :=
  ⟨h.tabs, ⟨h.duo.lst.below hb, h.duo.ref.below hb, h.duo.nb, h.duo.nv, h.duo.nm, h.duo.nr⟩, (hb.block _ (lt_of_block h.act)).trans h.act, h.hB, h.hn, h.old, h.mod.trans (Mod.of_below hb), h.below.trans (hb.mono (Nat.le_trans h.hn h.mod.size)), h.gone⟩
theorem PS.drew {n : Nat} {w W : World} {b rb ro : Nat} {p0 p : Pt} {l r : LS} {B : Nat} {a : A} (h : PS n w W b rb ro p0 p l r B a) : PS n w W.drew b rb ro p0 p l r B a := h.mono (Below.refl _ _).drew
theorem PS.listOp {n : Nat} {w W W' : World} {b rb ro : Nat} {p0 p : Pt} {l r l' : LS} {B : Nat} {a : A} (h : PS n w W b rb ro p0 p l r B a) {sh' : Bool} {v' : Value} {mb' : Nat} (i : ListIs W' b sh' v' mb' l') (m : Mod (Foot b p.sh p.v p.mb) W W') (g : Goes W.heap.size p.sh p.v p.mb sh' v' mb') :
    PS n w W' b rb ro p0 ⟨sh', v', mb', p.c, p.rv⟩ l' r B a := by
  have hs := h.mod.size
  have hm : Mod (fun k => Foot b p0.sh p0.v p0.mb k ∨ k = rb) w W' := h.mod.trans' m (fun k hk hf => .inl (h.gone.goes.foot hk hf))
  have hfn : ∀ k, k < n → ¬ Foot b p.sh p.v p.mb k := fun k hk hf => by
    rcases hf with hf | ⟨_, hf | hf⟩
    · have := h.duo.nb; omega
    · have := h.duo.nv k hf; omega
    · have := h.duo.nm; omega
  refine ⟨h.tabs, ⟨i, h.duo.ref.listOp h.duo.lst m, h.duo.nb, fun g' e => ?_, ?_, h.duo.nr⟩, m.blk h.act (foot_not47 h.duo.lst h.act (by decide) (by decide)), h.hB, h.hn, h.old, hm, h.below.trans (m.belowB hfn (Nat.le_trans h.hn hs)), h.gone.trans hs ⟨g, fun _ _ _ => rfl, .inl rfl⟩⟩
  · have := h.hn
    rcases g with ⟨_, rfl, _⟩ | ⟨_, g2, _⟩
    · exact h.duo.nv g' e
    · rcases g2 g' e with g2 | ⟨_, g2⟩
      · omega
      · exact h.duo.nv g' g2
  · have := h.hn
    rcases g with ⟨_, _, rfl⟩ | ⟨_, _, g3 | ⟨_, rfl⟩⟩
    · exact h.duo.nm
    · show n ≤ mb'; omega
    · exact h.duo.nm
theorem PS.refOp {n : Nat} {w W W' : World} {b rb ro : Nat} {p0 p : Pt} {l r r' : LS} {B : Nat} {a : A} (h : PS n w W b rb ro p0 p l r B a) {c' : Array Value} {rv' : Value} (i : RefAt W' rb ro c' rv' r') (m : Mod (fun k => k = rb) W W') (hr : ∀ i, i ≠ ro → i ≠ ro + 1 → c'[i]? = p.c[i]?) (hv : rv' = p.rv ∨ ∀ g, rv'.ownBlock = some g → W.heap.size ≤ g) :
    PS n w W' b rb ro p0 ⟨p.sh, p.v, p.mb, c', rv'⟩ l r' B a := by
  have hs := h.mod.size
  have hm : Mod (fun k => Foot b p0.sh p0.v p0.mb k ∨ k = rb) w W' := h.mod.trans' m (fun k hk hf => .inr hf)
  have hne : B ≠ rb := blk_ne h.act h.duo.ref.blk (by decide)
  exact ⟨h.tabs, ⟨h.duo.lst.refOp h.duo.ref.blk m, i, h.duo.nb, h.duo.nv, h.duo.nm, h.duo.nr⟩, m.blk h.act hne, h.hB, h.hn, h.old, hm, h.below.trans (m.belowB (fun k hk e => by have := h.duo.nr; omega) (Nat.le_trans h.hn hs)), h.gone.trans hs ⟨Goes.refl _ _ _ _, hr, hv⟩⟩
theorem PS.cells {n : Nat} {w W : World} {b rb ro : Nat} {p0 p : Pt} {l r : LS} {B : Nat} {a : A} (h : PS n w W b rb ro p0 p l r B a) :
    W.cell? ⟨B, 0, none⟩ = some (.int .i64 a.kind) ∧ W.cell? ⟨B, 1, none⟩ = some (.int .i64 a.n) ∧ W.cell? ⟨B, 2, none⟩ = some (.bool a.k.b) ∧ W.cell? ⟨B, 3, none⟩ = some (.int .i64 a.k.n) ∧ W.cell? ⟨B, 4, none⟩ = some (.string a.k.t) :=
  ⟨cell_blk h.act 0, cell_blk h.act 1, cell_blk h.act 2, cell_blk h.act 3, cell_blk h.act 4⟩

def kindOf5 (k : Int) : Int := (k.tmod 5 + 5).tmod 5
theorem kind5_wrap {kind : Int} : IntKind.i64.wrap (kind.tmod 5 + 5) = kind.tmod 5 + 5 := by
  have t1 := Int.tmod_lt_of_pos kind (show (0 : Int) < 5 by omega)
  have t2 : -5 < kind.tmod 5 := Int.lt_tmod_of_pos kind (by omega)
  exact wrap_in (by omega) (by omega)
theorem kind5_cases (k : Int) : kindOf5 k = 0 ∨ kindOf5 k = 1 ∨ kindOf5 k = 2 ∨ kindOf5 k = 3 ∨ kindOf5 k = 4 := by
  have t2 : -5 < k.tmod 5 := Int.lt_tmod_of_pos k (by omega)
  unfold kindOf5
  have h1 : 0 ≤ (k.tmod 5 + 5).tmod 5 := Int.tmod_nonneg 5 (by omega)
  have h2 := Int.tmod_lt_of_pos (k.tmod 5 + 5) (show (0 : Int) < 5 by omega)
  omega
/-- What an act makes of a list. -/
def stepL (a : A) (l : LS) : LS :=
  if kindOf5 a.kind = 0 then (setP a.k a.n l).2 else if kindOf5 a.kind = 1 then (appendP a.n l).2 else if kindOf5 a.kind = 2 then (delP a.k l).2 else l
def DoesPost (n : Nat) (w : World) (b rb ro : Nat) (p0 : Pt) (l' : LS) (e : Ending) (w' : World) : Prop :=
  e = .returned (.bool true) ∧ ∃ p, Duo n w' b rb ro p l' l' ∧ Mod (fun k => Foot b p0.sh p0.v p0.mb k ∨ k = rb) w w' ∧ Gone w.heap.size ro p0 p
theorem PS.done {n : Nat} {w W : World} {b rb ro : Nat} {p0 p : Pt} {l : LS} {B : Nat} {a : A} (h : PS n w W b rb ro p0 p l l B a) : DoesPost n w b rb ro p0 l (.returned (.bool true)) W := ⟨rfl, p, h.duo, h.mod, h.gone⟩
theorem int_same7 (r : Int) : (r == r) = true := by simp

set_option maxRecDepth 100000 in
set_option maxHeartbeats 3200000 in
theorem does_0 {n : Nat} {b rb ro : Nat} {p : Pt} {l : LS} (a : A) (ha : a.Good) (hk : kindOf5 a.kind = 0) (w : World) (hn : n ≤ w.heap.size) (ht : ∀ W, Below n w W → Tabs W) (D : Duo n w b rb ro p l l) :
    Calls Tryd.prog 26 #[.pointer (some ⟨b, 0, none⟩), .pointer (some ⟨rb, ro, none⟩), AV a] w (DoesPost n w b rb ro p (setP a.k a.n l).2) := by
  have hw := kind5_wrap (kind := a.kind)
  have S0 : Hid (PS n w (w.alloc (AB a)) b rb ro p p l l w.heap.size a) :=
    ⟨ht, ⟨D.lst.below (below_alloc1 _ _), D.ref.below (below_alloc1 _ _), D.nb, D.nv, D.nm, D.nr⟩, heap_alloc_new _ _, Nat.le_refl _, hn, ⟨lt_of_block D.lst.blk, lt_of_block D.ref.blk⟩, Mod.of_below (below_alloc1 _ _), (below_alloc1 _ _).mono hn, Gone.refl _ _ _⟩
  have hk0 := hk
  unfold kindOf5 at hk
  obtain ⟨x0, x1, x2, x3, x4⟩ := S0.out.cells
  obtain ⟨e, he⟩ : ∃ e, e = (setP a.k a.n l).1 := ⟨_, rfl⟩
  have HS : ∀ W (q : Pt), Tabs W → ListIs W b q.sh q.v q.mb l → Calls Tryd.prog 19 #[.pointer (some ⟨b, 0, none⟩), .agg #[.bool a.k.b, .int .i64 a.k.n, .string a.k.t], .int .i64 a.n] W (SetPost W b q.sh q.v q.mb (e, (setP a.k a.n l).2)) := fun W q hT hL => by
    rw [he]; exact set_any a.n ha.key W hT hL
  have HR : ∀ W (q : Pt), Tabs W → RefAt W rb ro q.c q.rv l → Calls Tryd.prog 55 #[.pointer (some ⟨rb, ro, none⟩), .agg #[.bool a.k.b, .int .i64 a.k.n, .string a.k.t], V4 2 a.n ⟨#[]⟩ none 0 0] W (RefPost W rb ro q.c q.rv (setP a.k a.n l).2 (.int .i64 e)) := fun W q hT hL => by
    rw [he]; exact rset_any a.n ha.key W hT hL
  have e0 := int_same7 e
  clear he
  clear D ht ha
  go_enter Tryd.func26, Tryd.ntmps26
  go_wp2_with fail
  refine (HS _ p S0.out.tabsW S0.out.duo.lst).mono ?_
  rintro e1 w1 ⟨rfl, sh1, v1, mb1, i1, m1, g1⟩
  have S1 := Lib.hid (S0.out.listOp i1 m1 g1)
  clear i1 m1 g1 S0 HS x0 x1 x2 x3 x4
  have S1' := Lib.hid S1.out.drew
  obtain ⟨x0, x1, x2, x3, x4⟩ := S1.out.cells
  go_wp2_with fail
  go_region_with (first
    | (go_at_call 56; refine (numv_any a.n _).mono ?_; rintro e2 w2 ⟨rfl, hb⟩; have S2 := Lib.hid (S1'.out.mono hb); clear hb; obtain ⟨y0, y1, y2, y3, y4⟩ := S2.out.cells)
    | (go_at_call 55; refine (HR _ _ S2.out.tabsW S2.out.duo.ref).mono ?_; rintro e3 w3 ⟨rfl, c3, v3, i3, m3, r3, n3⟩; have S3 := Lib.hid (S2.out.refOp i3 m3 r3 n3); clear i3 m3 r3 n3))
  all_goals go_wp2_with fail
  all_goals go_ret
  all_goals exact S3.out.done

set_option maxRecDepth 100000 in
set_option maxHeartbeats 3200000 in
theorem does_2 {n : Nat} {b rb ro : Nat} {p : Pt} {l : LS} (a : A) (ha : a.Good) (hk : kindOf5 a.kind = 2) (w : World) (hn : n ≤ w.heap.size) (ht : ∀ W, Below n w W → Tabs W) (D : Duo n w b rb ro p l l) :
    Calls Tryd.prog 26 #[.pointer (some ⟨b, 0, none⟩), .pointer (some ⟨rb, ro, none⟩), AV a] w (DoesPost n w b rb ro p (delP a.k l).2) := by
  have hw := kind5_wrap (kind := a.kind)
  have S0 : Hid (PS n w (w.alloc (AB a)) b rb ro p p l l w.heap.size a) :=
    ⟨ht, ⟨D.lst.below (below_alloc1 _ _), D.ref.below (below_alloc1 _ _), D.nb, D.nv, D.nm, D.nr⟩, heap_alloc_new _ _, Nat.le_refl _, hn, ⟨lt_of_block D.lst.blk, lt_of_block D.ref.blk⟩, Mod.of_below (below_alloc1 _ _), (below_alloc1 _ _).mono hn, Gone.refl _ _ _⟩
  have hk0 := hk
  unfold kindOf5 at hk
  obtain ⟨x0, x1, x2, x3, x4⟩ := S0.out.cells
  obtain ⟨e, he⟩ : ∃ e, e = (delP a.k l).1 := ⟨_, rfl⟩
  have HS : ∀ W (q : Pt), Tabs W → ListIs W b q.sh q.v q.mb l → Calls Tryd.prog 25 #[.pointer (some ⟨b, 0, none⟩), .agg #[.bool a.k.b, .int .i64 a.k.n, .string a.k.t]] W (DelPost W b q.sh q.v q.mb (e, (delP a.k l).2)) := fun W q hT hL => by
    rw [he]; exact del_any ha.key W hT hL
  have HR : ∀ W (q : Pt), Tabs W → RefAt W rb ro q.c q.rv l → Calls Tryd.prog 58 #[.pointer (some ⟨rb, ro, none⟩), .agg #[.bool a.k.b, .int .i64 a.k.n, .string a.k.t]] W (RefPost W rb ro q.c q.rv (delP a.k l).2 (.bool e)) := fun W q hT hL => by
    rw [he]; exact rdel_any ha.key W hT hL
  have e0 : (e == e) = true := by simp
  clear he
  clear D ht ha
  go_enter Tryd.func26, Tryd.ntmps26
  go_wp2_with fail
  have S0' := Lib.hid S0.out.drew
  go_region_with (first
    | (go_at_call 25; refine (HS _ _ S0'.out.tabsW S0'.out.duo.lst).mono ?_; rintro e1 w1 ⟨rfl, sh1, v1, mb1, i1, m1, g1⟩; have S2 := Lib.hid (S0'.out.listOp i1 m1 g1); clear i1 m1 g1; obtain ⟨y0, y1, y2, y3, y4⟩ := S2.out.cells)
    | (go_at_call 58; refine (HR _ _ S2.out.tabsW S2.out.duo.ref).mono ?_; rintro e3 w3 ⟨rfl, c3, v3, i3, m3, r3, n3⟩; have S3 := Lib.hid (S2.out.refOp i3 m3 r3 n3); clear i3 m3 r3 n3))
  all_goals go_wp2_with fail
  all_goals go_ret
  all_goals exact S3.out.done

set_option maxRecDepth 100000 in
set_option maxHeartbeats 3200000 in
theorem does_1 {n : Nat} {b rb ro : Nat} {p : Pt} {l : LS} (a : A) (_ : a.Good) (hk : kindOf5 a.kind = 1) (w : World) (hn : n ≤ w.heap.size) (ht : ∀ W, Below n w W → Tabs W) (D : Duo n w b rb ro p l l) :
    Calls Tryd.prog 26 #[.pointer (some ⟨b, 0, none⟩), .pointer (some ⟨rb, ro, none⟩), AV a] w (DoesPost n w b rb ro p (appendP a.n l).2) := by
  have hw := kind5_wrap (kind := a.kind)
  have S0 : Hid (PS n w (w.alloc (AB a)) b rb ro p p l l w.heap.size a) :=
    ⟨ht, ⟨D.lst.below (below_alloc1 _ _), D.ref.below (below_alloc1 _ _), D.nb, D.nv, D.nm, D.nr⟩, heap_alloc_new _ _, Nat.le_refl _, hn, ⟨lt_of_block D.lst.blk, lt_of_block D.ref.blk⟩, Mod.of_below (below_alloc1 _ _), (below_alloc1 _ _).mono hn, Gone.refl _ _ _⟩
  have hk0 := hk
  unfold kindOf5 at hk
  obtain ⟨x0, x1, x2, x3, x4⟩ := S0.out.cells
  obtain ⟨e, he⟩ : ∃ e, e = (appendP a.n l).1.2 := ⟨_, rfl⟩
  obtain ⟨q, hq⟩ : ∃ q, q = (appendP a.n l).1.1 := ⟨_, rfl⟩
  have HS : ∀ W (s : Pt), Tabs W → ListIs W b s.sh s.v s.mb l → Calls Tryd.prog 24 #[.pointer (some ⟨b, 0, none⟩), .int .i64 a.n] W (fun e' w' => e' = .returned (.tuple #[.agg #[.bool q.b, .int .i64 q.n, .string q.t], .int .i64 e]) ∧ ∃ sh' v' mb', ListIs w' b sh' v' mb' (appendP a.n l).2 ∧ Mod (Foot b s.sh s.v s.mb) W w' ∧ Goes W.heap.size s.sh s.v s.mb sh' v' mb') := fun W s hT hL => by
    have h := append_any a.n W hT hL
    rw [hq, he]
    exact h
  have HR : ∀ W (s : Pt), Tabs W → RefAt W rb ro s.c s.rv l → Calls Tryd.prog 57 #[.pointer (some ⟨rb, ro, none⟩), V4 2 a.n ⟨#[]⟩ none 0 0] W (RefPost W rb ro s.c s.rv (appendP a.n l).2 (.tuple #[.agg #[.bool q.b, .int .i64 q.n, .string q.t], .int .i64 e])) := fun W s hT hL => by
    have h := rappend_any a.n W hT hL
    rw [hq, he]
    exact h
  have e0 := int_same7 e
  have e1 := fun w => key_eql q q w
  rw [K.same_self] at e1
  clear he hq
  clear D ht
  go_enter Tryd.func26, Tryd.ntmps26
  go_wp2_with fail
  refine (HS _ p S0.out.tabsW S0.out.duo.lst).mono ?_
  rintro e1 w1 ⟨rfl, sh1, v1, mb1, i1, m1, g1⟩
  have S1 := Lib.hid ((S0.out.listOp i1 m1 g1).mono (below_alloc1 w1 (KB q.b q.n q.t)))
  have K1 := Lib.hid (heap_alloc_new w1 (KB q.b q.n q.t))
  clear i1 m1 g1 S0 HS x0 x1 x2 x3 x4
  obtain ⟨x0, x1, x2, x3, x4⟩ := S1.out.cells
  go_wp2_with fail
  refine (numv_any a.n _).mono ?_
  rintro e2 w2 ⟨rfl, hb⟩
  have S2 := Lib.hid (S1.out.mono hb)
  have K2 := Lib.hid ((hb.block _ (lt_of_block K1.out)).trans K1.out)
  clear hb S1 K1 x0 x1 x2 x3 x4
  go_wp2_with fail
  refine (HR _ _ S2.out.tabsW S2.out.duo.ref).mono ?_
  rintro e3 w3 ⟨rfl, c3, v3, i3, m3, r3, n3⟩
  have S3 := Lib.hid ((S2.out.refOp i3 m3 r3 n3).mono (below_alloc1 w3 (KB q.b q.n q.t)))
  have K3 := m3.blk K2.out (blk_ne K2.out S2.out.duo.ref.blk (by decide))
  obtain ⟨z0, z1, z2⟩ := cells3 (alloc_blk K3 (KB q.b q.n q.t))
  clear i3 m3 r3 n3 S2 K2 K3 HR
  go_wp2_with fail
  go_ret
  exact S3.out.done

set_option maxRecDepth 100000 in
set_option maxHeartbeats 3200000 in
theorem does_34 {n : Nat} {b rb ro : Nat} {p : Pt} {l : LS} (a : A) (ha : a.Good) (hk : kindOf5 a.kind = 3 ∨ kindOf5 a.kind = 4) (w : World) (hn : n ≤ w.heap.size) (ht : ∀ W, Below n w W → Tabs W) (D : Duo n w b rb ro p l l) :
    Calls Tryd.prog 26 #[.pointer (some ⟨b, 0, none⟩), .pointer (some ⟨rb, ro, none⟩), AV a] w (DoesPost n w b rb ro p l) := by
  have hw := kind5_wrap (kind := a.kind)
  have S0 : Hid (PS n w (w.alloc (AB a)) b rb ro p p l l w.heap.size a) :=
    ⟨ht, ⟨D.lst.below (below_alloc1 _ _), D.ref.below (below_alloc1 _ _), D.nb, D.nv, D.nm, D.nr⟩, heap_alloc_new _ _, Nat.le_refl _, hn, ⟨lt_of_block D.lst.blk, lt_of_block D.ref.blk⟩, Mod.of_below (below_alloc1 _ _), (below_alloc1 _ _).mono hn, Gone.refl _ _ _⟩
  have hk0 := hk
  unfold kindOf5 at hk
  obtain ⟨x0, x1, x2, x3, x4⟩ := S0.out.cells
  have hkb : (((a.kind.tmod 5 + 5).tmod 5 == 0) = false ∧ ((a.kind.tmod 5 + 5).tmod 5 == 1) = false ∧ ((a.kind.tmod 5 + 5).tmod 5 == 2) = false) := by
    rcases hk with h | h <;> rw [h] <;> decide
  obtain ⟨t0, t1, t2⟩ := hkb
  clear hk hk0
  obtain ⟨y, hy⟩ : ∃ y, y = getP a.k l := ⟨_, rfl⟩
  obtain ⟨yv, yb⟩ := y
  have HS : ∀ W (q : Pt), Tabs W → ListIs W b q.sh q.v q.mb l → Calls Tryd.prog 20 #[.pointer (some ⟨b, 0, none⟩), .agg #[.bool a.k.b, .int .i64 a.k.n, .string a.k.t]] W (GetPost W (yv, yb)) := fun W q hT hL => by
    rw [hy]; exact get_any ha.key W hT hL
  obtain ⟨kd, hkd⟩ : ∃ kd : Int, kd = if yb then 2 else 0 := ⟨_, rfl⟩
  have HR : ∀ W (q : Pt), Tabs W → RefAt W rb ro q.c q.rv l → Calls Tryd.prog 59 #[.pointer (some ⟨rb, ro, none⟩), .agg #[.bool a.k.b, .int .i64 a.k.n, .string a.k.t]] W (fun e w' => e = .returned (.tuple #[V4 kd yv ⟨#[]⟩ none 0 0, .bool yb]) ∧ Below W.heap.size W w') := fun W q hT hL => by
    have h := rget_any ha.key W hT hL
    rw [← hy] at h
    rw [hkd]
    exact h
  have e0 := int_same7 yv
  have e1 : (yb == yb) = true := by simp
  clear hy hkd
  clear D ht ha
  go_enter Tryd.func26, Tryd.ntmps26
  go_wp2_with fail
  refine (HS _ p S0.out.tabsW S0.out.duo.lst).mono ?_
  rintro e1 w1 ⟨rfl, hb⟩
  have S1 := Lib.hid (S0.out.mono hb)
  clear hb S0 HS x0 x1 x2 x3 x4
  obtain ⟨x0, x1, x2, x3, x4⟩ := S1.out.cells
  go_wp2_with fail
  refine (HR _ p S1.out.tabsW S1.out.duo.ref).mono ?_
  rintro e2 w2 ⟨rfl, hb⟩
  have S2 := Lib.hid ((S1.out.mono hb).mono (below_alloc1 w2 (.cells #[.int .i64 kd, .int .i64 yv, .string ⟨#[]⟩, .slice none 0 0] 54)))
  clear hb S1 HR x0 x1 x2 x3 x4
  go_wp2_with fail
  go_ret
  exact S2.out.done

theorem does_any {n : Nat} {b rb ro : Nat} {p : Pt} {l : LS} (a : A) (ha : a.Good) (w : World) (hn : n ≤ w.heap.size) (ht : ∀ W, Below n w W → Tabs W) (D : Duo n w b rb ro p l l) :
    Calls Tryd.prog 26 #[.pointer (some ⟨b, 0, none⟩), .pointer (some ⟨rb, ro, none⟩), AV a] w (DoesPost n w b rb ro p (stepL a l)) := by
  unfold stepL
  rcases kind5_cases a.kind with h | h | h | h | h
  · rw [if_pos h]; exact does_0 a ha h w hn ht D
  · rw [if_neg (by omega), if_pos h]; exact does_1 a ha h w hn ht D
  · rw [if_neg (by omega), if_neg (by omega), if_pos h]; exact does_2 a ha h w hn ht D
  · rw [if_neg (by omega), if_neg (by omega), if_neg (by omega)]; exact does_34 a ha (.inl h) w hn ht D
  · rw [if_neg (by omega), if_neg (by omega), if_neg (by omega)]; exact does_34 a ha (.inr h) w hn ht D
end Go.Proofs.YtgpdhmgbmhfooaaDoor
