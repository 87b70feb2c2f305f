/-
  ListKeys: the plain law, and the walk.
-/
import Derived.Test.YtgpdhmgbmhfooaaDoorAlive07
namespace Go.Proofs.YtgpdhmgbmhfooaaDoor
open Go.RowKit

theorem key_eql (x y : K) (w : World) : (binOp .eql 23 (.agg #[.bool x.b, .int .i64 x.n, .string x.t]) (.agg #[.bool y.b, .int .i64 y.n, .string y.t])).run Tryd.prog w = .ok (.bool (K.same x y)) w := by
  unfold K.same
  cases h1 : x.b == y.b
  · go_simp
  · cases h2 : x.n == y.n
    · go_simp
    · cases h3 : x.t.toList == y.t.toList
      · go_simp
      · go_simp
theorem key_neq (x y : K) (w : World) : (binOp .neq 23 (.agg #[.bool x.b, .int .i64 x.n, .string x.t]) (.agg #[.bool y.b, .int .i64 y.n, .string y.t])).run Tryd.prog w = .ok (.bool (!K.same x y)) w := by
  unfold K.same
  cases h1 : x.b == y.b
  · go_simp
  · cases h2 : x.n == y.n
    · go_simp
    · cases h3 : x.t.toList == y.t.toList
      · go_simp
      · go_simp

def keysL1 (q : K) : LS := ⟨[(q, 1)], nextP q 0⟩
theorem keys1 {k q : K} (h : k.norm = q) : setP k 1 LS.new = (0, keysL1 q) := by
  unfold setP
  rw [h]
  rfl
theorem keys2_same {k q : K} (h : k.norm = q) : setP k 2 (keysL1 q) = (0, ⟨[(q, 2)], nextP q 0⟩) := by
  unfold setP setN
  rw [h]
  have hf : findK q (keysL1 q).xs = some 0 := by
    unfold keysL1 findK
    rw [List.findIdx?_cons, if_pos (K.same_self _)]
  rw [hf]
  rfl
theorem keys2_other {k q r : K} (h : k.norm = r) (hne : r ≠ q) : setP k 2 (keysL1 q) = (0, ⟨[(q, 1), (r, 2)], nextP r (nextP q 0)⟩) := by
  unfold setP setN
  rw [h]
  have hf : findK r (keysL1 q).xs = none := findK_none.2 (by unfold keysL1; simp; exact fun e => hne e.symm)
  rw [hf]
  rfl
theorem keys3_same {q : K} (h : q.norm = q) (n : Int) : getP q ⟨[(q, 2)], n⟩ = (2, true) := by
  unfold getP
  rw [h]
  have hf : findK q [(q, (2 : Int))] = some 0 := by
    unfold findK
    rw [List.findIdx?_cons, if_pos (K.same_self _)]
  rw [hf]
  rfl
theorem keys3_other {q r : K} (h : q.norm = q) (n : Int) : getP q ⟨[(q, 1), (r, 2)], n⟩ = (1, true) := by
  unfold getP
  rw [h]
  have hf : findK q [(q, (1 : Int)), (r, 2)] = some 0 := by
    unfold findK
    rw [List.findIdx?_cons, if_pos (K.same_self _)]
  rw [hf]
  rfl

/-- What stands while ListKeys goes on: its two keys, and the first one's form. -/
structure SK (w W : World) (A B C : Nat) (x y q : K) : Prop where
  tabs : Tabs w
  a : W.heap[A]? = some (KB x.b x.n x.t)
  b : W.heap[B]? = some (KB y.b y.n y.t)
  c : W.heap[C]? = some (KB q.b q.n q.t)
  below : Below w.heap.size w W
theorem SK.tabsW {w W : World} {A B C : Nat} {x y q : K} (h : SK w W A B C x y q) : Tabs W := h.tabs.mono h.below
theorem SK.mono {w W W' : World} {A B C : Nat} {x y q : K} (h : SK w W A B C x y q) (hb : Below W.heap.size W W') : SK w W' A B C x y q :=
  ⟨h.tabs, (hb.block _ (lt_of_block h.a)).trans h.a, (hb.block _ (lt_of_block h.b)).trans h.b, (hb.block _ (lt_of_block h.c)).trans h.c, h.below.trans (hb.mono h.below.size)⟩
theorem SK.drew {w W : World} {A B C : Nat} {x y q : K} (h : SK w W A B C x y q) : SK w W.drew A B C x y q := ⟨h.tabs, h.a, h.b, h.c, h.below.drew⟩
theorem SK.mod {F : Nat → Prop} {w W W' : World} {A B C : Nat} {x y q : K} (h : SK w W A B C x y q) (hm : Mod F W W') (hA : ¬ F A) (hB : ¬ F B) (hC : ¬ F C) (hF : ∀ k, k < w.heap.size → ¬ F k) : SK w W' A B C x y q :=
  ⟨h.tabs, hm.blk h.a hA, hm.blk h.b hB, hm.blk h.c hC, h.below.trans (hm.belowB hF h.below.size)⟩
/-- The list, too. -/
def SKL (w W0 W : World) (A B C : Nat) (x y q : K) (b : Nat) (sh : Bool) (v : Value) (mb : Nat) (l : LS) : Prop := SK w W A B C x y q ∧ Mine W0 W b sh v mb l
theorem SKL.mono {w W0 W : World} {A B C : Nat} {x y q : K} {b : Nat} {sh : Bool} {v : Value} {mb : Nat} {l : LS} {W' : World} (h : SKL w W0 W A B C x y q b sh v mb l) (hb : Below W.heap.size W W') : SKL w W0 W' A B C x y q b sh v mb l := ⟨h.1.mono hb, h.2.below' hb⟩
theorem SKL.drew {w W0 W : World} {A B C : Nat} {x y q : K} {b : Nat} {sh : Bool} {v : Value} {mb : Nat} {l : LS} (h : SKL w W0 W A B C x y q b sh v mb l) : SKL w W0 W.drew A B C x y q b sh v mb l := ⟨h.1.drew, ⟨h.2.lst.drewN 1, h.2.below.drew, h.2.b0, h.2.v0, h.2.m0⟩⟩
theorem SKL.tabs {w W0 W : World} {A B C : Nat} {x y q : K} {b : Nat} {sh : Bool} {v : Value} {mb : Nat} {l : LS} (h : SKL w W0 W A B C x y q b sh v mb l) : Tabs W := h.1.tabsW
theorem SKL.turned {w W0 W : World} {A B C : Nat} {x y q : K} {b : Nat} {sh : Bool} {v : Value} {mb : Nat} {l : LS} {W' : World} {sh' : Bool} {v' : Value} {mb' : Nat} {l' : LS} (h : SKL w W0 W A B C x y q b sh v mb l) (hl : ListIs W' b sh' v' mb' l') (hm : Mod (Foot b sh v mb) W W') (hg : Goes W.heap.size sh v mb sh' v' mb') (hA : A < W0.heap.size) (hB : B < W0.heap.size) (hC : C < W0.heap.size) (hw : w.heap.size ≤ W0.heap.size) : SKL w W0 W' A B C x y q b sh' v' mb' l' := by
  have hF : ∀ k, k < W0.heap.size → ¬ Foot b sh v mb k := by
    rintro k hk (e | ⟨_, e | e⟩)
    · have := h.2.b0; omega
    · have := h.2.v0 _ e; omega
    · have := h.2.m0; omega
  exact ⟨h.1.mod hm (hF _ hA) (hF _ hB) (hF _ hC) (fun k hk => hF k (by omega)), h.2.turned hl hm hg⟩
theorem skS {w W0 W : World} {A B C : Nat} {x y q : K} {b : Nat} {sh : Bool} {v : Value} {mb : Nat} {l : LS} (h : SKL w W0 W A B C x y q b sh v mb l) :
    W.cell? ⟨A, 0, none⟩ = some (.bool x.b) ∧ W.cell? ⟨A, 1, none⟩ = some (.int .i64 x.n) ∧ W.cell? ⟨A, 2, none⟩ = some (.string x.t) ∧ W.cell? ⟨B, 0, none⟩ = some (.bool y.b) ∧ W.cell? ⟨B, 1, none⟩ = some (.int .i64 y.n) ∧ W.cell? ⟨B, 2, none⟩ = some (.string y.t) ∧
    W.cell? ⟨C, 0, none⟩ = some (.bool q.b) ∧ W.cell? ⟨C, 1, none⟩ = some (.int .i64 q.n) ∧ W.cell? ⟨C, 2, none⟩ = some (.string q.t) ∧ SKL w W0 W A B C x y q b sh v mb l := by
  obtain ⟨a0, a1, a2⟩ := cells3 h.1.a
  obtain ⟨b0, b1, b2⟩ := cells3 h.1.b
  obtain ⟨c0, c1, c2⟩ := cells3 h.1.c
  exact ⟨a0, a1, a2, b0, b1, b2, c0, c1, c2, h⟩
theorem skS' {w W0 W : World} {A B C : Nat} {x y q : K} {b : Nat} {sh : Bool} {v : Value} {mb : Nat} {l : LS} (h : W.cell? ⟨A, 0, none⟩ = some (.bool x.b) ∧ W.cell? ⟨A, 1, none⟩ = some (.int .i64 x.n) ∧ W.cell? ⟨A, 2, none⟩ = some (.string x.t) ∧ W.cell? ⟨B, 0, none⟩ = some (.bool y.b) ∧ W.cell? ⟨B, 1, none⟩ = some (.int .i64 y.n) ∧ W.cell? ⟨B, 2, none⟩ = some (.string y.t) ∧
    W.cell? ⟨C, 0, none⟩ = some (.bool q.b) ∧ W.cell? ⟨C, 1, none⟩ = some (.int .i64 q.n) ∧ W.cell? ⟨C, 2, none⟩ = some (.string q.t) ∧ SKL w W0 W A B C x y q b sh v mb l) : SKL w W0 W A B C x y q b sh v mb l := h.2.2.2.2.2.2.2.2.2

set_option maxRecDepth 100000 in
set_option maxHeartbeats 3200000 in
theorem keys_of (k o : K) (hk : k.Good) (ho : o.Good) (w : World) (ht : Tabs w) : Calls Tryd.prog 3 #[k.v, o.v] w (BoolPost w true) := by
  obtain ⟨q, hq⟩ : ∃ q, q = k.norm := ⟨_, rfl⟩
  obtain ⟨r, hr⟩ : ∃ r, r = o.norm := ⟨_, rfl⟩
  have hqg : q.Good := by rw [hq]; exact K.norm_good hk
  have hqq : q.norm = q := by rw [hq]; exact K.norm_norm k
  have HN : ∀ w, Tabs w → Calls Tryd.prog 15 #[.agg #[.bool k.b, .int .i64 k.n, .string k.t]] w fun e w' => e = .returned (.agg #[.bool q.b, .int .i64 q.n, .string q.t]) ∧ Below w.heap.size w w' := fun w h => by rw [hq]; exact norm_any k hk w h
  have HNq : ∀ w, Tabs w → Calls Tryd.prog 15 #[.agg #[.bool q.b, .int .i64 q.n, .string q.t]] w fun e w' => e = .returned (.agg #[.bool q.b, .int .i64 q.n, .string q.t]) ∧ Below w.heap.size w w' := fun w h => by
    have := norm_any q hqg w h
    rw [hqq] at this
    exact this
  have HNo : ∀ w, Tabs w → Calls Tryd.prog 15 #[.agg #[.bool o.b, .int .i64 o.n, .string o.t]] w fun e w' => e = .returned (.agg #[.bool r.b, .int .i64 r.n, .string r.t]) ∧ Below w.heap.size w w' := fun w h => by rw [hr]; exact norm_any o ho w h
  have HR : ∀ w, Tabs w → Calls Tryd.prog 17 #[.agg #[.bool k.b, .int .i64 k.n, .string k.t]] w fun e w' => e = .returned (.agg #[.bool q.b, .int .i64 q.n, .string q.t]) ∧ Below w.heap.size w w' := fun w h => by rw [hq]; exact rnorm_any k hk w h
  have HA := lalive_any
  have HS1 : ∀ W b sh v mb, Tabs W → ListIs W b sh v mb LS.new → Calls Tryd.prog 19 #[.pointer (some ⟨b, 0, none⟩), .agg #[.bool k.b, .int .i64 k.n, .string k.t], .int .i64 1] W (SetPost W b sh v mb (0, keysL1 q)) := fun W b sh v mb hT hL => by
    rw [← keys1 hq.symm]; exact set_any 1 hk W hT hL
  obtain ⟨L2, n2, v2, s2, hS2, hG2, hn2⟩ : ∃ (L2 : LS) (n2 : Int) (v2 : Int) (s2 : Bool), setP o 2 (keysL1 q) = (0, L2) ∧ getP q L2 = (v2, true) ∧ ((s2 = true ∧ v2 = 2 ∧ n2 = 1) ∨ (s2 = false ∧ v2 = 1 ∧ n2 = 2)) ∧ K.same r q = s2 ∧ (L2.xs.length : Int) = n2 := by
    by_cases e : r = q
    · exact ⟨_, 1, 2, true, keys2_same (by rw [← hr]; exact e), keys3_same hqq _, .inl ⟨rfl, rfl, rfl⟩, by rw [e]; exact K.same_self q, rfl⟩
    · exact ⟨_, 2, 1, false, keys2_other hr.symm e, keys3_other hqq _, .inr ⟨rfl, rfl, rfl⟩, K.same_ne.2 e, rfl⟩
  have HS2 : ∀ W b sh v mb, Tabs W → ListIs W b sh v mb (keysL1 q) → Calls Tryd.prog 19 #[.pointer (some ⟨b, 0, none⟩), .agg #[.bool o.b, .int .i64 o.n, .string o.t], .int .i64 2] W (SetPost W b sh v mb (0, L2)) := fun W b sh v mb hT hL => by
    rw [← hS2]; exact set_any 2 ho W hT hL
  have HG : ∀ W b sh v mb, Tabs W → ListIs W b sh v mb L2 → Calls Tryd.prog 20 #[.pointer (some ⟨b, 0, none⟩), .agg #[.bool q.b, .int .i64 q.n, .string q.t]] W (GetPost W (v2, true)) := fun W b sh v mb hT hL => by
    rw [← hG2]; exact get_any hqg W hT hL
  have e1 := key_neq q q
  have e2 := key_eql r q
  rw [K.same_self] at e1
  rw [hn2.2.1] at e2
  have HX := Lib.hid hn2
  have HTS := Lib.hid ht
  have hk0 : Hid (Below w.heap.size w ((w.alloc (KB k.b k.n k.t)).alloc (KB o.b o.n o.t)) ∧ ((w.alloc (KB k.b k.n k.t)).alloc (KB o.b o.n o.t)).heap[w.heap.size]? = some (KB k.b k.n k.t) ∧ ((w.alloc (KB k.b k.n k.t)).alloc (KB o.b o.n o.t)).heap[w.heap.size + 1]? = some (KB o.b o.n o.t)) :=
    ⟨(at2_start w (KB k.b k.n k.t) (KB o.b o.n o.t)).below, (at2_start w (KB k.b k.n k.t) (KB o.b o.n o.t)).a, (at2_start w (KB k.b k.n k.t) (KB o.b o.n o.t)).b⟩
  clear hk ho ht hq hr hqg hqq hS2 hG2 hn2
  unfold K.v
  go_enter Tryd.func3, Tryd.ntmps3
  go_wp2_with fail
  refine (HN _ (HTS.out.mono hk0.out.1)).mono ?_
  rintro e w1 ⟨rfl, hb⟩
  have K1 : Hid (SK w (w1.alloc (KB q.b q.n q.t)) w.heap.size (w.heap.size + 1) w1.heap.size k o q) :=
    ⟨HTS.out, alloc_blk ((hb.block _ (lt_of_block hk0.out.2.1)).trans hk0.out.2.1) _, alloc_blk ((hb.block _ (lt_of_block hk0.out.2.2)).trans hk0.out.2.2) _, heap_alloc_new _ _, (hk0.out.1.trans (hb.mono hk0.out.1.size)).trans ((below_alloc1 w1 _).mono (by have := hb.size; have := hk0.out.1.size; omega))⟩
  clear hb hk0 HN
  go_wp2_with fail
  refine (lnew_any _).mono ?_
  rintro e w2 ⟨b, mb, rfl, i1, hb1, hm1, hbel⟩
  have K2 := Lib.hid (K1.out.mono hbel)
  have M2 : Hid (Mine (w1.alloc (KB q.b q.n q.t)) w2 b false (.slice none 0 0) mb LS.new) := ⟨i1, hbel, hb1, by simp [Value.ownBlock], hm1⟩
  have HC : Hid (w.heap.size < (w1.alloc (KB q.b q.n q.t)).heap.size ∧ w.heap.size + 1 < (w1.alloc (KB q.b q.n q.t)).heap.size ∧ w1.heap.size < (w1.alloc (KB q.b q.n q.t)).heap.size ∧ w.heap.size ≤ (w1.alloc (KB q.b q.n q.t)).heap.size) := ⟨lt_of_block K1.out.a, lt_of_block K1.out.b, lt_of_block K1.out.c, Nat.le_of_lt (lt_of_block K1.out.a)⟩
  clear i1 hb1 hm1 hbel
  go_wp2_with fail
  have S2 : SKL w (w1.alloc (KB q.b q.n q.t)) w2 w.heap.size (w.heap.size + 1) w1.heap.size k o q b false (.slice none 0 0) mb LS.new := ⟨K2.out, M2.out⟩
  clear K1 K2 M2
  go_region_held3 (fun W => W.cell? ⟨w.heap.size, 0, none⟩ = some (.bool k.b) ∧ W.cell? ⟨w.heap.size, 1, none⟩ = some (.int .i64 k.n) ∧ W.cell? ⟨w.heap.size, 2, none⟩ = some (.string k.t) ∧ W.cell? ⟨w.heap.size + 1, 0, none⟩ = some (.bool o.b) ∧ W.cell? ⟨w.heap.size + 1, 1, none⟩ = some (.int .i64 o.n) ∧ W.cell? ⟨w.heap.size + 1, 2, none⟩ = some (.string o.t) ∧
    W.cell? ⟨w1.heap.size, 0, none⟩ = some (.bool q.b) ∧ W.cell? ⟨w1.heap.size, 1, none⟩ = some (.int .i64 q.n) ∧ W.cell? ⟨w1.heap.size, 2, none⟩ = some (.string q.t) ∧ SKL w (w1.alloc (KB q.b q.n q.t)) W w.heap.size (w.heap.size + 1) w1.heap.size k o q b false (.slice none 0 0) mb LS.new)
    (first
      | assumption
      | (refine skS (SKL.mono (skS' ?_) hb); assumption)
      | (refine skS (SKL.drew ?_); assumption))
    (first
      | (go_at_call 17; refine (HR _ (SKL.tabs (skS' (w := w) (W0 := w1.alloc (KB q.b q.n q.t)) (A := w.heap.size) (B := w.heap.size + 1) (C := w1.heap.size) (x := k) (y := o) (q := q) (b := b) (sh := false) (v := (.slice none 0 0)) (mb := mb) (l := LS.new) ?_))).mono ?_; assumption; rintro e wq ⟨rfl, hb⟩)
      | (go_at_call 15; refine (HNq _ (SKL.tabs (skS' (w := w) (W0 := w1.alloc (KB q.b q.n q.t)) (A := w.heap.size) (B := w.heap.size + 1) (C := w1.heap.size) (x := k) (y := o) (q := q) (b := b) (sh := false) (v := (.slice none 0 0)) (mb := mb) (l := LS.new) ?_))).mono ?_; assumption; rintro e wq ⟨rfl, hb⟩)
      | (go_at_call 18; refine (HA _ (SKL.tabs (skS' (w := w) (W0 := w1.alloc (KB q.b q.n q.t)) (A := w.heap.size) (B := w.heap.size + 1) (C := w1.heap.size) (x := k) (y := o) (q := q) (b := b) (sh := false) (v := (.slice none 0 0)) (mb := mb) (l := LS.new) ?_))).mono ?_; assumption; rintro e wq ⟨rfl, hb⟩))
  have S3 := skS' (w := w) (W0 := w1.alloc (KB q.b q.n q.t)) (A := w.heap.size) (B := w.heap.size + 1) (C := w1.heap.size) (x := k) (y := o) (q := q) (b := b) (sh := false) (v := (.slice none 0 0)) (mb := mb) (l := LS.new) (by assumption)
  have X3 := Lib.hid S3
  obtain ⟨d0, d1, d2, d3, d4, d5, d6, d7, d8, _⟩ := skS S3
  clear S3
  go_wp2_with fail
  refine (HS1 _ _ _ _ _ X3.out.tabs X3.out.2.lst).mono ?_
  rintro e w3 ⟨rfl, sh3, v3, mb3, i3, m3, g3⟩
  have X4 := Lib.hid (X3.out.turned i3 m3 g3 HC.out.1 HC.out.2.1 HC.out.2.2.1 HC.out.2.2.2)
  clear d0 d1 d2 d3 d4 d5 d6 d7 d8 i3 m3 g3 X3 HS1
  obtain ⟨d0, d1, d2, d3, d4, d5, d6, d7, d8, _⟩ := skS X4.out
  go_wp2_with fail
  refine (HS2 _ _ _ _ _ X4.out.tabs X4.out.2.lst).mono ?_
  rintro e w4 ⟨rfl, sh4, v4, mb4, i4, m4, g4⟩
  have X5 := Lib.hid (X4.out.turned i4 m4 g4 HC.out.1 HC.out.2.1 HC.out.2.2.1 HC.out.2.2.2)
  clear d0 d1 d2 d3 d4 d5 d6 d7 d8 i4 m4 g4 X4 HS2
  obtain ⟨d0, d1, d2, d3, d4, d5, d6, d7, d8, _⟩ := skS X5.out
  go_wp2_with fail
  refine (HG _ _ _ _ _ X5.out.tabs X5.out.2.lst).mono ?_
  rintro e w5 ⟨rfl, hb⟩
  have X6 := Lib.hid (X5.out.mono hb)
  clear d0 d1 d2 d3 d4 d5 d6 d7 d8 hb X5 HG
  go_wp2_with fail
  have S7 := X6.out
  have HL : ∀ W, ListIs W b sh4 v4 mb4 L2 → Calls Tryd.prog 21 #[.pointer (some ⟨b, 0, none⟩)] W fun e w' => e = .returned (.int .i64 n2) ∧ W = w' := fun W h => by
    rw [← HX.out.2.2]; exact llen_any W h
  clear X6 HC
  rcases HX.out.1 with ⟨rfl, rfl, rfl⟩ | ⟨rfl, rfl, rfl⟩
  all_goals
    go_region_held3 (fun W => W.cell? ⟨w.heap.size, 0, none⟩ = some (.bool k.b) ∧ W.cell? ⟨w.heap.size, 1, none⟩ = some (.int .i64 k.n) ∧ W.cell? ⟨w.heap.size, 2, none⟩ = some (.string k.t) ∧ W.cell? ⟨w.heap.size + 1, 0, none⟩ = some (.bool o.b) ∧ W.cell? ⟨w.heap.size + 1, 1, none⟩ = some (.int .i64 o.n) ∧ W.cell? ⟨w.heap.size + 1, 2, none⟩ = some (.string o.t) ∧
      W.cell? ⟨w1.heap.size, 0, none⟩ = some (.bool q.b) ∧ W.cell? ⟨w1.heap.size, 1, none⟩ = some (.int .i64 q.n) ∧ W.cell? ⟨w1.heap.size, 2, none⟩ = some (.string q.t) ∧ SKL w (w1.alloc (KB q.b q.n q.t)) W w.heap.size (w.heap.size + 1) w1.heap.size k o q b sh4 v4 mb4 L2)
      (first
        | assumption
        | (refine skS (SKL.mono (skS' ?_) hb); assumption)
        | (refine skS (SKL.drew ?_); assumption))
      (first
        | (go_at_call 15; refine (HNo _ (SKL.tabs (skS' (w := w) (W0 := w1.alloc (KB q.b q.n q.t)) (A := w.heap.size) (B := w.heap.size + 1) (C := w1.heap.size) (x := k) (y := o) (q := q) (b := b) (sh := sh4) (v := v4) (mb := mb4) (l := L2) ?_))).mono ?_; assumption; rintro e wq ⟨rfl, hb⟩)
        | (go_at_call 21; refine (HL _ ((skS' (w := w) (W0 := w1.alloc (KB q.b q.n q.t)) (A := w.heap.size) (B := w.heap.size + 1) (C := w1.heap.size) (x := k) (y := o) (q := q) (b := b) (sh := sh4) (v := v4) (mb := mb4) (l := L2) ?_).2.lst)).mono ?_; assumption; rintro e wq ⟨rfl, rfl⟩))
    have S9 := skS' (w := w) (W0 := w1.alloc (KB q.b q.n q.t)) (A := w.heap.size) (B := w.heap.size + 1) (C := w1.heap.size) (x := k) (y := o) (q := q) (b := b) (sh := sh4) (v := v4) (mb := mb4) (l := L2) (by assumption)
    go_wp2_with fail
    go_ret
    exact ⟨rfl, S9.1.below⟩
end Go.Proofs.YtgpdhmgbmhfooaaDoor
