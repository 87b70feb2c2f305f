/-
  The document's list: the walk of Set.
-/
import Derived.Test.YtgpdhmgbmhfooaaDoorRDel07
import Derived.Deep.DeepCutAuto
namespace Go.Proofs.YtgpdhmgbmhfooaaDoor
open Go.RowKit

abbrev XB (x : Int) : Obj := .cells #[.int .i64 2, .int .i64 x, .string ⟨#[]⟩, .slice none 0 0] 54 (0, 0)
theorem InRef.store {w W : World} {rb ro : Nat} {c : Array Value} {v : Value} {l : LS} {B : Nat} {k : K} {o2 : Option Obj} (h : InRef w W rb ro c v l B k o2) (hB : w.heap.size ≤ B) (n1 : rb < w.heap.size) (n3 : ∀ g, v.ownBlock = some g → g < w.heap.size) (q : K) :
    InRef w (((W.setCell ⟨B, 0, none⟩ (.bool q.b)).setCell ⟨B, 1, none⟩ (.int .i64 q.n)).setCell ⟨B, 2, none⟩ (.string q.t)) rb ro c v l B q o2 := by
  have hm : Mod (fun x => x = B) W (((W.setCell ⟨B, 0, none⟩ (.bool q.b)).setCell ⟨B, 1, none⟩ (.int .i64 q.n)).setCell ⟨B, 2, none⟩ (.string q.t)) :=
    (((Mod.refl (fun x => x = B) W).setCell ⟨B, 0, none⟩ _ (fun _ => rfl)).setCell ⟨B, 1, none⟩ _ (fun _ => rfl)).setCell ⟨B, 2, none⟩ _ (fun _ => rfl)
  exact ⟨h.tabs, h.lst.mod hm (fun e => by omega) (fun g e x => by have := n3 g e; omega), set3 h.key q.b q.n q.t, fun o e => hm.blk (h.two o e) (fun e => by omega), set3_below h.below hB _ _ _⟩
theorem Mod.elim {w w' : World} {b : Nat} {c : Array Value} {t : TypeId} (h : Mod (fun k => k = b) w w') (hb : w'.heap[b]? = some (.cells c t (0, 0))) : w'.heap[b]? = some (.cells c t (0, 0)) ∧ Mod (fun k => k = b) w w' := ⟨hb, h⟩
theorem flat_set7 : ∀ (xs : List It) (j : Nat) (hj : j < xs.length) (v : Int), (((((xs.map RC).flatten.set (j * 7 + 3) (.int .i64 2)).set (j * 7 + 4) (.int .i64 v)).set (j * 7 + 5) (.string ⟨#[]⟩)).set (j * 7 + 6) (.slice none 0 0)) = ((xs.set j (xs[j].1, v)).map RC).flatten
  | [], j, hj, _ => by simp at hj
  | x :: r, 0, _, v => by simp [RC]
  | x :: r, j + 1, hj, v => by
    have ih := flat_set7 r j (by simpa using hj) v
    rw [List.map_cons, List.flatten_cons, List.set_cons_succ, List.map_cons, List.flatten_cons, List.getElem_cons_succ, ← ih]
    rw [show (j + 1) * 7 + 3 = (j * 7 + 3) + 7 by omega, show (j + 1) * 7 + 4 = (j * 7 + 4) + 7 by omega, show (j + 1) * 7 + 5 = (j * 7 + 5) + 7 by omega, show (j + 1) * 7 + 6 = (j * 7 + 6) + 7 by omega]
    rfl
/-- A value that is stored into its item. -/
theorem rowns_setV {w : World} {g n cap : Nat} {xs : List It} (h : Owns w 56 7 (.slice (some ⟨g, 0, none⟩) n cap) (xs.map RC)) {j : Nat} (hj : j < xs.length) (v : Int) :
    Owns ((((w.setCell ⟨g, j * 7 + 3, none⟩ (.int .i64 2)).setCell ⟨g, j * 7 + 4, none⟩ (.int .i64 v)).setCell ⟨g, j * 7 + 5, none⟩ (.string ⟨#[]⟩)).setCell ⟨g, j * 7 + 6, none⟩ (.slice none 0 0)) 56 7 (.slice (some ⟨g, 0, none⟩) n cap) ((xs.set j (xs[j].1, v)).map RC) := by
  have hn : n = xs.length := by
    obtain ⟨ao, cap', hv, _⟩ := h.any
    cases hv; simp
  subst hn
  have hr := h.row
  rw [List.length_map] at hr
  have h1 := (hr.stored (j * 7 + 3) (.int .i64 2)).1
  have h2 := (h1.stored (j * 7 + 4) (.int .i64 v)).1
  have h3 := (h2.stored (j * 7 + 5) (.string ⟨#[]⟩)).1
  have h4 := (h3.stored (j * 7 + 6) (.slice none 0 0)).1
  rw [flat_set7 xs j hj v] at h4
  refine ⟨?_, RC_len _, RC_one _⟩
  simpa using h4

/-- An item is put behind; the next number is not told yet. -/
structure RIn (w W : World) (rb ro : Nat) (c : Array Value) (l : LS) (q : K) (x : Int) (nx : Int) (c' : Array Value) (v' : Value) : Prop where
  blk : W.heap[rb]? = some (.cells c' 47 (0, 0))
  c0 : c'[ro]? = some v'
  c1 : c'[ro + 1]? = some (.int .i64 nx)
  own : Owns W 56 7 v' ((l.xs ++ [(q, x)]).map RC)
  key : W.heap[w.heap.size]? = some (KB q.b q.n q.t)
  mod : Mod (fun k => k = rb) w W
  rest : ∀ i, i ≠ ro → i ≠ ro + 1 → c'[i]? = c[i]?
  new : ∀ g, v'.ownBlock = some g → w.heap.size ≤ g
theorem RIn.drewN {w W : World} {rb ro : Nat} {c : Array Value} {l : LS} {q : K} {x nx : Int} {c' : Array Value} {v' : Value} (h : RIn w W rb ro c l q x nx c' v') (n : Nat) : RIn w (W.drewN n) rb ro c l q x nx c' v' :=
  ⟨h.blk, h.c0, h.c1, h.own.kept (fun _ _ => rfl), h.key, h.mod.drewN n, h.rest, h.new⟩
theorem RIn.next {w W : World} {rb ro : Nat} {c : Array Value} {l : LS} {q : K} {x nx : Int} {c' : Array Value} {v' : Value} (h : RIn w W rb ro c l q x nx c' v') (hrb : rb < w.heap.size) (y : Int) : RIn w (W.setCell ⟨rb, ro + 1, none⟩ (.int .i64 y)) rb ro c l q x y (c'.setIfInBounds (ro + 1) (.int .i64 y)) v' := by
  have hlt : ro + 1 < c'.size := (Array.getElem?_eq_some_iff.1 h.c1).1
  refine ⟨set_blk h.blk _ _, ?_, by simp [hlt], h.own.kept fun g e => Below.heap_setCell _ _ _ _ (fun c => by have := h.new g e; simp only at c; omega), set_other h.key (fun e => by simp only at e; omega), h.mod.setCell _ _ (fun _ => rfl), fun i h0 h1 => ?_, h.new⟩
  · rw [Array.getElem?_setIfInBounds_ne (by omega)]; exact h.c0
  · rw [Array.getElem?_setIfInBounds_ne (by omega)]; exact h.rest i h0 h1
theorem RIn.done {w W : World} {rb ro : Nat} {c : Array Value} {l : LS} {q : K} {x nx : Int} {c' : Array Value} {v v' : Value} (h : RIn w W rb ro c l q x nx c' v') (hq : q.Norm) (hl : l.Ok) (hf : findK q l.xs = none) (hlen : l.xs.length < 2048) (hn : nx = nextP q l.nx) :
    RefPost w rb ro c v ⟨l.xs ++ [(q, x)], nextP q l.nx⟩ (.int .i64 0) (.returned (.int .i64 0)) W := by
  subst hn
  have hok : (⟨l.xs ++ [(q, x)], nextP q l.nx⟩ : LS).Ok := by
    have h := setN_ok (v := x) hq hl
    unfold setN at h
    rw [hf, if_neg (by omega)] at h
    exact h
  exact ⟨rfl, c', v', ⟨h.blk, h.c0, h.c1, h.own, hok⟩, h.mod, h.rest, .inr h.new⟩

/-- The same world, or one block more. -/
def Step (w W : World) : Prop := W = w ∨ ∃ o, W = w.alloc o
theorem Step.below {w W : World} (h : Step w W) : Below w.heap.size w W := by
  rcases h with rfl | ⟨o, rfl⟩
  · exact Below.refl _ _
  · exact below_alloc1 _ _
theorem Lies.step {w W : World} {size : Nat} {ao : Option Addr} {rows : List (List Value)} (h : Lies w size ao rows) (s : Step w W) : Lies W size ao rows :=
  h.kept fun _ _ _ hg => ⟨s.below.block _ hg, Nat.lt_of_lt_of_le hg s.below.size⟩
theorem Owns.step {w W : World} {e : TypeId} {size : Nat} {v : Value} {rows : List (List Value)} (h : Owns w e size v rows) (s : Step w W) : Owns W e size v rows :=
  h.kept fun _ e => s.below.block _ (h.lt e)
theorem grown_step {w w0 W w1 : World} (h : Below w.heap.size w w0) (s : Step w0 W) {row : Option Nat} (g : W.grownBy w1 row) (hr : ∀ k, row = some k → w.heap.size ≤ k) : Below w.heap.size w w1 :=
  (h.trans (s.below.mono h.size)).grown g (Nat.le_trans h.size s.below.size) hr
theorem new_step {w w0 W : World} (h : Below w.heap.size w w0) (s : Step w0 W) {u v : Option Nat} (b : v = u ∨ ∃ k, v = some k ∧ W.heap.size ≤ k) (hu : ∀ g, u = some g → w.heap.size ≤ g) : ∀ g, v = some g → w.heap.size ≤ g := fun g e => by
  rcases b with h' | ⟨k, h', hk⟩
  · exact hu g (h' ▸ e)
  · rw [h'] at e; cases e
    exact Nat.le_trans (Nat.le_trans h.size s.below.size) hk
theorem lies_grown {W w1 : World} {size : Nat} {ao : Option Addr} {rows : List (List Value)} (h : Lies W size ao rows) (g : W.grownBy w1 none) : Lies w1 size ao rows :=
  h.kept fun g' _ _ hg => ⟨g.block g' hg (by simp), Nat.lt_of_lt_of_le hg g.size⟩
theorem rfound_done {w wq w8 : World} {rb ro B j : Nat} {c : Array Value} {v : Value} {l : LS} {q : K} {o2 : Option Obj} {g' cap8 : Nat} {x : Int} (A3 : InRef w wq rb ro c v l B q o2) (hj : j < l.xs.length) (hq : q.Norm) (hf : findK q l.xs = some j)
    (O8 : Owns w8 56 7 (.slice (some ⟨g', 0, none⟩) l.xs.length cap8) (l.xs.map RC))
    (Y8 : wq.grownBy w8 (Value.slice none 0 0).ownBlock ∧ ((Value.slice (some ⟨g', 0, none⟩) l.xs.length cap8).ownBlock = (Value.slice none 0 0).ownBlock ∨ ∃ k, (Value.slice (some ⟨g', 0, none⟩) l.xs.length cap8).ownBlock = some k ∧ wq.heap.size ≤ k))
    (B8 : w8.heap[rb]? = some (.cells c 47 (0, 0))) :
    RefPost w rb ro c v ⟨l.xs.set j (q, x), l.nx⟩ (.int .i64 0) (.returned (.int .i64 0)) (((((w8.setCell ⟨g', j * 7 + 3, none⟩ (.int .i64 2)).setCell ⟨g', j * 7 + 4, none⟩ (.int .i64 x)).setCell ⟨g', j * 7 + 5, none⟩ (.string ⟨#[]⟩)).setCell ⟨g', j * 7 + 6, none⟩ (.slice none 0 0)).setCell ⟨rb, ro, none⟩ (.slice (some ⟨g', 0, none⟩) l.xs.length cap8)) := by
  have hat := findK_at hf
  have hset : l.xs.set j (q, x) = l.xs.set j (l.xs[j].1, x) := by rw [hat]
  have hne : rb ≠ g' := fun e => owns_ne O8 B8 (by decide) (by rw [e]; rfl)
  have hnew : wq.heap.size ≤ g' := by
    rcases Y8.2 with h | ⟨k, h, hk⟩
    · cases h
    · cases h; exact hk
  have hs := A3.below.size
  have hok : (⟨l.xs.set j (q, x), l.nx⟩ : LS).Ok := by
    have h := setN_ok (v := x) hq A3.lst.ok
    unfold setN at h
    rw [hf] at h
    exact h
  have hO := rowns_setV O8 hj x
  rw [← hset] at hO
  have h1 : Mod (fun k => k = rb) w w8 := (Mod.of_below (F := fun k => k = rb) A3.below).grown Y8.1 (fun k e _ => by cases e)
  have h2 := (((h1.setCell ⟨g', j * 7 + 3, none⟩ (.int .i64 2) (fun h => absurd h (by simp only; omega))).setCell ⟨g', j * 7 + 4, none⟩ (.int .i64 x) (fun h => absurd h (by simp only; omega))).setCell ⟨g', j * 7 + 5, none⟩ (.string ⟨#[]⟩) (fun h => absurd h (by simp only; omega))).setCell ⟨g', j * 7 + 6, none⟩ (.slice none 0 0) (fun h => absurd h (by simp only; omega))
  exact ref_store (l := l) (l' := ⟨l.xs.set j (q, x), l.nx⟩) h2 (set_other (set_other (set_other (set_other B8 hne) hne) hne) hne) A3.lst.c0 A3.lst.c1 hO hok rfl (fun g e => by simp [Value.ownBlock] at e; omega)
theorem rnew_in {w wq w2 : World} {rb ro : Nat} {c : Array Value} {v v2 : Value} {l : LS} {q : K} {o2 : Option Obj} {x : Int} (A3 : InRef w wq rb ro c v l w.heap.size q o2) (M2 : Below wq.heap.size wq w2)
    (O2 : Owns w2 56 7 v2 ([] ++ l.xs.map RC ++ [RC (q, x)])) (N2 : ∀ g, v2.ownBlock = some g → wq.heap.size ≤ g) :
    RIn w (w2.setCell ⟨rb, ro, none⟩ v2) rb ro c l q x l.nx (c.setIfInBounds ro v2) v2 := by
  have hs := A3.below.size
  have hrb := lt_of_block A3.lst.blk
  have hlt : ro < c.size := (Array.getElem?_eq_some_iff.1 A3.lst.c0).1
  have hne : w.heap.size ≠ rb := fun e => by
    have h1 := A3.lst.blk
    rw [← e, A3.key] at h1
    cases h1
  rw [List.nil_append] at O2
  refine ⟨set_blk ((M2.block _ hrb).trans A3.lst.blk) ro v2, by simp [hlt], ?_, ?_, set_other ((M2.block _ (lt_of_block A3.key)).trans A3.key) hne, ?_, fun i h _ => ?_, fun g e => ?_⟩
  · rw [Array.getElem?_setIfInBounds_ne (by omega)]; exact A3.lst.c1
  · rw [List.map_append]
    exact O2.kept fun g e => Below.heap_setCell _ _ _ _ (fun h => by have := N2 g e; simp only at h; omega)
  · exact (Mod.of_below (F := fun k => k = rb) (A3.below.trans (M2.mono hs))).setCell _ _ (fun _ => rfl)
  · rw [Array.getElem?_setIfInBounds_ne (by omega)]
  · have := N2 g e; omega

set_option maxRecDepth 100000 in
set_option maxHeartbeats 3200000 in
theorem rset_full {rb ro : Nat} {c : Array Value} {v : Value} {l : LS} {k : K} (x : Int) (hk : k.Good) (hf : findK k.norm l.xs = none) (hl : 2048 ≤ l.xs.length) (w : World) (ht : Tabs w) (i : RefAt w rb ro c v l) :
    Calls Tryd.prog 55 #[.pointer (some ⟨rb, ro, none⟩), k.v, V4 2 x ⟨#[]⟩ none 0 0] w (RefPost w rb ro c v l (.int .i64 8)) := by
  obtain ⟨ao, cap, hv, -⟩ := i.own.any
  rw [List.length_map] at hv
  subst hv
  have hNN := K.norm_is hk
  obtain ⟨q, hq⟩ : ∃ q, q = k.norm := ⟨_, rfl⟩
  rw [← hq] at hNN hf
  have HN : ∀ w, Tabs w → Calls Tryd.prog 17 #[.agg #[.bool k.b, .int .i64 k.n, .string k.t]] w fun e w' => e = .returned (.agg #[.bool q.b, .int .i64 q.n, .string q.t]) ∧ Below w.heap.size w w' := fun w h => by rw [hq]; exact rnorm_any k hk w h
  have HF : ∀ W, Owns W 56 7 (.slice ao l.xs.length cap) (l.xs.map RC) → Calls Tryd.prog 76 #[.slice ao l.xs.length cap, .agg #[.bool q.b, .int .i64 q.n, .string q.t]] W fun e w' => e = .returned (.int .i64 (-1)) ∧ Below W.heap.size W w' := fun W o => by
    have := rfind_any l.xs q i.ok.len W o
    rw [findI_none hf] at this
    exact this
  have A0 : Hid (InRef w ((w.alloc (KB k.b k.n k.t)).alloc (XB x)) rb ro c (.slice ao l.xs.length cap) l w.heap.size k (some (XB x))) :=
    ⟨ht, (i.below (below_alloc1 _ _)).below (below_alloc1 _ _), alloc_blk (heap_alloc_new _ _) _, fun o e => by cases e; have := heap_alloc_new (w.alloc (KB k.b k.n k.t)) (XB x); simpa using this, (below_alloc1 _ _).trans ((below_alloc1 _ _).mono (by simp))⟩
  have HNN := Lib.hid (⟨hNN, hf, lt_of_block i.blk, fun g e => i.own.lt (g := g) e⟩ : _ ∧ _ ∧ _ ∧ _)
  have hl' : (2048 : Int) ≤ (l.xs.length : Int) := by omega
  clear hl
  clear i ht hk hq hf hNN
  unfold K.v
  go_enter Tryd.func55, Tryd.ntmps55
  go_wp2_with fail
  generalize hW : (w.alloc _).alloc _ = W0 at A0 ⊢
  clear hW
  obtain ⟨a0, a1, a2⟩ := cells3 A0.out.key
  go_wp2_with fail
  refine (HN _ A0.out.tabsW).mono ?_; rintro e w1 ⟨rfl, hb⟩; have A1 := Lib.hid (A0.out.mono hb); clear A0 hb HN a0 a1 a2
  obtain ⟨f0, f1, f2⟩ := free3 A1.out.key
  obtain ⟨a0, a1, a2⟩ := cells3 A1.out.key
  have A2 := A1.out.store (Nat.le_refl _) HNN.out.2.2.1 HNN.out.2.2.2 q
  clear A1
  go_wp2_with fail
  clear f0 f1 f2 a0 a1 a2
  go_region_held3 (fun W => W.cell? ⟨rb, ro, none⟩ = some (.slice ao l.xs.length cap) ∧ W.cell? ⟨w.heap.size, 0, none⟩ = some (.bool q.b) ∧ W.cell? ⟨w.heap.size, 1, none⟩ = some (.int .i64 q.n) ∧ W.cell? ⟨w.heap.size, 2, none⟩ = some (.string q.t) ∧ InRef w W rb ro c (.slice ao l.xs.length cap) l w.heap.size q (some (XB x)))
    (first
      | assumption
      | (refine refS (InRef.mono (refS' ?_) hb); assumption)
      | (refine refS (InRef.drew A2)))
    (first
      | (go_at_call 76; refine (HF _ (refS' (w := w) (rb := rb) (ro := ro) (c := c) (v := .slice ao l.xs.length cap) (l := l) (B := w.heap.size) (k := q) (o2 := some (XB x)) ?_).lst.own).mono ?_; assumption; rintro e wq ⟨rfl, hb⟩))
  have A3 := Lib.hid (refS' (w := w) (rb := rb) (ro := ro) (c := c) (v := .slice ao l.xs.length cap) (l := l) (B := w.heap.size) (k := q) (o2 := some (XB x)) (by assumption))
  rename_i wq _ hHeld
  clear hHeld A2 HF
  obtain ⟨d, -⟩ := A3.out.lst.cells
  go_wp2_with fail
  go_ret
  exact ⟨rfl, c, _, A3.out.lst, Mod.of_below A3.out.below, fun _ _ _ => rfl, .inl rfl⟩

set_option maxRecDepth 100000 in
set_option maxHeartbeats 3200000 in
theorem rset_found {rb ro : Nat} {c : Array Value} {v : Value} {l : LS} {k : K} (x : Int) (hk : k.Good) {j : Nat} (hf : findK k.norm l.xs = some j) (hj : j < l.xs.length) (w : World) (ht : Tabs w) (i : RefAt w rb ro c v l) :
    Calls Tryd.prog 55 #[.pointer (some ⟨rb, ro, none⟩), k.v, V4 2 x ⟨#[]⟩ none 0 0] w (RefPost w rb ro c v ⟨l.xs.set j (k.norm, x), l.nx⟩ (.int .i64 0)) := by
  obtain ⟨ao, cap, hv, -⟩ := i.own.any
  rw [List.length_map] at hv
  subst hv
  have hNN := K.norm_is hk
  obtain ⟨q, hq⟩ : ∃ q, q = k.norm := ⟨_, rfl⟩
  rw [← hq] at hNN hf ⊢
  have HN : ∀ w, Tabs w → Calls Tryd.prog 17 #[.agg #[.bool k.b, .int .i64 k.n, .string k.t]] w fun e w' => e = .returned (.agg #[.bool q.b, .int .i64 q.n, .string q.t]) ∧ Below w.heap.size w w' := fun w h => by rw [hq]; exact rnorm_any k hk w h
  have HF : ∀ W, Owns W 56 7 (.slice ao l.xs.length cap) (l.xs.map RC) → Calls Tryd.prog 76 #[.slice ao l.xs.length cap, .agg #[.bool q.b, .int .i64 q.n, .string q.t]] W fun e w' => e = .returned (.int .i64 ((j : Int))) ∧ Below W.heap.size W w' := fun W o => by
    have := rfind_any l.xs q i.ok.len W o
    rw [findI_some hf] at this
    exact this
  have A0 : Hid (InRef w ((w.alloc (KB k.b k.n k.t)).alloc (XB x)) rb ro c (.slice ao l.xs.length cap) l w.heap.size k (some (XB x))) :=
    ⟨ht, (i.below (below_alloc1 _ _)).below (below_alloc1 _ _), alloc_blk (heap_alloc_new _ _) _, fun o e => by cases e; have := heap_alloc_new (w.alloc (KB k.b k.n k.t)) (XB x); simpa using this, (below_alloc1 _ _).trans ((below_alloc1 _ _).mono (by simp))⟩
  have HNN := Lib.hid (⟨hNN, hf, lt_of_block i.blk, fun g e => i.own.lt (g := g) e⟩ : _ ∧ _ ∧ _ ∧ _)
  clear i ht hk hq hf hNN
  unfold K.v
  go_enter Tryd.func55, Tryd.ntmps55
  go_wp2_with fail
  generalize hW : (w.alloc _).alloc _ = W0 at A0 ⊢
  clear hW
  obtain ⟨a0, a1, a2⟩ := cells3 A0.out.key
  go_wp2_with fail
  refine (HN _ A0.out.tabsW).mono ?_; rintro e w1 ⟨rfl, hb⟩; have A1 := Lib.hid (A0.out.mono hb); clear A0 hb HN a0 a1 a2
  obtain ⟨f0, f1, f2⟩ := free3 A1.out.key
  obtain ⟨a0, a1, a2⟩ := cells3 A1.out.key
  have A2 := A1.out.store (Nat.le_refl _) HNN.out.2.2.1 HNN.out.2.2.2 q
  clear A1
  go_wp2_with fail
  clear f0 f1 f2 a0 a1 a2
  go_region_held3 (fun W => W.cell? ⟨rb, ro, none⟩ = some (.slice ao l.xs.length cap) ∧ W.cell? ⟨w.heap.size, 0, none⟩ = some (.bool q.b) ∧ W.cell? ⟨w.heap.size, 1, none⟩ = some (.int .i64 q.n) ∧ W.cell? ⟨w.heap.size, 2, none⟩ = some (.string q.t) ∧ InRef w W rb ro c (.slice ao l.xs.length cap) l w.heap.size q (some (XB x)))
    (first
      | assumption
      | (refine refS (InRef.mono (refS' ?_) hb); assumption)
      | (refine refS (InRef.drew A2)))
    (first
      | (go_at_call 76; refine (HF _ (refS' (w := w) (rb := rb) (ro := ro) (c := c) (v := .slice ao l.xs.length cap) (l := l) (B := w.heap.size) (k := q) (o2 := some (XB x)) ?_).lst.own).mono ?_; assumption; rintro e wq ⟨rfl, hb⟩))
  have A3 := Lib.hid (refS' (w := w) (rb := rb) (ro := ro) (c := c) (v := .slice ao l.xs.length cap) (l := l) (B := w.heap.size) (k := q) (o2 := some (XB x)) (by assumption))
  rename_i wq _ hHeld
  clear hHeld A2 HF
  obtain ⟨d, -⟩ := A3.out.lst.cells
  have hlen := A3.out.lst.ok.len
  obtain ⟨g, rfl, -, hlc, hcm, hgl, -⟩ := ritem A3.out.lst.own hj
  have hpre : Hid (Lies wq 7 (some ⟨g, 0, none⟩) (l.xs.map RC)) := by
    have h2 := A3.out.lst.own.liesFrom 0
    rw [Nat.zero_mul, List.drop_zero] at h2
    exact h2
  have hn1 : Hid (l.xs.length = (l.xs.map RC).length) := by show _ = _; simp
  have hr1 : Hid (([] : List (List Value)).length + (l.xs.map RC).length ≤ maxLen ∧ (([] : List (List Value)).length + (l.xs.map RC).length) * 88 ≤ 140737488355328) := by
    have : (l.xs.map RC).length ≤ 2048 := by simp; omega
    exact ⟨by simp only [List.length_nil]; unfold maxLen; omega, by simp only [List.length_nil]; omega⟩
  have b2 := A3.out.two _ rfl
  have r0 := cell_blk b2 0
  have r1 := cell_blk b2 1
  have r2 := cell_blk b2 2
  have r3 := cell_blk b2 3
  have hrb := lt_of_block A3.out.lst.blk
  have hb2 := lt_of_block b2
  clear hcm
  go_wp2_with (at_builtin; refine wpList_append_rows rfl (.const (.slice none 0 0)) (.tmp 22) 45 rfl 56 _ 7 88 Tryd.underlying45 info56 rfl (by decide) (.slice none 0 0) [] (by rfl) (Owns.empty _ _ _) (some ⟨g, 0, none⟩) l.xs.length cap (l.xs.map RC) (by rfl) hn1.out (fun e => by cases e) hpre.out (RC_one _) (RC_len _) hr1.out.1 hr1.out.2 ?_; intro v8 w8 o8 g8 n8; have hB8 := Lib.hid ((g8.block rb hrb (by simp [Value.ownBlock])).trans A3.out.lst.blk); have hX8 := Lib.hid ((g8.block _ hb2 (by simp [Value.ownBlock])).trans b2); have hY8 := Lib.hid (⟨g8, n8⟩ : _ ∧ _); rw [List.nil_append] at o8; obtain ⟨ao8, cap8, hv8, -⟩ := o8.any; rw [List.length_map] at hv8; subst hv8; obtain ⟨g', rfl, -, hlc', hcm', hgl', -, -, -, d3, d4, d5, d6⟩ := ritem o8 hj; have ff3 := o8.free (g := g') rfl (j * 7 + 3); have ff4 := o8.free (g := g') rfl (j * 7 + 4); have ff5 := o8.free (g := g') rfl (j * 7 + 5); have ff6 := o8.free (g := g') rfl (j * 7 + 6); have hgr : ¬ g' = rb := (fun e => owns_ne o8 hB8.out (by decide) (by rw [← e]; rfl)); have hgr' : ¬ rb = g' := (fun e => hgr e.symm); have O8 := Lib.hid o8; have s0 := cell_blk hX8.out 0; have s1 := cell_blk hX8.out 1; have s2 := cell_blk hX8.out 2; have s3 := cell_blk hX8.out 3; have e0 := (cell_blk hB8.out ro).trans A3.out.lst.c0; have e1 := free_blk hB8.out ro; clear o8 g8 n8 hcm' r0 r1 r2 r3 d hgl')
  go_ret
  exact rfound_done A3.out hj HNN.out.1 HNN.out.2.1 O8.out hY8.out hB8.out

set_option maxRecDepth 100000 in
set_option maxHeartbeats 3200000 in
theorem rset_new {rb ro : Nat} {c : Array Value} {v : Value} {l : LS} {k : K} (x : Int) (hk : k.Good) (hf : findK k.norm l.xs = none) (hl : l.xs.length < 2048) (w : World) (ht : Tabs w) (i : RefAt w rb ro c v l) :
    Calls Tryd.prog 55 #[.pointer (some ⟨rb, ro, none⟩), k.v, V4 2 x ⟨#[]⟩ none 0 0] w (RefPost w rb ro c v ⟨l.xs ++ [(k.norm, x)], nextP k.norm l.nx⟩ (.int .i64 0)) := by
  obtain ⟨ao, cap, hv, -⟩ := i.own.any
  rw [List.length_map] at hv
  subst hv
  have hNN := K.norm_is hk
  obtain ⟨q, hq⟩ : ∃ q, q = k.norm := ⟨_, rfl⟩
  rw [← hq] at hNN hf ⊢
  have HN : ∀ w, Tabs w → Calls Tryd.prog 17 #[.agg #[.bool k.b, .int .i64 k.n, .string k.t]] w fun e w' => e = .returned (.agg #[.bool q.b, .int .i64 q.n, .string q.t]) ∧ Below w.heap.size w w' := fun w h => by rw [hq]; exact rnorm_any k hk w h
  have HF : ∀ W, Owns W 56 7 (.slice ao l.xs.length cap) (l.xs.map RC) → Calls Tryd.prog 76 #[.slice ao l.xs.length cap, .agg #[.bool q.b, .int .i64 q.n, .string q.t]] W fun e w' => e = .returned (.int .i64 (-1)) ∧ Below W.heap.size W w' := fun W o => by
    have := rfind_any l.xs q i.ok.len W o
    rw [findI_none hf] at this
    exact this
  have A0 : Hid (InRef w ((w.alloc (KB k.b k.n k.t)).alloc (XB x)) rb ro c (.slice ao l.xs.length cap) l w.heap.size k (some (XB x))) :=
    ⟨ht, (i.below (below_alloc1 _ _)).below (below_alloc1 _ _), alloc_blk (heap_alloc_new _ _) _, fun o e => by cases e; have := heap_alloc_new (w.alloc (KB k.b k.n k.t)) (XB x); simpa using this, (below_alloc1 _ _).trans ((below_alloc1 _ _).mono (by simp))⟩
  have HNN := Lib.hid (⟨hNN, hf, lt_of_block i.blk, fun g e => i.own.lt (g := g) e⟩ : _ ∧ _ ∧ _ ∧ _)
  have hl' : (l.xs.length : Int) < 2048 := by omega
  clear i ht hk hq hf hNN
  unfold K.v
  go_enter Tryd.func55, Tryd.ntmps55
  go_wp2_with fail
  generalize hW : (w.alloc _).alloc _ = W0 at A0 ⊢
  clear hW
  obtain ⟨a0, a1, a2⟩ := cells3 A0.out.key
  go_wp2_with fail
  refine (HN _ A0.out.tabsW).mono ?_; rintro e w1 ⟨rfl, hb⟩; have A1 := Lib.hid (A0.out.mono hb); clear A0 hb HN a0 a1 a2
  obtain ⟨f0, f1, f2⟩ := free3 A1.out.key
  obtain ⟨a0, a1, a2⟩ := cells3 A1.out.key
  have A2 := A1.out.store (Nat.le_refl _) HNN.out.2.2.1 HNN.out.2.2.2 q
  clear A1
  go_wp2_with fail
  clear f0 f1 f2 a0 a1 a2
  go_region_held3 (fun W => W.cell? ⟨rb, ro, none⟩ = some (.slice ao l.xs.length cap) ∧ W.cell? ⟨w.heap.size, 0, none⟩ = some (.bool q.b) ∧ W.cell? ⟨w.heap.size, 1, none⟩ = some (.int .i64 q.n) ∧ W.cell? ⟨w.heap.size, 2, none⟩ = some (.string q.t) ∧ InRef w W rb ro c (.slice ao l.xs.length cap) l w.heap.size q (some (XB x)))
    (first
      | assumption
      | (refine refS (InRef.mono (refS' ?_) hb); assumption)
      | (refine refS (InRef.drew A2)))
    (first
      | (go_at_call 76; refine (HF _ (refS' (w := w) (rb := rb) (ro := ro) (c := c) (v := .slice ao l.xs.length cap) (l := l) (B := w.heap.size) (k := q) (o2 := some (XB x)) ?_).lst.own).mono ?_; assumption; rintro e wq ⟨rfl, hb⟩))
  have A3 := Lib.hid (refS' (w := w) (rb := rb) (ro := ro) (c := c) (v := .slice ao l.xs.length cap) (l := l) (B := w.heap.size) (k := q) (o2 := some (XB x)) (by assumption))
  rename_i wq _ hHeld
  clear hHeld A2 HF
  obtain ⟨d, -⟩ := A3.out.lst.cells
  have hn1 : Hid (l.xs.length = (l.xs.map RC).length) := by show _ = _; simp
  have hr1 : Hid (([] : List (List Value)).length + (l.xs.map RC).length ≤ maxLen ∧ (([] : List (List Value)).length + (l.xs.map RC).length) * 88 ≤ 140737488355328) := by
    have : (l.xs.map RC).length ≤ 2048 := by simp; omega
    exact ⟨by simp only [List.length_nil]; unfold maxLen; omega, by simp only [List.length_nil]; omega⟩
  have hr2 : Hid (([] ++ l.xs.map RC).length + [RC (q, x)].length ≤ maxLen ∧ (([] ++ l.xs.map RC).length + [RC (q, x)].length) * 88 ≤ 140737488355328) := by
    have : ([] ++ l.xs.map RC).length ≤ 2048 := by simp; omega
    have h1 : [RC (q, x)].length = 1 := rfl
    exact ⟨by rw [h1]; unfold maxLen; omega, by rw [h1]; omega⟩
  have hr3 : Hid (([] ++ l.xs.map RC ++ [RC (q, x)]).length = l.xs.length + 1) := by show _ = _; simp
  have HA := A3.out.lst.own.any
  obtain ⟨ao', cap', hv', -, -, hlies, hnone, -⟩ := HA
  rw [List.length_map] at hv'
  cases hv'
  have hpre : Hid (Lies wq.drew 7 ao (l.xs.map RC)) := Lib.hid (hlies.kept fun _ _ _ hg => ⟨rfl, hg⟩)
  replace hnone : Hid (ao = none → l.xs.map RC = [] ∧ cap = 0) := hnone
  clear hlies
  have b2 := A3.out.two _ rfl
  have r0 := cell_blk b2 0
  have r1 := cell_blk b2 1
  have r2 := cell_blk b2 2
  have r3 := cell_blk b2 3
  have hrb := lt_of_block A3.out.lst.blk
  have hb2 := lt_of_block b2
  obtain ⟨a0, a1, a2⟩ := cells3 A3.out.key
  have hI := Lib.hid (⟨A3.out.lst.ok, hl⟩ : _ ∧ _)
  clear hl
  go_upto_region 10 with fail
  go_cut [] (fun wx => ∃ c' v', Hid (RIn w wx rb ro c l q x l.nx c' v'))
  case first =>
    go_region_law (first | ((refine step_append_rows rfl (.const (.slice none 0 0)) (.tmp 43) 45 rfl 56 _ 7 88 Tryd.underlying45 info56 rfl (by decide) (.slice none 0 0) [] (by rfl) (Owns.empty _ _ _) ao l.xs.length cap (l.xs.map RC) (by rfl) hn1.out hnone.out (hpre.out.step (by first | exact .inl rfl | exact .inr ⟨_, rfl⟩)) (RC_one _) (RC_len _) hr1.out.1 hr1.out.2 ?_; intro v1 w1 o1 g1 b1; have M1 := Lib.hid (grown_step (w := wq) (w0 := wq.drew) (Below.refl _ wq).drew (by first | exact .inl rfl | exact .inr ⟨_, rfl⟩) g1 (fun k e => by cases e)); have N1 := Lib.hid (new_step (w := wq) (w0 := wq.drew) (Below.refl _ wq).drew (by first | exact .inl rfl | exact .inr ⟨_, rfl⟩) b1 (fun k e => by cases e)); (first | have hNew : Hid (Lies w1 7 (some ⟨wq.heap.size, 0, none⟩) [RC (q, x)]) := Lib.hid (lies_grown (lies_new wq.drew (RC (q, x)) 56 rfl) g1) | skip); have z1 := (cell_blk ((M1.out.block rb hrb).trans A3.out.lst.blk) ro).trans A3.out.lst.c0; have O1 := Lib.hid o1; have k1 := cells3 ((M1.out.block _ (lt_of_block A3.out.key)).trans A3.out.key); have v1' := (M1.out.block _ hb2).trans b2; have s0 := cell_blk v1' 0; have s1 := cell_blk v1' 1; have s2 := cell_blk v1' 2; have s3 := cell_blk v1' 3; obtain ⟨k10, k11, k12⟩ := k1; clear o1 g1 b1 v1')) | ((refine step_append_rows rfl (.tmp 44) (.tmp 48) 45 rfl 56 _ 7 88 Tryd.underlying45 info56 rfl (by decide) v1 ([] ++ l.xs.map RC) (by rfl) (O1.out.step (by first | exact .inl rfl | exact .inr ⟨_, rfl⟩)) (some ⟨_, 0, none⟩) 1 1 [RC (q, x)] (by rfl) rfl (fun e => by cases e) (by first | exact hNew.out | exact lies_new w1 (RC (q, x)) 56 rfl) (RC_one [(q, x)]) (RC_len [(q, x)]) hr2.out.1 hr2.out.2 ?_; intro v2 w2 o2 g2 b2; have M2 := Lib.hid (grown_step (w := wq) (w0 := w1) M1.out (by first | exact .inl rfl | exact .inr ⟨_, rfl⟩) g2 N1.out); have N2 := Lib.hid (new_step (w := wq) (w0 := w1) M1.out (by first | exact .inl rfl | exact .inr ⟨_, rfl⟩) b2 N1.out); have hB2 := (M2.out.block rb hrb).trans A3.out.lst.blk; have z2 := (cell_blk hB2 ro).trans A3.out.lst.c0; have ff := free_blk hB2 ro; obtain ⟨ao2, cap2, hv2, -⟩ := o2.any; rw [hr3.out] at hv2; subst hv2; have O2 := Lib.hid o2; clear o2 g2 b2 hB2)))
    all_goals
      go_wp2_with fail
      go_meet
      exact ⟨_, _, rnew_in A3.out M2.out O2.out N2.out⟩
  case rest =>
    obtain ⟨c', v', P⟩ := hcut
    obtain ⟨y0, y1, y2⟩ := cells3 P.out.key
    have e0 := (cell_blk P.out.blk (ro + 1)).trans P.out.c1
    have ff4 := free_blk P.out.blk (ro + 1)
    have hrb' := Lib.hid (lt_of_block A3.out.lst.blk)
    have HB : Hid (rb < w.heap.size) := HNN.out.2.2.1
    have hne : ¬ rb = w.heap.size := by have := HB.out; omega
    have hne' : ¬ w.heap.size = rb := by have := HB.out; omega
    clear r0 r1 r2 r3 hrb hb2 a0 a1 a2 b2 hn1 hr1 hr2 hr3 hpre hnone d A3
    by_cases hqb : q.b = true
    · have hn : Hid (l.nx = nextP q l.nx) := by show _ = _; unfold nextP; rw [if_neg (by rw [hqb]; simp)]
      go_wp2_with fail
      go_quiet (fail)
      go_wp2_with fail
      go_ret
      exact (P.out.drewN _).done HNN.out.1 hI.out.1 HNN.out.2.1 hI.out.2 hn.out
    · have hqb' : q.b = false := by cases h : q.b with | true => exact absurd h hqb | false => rfl
      clear hqb
      by_cases h0 : 0 ≤ l.nx
      · by_cases h1 : l.nx ≤ q.n
        · by_cases h2 : q.n = 9223372036854775807
          · have hn : Hid (-1 = nextP q l.nx) := by show _ = _; unfold nextP; rw [if_pos ⟨hqb', h0, h1⟩, if_pos h2]
            have g3 : decide (q.n < 9223372036854775807) = false := by simp; omega
            have HX := Lib.hid h2
            clear h2
            go_wp2_with fail
            go_quiet (fail)
            go_wp2_with fail
            go_ret
            exact ((P.out.drewN _).next HB.out _).done HNN.out.1 hI.out.1 HNN.out.2.1 hI.out.2 hn.out
          · have hn : Hid (q.n + 1 = nextP q l.nx) := by show _ = _; unfold nextP; rw [if_pos ⟨hqb', h0, h1⟩, if_neg h2]
            have hqhi := HNN.out.1.hi
            have hw : IntKind.i64.wrap (q.n + 1) = q.n + 1 := wrap_in (by omega) (by omega)
            have hw' : wrap64 (q.n + 1) = q.n + 1 := wrap64_in' (by omega) (by omega)
            have g3 : decide (q.n < 9223372036854775807) = true := by simp; omega
            clear h2 hqhi
            go_wp2_with fail
            go_quiet (fail)
            go_wp2_with fail
            go_ret
            exact (((P.out.drewN _).next HB.out _).next HB.out _).done HNN.out.1 hI.out.1 HNN.out.2.1 hI.out.2 hn.out
        · have hn : Hid (l.nx = nextP q l.nx) := by show _ = _; unfold nextP; rw [if_neg (by omega)]
          have g0 : decide (0 ≤ l.nx) = true := by simp [h0]
          have g1 : decide (l.nx ≤ q.n) = false := by simp; omega
          clear h1
          go_wp2_with fail
          go_quiet (fail)
          go_wp2_with fail
          go_ret
          exact (P.out.drewN _).done HNN.out.1 hI.out.1 HNN.out.2.1 hI.out.2 hn.out
      · have hn : Hid (l.nx = nextP q l.nx) := by show _ = _; unfold nextP; rw [if_neg (by omega)]
        have g0 : decide (0 ≤ l.nx) = false := by simp; omega
        clear h0
        go_wp2_with fail
        go_quiet (fail)
        go_wp2_with fail
        go_ret
        exact (P.out.drewN _).done HNN.out.1 hI.out.1 HNN.out.2.1 hI.out.2 hn.out
theorem rset_any {rb ro : Nat} {c : Array Value} {v : Value} {l : LS} {k : K} (x : Int) (hk : k.Good) (w : World) (ht : Tabs w) (i : RefAt w rb ro c v l) :
    Calls Tryd.prog 55 #[.pointer (some ⟨rb, ro, none⟩), k.v, V4 2 x ⟨#[]⟩ none 0 0] w (RefPost w rb ro c v (setP k x l).2 (.int .i64 (setP k x l).1)) := by
  unfold setP setN
  cases hf : findK k.norm l.xs with
  | some j => exact rset_found x hk hf (findK_lt hf) w ht i
  | none =>
    simp only
    by_cases hl : 2048 ≤ l.xs.length
    · rw [if_pos hl]; exact rset_full x hk hf hl w ht i
    · rw [if_neg hl]; exact rset_new x hk hf (by omega) w ht i
end Go.Proofs.YtgpdhmgbmhfooaaDoor
