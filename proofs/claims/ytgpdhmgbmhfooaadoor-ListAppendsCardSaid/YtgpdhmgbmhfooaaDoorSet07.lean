/-
  The walk of Set.
-/
import Derived.Test.YtgpdhmgbmhfooaaDoorOwn07
import Derived.Test.YtgpdhmgbmhfooaaDoorGet07
import Derived.Deep.RegionLawGrows
namespace Go.Proofs.YtgpdhmgbmhfooaaDoor
open Go.RowKit

/-- What own leaves, at any list. -/
def OwnAny (w : World) (b : Nat) (sh : Bool) (v : Value) (mb : Nat) (l : LS) (e : Ending) (w' : World) : Prop :=
  e = .returned (.tuple #[]) ∧ ∃ v' mb', ListIs w' b false v' mb' l ∧ Mod (fun k => k = b) w w' ∧ (∀ g, v'.ownBlock = some g → w.heap.size ≤ g ∨ (sh = false ∧ v.ownBlock = some g)) ∧ (w.heap.size ≤ mb' ∨ (sh = false ∧ mb' = mb))
theorem own_any {b : Nat} {sh : Bool} {v : Value} {mb : Nat} {l : LS} (w : World) (i : ListIs w b sh v mb l) : Calls Tryd.prog 52 #[.pointer (some ⟨b, 0, none⟩)] w (OwnAny w b sh v mb l) := by
  cases sh with
  | false => exact (own_free w i).mono fun e w' ⟨he, hw⟩ => ⟨he, v, mb, hw ▸ i, hw ▸ Mod.refl _ _, fun g h => .inr ⟨rfl, h⟩, .inr ⟨rfl, rfl⟩⟩
  | true => exact (own_shared w i).mono fun e w' ⟨he, v', mb', h1, h2, h3, h4⟩ => ⟨he, v', mb', h1, h2, fun g h => .inl (h3 g h), .inl h4⟩

abbrev KA (q : K) : Value := .agg #[.bool q.b, .int .i64 q.n, .string q.t]
abbrev KC (W : World) (B : Nat) (q : K) : Prop := W.cell? ⟨B, 0, none⟩ = some (.bool q.b) ∧ W.cell? ⟨B, 1, none⟩ = some (.int .i64 q.n) ∧ W.cell? ⟨B, 2, none⟩ = some (.string q.t)

/-- What Set leaves. -/
def SetPost (w : World) (b : Nat) (sh : Bool) (v : Value) (mb : Nat) (r : Int × LS) (e : Ending) (w' : World) : Prop :=
  e = .returned (.int .i64 r.1) ∧ ∃ sh' v' mb', ListIs w' b sh' v' mb' r.2 ∧ Mod (Foot b sh v mb) w w' ∧ Goes w.heap.size sh v mb sh' v' mb'

theorem setSN {w W : World} {b : Nat} {sh : Bool} {v : Value} {mb : Nat} {l : LS} {B : Nat} {q : K} (h : InList w W b sh v mb l B q) (hk : q.Good) (hf : findK q l.xs = none) :
    W.cell? ⟨b, 3, none⟩ = some (.map (some mb)) ∧ W.cell? ⟨B, 0, none⟩ = some (.bool q.b) ∧ W.cell? ⟨B, 1, none⟩ = some (.int .i64 q.n) ∧ W.cell? ⟨B, 2, none⟩ = some (.string q.t) ∧
    (Instr.lookup 59 (.map (some mb)) (.agg #[.bool q.b, .int .i64 q.n, .string q.t]) true).run Tryd.prog W = .ok (.tuple #[.int .i64 0, .bool false]) W ∧ InList w W b sh v mb l B q := by
  obtain ⟨x0, x1, x2⟩ := cells3 h.key
  exact ⟨(cells5 h.lst.blk).2.2.2.1, x0, x1, x2, look_none h.lst hk hf, h⟩
theorem setSY {w W : World} {b : Nat} {sh : Bool} {v : Value} {mb : Nat} {l : LS} {B : Nat} {q : K} {j : Nat} (h : InList w W b sh v mb l B q) (hk : q.Good) (hf : findK q l.xs = some j) :
    W.cell? ⟨b, 3, none⟩ = some (.map (some mb)) ∧ W.cell? ⟨B, 0, none⟩ = some (.bool q.b) ∧ W.cell? ⟨B, 1, none⟩ = some (.int .i64 q.n) ∧ W.cell? ⟨B, 2, none⟩ = some (.string q.t) ∧
    (Instr.lookup 59 (.map (some mb)) (.agg #[.bool q.b, .int .i64 q.n, .string q.t]) true).run Tryd.prog W = .ok (.tuple #[.int .i64 j, .bool true]) W ∧ InList w W b sh v mb l B q := by
  obtain ⟨x0, x1, x2⟩ := cells3 h.key
  exact ⟨(cells5 h.lst.blk).2.2.2.1, x0, x1, x2, look_some h.lst hk hf, h⟩

theorem InList.store {w W : World} {b : Nat} {sh : Bool} {v : Value} {mb : Nat} {l : LS} {B : Nat} {k : K} (h : InList w W b sh v mb l B k) (hB : w.heap.size ≤ B) (n1 : b ≠ B) (n2 : mb ≠ B) (n3 : v.ownBlock ≠ some B) (q : K) :
    InList w (((W.setCell ⟨B, 0, none⟩ (.bool q.b)).setCell ⟨B, 1, none⟩ (.int .i64 q.n)).setCell ⟨B, 2, none⟩ (.string q.t)) b sh v mb l B q := by
  have hm : Mod (fun x => x = B) W (((W.setCell ⟨B, 0, none⟩ (.bool q.b)).setCell ⟨B, 1, none⟩ (.int .i64 q.n)).setCell ⟨B, 2, none⟩ (.string q.t)) :=
    (((Mod.refl (fun x => x = B) W).setCell ⟨B, 0, none⟩ _ (fun _ => rfl)).setCell ⟨B, 1, none⟩ _ (fun _ => rfl)).setCell ⟨B, 2, none⟩ _ (fun _ => rfl)
  exact ⟨h.tabs, h.lst.mod hm n1 n2 (fun g e x => n3 (by rw [e, x])), set3 h.key q.b q.n q.t, set3_below h.below hB _ _ _⟩

theorem flat_set : ∀ (xs : List It) (j : Nat) (hj : j < xs.length) (v : Int), (xs.map It.cells).flatten.set (j * 4 + 3) (.int .i64 v) = ((xs.set j (xs[j].1, v)).map It.cells).flatten
  | [], j, hj, _ => by simp at hj
  | x :: r, 0, _, v => by simp [It.cells]
  | x :: r, j + 1, hj, v => by
    have ih := flat_set r j (by simpa using hj) v
    rw [List.map_cons, List.flatten_cons, List.set_cons_succ, List.map_cons, List.flatten_cons, List.getElem_cons_succ, ← ih]
    rw [show (j + 1) * 4 + 3 = (j * 4 + 3) + 4 by omega]
    rfl
/-- A value that is stored into its item. -/
theorem owns_setV {w : World} {g n cap : Nat} {xs : List It} (h : Owns w 88 4 (.slice (some ⟨g, 0, none⟩) n cap) (xs.map It.cells)) {j : Nat} (hj : j < xs.length) (v : Int) :
    Owns (w.setCell ⟨g, j * 4 + 3, none⟩ (.int .i64 v)) 88 4 (.slice (some ⟨g, 0, none⟩) n cap) ((xs.set j (xs[j].1, v)).map It.cells) ∧ w.grownBy (w.setCell ⟨g, j * 4 + 3, none⟩ (.int .i64 v)) (some g) := by
  have hn : n = xs.length := by
    obtain ⟨ao, cap', hv, _⟩ := h.any
    cases hv; simp
  subst hn
  have hr := h.row
  rw [List.length_map] at hr
  obtain ⟨h1, h2⟩ := hr.stored (j * 4 + 3) (.int .i64 v)
  rw [flat_set xs j hj v] at h1
  refine ⟨⟨by rw [List.length_map, List.length_set]; exact h1, It.rows_len _, It.rows_one _⟩, h2⟩
theorem placeF_set {xs : List It} {j : Nat} (hj : j < xs.length) (v : Int) : placeF (xs.set j (xs[j].1, v)) = placeF xs := by
  funext k
  unfold placeF
  rw [findK_set k hj]

theorem placeF_snoc {xs : List It} {q : K} (h : findK q xs = none) (x : Int) : placeF (xs ++ [(q, x)]) = fun y => if y = q then some (xs.length : Int) else placeF xs y := by
  funext y
  unfold placeF
  rw [findK_snoc h]
  split <;> rfl
/-- An item has come behind the others. -/
structure SetIn (w W : World) (b : Nat) (sh : Bool) (v : Value) (mb : Nat) (l : LS) (q : K) (x : Int) (v' : Value) (mb' : Nat) (nx' : Int) (B : Nat) : Prop where
  blk : W.heap[b]? = some (.cells #[.bool true, .bool false, v', .map (some mb'), .int .i64 nx'] 61 (0, 0))
  own : Owns W 88 4 v' ((l.xs ++ [(q, x)]).map It.cells)
  map : MapIs W mb' (placeF (l.xs ++ [(q, x)])) (l.xs.length + 1)
  key : W.heap[B]? = some (KB q.b q.n q.t)
  ne1 : v'.ownBlock ≠ some b
  ne2 : mb' ≠ b
  ne3 : v'.ownBlock ≠ some mb'
  nb : B ≠ b
  mod : Mod (Foot b sh v mb) w W
  goes : Goes w.heap.size sh v mb false v' mb'
theorem SetIn.drewN {w W : World} {b : Nat} {sh : Bool} {v : Value} {mb : Nat} {l : LS} {q : K} {x : Int} {v' : Value} {mb' : Nat} {nx' : Int} {B : Nat} (h : SetIn w W b sh v mb l q x v' mb' nx' B) (n : Nat) : SetIn w (W.drewN n) b sh v mb l q x v' mb' nx' B :=
  ⟨h.blk, h.own.kept (fun _ _ => rfl), h.map.kept rfl, h.key, h.ne1, h.ne2, h.ne3, h.nb, h.mod.drewN n, h.goes⟩
theorem SetIn.next {w W : World} {b : Nat} {sh : Bool} {v : Value} {mb : Nat} {l : LS} {q : K} {x : Int} {v' : Value} {mb' : Nat} {nx' : Int} {B : Nat} (h : SetIn w W b sh v mb l q x v' mb' nx' B) (y : Int) : SetIn w (W.setCell ⟨b, 4, none⟩ (.int .i64 y)) b sh v mb l q x v' mb' y B :=
  ⟨by have := set_blk h.blk 4 (.int .i64 y); simpa using this, h.own.kept (fun g e => Below.heap_setCell _ _ _ _ (fun c => h.ne1 (by rw [e, c]))), h.map.kept (Below.heap_setCell _ _ _ _ h.ne2), set_other h.key h.nb, h.ne1, h.ne2, h.ne3, h.nb, h.mod.setCell _ _ (fun _ => .inl rfl), h.goes⟩
theorem SetIn.done {w W : World} {b : Nat} {sh : Bool} {v : Value} {mb : Nat} {l : LS} {q : K} {x : Int} {v' : Value} {mb' : Nat} {nx' : Int} {B : Nat} (h : SetIn w W b sh v mb l q x v' mb' nx' B) (hq : q.Norm) (hl : l.Ok) (hf : findK q l.xs = none) (hlen : l.xs.length < 2048) (hn : nx' = nextP q l.nx) :
    SetPost w b sh v mb (0, ⟨l.xs ++ [(q, x)], nextP q l.nx⟩) (.returned (.int .i64 0)) W := by
  subst hn
  have hok : (⟨l.xs ++ [(q, x)], nextP q l.nx⟩ : LS).Ok := by
    have h := setN_ok (v := x) hq hl
    unfold setN at h
    rw [hf, if_neg (by omega)] at h
    exact h
  exact ⟨rfl, false, v', mb', ⟨h.blk, h.own, by have := h.map; simpa using this, h.ne1, h.ne2, h.ne3, hok⟩, h.mod, h.goes⟩

set_option maxRecDepth 100000 in
set_option maxHeartbeats 3200000 in
theorem set_full {b : Nat} {sh : Bool} {v : Value} {mb : Nat} {l : LS} {k : K} (x : Int) (hk : k.Good) (hf : findK k.norm l.xs = none) (hl : 2048 ≤ l.xs.length) (w : World) (ht : Tabs w) (i : ListIs w b sh v mb l) :
    Calls Tryd.prog 19 #[.pointer (some ⟨b, 0, none⟩), k.v, .int .i64 x] w (SetPost w b sh v mb (8, l)) := by
  have hN := (K.norm_is hk).toGood
  have hNN := K.norm_is hk
  obtain ⟨q, hq⟩ : ∃ q, q = k.norm := ⟨_, rfl⟩
  have HN : ∀ w, Tabs w → Calls Tryd.prog 15 #[.agg #[.bool k.b, .int .i64 k.n, .string k.t]] w fun e w' => e = .returned (.agg #[.bool q.b, .int .i64 q.n, .string q.t]) ∧ Below w.heap.size w w' := fun w h => by rw [hq]; exact norm_any k hk w h
  rw [← hq] at hN hf hNN
  obtain ⟨ao, cap, hv, -⟩ := i.own.any
  rw [List.length_map] at hv
  subst hv
  have A0 : InList w (w.alloc (KB k.b k.n k.t)) b sh _ mb l w.heap.size k := ⟨ht, i.below (below_alloc1 _ _), heap_alloc_new _ _, below_alloc1 _ _⟩
  have c0 := (cells5 A0.lst.blk).1
  have HF := Lib.hid (⟨hN, hf, lt_of_block i.blk, i.map.lt, fun g e => i.own.lt (g := g) e⟩ : _ ∧ _ ∧ _ ∧ _ ∧ _)
  have HNN := Lib.hid (⟨hNN, i.ok⟩ : _ ∧ _)
  have hl' : (2048 : Int) ≤ (l.xs.length : Int) := by omega
  have AH := Lib.hid A0
  clear i ht hk hN hNN hf hq A0 hl
  unfold K.v
  go_enter Tryd.func19, Tryd.ntmps19
  go_wp2_with (go_at_call 51; refine (lok_any _ _ _ c0).mono ?_; rintro e w' ⟨rfl, rfl⟩)
  refine (HN _ AH.out.tabsW).mono ?_; rintro e w1 ⟨rfl, hb⟩; have A1 := Lib.hid (AH.out.mono hb); clear AH hb HN c0
  obtain ⟨f0, f1, f2⟩ := free3 A1.out.key
  obtain ⟨a0, a1, a2⟩ := cells3 A1.out.key
  have A2 : InList w _ b sh _ mb l w.heap.size q := A1.out.store (Nat.le_refl _) (by have := HF.out.2.2.1; omega) (by have := HF.out.2.2.2.1; omega) (fun e => by have := HF.out.2.2.2.2 _ e; omega) q
  go_wp2_with fail
  clear f0 f1 f2 a0 a1 a2
  go_region_held3 (fun W => W.cell? ⟨b, 3, none⟩ = some (.map (some mb)) ∧ W.cell? ⟨w.heap.size, 0, none⟩ = some (.bool q.b) ∧ W.cell? ⟨w.heap.size, 1, none⟩ = some (.int .i64 q.n) ∧ W.cell? ⟨w.heap.size, 2, none⟩ = some (.string q.t) ∧
    (Instr.lookup 59 (.map (some mb)) (.agg #[.bool q.b, .int .i64 q.n, .string q.t]) true).run Tryd.prog W = .ok (.tuple #[.int .i64 0, .bool false]) W ∧ InList w W b sh (.slice ao l.xs.length cap) mb l w.heap.size q)
    (first
      | assumption
      | exact setSN (InList.drew A2) HF.out.1 HF.out.2.1)
    (fail)
  have A3 := Lib.hid (InList.drew A2)
  generalize hW3 : World.drew _ = W3 at A3 ⊢
  clear hW3 A1 A2
  rename_i hHeld
  clear hHeld
  obtain ⟨c0, c1, c2, c3, c4⟩ := cells5 A3.out.lst.blk
  go_wp2_with fail
  go_ret
  exact ⟨rfl, sh, _, mb, A3.out.lst, Mod.of_below A3.out.below, Goes.refl _ _ _ _⟩

set_option maxRecDepth 100000 in
set_option maxHeartbeats 3200000 in
theorem set_found {b : Nat} {sh : Bool} {v : Value} {mb : Nat} {l : LS} {k : K} {j : Nat} (x : Int) (hk : k.Good) (hf : findK k.norm l.xs = some j) (hj : j < l.xs.length) (w : World) (ht : Tabs w) (i : ListIs w b sh v mb l) :
    Calls Tryd.prog 19 #[.pointer (some ⟨b, 0, none⟩), k.v, .int .i64 x] w (SetPost w b sh v mb (0, ⟨l.xs.set j (k.norm, x), l.nx⟩)) := by
  have hN := (K.norm_is hk).toGood
  have hNN := K.norm_is hk
  obtain ⟨q, hq⟩ : ∃ q, q = k.norm := ⟨_, rfl⟩
  have HN : ∀ w, Tabs w → Calls Tryd.prog 15 #[.agg #[.bool k.b, .int .i64 k.n, .string k.t]] w fun e w' => e = .returned (.agg #[.bool q.b, .int .i64 q.n, .string q.t]) ∧ Below w.heap.size w w' := fun w h => by rw [hq]; exact norm_any k hk w h
  rw [← hq] at hN hf hNN ⊢
  obtain ⟨ao, cap, hv, -⟩ := i.own.any
  rw [List.length_map] at hv
  subst hv
  have A0 : InList w (w.alloc (KB k.b k.n k.t)) b sh _ mb l w.heap.size k := ⟨ht, i.below (below_alloc1 _ _), heap_alloc_new _ _, below_alloc1 _ _⟩
  have c0 := (cells5 A0.lst.blk).1
  have HF := Lib.hid (⟨hN, hf, lt_of_block i.blk, i.map.lt, fun g e => i.own.lt (g := g) e⟩ : _ ∧ _ ∧ _ ∧ _ ∧ _)
  have HNN := Lib.hid (⟨hNN, i.ok⟩ : _ ∧ _)
  have AH := Lib.hid A0
  clear i ht hk hN hNN hf hq A0
  unfold K.v
  go_enter Tryd.func19, Tryd.ntmps19
  go_wp2_with (go_at_call 51; refine (lok_any _ _ _ c0).mono ?_; rintro e w' ⟨rfl, rfl⟩)
  refine (HN _ AH.out.tabsW).mono ?_; rintro e w1 ⟨rfl, hb⟩; have A1 := Lib.hid (AH.out.mono hb); clear AH hb HN c0
  obtain ⟨f0, f1, f2⟩ := free3 A1.out.key
  obtain ⟨a0, a1, a2⟩ := cells3 A1.out.key
  have A2 : InList w _ b sh _ mb l w.heap.size q := A1.out.store (Nat.le_refl _) (by have := HF.out.2.2.1; omega) (by have := HF.out.2.2.2.1; omega) (fun e => by have := HF.out.2.2.2.2 _ e; omega) q
  go_wp2_with fail
  clear f0 f1 f2 a0 a1 a2
  go_region_held3 (fun W => W.cell? ⟨b, 3, none⟩ = some (.map (some mb)) ∧ W.cell? ⟨w.heap.size, 0, none⟩ = some (.bool q.b) ∧ W.cell? ⟨w.heap.size, 1, none⟩ = some (.int .i64 q.n) ∧ W.cell? ⟨w.heap.size, 2, none⟩ = some (.string q.t) ∧
    (Instr.lookup 59 (.map (some mb)) (.agg #[.bool q.b, .int .i64 q.n, .string q.t]) true).run Tryd.prog W = .ok (.tuple #[.int .i64 j, .bool true]) W ∧ InList w W b sh (.slice ao l.xs.length cap) mb l w.heap.size q)
    (first
      | assumption
      | exact setSY (InList.drew A2) HF.out.1 HF.out.2.1)
    (fail)
  have A3 := Lib.hid (InList.drew A2)
  generalize hW3 : World.drew _ = W3 at A3 ⊢
  clear hW3 A1 A2
  rename_i hHeld
  clear hHeld
  obtain ⟨c0, c1, c2, c3, c4⟩ := cells5 A3.out.lst.blk
  go_wp2_with fail
  refine (own_any _ A3.out.lst).mono ?_; rintro e w4 ⟨rfl, v4, mb4, i4, m4, g4, n4⟩
  obtain ⟨gg, cap4, rfl, hlc, hcm, hgl, d0, d1, d2, d3⟩ := i4.item hj
  have hfz := i4.own.free (g := gg) rfl (j * 4 + 3)
  obtain ⟨a0, a1, a2, a3, a4⟩ := cells5 i4.blk
  have hat : l.xs[j].1 = q := by
    obtain ⟨_, h2, _⟩ := HF.out
    exact findK_at h2
  have HAT := Lib.hid hat
  have I4 := Lib.hid i4
  have M4 := Lib.hid (⟨m4, g4, n4⟩ : _ ∧ _ ∧ _)
  have hj' : (j : Int) < (l.xs.length : Int) := by omega
  clear c0 c1 c2 c3 c4 d0 d1 d2 i4 m4 g4 n4 hlc hcm hat
  go_wp2_with fail
  go_ret
  obtain ⟨hO, hG⟩ := owns_setV I4.out.own hj x
  obtain ⟨m4, g4, n4⟩ := M4.out
  have hgb : gg ≠ b := fun e => I4.out.ne1 (by rw [e]; rfl)
  have hgm : mb4 ≠ gg := fun e => I4.out.ne3 (by rw [e]; rfl)
  have hset : l.xs.set j (q, x) = l.xs.set j (l.xs[j].1, x) := by rw [HAT.out]
  have hsz := A3.out.below.size
  have hok : (⟨l.xs.set j (q, x), l.nx⟩ : LS).Ok := by
    have h := setN_ok (v := x) HNN.out.1 HNN.out.2
    unfold setN at h
    rw [HF.out.2.1] at h
    exact h
  refine ⟨rfl, false, _, mb4, ⟨?_, ?_, ?_, I4.out.ne1, I4.out.ne2, I4.out.ne3, hok⟩, ?_, .inr ⟨rfl, fun g e => ?_, ?_⟩⟩
  · exact (Below.heap_setCell _ _ _ _ (fun e => hgb e.symm)).trans I4.out.blk
  · rw [hset]; exact hO
  · rw [hset, placeF_set hj, List.length_set]
    exact I4.out.map.kept (Below.heap_setCell _ _ _ _ hgm)
  · have m3 : Mod (Foot b sh (.slice ao l.xs.length cap) mb) w W3 := Mod.of_below A3.out.below
    refine (m3.trans' m4 (fun k _ e => .inl e)).setCell _ _ (fun hk => ?_)
    rcases g4 gg rfl with h | ⟨h1, h2⟩
    · exact absurd hk (by simp only; omega)
    · exact .inr ⟨h1, .inl h2⟩
  · rcases g4 g e with h | h
    · exact .inl (by omega)
    · exact .inr h
  · rcases n4 with h | h
    · exact .inl (by omega)
    · exact .inr h

set_option maxRecDepth 100000 in
set_option maxHeartbeats 3200000 in
theorem set_new {b : Nat} {sh : Bool} {v : Value} {mb : Nat} {l : LS} {k : K} (x : Int) (hk : k.Good) (hf : findK k.norm l.xs = none) (hl : l.xs.length < 2048) (w : World) (ht : Tabs w) (i : ListIs w b sh v mb l) :
    Calls Tryd.prog 19 #[.pointer (some ⟨b, 0, none⟩), k.v, .int .i64 x] w (SetPost w b sh v mb (0, ⟨l.xs ++ [(k.norm, x)], nextP k.norm l.nx⟩)) := by
  have hN := (K.norm_is hk).toGood
  have hNN := K.norm_is hk
  obtain ⟨q, hq⟩ : ∃ q, q = k.norm := ⟨_, rfl⟩
  have HN : ∀ w, Tabs w → Calls Tryd.prog 15 #[.agg #[.bool k.b, .int .i64 k.n, .string k.t]] w fun e w' => e = .returned (.agg #[.bool q.b, .int .i64 q.n, .string q.t]) ∧ Below w.heap.size w w' := fun w h => by rw [hq]; exact norm_any k hk w h
  rw [← hq] at hN hf hNN ⊢
  obtain ⟨ao, cap, hv, -⟩ := i.own.any
  rw [List.length_map] at hv
  subst hv
  have A0 : InList w (w.alloc (KB k.b k.n k.t)) b sh _ mb l w.heap.size k := ⟨ht, i.below (below_alloc1 _ _), heap_alloc_new _ _, below_alloc1 _ _⟩
  have c0 := (cells5 A0.lst.blk).1
  have HF := Lib.hid (⟨hN, hf, lt_of_block i.blk, i.map.lt, fun g e => i.own.lt (g := g) e⟩ : _ ∧ _ ∧ _ ∧ _ ∧ _)
  have HNN := Lib.hid (⟨hNN, i.ok⟩ : _ ∧ _)
  have hl' : (l.xs.length : Int) < 2048 := by omega
  have AH := Lib.hid A0
  clear i ht hk hN hNN hf hq A0
  unfold K.v
  go_enter Tryd.func19, Tryd.ntmps19
  go_wp2_with (go_at_call 51; refine (lok_any _ _ _ c0).mono ?_; rintro e w' ⟨rfl, rfl⟩)
  refine (HN _ AH.out.tabsW).mono ?_; rintro e w1 ⟨rfl, hb⟩; have A1 := Lib.hid (AH.out.mono hb); clear AH hb HN c0
  obtain ⟨f0, f1, f2⟩ := free3 A1.out.key
  obtain ⟨a0, a1, a2⟩ := cells3 A1.out.key
  have A2 : InList w _ b sh _ mb l w.heap.size q := A1.out.store (Nat.le_refl _) (by have := HF.out.2.2.1; omega) (by have := HF.out.2.2.2.1; omega) (fun e => by have := HF.out.2.2.2.2 _ e; omega) q
  go_wp2_with fail
  clear f0 f1 f2 a0 a1 a2
  go_region_held3 (fun W => W.cell? ⟨b, 3, none⟩ = some (.map (some mb)) ∧ W.cell? ⟨w.heap.size, 0, none⟩ = some (.bool q.b) ∧ W.cell? ⟨w.heap.size, 1, none⟩ = some (.int .i64 q.n) ∧ W.cell? ⟨w.heap.size, 2, none⟩ = some (.string q.t) ∧
    (Instr.lookup 59 (.map (some mb)) (.agg #[.bool q.b, .int .i64 q.n, .string q.t]) true).run Tryd.prog W = .ok (.tuple #[.int .i64 0, .bool false]) W ∧ InList w W b sh (.slice ao l.xs.length cap) mb l w.heap.size q)
    (first
      | assumption
      | exact setSN (InList.drew A2) HF.out.1 HF.out.2.1)
    (fail)
  have A3 := Lib.hid (InList.drew A2)
  generalize hW3 : World.drew _ = W3 at A3 ⊢
  clear hW3 A1 A2
  rename_i hHeld
  clear hHeld
  obtain ⟨c0, c1, c2, c3, c4⟩ := cells5 A3.out.lst.blk
  go_wp2_with fail
  refine (own_any _ A3.out.lst).mono ?_; rintro e w4 ⟨rfl, v4, mb4, i4, m4, g4, n4⟩
  obtain ⟨ao4, cap4, hv4, -⟩ := i4.own.any
  rw [List.length_map] at hv4
  subst hv4
  have hbB : b < w.heap.size := HF.out.2.2.1
  have key4 : w4.heap[w.heap.size]? = some (KB q.b q.n q.t) := m4.blk A3.out.key (fun e => by omega)
  have nB1 : mb4 ≠ w.heap.size := by
    have h1 := HF.out.2.2.2.1
    have h2 := lt_of_block A3.out.key
    rcases n4 with h | ⟨_, h⟩ <;> omega
  have nB2 : (Value.slice ao4 l.xs.length cap4).ownBlock ≠ some w.heap.size := fun e => by
    have h1 := HF.out.2.2.2.2
    have h2 := lt_of_block A3.out.key
    rcases g4 _ e with h | ⟨_, h⟩
    · omega
    · have := h1 _ h; omega
  obtain ⟨w5, hup, map5, gr5⟩ := (i4.drewN 1).map.put (k := q) (by unfold maxLen; omega) HF.out.1 (v := (l.xs.length : Int)) (by omega) (by omega)
  have hnone : (placeF l.xs q).isSome = false := by unfold placeF; rw [HF.out.2.1]; rfl
  rw [if_neg (by rw [hnone]; decide)] at map5
  have hup' : (Instr.mapUpdate 59 (.map (some mb4)) (.agg #[.bool q.b, .int .i64 q.n, .string q.t]) (.int .i64 l.xs.length)).run Tryd.prog w4.drew = .ok () w5 := hup
  have b5 : w5.heap[b]? = some (.cells #[.bool true, .bool false, .slice ao4 l.xs.length cap4, .map (some mb4), .int .i64 l.nx] 61 (0, 0)) := (gr5.block b (lt_of_block i4.blk) (by simp; exact fun e => i4.ne2 e.symm)).trans i4.blk
  have k5 : w5.heap[w.heap.size]? = some (KB q.b q.n q.t) := (gr5.block _ (lt_of_block key4) (by simp; exact fun e => nB1 e.symm)).trans key4
  have o5 : Owns w5 88 4 (.slice ao4 l.xs.length cap4) (l.xs.map It.cells) := i4.own.kept fun g e => gr5.block g (i4.own.lt e) (by simp; intro e2; subst e2; exact i4.ne3 e)
  have S4 : w4.drew.cell? ⟨b, 2, none⟩ = some (.slice ao4 l.xs.length cap4) ∧ w4.drew.cell? ⟨b, 3, none⟩ = some (.map (some mb4)) ∧ KC w4.drew w.heap.size q :=
    ⟨(cells5 (i4.drewN 1).blk).2.2.1, (cells5 (i4.drewN 1).blk).2.2.2.1, cells3 (W := w4.drew) key4⟩
  have S5 : w5.cell? ⟨b, 2, none⟩ = some (.slice ao4 l.xs.length cap4) ∧ w5.cell? ⟨b, 3, none⟩ = some (.map (some mb4)) ∧ KC w5 w.heap.size q :=
    ⟨(cells5 b5).2.2.1, (cells5 b5).2.2.2.1, cells3 k5⟩
  have H4 := Lib.hid (⟨i4, m4, g4, n4, map5, gr5, nB1, nB2, key4⟩ : _ ∧ _ ∧ _ ∧ _ ∧ _ ∧ _ ∧ _ ∧ _ ∧ _)
  have H5 := Lib.hid (⟨b5, k5, o5⟩ : _ ∧ _ ∧ _)
  have HS4 := Lib.hid S4
  have HS5 := Lib.hid S5
  clear i4 m4 g4 n4 map5 gr5 hup hnone nB1 nB2 key4 b5 k5 o5 c0 c1 c2 c3 c4 S4 S5
  go_wp2_with fail
  go_region_held3 (fun W => W.cell? ⟨b, 2, none⟩ = some (.slice ao4 l.xs.length cap4) ∧ W.cell? ⟨b, 3, none⟩ = some (.map (some mb4)) ∧ W.cell? ⟨w.heap.size, 0, none⟩ = some (.bool q.b) ∧ W.cell? ⟨w.heap.size, 1, none⟩ = some (.int .i64 q.n) ∧ W.cell? ⟨w.heap.size, 2, none⟩ = some (.string q.t))
    (first
      | assumption
      | exact HS4.out
      | exact HS5.out)
    (fail)
  obtain ⟨b5, k5, o5⟩ := H5.out
  have hrow : [It.cells (q, x)] = [(q, x)].map It.cells := rfl
  have hO : ∀ (o : Obj), Hid (Owns (w5.drew.alloc o) 88 4 (.slice ao4 l.xs.length cap4) (l.xs.map It.cells)) := fun o => o5.kept fun g e => Below.heap_alloc _ _ _ (o5.lt e)
  have hL : Hid (Lies (w5.drew.alloc (.cells #[.bool q.b, .int .i64 q.n, .string q.t, .int .i64 x] 88)) 4 (some ⟨w5.heap.size, 0, none⟩) [It.cells (q, x)]) := lies_new w5.drew (It.cells (q, x)) 88 rfl
  have hR1 : Hid ((l.xs.map It.cells).length + [It.cells (q, x)].length ≤ maxLen) := by show _ ≤ _; unfold maxLen; simp; omega
  have hR2 : Hid (((l.xs.map It.cells).length + [It.cells (q, x)].length) * 40 ≤ 140737488355328) := by show _ ≤ _; simp; omega
  have hR3 : Hid ((l.xs.map It.cells ++ [It.cells (q, x)]).length = l.xs.length + 1) := by show _ = _; simp
  have hB : ∀ (o : Obj), Hid ((w5.drew.alloc o).heap[b]? = some (.cells #[.bool true, .bool false, .slice ao4 l.xs.length cap4, .map (some mb4), .int .i64 l.nx] 61 (0, 0)) ∧ b < (w5.drew.alloc o).heap.size) := fun o => ⟨alloc_blk (w := w5.drew) b5 o, by have := lt_of_block b5; simp; omega⟩
  have hX : ∀ (o : Obj), Hid ((w5.drew.alloc o).heap[w.heap.size]? = some (KB q.b q.n q.t) ∧ w.heap.size < (w5.drew.alloc o).heap.size) := fun o => ⟨alloc_blk (w := w5.drew) k5 o, by have := lt_of_block k5; simp; omega⟩
  have hN1 : Hid ((some b : Option Nat) ≠ (Value.slice ao4 l.xs.length cap4).ownBlock) := fun e => H4.out.1.ne1 e.symm
  have hN2 : Hid ((some w.heap.size : Option Nat) ≠ (Value.slice ao4 l.xs.length cap4).ownBlock) := fun e => H4.out.2.2.2.2.2.2.2.1 e.symm
  have hb5 := lt_of_block b5
  have hk5 := lt_of_block k5
  obtain ⟨c0, c1, c2, c3, c4⟩ := cells5 b5
  obtain ⟨a0, a1, a2⟩ := cells3 k5
  have H5' := H5
  clear b5 k5 o5 hup' c0 c1 c3 c4
  go_wp2_with fail
  go_region_law (refine step_append_rows rfl (.tmp 58) (.tmp 62) 58 rfl 88 _ 4 40 Tryd.underlying58 info88 rfl (by decide) (.slice ao4 l.xs.length cap4) (l.xs.map It.cells) (by simp [Act.eval]) (hO _).out (some ⟨w5.heap.size, 0, none⟩) 1 1 [It.cells (q, x)] (by simp [Act.eval]) rfl (fun e => by cases e) hL.out (by simp [It.cells, Value.oneCell']) (by simp [It.cells]) hR1.out hR2.out ?_; intro v6 w6 o6 g6 b6; obtain ⟨ao6, cap6, hv6, -⟩ := o6.any; rw [hR3.out] at hv6; subst hv6; have B6 := Lib.hid ((g6.block b (hB _).out.2 hN1.out).trans (hB _).out.1); have X6 := Lib.hid ((g6.block w.heap.size (hX _).out.2 hN2.out).trans (hX _).out.1); have z2 := cell_blk B6.out 2; have ff := free_blk B6.out 2; simp at z2; have O6 := Lib.hid o6; have G6 := Lib.hid g6; have V6 := Lib.hid b6; clear o6 g6 b6)
  all_goals
    have P7 : SetIn w (w6.setCell ⟨b, 2, none⟩ (.slice ao6 (l.xs.length + 1) cap6)) b sh (.slice ao l.xs.length cap) mb l q x (.slice ao6 (l.xs.length + 1) cap6) mb4 l.nx w.heap.size := by
      obtain ⟨i4, m4, g4, n4, map5, gr5, nB1, nB2, key4⟩ := H4.out
      have s3 := A3.out.below.size
      have hz5 : w4.heap.size ≤ w5.heap.size := gr5.size
      have hz4 : W3.heap.size ≤ w4.heap.size := m4.size
      have hV : (Value.slice ao6 (l.xs.length + 1) cap6).ownBlock = (Value.slice ao4 l.xs.length cap4).ownBlock ∨ ∃ k, (Value.slice ao6 (l.xs.length + 1) cap6).ownBlock = some k ∧ w5.heap.size ≤ k := by
        rcases V6.out with h | ⟨j, h, hj⟩
        · exact .inl h
        · exact .inr ⟨j, h, by simp at hj; omega⟩
      have hmb5 := map5.lt
      have e1 : (Value.slice ao6 (l.xs.length + 1) cap6).ownBlock ≠ some b := by
        rcases hV with h | ⟨j, h, hj⟩
        · rw [h]; exact i4.ne1
        · rw [h]; intro e; cases e; omega
      have e3 : (Value.slice ao6 (l.xs.length + 1) cap6).ownBlock ≠ some mb4 := by
        rcases hV with h | ⟨j, h, hj⟩
        · rw [h]; exact i4.ne3
        · rw [h]; intro e; cases e; omega
      have hmod6 : Mod (fun k => (Value.slice ao4 l.xs.length cap4).ownBlock = some k) w5 w6 := ((Mod.refl _ w5).drew.alloc _).grown G6.out (fun _ e _ => e)
      refine ⟨by have := set_blk B6.out 2 (.slice ao6 (l.xs.length + 1) cap6); simpa using this, ?_, ?_, set_other X6.out (fun e => by have e' : w.heap.size = b := e; omega), e1, i4.ne2, e3, by omega, ?_, .inr ⟨rfl, fun g e => ?_, ?_⟩⟩
      · have o := O6.out
        rw [List.map_append]
        exact o.kept (fun g e => Below.heap_setCell _ _ _ _ (fun c => e1 (by rw [e, c])))
      · rw [placeF_snoc HF.out.2.1]
        exact (map5.mod hmod6 (fun e => i4.ne3 e)).kept (Below.heap_setCell _ _ _ _ i4.ne2)
      · have m3 : Mod (Foot b sh (.slice ao l.xs.length cap) mb) w W3 := Mod.of_below A3.out.below
        have m34 := m3.trans' m4 (fun k _ e => .inl e)
        have m45 : Mod (Foot b sh (.slice ao l.xs.length cap) mb) w w5 := (m34.drewN 1).grown gr5 (fun k e hk => by
          cases e
          rcases n4 with h | ⟨h1, h2⟩
          · omega
          · exact .inr ⟨h1, .inr h2⟩)
        have m56 := m45.trans' hmod6 (fun k hk e => by
          rcases g4 k e with h | ⟨h1, h2⟩
          · omega
          · exact .inr ⟨h1, .inl h2⟩)
        exact m56.setCell _ _ (fun _ => .inl rfl)
      · rcases hV with h | ⟨j, h, hj⟩
        · rw [h] at e
          rcases g4 g e with h' | h'
          · exact .inl (by omega)
          · exact .inr h'
        · rw [h] at e; cases e; exact .inl (by omega)
      · rcases n4 with h | h
        · exact .inl (by omega)
        · exact .inr h
    generalize w6.setCell ⟨b, 2, none⟩ (.slice ao6 (l.xs.length + 1) cap6) = W7 at P7 ⊢
    clear B6 X6 z2 ff O6 G6 V6
    obtain ⟨d0, d1, d2, d3, d4⟩ := cells5 P7.blk
    obtain ⟨y0, y1, y2⟩ := cells3 P7.key
    have ff4 := free_blk P7.blk 4
    have P := Lib.hid P7
    clear P7 hO hL hR1 hR2 hR3 hB hX hN1 hN2 hb5 hk5 c2 a0 a1 a2 H5'
  all_goals
    by_cases hqb : q.b = true
    · have hn : Hid (l.nx = nextP q l.nx) := by show _ = _; unfold nextP; rw [if_neg (by rw [hqb]; simp)]
      go_wp2_with fail
      go_quiet (fail)
      go_wp2_with fail
      go_ret
      exact (P.out.drewN _).done HNN.out.1 HNN.out.2 HF.out.2.1 hl hn.out
    · have hqb' : q.b = false := by cases h : q.b with | true => exact absurd h hqb | false => rfl
      clear hqb
      by_cases h0 : 0 ≤ l.nx
      · by_cases h1 : l.nx ≤ q.n
        · by_cases h2 : q.n = 9223372036854775807
          · have hn : Hid (-1 = nextP q l.nx) := by show _ = _; unfold nextP; rw [if_pos ⟨hqb', h0, h1⟩, if_pos h2]
            have hw : IntKind.i64.wrap (q.n + 1) = -9223372036854775808 := by rw [h2]; decide
            have hw' : wrap64 (q.n + 1) = -9223372036854775808 := by rw [h2]; unfold wrap64; omega
            have HX := Lib.hid h2
            clear h2
            go_wp2_with fail
            go_quiet (fail)
            go_wp2_with fail
            go_ret
            exact (((P.out.drewN _).next _).next _).done HNN.out.1 HNN.out.2 HF.out.2.1 hl hn.out
          · have hn : Hid (q.n + 1 = nextP q l.nx) := by show _ = _; unfold nextP; rw [if_pos ⟨hqb', h0, h1⟩, if_neg h2]
            have hqhi := HF.out.1.hi
            have hw : IntKind.i64.wrap (q.n + 1) = q.n + 1 := wrap_in (by omega) (by omega)
            have hw' : wrap64 (q.n + 1) = q.n + 1 := wrap64_in' (by omega) (by omega)
            have g3 : decide (q.n + 1 < 0) = false := by simp; omega
            clear h2
            go_wp2_with fail
            go_quiet (fail)
            go_wp2_with fail
            go_ret
            exact ((P.out.drewN _).next _).done HNN.out.1 HNN.out.2 HF.out.2.1 hl hn.out
        · have hn : Hid (l.nx = nextP q l.nx) := by show _ = _; unfold nextP; rw [if_neg (by omega)]
          have g0 : decide (0 ≤ l.nx) = true := by simp [h0]
          have g1 : decide (l.nx ≤ q.n) = false := by simp; omega
          clear h1
          go_wp2_with fail
          go_quiet (fail)
          go_wp2_with fail
          go_ret
          exact (P.out.drewN _).done HNN.out.1 HNN.out.2 HF.out.2.1 hl hn.out
      · have hn : Hid (l.nx = nextP q l.nx) := by show _ = _; unfold nextP; rw [if_neg (by omega)]
        have g0 : decide (0 ≤ l.nx) = false := by simp; omega
        clear h0
        go_wp2_with fail
        go_quiet (fail)
        go_wp2_with fail
        go_ret
        exact (P.out.drewN _).done HNN.out.1 HNN.out.2 HF.out.2.1 hl hn.out

theorem set_any {b : Nat} {sh : Bool} {v : Value} {mb : Nat} {l : LS} {k : K} (x : Int) (hk : k.Good) (w : World) (ht : Tabs w) (i : ListIs w b sh v mb l) :
    Calls Tryd.prog 19 #[.pointer (some ⟨b, 0, none⟩), k.v, .int .i64 x] w (SetPost w b sh v mb (setP k x l)) := by
  unfold setP setN
  cases hf : findK k.norm l.xs with
  | some j => exact set_found x hk hf (findK_lt hf) w ht i
  | none =>
    simp only
    by_cases hl : 2048 ≤ l.xs.length
    · rw [if_pos hl]; exact set_full x hk hf hl w ht i
    · rw [if_neg hl]; exact set_new x hk hf (by omega) w ht i
theorem set_nil (k : K) (x : Int) (w : World) : Calls Tryd.prog 19 #[.pointer none, k.v, .int .i64 x] w fun e w' => e = .returned (.int .i64 5) ∧ Below w.heap.size w w' := by
  unfold K.v
  go_enter Tryd.func19, Tryd.ntmps19
  go_wp2_with (go_at_call 51; refine (lok_nil _).mono ?_; rintro e w' ⟨rfl, rfl⟩)
  go_ret
  exact ⟨rfl, below_alloc1 _ _⟩
end Go.Proofs.YtgpdhmgbmhfooaaDoor
