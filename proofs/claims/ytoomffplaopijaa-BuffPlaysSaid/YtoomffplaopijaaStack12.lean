/-
  A stack of buffers in memory, and what becomes of it where a part turns.
-/
import Derived.Test.YtoomffplaopijaaFilter12
import Derived.Test.YtoomffplaopijaaSep
namespace Go.Proofs.Ytoomffplaopijaa
open Go.RowKit

/-- A buffer's block, and its text's slice. -/
structure Bx where
  p : Nat
  tv : Value
structure Shape where
  vb : Value
  bv : Value
  xs : List Bx
def Shape.own (h : Shape) (b : Nat) : Own := fun l =>
  if l.1 = 0 then (if l.2 = 0 then some b else none)
  else if l.1 = 1 then (if l.2 = 0 then h.vb.ownBlock else none)
  else if l.1 = 2 then (if l.2 = 0 then h.bv.ownBlock else none)
  else if l.1 = 3 then (h.xs[l.2]?).map Bx.p
  else if l.1 = 4 then (h.xs[l.2]?).bind fun x => x.tv.ownBlock
  else none

/-- The filter that a stack was made with. -/
def FnIs (fv : Value) (hf : Bool) : Prop := (fv = .func (.func 10) #[] #[] ∧ hf = true) ∨ (fv = .nilFunc ∧ hf = false)

def rowOf (xs : List Bx) : List (List Value) := xs.map fun x => [.pointer (some ⟨x.p, 0, none⟩)]

structure StackIs (w : World) (b : Nat) (fv : Value) (hf : Bool) (h : Shape) (s : Sk) : Prop where
  fn : FnIs fv hf
  blk : w.heap[b]? = some (.cells #[.bool true, fv, h.vb, h.bv, .int .i64 s.mark, .int .i64 s.first, .int .i64 (s.total : Int)] 50 (0, 0))
  rows : Owns w 54 1 h.vb (rowOf h.xs)
  bot : OwnsB w 5 h.bv s.bottom
  len : h.xs.length = s.bufs.length
  each : ∀ (i : Nat) (x : Bx) (f : Bf), h.xs[i]? = some x → s.bufs[i]? = some f → w.heap[x.p]? = some (.cells #[.string (str f.name), x.tv] 57 (0, 0)) ∧ OwnsB w 5 x.tv f.text
  sep : Sep (h.own b)
  ok : Ok hf s

theorem own_00 (h : Shape) (b : Nat) : h.own b (0, 0) = some b := rfl
theorem own_10 (h : Shape) (b : Nat) : h.own b (1, 0) = h.vb.ownBlock := rfl
theorem own_20 (h : Shape) (b : Nat) : h.own b (2, 0) = h.bv.ownBlock := rfl
theorem own_3 (h : Shape) (b i : Nat) : h.own b (3, i) = (h.xs[i]?).map Bx.p := rfl
theorem own_4 (h : Shape) (b i : Nat) : h.own b (4, i) = (h.xs[i]?).bind fun x => x.tv.ownBlock := rfl

theorem StackIs.pair {w : World} {b : Nat} {fv : Value} {hf : Bool} {h : Shape} {s : Sk} (i : StackIs w b fv hf h s) {k : Nat} {x : Bx} (hx : h.xs[k]? = some x) : ∃ f, s.bufs[k]? = some f := by
  have : k < s.bufs.length := by rw [← i.len]; exact (List.getElem?_eq_some_iff.1 hx).1
  exact ⟨_, List.getElem?_eq_getElem this⟩

theorem StackIs.lt {w : World} {b : Nat} {fv : Value} {hf : Bool} {h : Shape} {s : Sk} (i : StackIs w b fv hf h s) (l : Nat × Nat) (k : Nat) (e : h.own b l = some k) : k < w.heap.size := by
  unfold Shape.own at e
  split at e
  · split at e
    · cases e; exact lt_of_block i.blk
    · cases e
  · split at e
    · split at e
      · exact i.rows.lt e
      · cases e
    · split at e
      · split at e
        · exact i.bot.lt e
        · cases e
      · split at e
        · cases hx : h.xs[l.2]? with
          | none => rw [hx] at e; cases e
          | some x =>
            rw [hx] at e; cases e
            obtain ⟨f, hf'⟩ := i.pair hx
            exact lt_of_block (i.each _ _ _ hx hf').1
        · split at e
          · cases hx : h.xs[l.2]? with
            | none => rw [hx] at e; cases e
            | some x =>
              rw [hx] at e
              obtain ⟨f, hf'⟩ := i.pair hx
              exact (i.each _ _ _ hx hf').2.lt e
          · cases e

/-- Where nothing of it turns it stands. -/
theorem StackIs.mod {F : Nat → Prop} {w w' : World} {b : Nat} {fv : Value} {hf : Bool} {h : Shape} {s : Sk} (i : StackIs w b fv hf h s) (m : Mod F w w') (hF : ∀ l k, h.own b l = some k → ¬ F k) : StackIs w' b fv hf h s :=
  ⟨i.fn, m.blk i.blk (hF _ _ (own_00 h b)), i.rows.mod m (fun g e => hF (1, 0) g (by rw [own_10]; exact e)), Owns.mod i.bot m (fun g e => hF (2, 0) g (by rw [own_20]; exact e)), i.len,
    fun k x f hx hf' => ⟨m.blk (i.each k x f hx hf').1 (hF (3, k) _ (by rw [own_3, hx]; rfl)), Owns.mod (i.each k x f hx hf').2 m (fun g e => hF (4, k) g (by rw [own_4, hx]; exact e))⟩, i.sep, i.ok⟩
theorem StackIs.stay {w w' : World} {b : Nat} {fv : Value} {hf : Bool} {h : Shape} {s : Sk} (i : StackIs w b fv hf h s) (m : Mod (fun _ => False) w w') : StackIs w' b fv hf h s := i.mod m (fun _ _ _ x => x)
theorem StackIs.stayB {w w' : World} {b : Nat} {fv : Value} {hf : Bool} {h : Shape} {s : Sk} (i : StackIs w b fv hf h s) (m : Below w.heap.size w w') : StackIs w' b fv hf h s := i.stay (Mod.of_below m)

/-- What a step leaves: the stack in its new state; nothing else of what was there has turned; its blocks are its old ones, or new ones. -/
def Left (w : World) (b : Nat) (fv : Value) (hf : Bool) (h : Shape) (s' : Sk) (w' : World) : Prop :=
  ∃ h', StackIs w' b fv hf h' s' ∧ Mod (h.own b).fp w w' ∧ ∀ k, (h'.own b).fp k → (h.own b).fp k ∨ w.heap.size ≤ k

theorem Left.refl {w : World} {b : Nat} {fv : Value} {hf : Bool} {h : Shape} {s : Sk} (i : StackIs w b fv hf h s) : Left w b fv hf h s w := ⟨h, i, Mod.refl _ _, fun _ x => .inl x⟩
theorem Left.below {w w' : World} {b : Nat} {fv : Value} {hf : Bool} {h : Shape} {s : Sk} (i : StackIs w b fv hf h s) (m : Below w.heap.size w w') : Left w b fv hf h s w' := ⟨h, i.stayB m, Mod.of_below m, fun _ x => .inl x⟩
theorem Left.trans {w w1 w2 : World} {b : Nat} {fv : Value} {hf : Bool} {h h1 : Shape} {s2 : Sk} (m1 : Mod (h.own b).fp w w1) (f1 : ∀ k, (h1.own b).fp k → (h.own b).fp k ∨ w.heap.size ≤ k) (l : Left w1 b fv hf h1 s2 w2) : Left w b fv hf h s2 w2 := by
  obtain ⟨h2, i2, m2, f2⟩ := l
  refine ⟨h2, i2, m1.trans' m2 (fun i hi x => ?_), fun k x => ?_⟩
  · rcases f1 i x with h | h
    · exact h
    · omega
  · rcases f2 k x with h | h
    · exact f1 k h
    · exact .inr (Nat.le_trans m1.size h)

/-- A text turns: the k-th buffer's. -/
theorem StackIs.setText {w w' : World} {b : Nat} {fv : Value} {hf : Bool} {h : Shape} {s s' : Sk} (i : StackIs w b fv hf h s) {k : Nat} {x : Bx} {f : Bf} (hx : h.xs[k]? = some x) (hfk : s.bufs[k]? = some f) (tv' : Value) (t' : Bs)
    (m : Mod (fun j => j = b ∨ x.tv.ownBlock = some j ∨ j = x.p) w w')
    (hblk : w'.heap[b]? = some (.cells #[.bool true, fv, h.vb, h.bv, .int .i64 s'.mark, .int .i64 s'.first, .int .i64 (s'.total : Int)] 50 (0, 0)))
    (hbuf : w'.heap[x.p]? = some (.cells #[.string (str f.name), tv'] 57 (0, 0))) (ht : OwnsB w' 5 tv' t') (ho : tv'.ownBlock = x.tv.ownBlock ∨ tv'.ownBlock = none ∨ ∃ j, tv'.ownBlock = some j ∧ w.heap.size ≤ j)
    (hs1 : s'.bufs = s.bufs.set k ⟨f.name, t'⟩) (hs2 : s'.bottom = s.bottom) (hok : Ok hf s') : Left w b fv hf h s' w' := by
  have l3 : h.own b (3, k) = some x.p := by rw [own_3, hx]; rfl
  have l4 : h.own b (4, k) = x.tv.ownBlock := by rw [own_4, hx]; rfl
  have hF : ∀ l j, h.own b l = some j → l ≠ (0, 0) → l ≠ (3, k) → l ≠ (4, k) → ¬ (j = b ∨ x.tv.ownBlock = some j ∨ j = x.p) := by
    intro l j e n0 n3 n4 hh
    rcases hh with rfl | hh | rfl
    · exact n0 (i.sep _ _ _ e (own_00 h _))
    · exact n4 (i.sep _ _ _ e (l4.trans hh))
    · exact n3 (i.sep _ _ _ e l3)
  have hk : k < h.xs.length := (List.getElem?_eq_some_iff.1 hx).1
  have hkb : k < s.bufs.length := by rw [← i.len]; exact hk
  have hother : ∀ l, l ≠ (4, k) → Shape.own { h with xs := h.xs.set k ⟨x.p, tv'⟩ } b l = h.own b l := by
    intro l hl
    unfold Shape.own
    by_cases e3 : l.1 = 3
    · simp only [e3, if_true]
      by_cases e : l.2 = k
      · rw [e, List.getElem?_set_self hk, hx]; rfl
      · rw [List.getElem?_set_ne (fun x => e x.symm)]
    · by_cases e4 : l.1 = 4
      · have : l.2 ≠ k := fun e => hl (by cases l; simp_all)
        simp only [e4]
        rw [List.getElem?_set_ne (fun x => this x.symm)]
      · simp only [if_neg e3, if_neg e4]
  have hself : Shape.own { h with xs := h.xs.set k ⟨x.p, tv'⟩ } b (4, k) = tv'.ownBlock := by
    rw [own_4]
    show ((h.xs.set k ⟨x.p, tv'⟩)[k]?).bind _ = _
    rw [List.getElem?_set_self hk]; rfl
  refine ⟨{ h with xs := h.xs.set k ⟨x.p, tv'⟩ }, ⟨i.fn, hblk, ?_, ?_, ?_, ?_, ?_, hok⟩, m.mono (fun j hj hh => ?_), fun j ⟨l, e⟩ => ?_⟩
  · have : rowOf (h.xs.set k ⟨x.p, tv'⟩) = rowOf h.xs := by
      unfold rowOf
      apply List.ext_getElem?
      intro t
      rw [List.getElem?_map, List.getElem?_map]
      by_cases e : t = k
      · subst e; rw [List.getElem?_set_self hk, hx]; rfl
      · rw [List.getElem?_set_ne (fun x => e x.symm)]
    show Owns w' 54 1 h.vb (rowOf (h.xs.set k ⟨x.p, tv'⟩))
    rw [this]
    exact i.rows.mod m (fun g e => hF (1, 0) g (by rw [own_10]; exact e) (by simp) (by simp) (by simp))
  · show OwnsB w' 5 h.bv s'.bottom
    rw [hs2]
    exact Owns.mod i.bot m (fun g e => hF (2, 0) g (by rw [own_20]; exact e) (by simp) (by simp) (by simp))
  · show (h.xs.set k ⟨x.p, tv'⟩).length = s'.bufs.length
    rw [hs1, List.length_set, List.length_set]; exact i.len
  · intro t y g hy hg
    have hy' : (h.xs.set k ⟨x.p, tv'⟩)[t]? = some y := hy
    rw [hs1] at hg
    by_cases e : t = k
    · subst e
      rw [List.getElem?_set_self hk] at hy'
      rw [List.getElem?_set_self hkb] at hg
      cases hy'; cases hg
      exact ⟨hbuf, ht⟩
    · rw [List.getElem?_set_ne (fun x => e x.symm)] at hy' hg
      obtain ⟨a1, a2⟩ := i.each t y g hy' hg
      exact ⟨m.blk a1 (hF (3, t) _ (by rw [own_3, hy']; rfl) (by simp) (by simp; exact e) (by simp)), Owns.mod a2 m (fun q eq => hF (4, t) q (by rw [own_4, hy']; exact eq) (by simp) (by simp) (by simp; exact e))⟩
  · refine i.sep.upd w.heap.size i.lt (4, k) (fun l hl => .inl (hother l hl)) ?_
    rw [hself, l4]
    exact ho
  · rcases hh with rfl | hh | rfl
    · exact ⟨(0, 0), own_00 h _⟩
    · exact ⟨(4, k), l4.trans hh⟩
    · exact ⟨(3, k), l3⟩
  · by_cases e4 : l = (4, k)
    · subst e4
      rw [hself] at e
      rcases ho with h1 | h1 | ⟨q, h1, h2⟩
      · exact .inl ⟨(4, k), by rw [l4, ← h1]; exact e⟩
      · rw [h1] at e; cases e
      · rw [h1] at e; cases e; exact .inr h2
    · rw [hother l e4] at e
      exact .inl ⟨l, e⟩
end Go.Proofs.Ytoomffplaopijaa
