/-
  A stack of buffers in memory: the bottom turns; a buffer more; a buffer less.
-/
import Derived.Test.YtoomffplaopijaaStack12
namespace Go.Proofs.Ytoomffplaopijaa
open Go.RowKit

/-- The bottom turns, or the stack's own numbers. -/
theorem StackIs.setBottom {w w' : World} {b : Nat} {fv : Value} {hf : Bool} {h : Shape} {s s' : Sk} (i : StackIs w b fv hf h s) (bv' : Value)
    (m : Mod (fun j => j = b ∨ h.bv.ownBlock = some j) w w')
    (hblk : w'.heap[b]? = some (.cells #[.bool true, fv, h.vb, bv', .int .i64 s'.mark, .int .i64 s'.first, .int .i64 (s'.total : Int)] 50 (0, 0)))
    (ht : OwnsB w' 5 bv' s'.bottom) (ho : bv'.ownBlock = h.bv.ownBlock ∨ bv'.ownBlock = none ∨ ∃ j, bv'.ownBlock = some j ∧ w.heap.size ≤ j)
    (hs1 : s'.bufs = s.bufs) (hok : Ok hf s') : Left w b fv hf h s' w' := by
  have hF : ∀ l j, h.own b l = some j → l ≠ (0, 0) → l ≠ (2, 0) → ¬ (j = b ∨ h.bv.ownBlock = some j) := by
    intro l j e n0 n2 hh
    rcases hh with rfl | hh
    · exact n0 (i.sep _ _ _ e (own_00 h _))
    · exact n2 (i.sep _ _ _ e ((own_20 h b).trans hh))
  have hother : ∀ l, l ≠ (2, 0) → Shape.own { h with bv := bv' } b l = h.own b l := by
    intro l hl
    unfold Shape.own
    by_cases e2 : l.1 = 2
    · have : l.2 ≠ 0 := fun e => hl (by cases l; simp_all)
      simp only [e2, if_neg this]
    · simp only [if_neg e2]
  refine ⟨{ h with bv := bv' }, ⟨i.fn, hblk, i.rows.mod m (fun g e => hF (1, 0) g (by rw [own_10]; exact e) (by simp) (by simp)), ht, ?_, ?_, ?_, hok⟩, m.mono (fun j hj hh => ?_), fun j ⟨l, e⟩ => ?_⟩
  · rw [hs1]; exact i.len
  · intro t y g hy hg
    rw [hs1] at hg
    obtain ⟨a1, a2⟩ := i.each t y g hy hg
    have hy' : h.xs[t]? = some y := hy
    exact ⟨m.blk a1 (hF (3, t) _ (by rw [own_3, hy']; rfl) (by simp) (by simp)), Owns.mod a2 m (fun q eq => hF (4, t) q (by rw [own_4, hy']; exact eq) (by simp) (by simp))⟩
  · refine i.sep.upd w.heap.size i.lt (2, 0) (fun l hl => .inl (hother l hl)) ?_
    rw [own_20, own_20]
    exact ho
  · rcases hh with rfl | hh
    · exact ⟨(0, 0), own_00 h _⟩
    · exact ⟨(2, 0), (own_20 h b).trans hh⟩
  · by_cases e2 : l = (2, 0)
    · subst e2
      rw [own_20] at e
      rcases ho with h1 | h1 | ⟨q, h1, h2⟩
      · exact .inl ⟨(2, 0), by rw [own_20, ← h1]; exact e⟩
      · rw [h1] at e; cases e
      · rw [h1] at e; cases e; exact .inr h2
    · rw [hother l e2] at e
      exact .inl ⟨l, e⟩

/-- A buffer less. -/
theorem StackIs.less {w w' : World} {b : Nat} {fv : Value} {hf : Bool} {h : Shape} {s s' : Sk} (i : StackIs w b fv hf h s) (vb' : Value) (n : Nat)
    (m : Mod (fun j => j = b) w w')
    (hblk : w'.heap[b]? = some (.cells #[.bool true, fv, vb', h.bv, .int .i64 s'.mark, .int .i64 s'.first, .int .i64 (s'.total : Int)] 50 (0, 0)))
    (hv : vb'.ownBlock = h.vb.ownBlock) (hr : Owns w' 54 1 vb' (rowOf (h.xs.take n)))
    (hs1 : s'.bufs = s.bufs.take n) (hs2 : s'.bottom = s.bottom) (hok : Ok hf s') : Left w b fv hf h s' w' := by
  have hF : ∀ l j, h.own b l = some j → l ≠ (0, 0) → ¬ (j = b) := by
    intro l j e n0 hh
    subst hh
    exact n0 (i.sep _ _ _ e (own_00 h _))
  have hother : ∀ l, Shape.own { h with vb := vb', xs := h.xs.take n } b l = h.own b l ∨ Shape.own { h with vb := vb', xs := h.xs.take n } b l = none := by
    intro ⟨a, c⟩
    match a with
    | 0 => left; rfl
    | 1 => left; show (if c = 0 then vb'.ownBlock else none) = (if c = 0 then h.vb.ownBlock else none); rw [hv]
    | 2 => left; rfl
    | 3 =>
      show ((h.xs.take n)[c]?).map Bx.p = (h.xs[c]?).map Bx.p ∨ ((h.xs.take n)[c]?).map Bx.p = none
      by_cases hc : c < n
      · left; rw [List.getElem?_take, if_pos hc]
      · right; rw [List.getElem?_take, if_neg hc]; rfl
    | 4 =>
      show ((h.xs.take n)[c]?).bind (fun x => x.tv.ownBlock) = (h.xs[c]?).bind (fun x => x.tv.ownBlock) ∨ ((h.xs.take n)[c]?).bind (fun x => x.tv.ownBlock) = none
      by_cases hc : c < n
      · left; rw [List.getElem?_take, if_pos hc]
      · right; rw [List.getElem?_take, if_neg hc]; rfl
    | _ + 5 => left; rfl
  refine ⟨{ h with vb := vb', xs := h.xs.take n }, ⟨i.fn, hblk, hr, ?_, ?_, ?_, i.sep.sub hother, hok⟩, m.mono (fun j hj hh => ?_), fun j ⟨l, e⟩ => ?_⟩
  · show OwnsB w' 5 h.bv s'.bottom
    rw [hs2]
    exact Owns.mod i.bot m (fun g e => hF (2, 0) g (by rw [own_20]; exact e) (by simp))
  · show (h.xs.take n).length = _
    rw [hs1, List.length_take, List.length_take, i.len]
  · intro t y g hy hg
    have hy' : (h.xs.take n)[t]? = some y := hy
    rw [hs1, List.getElem?_take] at hg
    rw [List.getElem?_take] at hy'
    split at hy'
    · rename_i hlt
      rw [if_pos hlt] at hg
      obtain ⟨a1, a2⟩ := i.each t y g hy' hg
      exact ⟨m.blk a1 (hF (3, t) _ (by rw [own_3, hy']; rfl) (by simp)), Owns.mod a2 m (fun q eq => hF (4, t) q (by rw [own_4, hy']; exact eq) (by simp))⟩
    · cases hy'
  · subst hh
    exact ⟨(0, 0), own_00 h _⟩
  · rcases hother l with h1 | h1
    · exact .inl ⟨l, by rw [← h1]; exact e⟩
    · rw [h1] at e; cases e

/-- A buffer more. -/
theorem StackIs.more {w w' : World} {b : Nat} {fv : Value} {hf : Bool} {h : Shape} {s s' : Sk} (i : StackIs w b fv hf h s) (vb' : Value) (p : Nat) (name : Bs)
    (m : Mod (fun j => j = b ∨ h.vb.ownBlock = some j) w w') (hp : w.heap.size ≤ p)
    (hblk : w'.heap[b]? = some (.cells #[.bool true, fv, vb', h.bv, .int .i64 s'.mark, .int .i64 s'.first, .int .i64 (s'.total : Int)] 50 (0, 0)))
    (hbuf : w'.heap[p]? = some (.cells #[.string (str name), .slice none 0 0] 57 (0, 0)))
    (hv : vb'.ownBlock = h.vb.ownBlock ∨ ∃ j, vb'.ownBlock = some j ∧ p < j) (hr : Owns w' 54 1 vb' (rowOf (h.xs ++ [⟨p, .slice none 0 0⟩])))
    (hs1 : s'.bufs = s.bufs ++ [⟨name, []⟩]) (hs2 : s'.bottom = s.bottom) (hok : Ok hf s') : Left w b fv hf h s' w' := by
  have hF : ∀ l j, h.own b l = some j → l ≠ (0, 0) → l ≠ (1, 0) → ¬ (j = b ∨ h.vb.ownBlock = some j) := by
    intro l j e n0 n1 hh
    rcases hh with rfl | hh
    · exact n0 (i.sep _ _ _ e (own_00 h _))
    · exact n1 (i.sep _ _ _ e ((own_10 h b).trans hh))
  have hmid : ∀ l, l ≠ (3, h.xs.length) → Shape.own { h with xs := h.xs ++ [⟨p, .slice none 0 0⟩] } b l = h.own b l ∨ Shape.own { h with xs := h.xs ++ [⟨p, .slice none 0 0⟩] } b l = none := by
    intro l hl
    unfold Shape.own
    by_cases e3 : l.1 = 3
    · have hne : l.2 ≠ h.xs.length := fun e => hl (by cases l; simp_all)
      simp only [e3]
      by_cases hlt : l.2 < h.xs.length
      · left; rw [List.getElem?_append_left hlt]
      · right; rw [List.getElem?_eq_none (by simp; omega)]; rfl
    · by_cases e4 : l.1 = 4
      · simp only [e4]
        by_cases hlt : l.2 < h.xs.length
        · left; rw [List.getElem?_append_left hlt]
        · right
          by_cases hlt2 : l.2 = h.xs.length
          · rw [hlt2, List.getElem?_append_right (Nat.le_refl _), Nat.sub_self]; rfl
          · rw [List.getElem?_eq_none (by simp; omega)]; rfl
      · simp only [if_neg e3, if_neg e4]; left; trivial
  have h3 : Shape.own { h with xs := h.xs ++ [⟨p, .slice none 0 0⟩] } b (3, h.xs.length) = some p := by
    rw [own_3]
    show ((h.xs ++ [⟨p, .slice none 0 0⟩])[h.xs.length]?).map Bx.p = _
    rw [List.getElem?_append_right (Nat.le_refl _), Nat.sub_self]; rfl
  have sep1 : Sep (Shape.own { h with xs := h.xs ++ [⟨p, .slice none 0 0⟩] } b) := i.sep.upd w.heap.size i.lt (3, h.xs.length) hmid (.inr (.inr ⟨p, h3, hp⟩))
  have lt1 : ∀ l k, Shape.own { h with xs := h.xs ++ [⟨p, .slice none 0 0⟩] } b l = some k → k < p + 1 := by
    intro l k e
    by_cases hl : l = (3, h.xs.length)
    · subst hl; rw [h3] at e; cases e; omega
    · rcases hmid l hl with h1 | h1
      · rw [h1] at e; have := i.lt l k e; omega
      · rw [h1] at e; cases e
  have hlast : ∀ l, l ≠ (1, 0) → Shape.own { h with vb := vb', xs := h.xs ++ [⟨p, .slice none 0 0⟩] } b l = Shape.own { h with xs := h.xs ++ [⟨p, .slice none 0 0⟩] } b l := by
    intro l hl
    unfold Shape.own
    by_cases e1 : l.1 = 1
    · have : l.2 ≠ 0 := fun e => hl (by cases l; simp_all)
      simp only [e1, if_neg this]
    · simp only [if_neg e1]
  refine ⟨{ h with vb := vb', xs := h.xs ++ [⟨p, .slice none 0 0⟩] }, ⟨i.fn, hblk, hr, ?_, ?_, ?_, ?_, hok⟩, m.mono (fun j hj hh => ?_), fun j ⟨l, e⟩ => ?_⟩
  · show OwnsB w' 5 h.bv s'.bottom
    rw [hs2]
    exact Owns.mod i.bot m (fun g e => hF (2, 0) g (by rw [own_20]; exact e) (by simp) (by simp))
  · show (h.xs ++ [_]).length = _
    rw [hs1, List.length_append, List.length_append, i.len]; rfl
  · intro t y g hy hg
    have hy' : (h.xs ++ [⟨p, .slice none 0 0⟩])[t]? = some y := hy
    rw [hs1] at hg
    by_cases hlt : t < h.xs.length
    · rw [List.getElem?_append_left hlt] at hy'
      rw [List.getElem?_append_left (by rw [← i.len]; exact hlt)] at hg
      obtain ⟨a1, a2⟩ := i.each t y g hy' hg
      exact ⟨m.blk a1 (hF (3, t) _ (by rw [own_3, hy']; rfl) (by simp) (by simp)), Owns.mod a2 m (fun q eq => hF (4, t) q (by rw [own_4, hy']; exact eq) (by simp) (by simp))⟩
    · have hl2 := (List.getElem?_eq_some_iff.1 hy').1
      simp at hl2
      obtain rfl : t = h.xs.length := by omega
      rw [List.getElem?_append_right (Nat.le_refl _), Nat.sub_self] at hy'
      rw [i.len, List.getElem?_append_right (Nat.le_refl _), Nat.sub_self] at hg
      simp at hy' hg
      subst hy'; subst hg
      exact ⟨hbuf, Owns.empty _ _ _⟩
  · refine sep1.upd (p + 1) lt1 (1, 0) (fun l hl => .inl (hlast l hl)) ?_
    rw [own_10, own_10]
    rcases hv with h1 | ⟨j, h1, h2⟩
    · exact .inl h1
    · exact .inr (.inr ⟨j, h1, h2⟩)
  · rcases hh with rfl | hh
    · exact ⟨(0, 0), own_00 h _⟩
    · exact ⟨(1, 0), (own_10 h b).trans hh⟩
  · by_cases e1 : l = (1, 0)
    · subst e1
      rw [own_10] at e
      rcases hv with h1 | ⟨q, h1, h2⟩
      · exact .inl ⟨(1, 0), by rw [own_10, ← h1]; exact e⟩
      · have e' : vb'.ownBlock = some j := e
        rw [h1] at e'; cases e'; exact .inr (by omega)
    · rw [hlast l e1] at e
      by_cases hl : l = (3, h.xs.length)
      · subst hl; rw [h3] at e; cases e; exact .inr hp
      · rcases hmid l hl with h1 | h1
        · rw [h1] at e; exact .inl ⟨l, e⟩
        · rw [h1] at e; cases e
end Go.Proofs.Ytoomffplaopijaa
