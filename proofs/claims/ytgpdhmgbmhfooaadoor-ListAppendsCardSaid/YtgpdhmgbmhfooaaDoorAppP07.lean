/-
  ListAppends as plain data: the greatest number that ever was a key; which keys are left.
-/
import Derived.Test.YtgpdhmgbmhfooaaDoorDelP07
namespace Go.Proofs.YtgpdhmgbmhfooaaDoor
open Go.RowKit

/-- All numbers that ever were keys are below the next one, while there is a next one. -/
def AJ (l : LS) (m : Int) : Prop := 0 ≤ l.nx → m < l.nx ∧ ∀ x ∈ l.xs, x.1.b = false → x.1.n < l.nx
theorem AJ.new : AJ LS.new (-1) := fun _ => ⟨by show (-1 : Int) < 0; omega, fun x hx => by simp [LS.new] at hx⟩
theorem nextP_keeps {q : K} {nx : Int} (h : 0 ≤ nextP q nx) : 0 ≤ nx ∧ nx ≤ nextP q nx ∧ (q.b = false → q.n < nextP q nx) := by
  unfold nextP at h ⊢
  split at h
  · rename_i hc
    obtain ⟨hb, h0, hle⟩ := hc
    split at h
    · omega
    · rw [if_pos ⟨hb, h0, hle⟩, if_neg (by assumption)]
      exact ⟨h0, by omega, fun _ => by omega⟩
  · rename_i hc
    rw [if_neg hc]
    refine ⟨h, Int.le_refl _, fun hb => ?_⟩
    rcases Int.lt_or_le q.n nx with h2 | h2
    · exact h2
    · exact absurd ⟨hb, h, h2⟩ hc
theorem AJ.setN {l : LS} {m : Int} (h : AJ l m) (q : K) (v : Int) : AJ (setN q v l).2 (if (setN q v l).1 = 0 ∧ q.b = false then max m q.n else m) := by
  unfold Go.Proofs.YtgpdhmgbmhfooaaDoor.setN
  cases hf : findK q l.xs with
  | some i =>
    have hi := findK_lt hf
    have hat := findK_at hf
    simp only [true_and]
    intro h0
    obtain ⟨h1, h2⟩ := h h0
    have hx : q.b = false → q.n < l.nx := fun hb => by
      have := h2 l.xs[i] (List.getElem_mem hi)
      rw [hat] at this
      exact this hb
    refine ⟨?_, fun x hx' hb => ?_⟩
    · show (if q.b = false then max m q.n else m) < l.nx
      split
      · have := hx (by assumption); omega
      · exact h1
    · rcases List.mem_or_eq_of_mem_set hx' with hx' | rfl
      · exact h2 x hx' hb
      · exact hx hb
  | none =>
    simp only
    split
    · rw [if_neg (by simp)]; exact h
    · simp only [true_and]
      intro h0
      obtain ⟨g0, g1, g2⟩ := nextP_keeps (nx := l.nx) h0
      obtain ⟨h1, h2⟩ := h g0
      refine ⟨?_, fun x hx hb => ?_⟩
      · show (if q.b = false then max m q.n else m) < nextP q l.nx
        split
        · have := g2 (by assumption); omega
        · omega
      · rcases List.mem_append.1 hx with hx | hx
        · have := h2 x hx hb
          show x.1.n < nextP q l.nx
          omega
        · rw [List.mem_singleton.1 hx] at hb ⊢
          exact g2 hb
theorem AJ.del {l : LS} {m : Int} (h : AJ l m) (k : K) : AJ (delP k l).2 m := by
  unfold delP
  split
  · exact fun h0 => ⟨(h h0).1, fun x hx hb => (h h0).2 x (List.mem_of_mem_eraseIdx hx) hb⟩
  · exact h
/-- What Append tells is no key yet. -/
theorem AJ.fresh {l : LS} {m : Int} (h : AJ l m) (h0 : 0 ≤ l.nx) : getP ⟨false, l.nx, ⟨#[]⟩⟩ l = (0, false) := by
  unfold getP
  rw [K.norm_num]
  have : findK ⟨false, l.nx, ⟨#[]⟩⟩ l.xs = none := findK_none.2 fun x hx e => by
    have h1 := (h h0).2 x hx (by rw [e])
    rw [e] at h1
    exact absurd h1 (Int.lt_irrefl _)
  rw [this]
theorem AJ.append {l : LS} {m : Int} (h : AJ l m) (v : Int) : AJ (appendP v l).2 (if (appendP v l).1.2 = 0 then max m (appendP v l).1.1.n else m) ∧
    ((appendP v l).1.2 = 0 → 0 ≤ l.nx ∧ (appendP v l).1.1.b = false ∧ m < (appendP v l).1.1.n) := by
  unfold appendP
  by_cases h0 : l.nx < 0
  · rw [if_pos h0]
    exact ⟨by simp only; rw [if_neg (by decide)]; exact h, fun e => by simp at e⟩
  · rw [if_neg h0]
    have hs := AJ.setN h ⟨false, l.nx, ⟨#[]⟩⟩ v
    have hS : setP ⟨false, l.nx, ⟨#[]⟩⟩ v l = Go.Proofs.YtgpdhmgbmhfooaaDoor.setN ⟨false, l.nx, ⟨#[]⟩⟩ v l := by unfold setP; rw [K.norm_num]
    rw [hS]
    by_cases he : (Go.Proofs.YtgpdhmgbmhfooaaDoor.setN ⟨false, l.nx, ⟨#[]⟩⟩ v l).1 = 0
    · rw [if_pos he]
      rw [he] at hs
      simp only [and_self, if_true] at hs ⊢
      exact ⟨hs, fun _ => ⟨by omega, trivial, (h (by omega)).1⟩⟩
    · rw [if_neg he]
      rw [if_neg (fun e => he e.1)] at hs
      exact ⟨by simp only; rw [if_neg he]; exact hs, fun e => absurd e he⟩

/-- Which keys are left behind a call. -/
inductive Left (xs ys : List It) : Prop where
  | same (h : ys.map (·.1) = xs.map (·.1))
  | snoc (q : K) (h : ys.map (·.1) = xs.map (·.1) ++ [q])
  | del (j : Nat) (hj : j < xs.length) (h : ys = xs.eraseIdx j)
theorem left_set {l : LS} (k : K) (v : Int) : Left l.xs (setP k v l).2.xs := by
  unfold setP setN
  cases hf : findK k.norm l.xs with
  | some i =>
    refine .same ?_
    have hi := findK_lt hf
    have hat := findK_at hf
    show (l.xs.set i (k.norm, v)).map (·.1) = _
    rw [List.map_set]
    have : k.norm = (l.xs.map (·.1))[i]'(by simpa using hi) := by rw [List.getElem_map]; exact hat.symm
    show (l.xs.map (·.1)).set i k.norm = _
    rw [this, List.set_getElem_self]
  | none =>
    simp only
    split
    · exact .same rfl
    · exact .snoc k.norm (by simp)
theorem left_append {l : LS} (v : Int) : Left l.xs (appendP v l).2.xs := by
  unfold appendP
  split
  · exact .same rfl
  · split <;> exact left_set _ _
theorem left_del {l : LS} (k : K) : Left l.xs (delP k l).2.xs := by
  unfold delP
  cases hf : findK k.norm l.xs with
  | some i => exact .del i (findK_lt hf) rfl
  | none => exact .same rfl

/-- Where the walk through the earlier keys stands ahead of item j (I), and where it stops (T). -/
def Side (ks : List K) (ys : List It) (I : Nat → Nat) (j : Nat) : Prop :=
  ∃ T, I j ≤ T ∧ T ≤ I j + 1 ∧ T ≤ ks.length ∧ I (j + 1) = T + 1 ∧ (∀ x (hx : x < ks.length), I j ≤ x → x < T → findK ks[x] ys = none) ∧ (∀ x (hx : x < ks.length), I j ≤ x → x < T → ∀ hj : j < ys.length, ks[x] ≠ ys[j].1) ∧ (∀ (h : T < ks.length) (hj : j < ys.length), ks[T] = ys[j].1)
theorem side_plain {ks : List K} {ys : List It} (h : ∀ j (h : j < ks.length) (hj : j < ys.length), ks[j] = ys[j].1) (hl : ys.length ≤ ks.length + 1) : ∀ j, j < ys.length → Side ks ys (fun j => j) j := fun j hj =>
  ⟨j, Nat.le_refl _, Nat.le_succ _, by omega, rfl, fun x hx h1 h2 => by simp only at h1; omega, fun x hx h1 h2 => by simp only at h1; omega, fun h' hj' => h j h' hj'⟩
theorem left_walk {xs ys : List It} (h : Left xs ys) (hx : Once xs) : ∃ I : Nat → Nat, I 0 = 0 ∧ ∀ j, j < ys.length → Side (xs.map (·.1)) ys I j := by
  cases h with
  | same h =>
    have hl : ys.length = xs.length := by have := congrArg List.length h; simpa using this
    refine ⟨fun j => j, rfl, side_plain (fun j h1 h2 => ?_) (by simp; omega)⟩
    have : (ys.map (·.1))[j]'(by simpa using h2) = (xs.map (·.1))[j]'h1 := by simp only [h]
    rw [← this, List.getElem_map]
  | snoc q h =>
    have hl : ys.length = xs.length + 1 := by have := congrArg List.length h; simpa using this
    refine ⟨fun j => j, rfl, side_plain (fun j h1 h2 => ?_) (by simp; omega)⟩
    have : (ys.map (·.1))[j]'(by simpa using h2) = (xs.map (·.1) ++ [q])[j]'(by rw [← h]; simpa using h2) := by simp only [h]
    rw [List.getElem_append_left h1, List.getElem_map] at this
    exact this.symm
  | del d hd h =>
    subst h
    have hl : (xs.eraseIdx d).length = xs.length - 1 := List.length_eraseIdx_of_lt hd
    have hat : ∀ j (h : j < (xs.eraseIdx d).length), (xs.eraseIdx d)[j] = if h : j < d then xs[j]'(by omega) else xs[j+1]'(by omega) := fun j h => by
      rw [List.getElem_eraseIdx]
    have hone := List.pairwise_iff_getElem.1 hx
    refine ⟨fun j => if d < j then j + 1 else j, by simp, fun j hj => ?_⟩
    have hgone : findK (xs[d]'hd).1 (xs.eraseIdx d) = none := by
      rw [findK_none]
      intro x hxm
      obtain ⟨i, hi, rfl⟩ := List.getElem_of_mem hxm
      rw [hat i hi]
      split
      · exact hone i d (by omega) hd (by assumption)
      · exact fun e => hone d (i+1) hd (by omega) (by omega) e.symm
    refine ⟨if d ≤ j then j + 1 else j, ?_, ?_, ?_, ?_, ?_, ?_, ?_⟩
    · simp only; split <;> split <;> omega
    · simp only; split <;> split <;> omega
    · rw [List.length_map]; split <;> omega
    · simp only; split <;> split <;> omega
    · intro y hy h1 h2
      have : y = d := by
        simp only at h1
        split at h1 <;> split at h2 <;> omega
      subst this
      rw [List.getElem_map]
      exact hgone
    · intro y hy h1 h2 hj'
      have : y = d := by
        simp only at h1
        split at h1 <;> split at h2 <;> omega
      subst this
      rw [List.getElem_map]
      have := findK_none.1 hgone _ (List.getElem_mem hj')
      exact fun e => this e.symm
    · intro h' hj'
      rw [List.getElem_map, hat j hj']
      by_cases hdj : d ≤ j
      · simp only [hdj, if_true]
        rw [dif_neg (by omega)]
      · simp only [hdj, if_false]
        rw [dif_pos (by omega)]
end Go.Proofs.YtgpdhmgbmhfooaaDoor
