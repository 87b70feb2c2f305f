/-
  Without filters: what is in a stack, in order.
-/
import Derived.Test.YtoomffplaopijaaLive12
namespace Go.Proofs.Ytoomffplaopijaa

def flat (s : Sk) : Bs := s.bottom ++ (s.bufs.map Bf.text).flatten
theorem flat_len (s : Sk) : (flat s).length = s.total := by
  unfold flat Sk.total bytesOf
  rw [List.length_append, List.length_flatten, List.map_map]
  rfl

theorem name_nil {s : Sk} (o : Ok false s) {b : Bf} (hb : b ∈ s.bufs) : b.name = [] := by
  have := o.names b hb
  unfold mk at this
  split at this
  · assumption
  · simp at this

theorem flat_come0 (s : Sk) (x : Bs) (h : s.bufs = []) : flat (come s 0 x) = flat s ++ x := by
  unfold flat come
  simp [h]
theorem flatten_snoc (l : List Bf) (f : Bf) : ((l ++ [f]).map Bf.text).flatten = (l.map Bf.text).flatten ++ f.text := by simp
theorem snoc_of {s : Sk} {M : Nat} (hM : s.bufs.length = M + 1) : ∃ l f, s.bufs = l ++ [f] ∧ l.length = M := by
  have hlt : M < s.bufs.length := by omega
  refine ⟨s.bufs.take M, s.bufs[M], ?_, by rw [List.length_take]; omega⟩
  conv => lhs; rw [← List.take_length (l := s.bufs), hM, List.take_succ_eq_append_getElem hlt]
theorem modify_last (l : List Bf) (f : Bf) (g : Bf → Bf) : (l ++ [f]).modify l.length g = l ++ [g f] := by
  rw [modify_set (f := f) (by simp) g]
  simp
theorem flat_write (s : Sk) (x : Bs) : flat (come s s.bufs.length x) = flat s ++ x := by
  cases hl : s.bufs.length with
  | zero => exact flat_come0 s x (List.eq_nil_of_length_eq_zero hl)
  | succ M =>
    obtain ⟨l, f, e, rfl⟩ := snoc_of hl
    unfold flat come
    show s.bottom ++ ((s.bufs.modify l.length fun b => { b with text := b.text ++ x }).map Bf.text).flatten = _
    rw [e, modify_last, flatten_snoc, flatten_snoc]
    simp

theorem flush_flat {s : Sk} (o : Ok false s) : flat (flush false s).2 = flat s ∧ (flush false s).2.bufs.length = s.bufs.length ∧ (s.bufs.length ≠ 0 → (flush false s).1 = 0) := by
  unfold flush
  cases hl : s.bufs.length with
  | zero =>
    have : s.bufs[0 - 1]? = none := by rw [List.getElem?_eq_none]; omega
    rw [this]
    exact ⟨rfl, hl, fun h => absurd rfl h⟩
  | succ M =>
    obtain ⟨l, f, e, rfl⟩ := snoc_of hl
    have e1 : s.bufs[l.length + 1 - 1]? = some f := by rw [e]; simp
    rw [e1]
    have hn : f.name = [] := name_nil o (by rw [e]; simp)
    have hmk : (mk false f.name f.text).getD [] = f.text := by rw [hn]; rfl
    show flat (if f.text = [] then ((0 : Int), s) else if 65536 < s.total - f.text.length + ((mk false f.name f.text).getD []).length then (8, s) else (0, come (clean s) l.length ((mk false f.name f.text).getD []))).2 = _ ∧ (if f.text = [] then ((0 : Int), s) else if 65536 < s.total - f.text.length + ((mk false f.name f.text).getD []).length then (8, s) else (0, come (clean s) l.length ((mk false f.name f.text).getD []))).2.bufs.length = _ ∧ (_ → (if f.text = [] then ((0 : Int), s) else if 65536 < s.total - f.text.length + ((mk false f.name f.text).getD []).length then (8, s) else (0, come (clean s) l.length ((mk false f.name f.text).getD []))).1 = 0)
    rw [hmk]
    by_cases ht : f.text = []
    · rw [if_pos ht]; exact ⟨rfl, hl, fun _ => rfl⟩
    · rw [if_neg ht]
      have hle : f.text.length ≤ s.total := by
        unfold Sk.total
        rw [e, bytesOf_append]
        simp [bytesOf]; omega
      have htot := o.total
      rw [if_neg (by omega)]
      have hc : (clean s).bufs = l ++ [⟨f.name, []⟩] := by
        unfold clean
        show s.bufs.modify (s.bufs.length - 1) _ = _
        rw [hl, e]
        exact modify_last l f _
      refine ⟨?_, ?_, fun _ => rfl⟩
      · cases l with
        | nil =>
          show s.bottom ++ f.text ++ ((clean s).bufs.map Bf.text).flatten = s.bottom ++ (s.bufs.map Bf.text).flatten
          rw [hc, e]; simp
        | cons a l =>
          obtain ⟨l', g, e2⟩ : ∃ l' g, a :: l = l' ++ [g] := ⟨_, _, (List.dropLast_concat_getLast (List.cons_ne_nil a l)).symm⟩
          have hlen : l.length = l'.length := by have := congrArg List.length e2; simp at this; exact this
          show (clean s).bottom ++ (((clean s).bufs.modify l.length fun b => { b with text := b.text ++ f.text }).map Bf.text).flatten = s.bottom ++ (s.bufs.map Bf.text).flatten
          rw [hc, e, e2, hlen]
          rw [modify_set (f := g) (by simp)]
          have : (l' ++ [g] ++ [(⟨f.name, []⟩ : Bf)]).set l'.length ⟨g.name, g.text ++ f.text⟩ = l' ++ [⟨g.name, g.text ++ f.text⟩] ++ [⟨f.name, []⟩] := by simp
          rw [this]
          simp [clean]
      · show (come (clean s) l.length f.text).bufs.length = _
        cases l with
        | nil => show (clean s).bufs.length = _; rw [hc]; rfl
        | cons a l => show ((clean s).bufs.modify l.length _).length = _; rw [List.length_modify, hc]; simp
theorem popB_flat {s : Sk} {M : Nat} {f : Bf} (hM : s.bufs.length = M + 1) (hf : s.bufs[M]? = some f) (ht : f.text = []) : flat (popB s) = flat s := by
  obtain ⟨l, g, e, rfl⟩ := snoc_of hM
  have : g = f := by rw [e] at hf; simpa using hf
  subst this
  unfold flat popB
  show s.bottom ++ ((s.bufs.take (s.bufs.length - 1)).map Bf.text).flatten = _
  rw [hM, e]
  simp [ht]
theorem pop_flat {s : Sk} (o : Ok false s) : flat (pop false s).2 = flat s ∧ (s.bufs.length ≠ 0 → (pop false s).1 = 0) := by
  obtain ⟨h1, h2, h3⟩ := flush_flat o
  unfold pop
  by_cases h0 : (flush false s).1 = 0
  · rw [if_pos h0]
    obtain ⟨M, f, hM, hf, ht⟩ := flush_zero h0
    exact ⟨(popB_flat hM hf ht).trans h1, fun _ => rfl⟩
  · rw [if_neg h0]
    exact ⟨h1, h3⟩
theorem flush_okF {s : Sk} (o : Ok false s) : Ok false (flush false s).2 := by
  unfold flush
  cases e0 : s.bufs[s.bufs.length - 1]? with
  | none => exact o
  | some f =>
    show Ok false (if f.text = [] then ((0 : Int), s) else if 65536 < s.total - f.text.length + ((mk false f.name f.text).getD []).length then (8, s) else (0, come (clean s) (s.bufs.length - 1) ((mk false f.name f.text).getD []))).2
    have hlt := (List.getElem?_eq_some_iff.1 e0).1
    obtain ⟨M, hM⟩ : ∃ M, s.bufs.length = M + 1 := ⟨s.bufs.length - 1, by omega⟩
    rw [hM] at e0
    have e1 : s.bufs[M]? = some f := e0
    have hct := clean_total hM e1
    split
    · exact o
    · split
      · exact o
      · rename_i hn
        show Ok false (come (clean s) (s.bufs.length - 1) _)
        rw [hM]
        show Ok false (come (clean s) M _)
        have co := clean_ok o hM e1
        cases M with
        | zero => exact come0_ok co _ (by omega)
        | succ k =>
          obtain ⟨g, hg⟩ : ∃ g, (clean s).bufs[k]? = some g := ⟨_, List.getElem?_eq_getElem (by rw [clean_len, hM]; omega)⟩
          exact come_ok co hg _ (by omega)
theorem pop_okF {s : Sk} (o : Ok false s) : Ok false (pop false s).2 := by
  unfold pop
  by_cases h0 : (flush false s).1 = 0
  · rw [if_pos h0]
    obtain ⟨M, f, hM, hf, ht⟩ := flush_zero h0
    exact popB_ok (flush_okF o) hM hf ht
  · rw [if_neg h0]
    exact flush_okF o
theorem endS_flat : ∀ (n : Nat) (s : Sk), s.bufs.length = n → Ok false s → (endS false s).1 = 0 ∧ flat (endS false s).2 = flat s ∧ (endS false s).2.bufs.length = 0
  | 0, s, h, o => by rw [endS_zero h]; exact ⟨rfl, rfl, h⟩
  | n + 1, s, h, o => by
    obtain ⟨h1, h2⟩ := pop_flat o
    have hp := h2 (by omega)
    rw [endS_go (by omega) hp]
    have hl := pop_len hp
    obtain ⟨a, b, c⟩ := endS_flat n (pop false s).2 (by omega) (pop_okF o)
    exact ⟨a, b.trans h1, c⟩
theorem push_flat (s : Sk) : (push false s []).1 = 0 ∧ flat (push false s []).2 = flat s ∨ (push false s []).1 = 8 ∧ (push false s []).2 = s := by
  unfold push
  rw [if_pos (by rfl)]
  split
  · exact .inr ⟨rfl, rfl⟩
  · left
    refine ⟨rfl, ?_⟩
    unfold flat
    simp
end Go.Proofs.Ytoomffplaopijaa
