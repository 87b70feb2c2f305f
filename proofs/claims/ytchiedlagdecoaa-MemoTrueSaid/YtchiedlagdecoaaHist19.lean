/-
  What the units of a memo are, told by the calls so far: plain laws, no program.
-/
import Derived.Test.YtchiedlagdecoaaLone19
namespace Go.Proofs.Ytchiedlagdecoaa

/-- No path stands twice. -/
def Uniq (us : List U) : Prop := us.Pairwise fun x y => x.path.toList ≠ y.path.toList

theorem find_none {p : ByteArray} {us : List U} (h : find p us = none) : ∀ x ∈ us, x.path.toList ≠ p.toList := by
  unfold find at h
  rw [List.findIdx?_eq_none_iff] at h
  intro x hx
  simpa using h x hx
theorem split_at {us : List U} {i : Nat} (hi : i < us.length) : us = us.take i ++ us[i] :: us.drop (i + 1) := by
  rw [List.getElem_cons_drop hi, List.take_append_drop]
theorem drop_eq {p : ByteArray} {us : List U} {i : Nat} (h : find p us = some i) : dropU p us = us.take i ++ us.drop (i + 1) := by unfold dropU; rw [h]
theorem drop_none {p : ByteArray} {us : List U} (h : find p us = none) : dropU p us = us := by unfold dropU; rw [h]

theorem Uniq.split {us : List U} (h : Uniq us) {i : Nat} (hi : i < us.length) : Uniq (us.take i ++ us.drop (i + 1)) ∧ ∀ x ∈ us.take i ++ us.drop (i + 1), x.path.toList ≠ us[i].path.toList := by
  unfold Uniq at h
  rw [split_at hi, List.pairwise_append, List.pairwise_cons] at h
  obtain ⟨h1, ⟨h2, h3⟩, h4⟩ := h
  refine ⟨List.pairwise_append.2 ⟨h1, h3, fun a ha b hb => h4 a ha b (List.mem_cons_of_mem _ hb)⟩, fun x hx => ?_⟩
  rcases List.mem_append.1 hx with hx | hx
  · exact h4 x hx _ List.mem_cons_self
  · exact fun e => h2 x hx e.symm

theorem Uniq.drop {us : List U} (h : Uniq us) (p : ByteArray) : Uniq (dropU p us) := by
  cases hf : find p us with
  | none => rw [drop_none hf]; exact h
  | some i => rw [drop_eq hf]; exact (h.split (find_lt hf)).1
theorem mem_drop {us : List U} (h : Uniq us) (p : ByteArray) (x : U) : x ∈ dropU p us ↔ x ∈ us ∧ x.path.toList ≠ p.toList := by
  cases hf : find p us with
  | none => rw [drop_none hf]; exact ⟨fun hx => ⟨hx, find_none hf x hx⟩, fun hx => hx.1⟩
  | some i =>
    have hi := find_lt hf
    have he := find_at hf
    rw [drop_eq hf]
    constructor
    · intro hx
      refine ⟨?_, by rw [← he]; exact (h.split hi).2 x hx⟩
      rcases List.mem_append.1 hx with hx | hx
      · exact List.mem_of_mem_take hx
      · exact List.mem_of_mem_drop hx
    · intro ⟨hx, hn⟩
      rw [split_at hi] at hx
      rcases List.mem_append.1 hx with hx | hx
      · exact List.mem_append.2 (.inl hx)
      · rcases List.mem_cons.1 hx with rfl | hx
        · exact absurd he hn
        · exact List.mem_append.2 (.inr hx)
theorem uniq_eq {us : List U} (h : Uniq us) {x y : U} (hx : x ∈ us) (hy : y ∈ us) (e : x.path.toList = y.path.toList) : x = y := by
  obtain ⟨i, hi, rfl⟩ := List.getElem_of_mem hx
  obtain ⟨j, hj, rfl⟩ := List.getElem_of_mem hy
  have hp := List.pairwise_iff_getElem.1 h
  rcases Nat.lt_trichotomy i j with hlt | rfl | hlt
  · exact absurd e (hp i j hi hj hlt)
  · rfl
  · exact absurd e.symm (hp j i hj hi hlt)
theorem hit_iff {us : List U} (h : Uniq us) (p : ByteArray) (st : Int) (x : U) : hitU p st us = some x ↔ x ∈ us ∧ x.path.toList = p.toList ∧ x.stamp = st := by
  unfold hitU
  cases hf : find p us with
  | none =>
    simp only
    exact ⟨fun e => (by cases e), fun ⟨hx, e, _⟩ => absurd e (find_none hf x hx)⟩
  | some i =>
    have hi := find_lt hf
    have he := find_at hf
    simp only [List.getElem?_eq_getElem hi]
    constructor
    · intro e
      split at e
      · rename_i hs; cases e; exact ⟨List.getElem_mem hi, he, hs⟩
      · cases e
    · intro ⟨hx, e, hs⟩
      obtain rfl := uniq_eq h hx (List.getElem_mem hi) (e.trans he.symm)
      rw [if_pos hs]

theorem uniq_snoc {us : List U} (h : Uniq us) {x : U} (hx : ∀ y ∈ us, y.path.toList ≠ x.path.toList) : Uniq (us ++ [x]) :=
  List.pairwise_append.2 ⟨h, by simp, fun a ha b hb => by simp at hb; subst hb; exact hx a ha⟩
theorem Uniq.get {us : List U} (h : Uniq us) (p : ByteArray) (st : Int) : Uniq (getU p st us) := by
  unfold getU
  cases hh : hitU p st us with
  | none => exact h.drop p
  | some x =>
    obtain ⟨_, e, _⟩ := (hit_iff h p st x).1 hh
    exact uniq_snoc (h.drop p) fun y hy => by rw [e]; exact ((mem_drop h p y).1 hy).2
theorem Uniq.add {us : List U} (h : Uniq us) (p : ByteArray) (st u : Int) : Uniq (addU p st u us) :=
  uniq_snoc (h.drop p) fun y hy => ((mem_drop h p y).1 hy).2
theorem Uniq.put {us : List U} (h : Uniq us) (most : Int) (p : ByteArray) (st u : Int) : Uniq (putU most p st u us) := by
  unfold putU
  simp only
  split
  · exact List.Pairwise.sublist (List.drop_sublist 1 _) (h.add p st u)
  · exact h.add p st u
theorem mem_get {us : List U} (h : Uniq us) (p : ByteArray) (st : Int) (x : U) : x ∈ getU p st us ↔ x ∈ us ∧ (x.path.toList = p.toList → x.stamp = st) := by
  unfold getU
  cases hh : hitU p st us with
  | none =>
    rw [mem_drop h p x]
    refine ⟨fun ⟨a, b⟩ => ⟨a, fun e => absurd e b⟩, fun ⟨a, b⟩ => ⟨a, fun e => ?_⟩⟩
    rw [(hit_iff h p st x).2 ⟨a, e, b e⟩] at hh
    cases hh
  | some y =>
    obtain ⟨hy, e, hs⟩ := (hit_iff h p st y).1 hh
    rw [List.mem_append, mem_drop h p x, List.mem_singleton]
    constructor
    · rintro (⟨a, b⟩ | rfl)
      · exact ⟨a, fun e => absurd e b⟩
      · exact ⟨hy, fun _ => hs⟩
    · intro ⟨a, b⟩
      by_cases ep : x.path.toList = p.toList
      · exact .inr (uniq_eq h a hy (ep.trans e.symm))
      · exact .inl ⟨a, ep⟩
theorem mem_add {us : List U} (h : Uniq us) (p : ByteArray) (st u : Int) (x : U) : x ∈ addU p st u us ↔ (x ∈ us ∧ x.path.toList ≠ p.toList) ∨ x = ⟨p, st, u⟩ := by
  unfold addU
  rw [List.mem_append, mem_drop h p x, List.mem_singleton]
theorem mem_put {us : List U} {most : Int} {p : ByteArray} {st u : Int} {x : U} (hx : x ∈ putU most p st u us) : x ∈ addU p st u us := by
  unfold putU at hx
  simp only at hx
  split at hx
  · exact List.mem_of_mem_drop hx
  · exact hx

theorem Uniq.step {us : List U} (h : Uniq us) (most kind : Int) (p : ByteArray) (st u : Int) : Uniq (stepU most kind p st u us) := by
  unfold stepU
  split
  · exact h.get p st
  · split
    · exact h.put most p st u
    · split
      · exact h.drop p
      · split
        · exact List.Pairwise.nil
        · exact h

theorem put_most {us : List U} {most : Int} (h0 : 0 ≤ most) (hl : (us.length : Int) ≤ most) (p : ByteArray) (st u : Int) : ((putU most p st u us).length : Int) ≤ most := by
  have := add_len p st u us
  unfold putU
  simp only
  split
  · simp; omega
  · omega
theorem step_most {us : List U} {most : Int} (h0 : 0 ≤ most) (hl : (us.length : Int) ≤ most) (kind : Int) (p : ByteArray) (st u : Int) : ((stepU most kind p st u us).length : Int) ≤ most := by
  unfold stepU
  split
  · have := get_len p st us; omega
  · split
    · exact put_most h0 hl p st u
    · split
      · have := drop_len p us; omega
      · split
        · simp; omega
        · exact hl

/-- The j-th call is the last Put under x's path among the first k, and put x. -/
def LastPut (acts : List Cl) (k : Nat) (x : U) : Prop :=
  ∃ j c, j < k ∧ acts[j]? = some c ∧ c.path.toList = x.path.toList ∧ kindOf c.kind = 1 ∧ c.stamp = x.stamp ∧ c.u = x.u ∧
    ∀ i d, j < i → i < k → acts[i]? = some d → ¬ (d.path.toList = x.path.toList ∧ kindOf d.kind = 1)

theorem LastPut.next {acts : List Cl} {k : Nat} {x : U} (h : LastPut acts k x) (hk : k < acts.length) (hn : ¬ (acts[k].path.toList = x.path.toList ∧ kindOf acts[k].kind = 1)) : LastPut acts (k + 1) x := by
  obtain ⟨j, c, h1, h2, h3, h4, h5, h6, h7⟩ := h
  refine ⟨j, c, by omega, h2, h3, h4, h5, h6, fun i d hi hik hd => ?_⟩
  by_cases e : i = k
  · subst e
    rw [List.getElem?_eq_getElem hk] at hd
    cases hd; exact hn
  · exact h7 i d hi (by omega) hd

/-- What is known of the units behind k calls. -/
theorem hist (most : Int) (h0 : 0 ≤ most) (acts : List Cl) : ∀ k, k ≤ acts.length → Uniq (runS most (acts.take k)).us ∧ ((runS most (acts.take k)).us.length : Int) ≤ most ∧ ∀ x ∈ (runS most (acts.take k)).us, LastPut acts k x
  | 0, _ => ⟨by simp [runS, Uniq], by simpa [runS] using h0, by simp [runS]⟩
  | k + 1, hk => by
    obtain ⟨h1, h2, h3⟩ := hist most h0 acts k (by omega)
    have hlt : k < acts.length := by omega
    rw [runS_succ most acts k hlt]
    refine ⟨h1.step _ _ _ _ _, step_most h0 h2 _ _ _ _, fun x hx => ?_⟩
    have hx' : x ∈ stepU most acts[k].kind acts[k].path acts[k].stamp acts[k].u (runS most (acts.take k)).us := hx
    unfold stepU at hx'
    split at hx'
    · rename_i hc
      exact (h3 x ((mem_get h1 _ _ _).1 hx').1).next hlt (fun e => by omega)
    · split at hx'
      · rename_i hc
        rcases (mem_add h1 _ _ _ _).1 (mem_put hx') with ⟨a, b⟩ | rfl
        · exact (h3 x a).next hlt (fun e => b e.1.symm)
        · exact ⟨k, acts[k], by omega, List.getElem?_eq_getElem hlt, rfl, hc, rfl, rfl, fun i d h1 h2 => by omega⟩
      · split at hx'
        · rename_i hc
          exact (h3 x ((mem_drop h1 _ _).1 hx').1).next hlt (fun e => by omega)
        · rename_i hc1 hc2
          split at hx'
          · cases hx'
          · exact (h3 x hx').next hlt (fun e => hc1 e.2)
end Go.Proofs.Ytchiedlagdecoaa
