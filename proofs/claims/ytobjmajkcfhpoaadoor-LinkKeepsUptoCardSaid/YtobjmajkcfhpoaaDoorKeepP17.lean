/-
  A linked class has all methods of its parent, and the final ones as they are: the plain law.
-/
import Derived.Test.YtobjmajkcfhpoaaDoorFit17
import Derived.Test.YtobjmajkcfhpoaaDoorAbove17
import Derived.Test.YtobjmajkcfhpoaaDoorMeths17
namespace Go.Proofs.YtobjmajkcfhpoaaDoor
open Go.RowKit

section
variable {α : Type} {nm : α → ByteArray}
/-- The first of a name. -/
def fstN (nm : α → ByteArray) (l : List α) (n : ByteArray) : Option α := fstP (fun m => eqB (nm m) n) l
theorem fstN_mem {l : List α} {n : ByteArray} {x : α} (h : fstN nm l n = some x) : x ∈ l ∧ nm x = n := by
  unfold fstN fstP at h
  cases hi : idxP (fun m => eqB (nm m) n) l with
  | none => rw [hi] at h; cases h
  | some i =>
    rw [hi] at h
    obtain ⟨h1, h2, -⟩ := idxP_some hi
    have h : l[i]? = some x := h
    rw [List.getElem?_eq_getElem h1] at h
    cases h
    exact ⟨List.getElem_mem h1, eqB_iff.1 h2⟩
theorem idxP_append {p : α → Bool} : ∀ {l r : List α}, idxP p (l ++ r) = match idxP p l with | some i => some i | none => (idxP p r).map (· + l.length)
  | [], r => by
    simp only [List.nil_append, idxP]
    cases idxP p r <;> rfl
  | x :: l, r => by
    rw [List.cons_append, idxP, idxP, idxP_append (l := l) (r := r)]
    by_cases h : p x = true
    · rw [if_pos h, if_pos h]
    · rw [if_neg h, if_neg h]
      cases idxP p l with
      | some i => rfl
      | none =>
        cases idxP p r with
        | none => rfl
        | some i =>
          simp only [Option.map_some, List.length_cons]
          congr 1
theorem fstN_append {l r : List α} {n : ByteArray} {x : α} (h : fstN nm l n = some x) : fstN nm (l ++ r) n = some x := by
  unfold fstN fstP at h ⊢
  rw [idxP_append]
  cases hi : idxP (fun m => eqB (nm m) n) l with
  | none => rw [hi] at h; cases h
  | some i =>
    rw [hi] at h
    simp only
    have h1 := (idxP_some hi).1
    have h : l[i]? = some x := h
    show (l ++ r)[i]? = some x
    rw [List.getElem?_append_left h1]
    exact h
theorem idxP_names {l r : List α} {n : ByteArray} (h : r.map nm = l.map nm) : idxP (fun m => eqB (nm m) n) r = idxP (fun m => eqB (nm m) n) l := by
  induction l generalizing r with
  | nil =>
    cases r with
    | nil => rfl
    | cons y r => cases h
  | cons x l ih =>
    cases r with
    | nil => cases h
    | cons y r =>
      simp only [List.map_cons, List.cons.injEq] at h
      rw [idxP, idxP, ih h.2, h.1]
theorem fstN_set {l : List α} {x z : α} {i : Nat} {n : ByteArray} (hp : idxP (fun c => eqB (nm c) (nm x)) l = some i) (h : fstN nm l n = some z) : fstN nm (l.set i x) n = if nm x = n then some x else some z := by
  have hs := set_names hp
  unfold fstN fstP at h ⊢
  rw [idxP_names hs]
  obtain ⟨hi, -, -⟩ := idxP_some hp
  by_cases hn : nm x = n
  · rw [if_pos hn, ← hn, hp]
    show (l.set i x)[i]? = some x
    rw [List.getElem?_set_self hi]
  · rw [if_neg hn]
    cases hj : idxP (fun m => eqB (nm m) n) l with
    | none => rw [hj] at h; cases h
    | some j =>
      rw [hj] at h
      have hne : i ≠ j := by
        intro e
        subst e
        obtain ⟨_, h1, -⟩ := idxP_some hp
        obtain ⟨_, h2, -⟩ := idxP_some hj
        exact hn ((eqB_iff.1 h1).symm.trans (eqB_iff.1 h2))
      have h : l[j]? = some z := h
      show (l.set i x)[j]? = some z
      rw [List.getElem?_set_ne hne]
      exact h
theorem fstN_place {l : List α} {n : ByteArray} {x : α} (h : fstN nm l n = some x) : ∃ i, idxP (fun c => eqB (nm c) n) l = some i ∧ l[i]? = some x := by
  unfold fstN fstP at h
  cases hi : idxP (fun m => eqB (nm m) n) l with
  | none => rw [hi] at h; cases h
  | some i => rw [hi] at h; exact ⟨i, rfl, h⟩
end
theorem methP_fstN (ms : List MtP) (n : ByteArray) : methP ms n = fstN MtP.nm ms n := rfl
theorem findK_fstN (kn : List KC) (n : ByteArray) : findK kn n = fstN (fun x : KC => x.1.nm) kn n := rfl
/-- The parent's methods are there, the final ones as they were. -/
def HasM (pm : List MtP) (s : MS) : Prop := ∀ m0 ∈ pm, ∃ n, methP s.1 m0.nm = some n ∧ (m0.fi = true → fstN MtP.nm pm m0.nm = some m0 → n = m0 ∧ givenP s.2 m0.nm = false)
theorem givenP_cons (G : List (ByteArray × Bool)) (x n : ByteArray) (t : Bool) : givenP ((x, t) :: G) n = if eqB x n = true then t else givenP G n := by
  unfold givenP fstP
  rw [idxP]
  by_cases h : eqB x n = true
  · rw [if_pos h, if_pos h]
    cases t <;> rfl
  · rw [if_neg h, if_neg h]
    cases hi : idxP (fun y : ByteArray × Bool => eqB y.1 n) G with
    | none => rfl
    | some i => rfl
theorem HasM.push {pm : List MtP} {s : MS} (h : HasM pm s) (m : MtP) (hp : placeM s.1 m.nm = none) (t : Bool) : HasM pm (s.1 ++ [m], (m.nm, t) :: s.2) := by
  intro m0 h0
  obtain ⟨n, h1, h2⟩ := h m0 h0
  refine ⟨n, fstN_append h1, fun hf hx => ?_⟩
  obtain ⟨h3, h4⟩ := h2 hf hx
  refine ⟨h3, ?_⟩
  rw [givenP_cons]
  split
  · rename_i he
    rw [methP_fstN] at h1
    obtain ⟨i, hi, -⟩ := fstN_place h1
    rw [← eqB_iff.1 he] at hi
    have hi : placeM s.1 m.nm = some i := hi
    rw [hi] at hp
    cases hp
  · exact h4
theorem HasM.face {pm : List MtP} {ms : List MtP} {G : List (ByteArray × Bool)} (h : HasM pm (ms, G)) (m : MtP) : HasM pm (ms ++ [m], G) := by
  intro m0 h0
  obtain ⟨n, h1, h2⟩ := h m0 h0
  exact ⟨n, fstN_append h1, h2⟩
/-- A method of that name is written over; no final one of the parent has that name, or the map told of it. -/
theorem HasM.set {pm : List MtP} {s : MS} (h : HasM pm s) {m : MtP} {i : Nat} (hp : placeM s.1 m.nm = some i) {G : List (ByteArray × Bool)} (hG : ∀ n, givenP G n = true → eqB m.nm n = true ∨ givenP s.2 n = true) (hno : ∀ m0 ∈ pm, m0.fi = true → fstN MtP.nm pm m0.nm = some m0 → m0.nm ≠ m.nm) : HasM pm (s.1.set i m, G) := by
  intro m0 h0
  obtain ⟨n, h1, h2⟩ := h m0 h0
  have e := fstN_set hp h1
  by_cases hn : m.nm = m0.nm
  · rw [if_pos hn] at e
    exact ⟨m, e, fun hf hx => absurd hn.symm (hno m0 h0 hf hx)⟩
  · rw [if_neg hn] at e
    refine ⟨n, e, fun hf hx => ?_⟩
    obtain ⟨h3, h4⟩ := h2 hf hx
    refine ⟨h3, ?_⟩
    cases hg : givenP G m0.nm with
    | false => rfl
    | true =>
      rcases hG _ hg with hg | hg
      · exact absurd (eqB_iff.1 hg) hn
      · rw [h4] at hg; cases hg
theorem HasM.step {pm : List MtP} {d : ClP} {m0 : MtP} {tr : Bool} {s s' : MS} (h : HasM pm s) (he : methodP d m0 tr s = .ok s') : HasM pm s' := by
  unfold methodP at he
  simp only at he
  cases hp : placeM s.1 m0.nm with
  | none =>
    rw [hp] at he
    cases he
    exact h.push ⟨m0.nm, m0.st, m0.ab, m0.fi, d.nm, m0.cd⟩ hp tr
  | some i =>
    rw [hp] at he
    have hi := (idxP_some hp).1
    simp only at he
    rw [List.getElem?_eq_getElem hi] at he
    simp only at he
    -- the method that stands there is the first of its name
    have hfst : ∀ m1 ∈ pm, m1.fi = true → fstN MtP.nm pm m1.nm = some m1 → m1.nm = m0.nm → s.1[i] = m1 ∧ givenP s.2 m0.nm = false := by
      intro m1 h1 hf hx hn
      obtain ⟨n, h2, h3⟩ := h m1 h1
      obtain ⟨h4, h5⟩ := h3 hf hx
      obtain ⟨j, hj, hjn⟩ := fstN_place h2
      rw [hn] at hj
      have hj : placeM s.1 m0.nm = some j := hj
      rw [hp] at hj
      cases hj
      rw [List.getElem?_eq_getElem hi] at hjn
      cases hjn
      exact ⟨h4, by rw [← hn]; exact h5⟩
    split at he
    · rename_i hg
      have hno : ∀ m1 ∈ pm, m1.fi = true → fstN MtP.nm pm m1.nm = some m1 → m1.nm ≠ m0.nm := fun m1 h1 hf hx hn => by
        have := (hfst m1 h1 hf hx hn).2
        rw [this] at hg
        cases hg
      split at he
      · cases he
        exact h.set (m := ⟨m0.nm, m0.st, m0.ab, m0.fi, d.nm, m0.cd⟩) hp (fun n hn => .inr hn) hno
      · split at he
        · cases he
        · cases he; exact h
    · split at he
      · cases he
      · rename_i hfin
        have hno : ∀ m1 ∈ pm, m1.fi = true → fstN MtP.nm pm m1.nm = some m1 → m1.nm ≠ m0.nm := fun m1 h1 hf hx hn => by
          have := (hfst m1 h1 hf hx hn).1
          rw [this] at hfin
          exact hfin hf
        split at he
        · cases he
        · split at he
          · cases he; exact h
          · cases he
            exact h.set (m := ⟨m0.nm, m0.st, m0.ab, m0.fi, d.nm, m0.cd⟩) hp (fun n hn => by
              rw [givenP_cons] at hn
              split at hn
              · rename_i he; exact .inl he
              · exact .inr hn) hno
theorem HasM.steps {pm : List MtP} {d : ClP} {tr : Bool} : ∀ {l : List MtP} {s s' : MS}, HasM pm s → methodsP d tr l s = .ok s' → HasM pm s'
  | [], s, s', h, he => by cases he; exact h
  | m :: l, s, s', h, he => by
    rw [methodsP] at he
    cases hm : methodP d m tr s with
    | error c => rw [hm] at he; cases he
    | ok s1 =>
      rw [hm] at he
      exact (h.step hm).steps he
theorem HasM.faceM {pm : List MtP} {G : List (ByteArray × Bool)} : ∀ {l : List MtP} {ms : List MtP}, HasM pm (ms, G) → HasM pm (faceM l ms, G)
  | [], ms, h => h
  | m :: l, ms, h => by
    rw [Go.Proofs.YtobjmajkcfhpoaaDoor.faceM]
    refine HasM.faceM ?_
    split
    · exact h
    · exact h.face m
theorem HasM.facesM {pm : List MtP} {G : List (ByteArray × Bool)} {kn : List KC} : ∀ {l : List ByteArray} {ms : List MtP}, HasM pm (ms, G) → HasM pm (facesM kn l ms, G)
  | [], ms, h => h
  | n :: l, ms, h => by
    rw [Go.Proofs.YtobjmajkcfhpoaaDoor.facesM]
    exact (h.faceM).facesM
theorem HasM.start (pm : List MtP) (G : List (ByteArray × Bool)) (hG : ∀ n, givenP G n = false) : HasM pm (pm, G) := by
  intro m0 h0
  cases hf : fstN MtP.nm pm m0.nm with
  | none =>
    unfold fstN fstP at hf
    cases hi : idxP (fun m => eqB m.nm m0.nm) pm with
    | none => have := idxP_none hi m0 h0; rw [eqB_self] at this; cases this
    | some i =>
      rw [hi] at hf
      have h1 := (idxP_some hi).1
      have hf : pm[i]? = none := hf
      rw [List.getElem?_eq_getElem h1] at hf
      cases hf
  | some n => exact ⟨n, hf, fun _ hx => ⟨by cases hx; rfl, hG _⟩⟩
/-- What Link keeps of the parent. -/
theorem allMs_has {d : ClP} {kn : List KC} {p : KC} {fs : List ByteArray} {rs : List KC} {ms : List MtP} (h : allMs d kn p fs rs = .ok ms) : ∃ G, HasM p.1.ms (ms, G) := by
  unfold allMs at h
  cases h1 : methodsP d true (giftsP d.ad rs) (facesM kn fs p.1.ms, []) with
  | error c => rw [h1] at h; cases h
  | ok s =>
    rw [h1] at h
    simp only at h
    cases h2 : methodsP d false d.ms s with
    | error c => rw [h2] at h; cases h
    | ok s2 =>
      rw [h2] at h
      simp only at h
      split at h
      · cases h
      · cases h
        exact ⟨s2.2, (((HasM.start p.1.ms [] (fun _ => rfl)).facesM).steps h1).steps h2⟩
end Go.Proofs.YtobjmajkcfhpoaaDoor
