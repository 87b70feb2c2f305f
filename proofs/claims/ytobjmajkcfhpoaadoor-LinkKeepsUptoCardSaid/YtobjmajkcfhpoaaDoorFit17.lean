/-
  What linking makes stays small: each name is there once and was there before.
-/
import Derived.Test.YtobjmajkcfhpoaaDoorGifts17
import Derived.Test.YtobjmajkcfhpoaaDoorConsts17
namespace Go.Proofs.YtobjmajkcfhpoaaDoor
open Go.RowKit

theorem nodup_len : ∀ (l U : List ByteArray), l.Nodup → (∀ x ∈ l, x ∈ U) → l.length ≤ U.length
  | [], _, _, _ => Nat.zero_le _
  | x :: r, U, hn, hs => by
    obtain ⟨hx, hr⟩ := List.nodup_cons.1 hn
    have hlt : (U.filter fun y => !eqB y x).length < U.length := List.length_filter_lt_length_iff_exists.2 ⟨x, hs x (by simp), by simp [eqB_self]⟩
    have h := nodup_len r (U.filter fun y => !eqB y x) hr (fun y hy => List.mem_filter.2 ⟨hs y (by simp [hy]), by
      have : eqB y x = false := eqB_ne.2 (fun e => hx (e ▸ hy))
      simp [this]⟩)
    simp only [List.length_cons]
    omega
/-- Names that are there once, of U. -/
def PIn {α : Type} (nm : α → ByteArray) (U : List ByteArray) (l : List α) : Prop := (l.map nm).Nodup ∧ ∀ n ∈ l.map nm, n ∈ U
section
variable {α : Type} {nm : α → ByteArray} {U : List ByteArray} {l : List α}
theorem PIn.nil : PIn nm U ([] : List α) := ⟨List.nodup_nil, fun n h => by cases h⟩
theorem PIn.len (h : PIn nm U l) : l.length ≤ U.length := by
  have := nodup_len _ U h.1 h.2
  rwa [List.length_map] at this
theorem PIn.mem (h : PIn nm U l) {x : α} (hx : x ∈ l) : nm x ∈ U := h.2 _ (List.mem_map_of_mem hx)
theorem PIn.push (h : PIn nm U l) {x : α} (hx : nm x ∈ U) (hp : idxP (fun c => eqB (nm c) (nm x)) l = none) : PIn nm U (l ++ [x]) := by
  refine ⟨?_, fun n hn => ?_⟩
  · rw [List.map_append, List.nodup_append]
    refine ⟨h.1, by simp, fun a ha b hb => ?_⟩
    simp only [List.map_cons, List.map_nil, List.mem_singleton] at hb
    subst hb
    obtain ⟨c, hc, rfl⟩ := List.mem_map.1 ha
    exact eqB_ne.1 (idxP_none hp c hc)
  · rw [List.map_append] at hn
    rcases List.mem_append.1 hn with hn | hn
    · exact h.2 n hn
    · simp only [List.map_cons, List.map_nil, List.mem_singleton] at hn
      subst hn
      exact hx
theorem set_names {x : α} {i : Nat} (hp : idxP (fun c => eqB (nm c) (nm x)) l = some i) : (l.set i x).map nm = l.map nm := by
  obtain ⟨hi, hk, -⟩ := idxP_some hp
  rw [List.map_set]
  refine List.ext_getElem? fun j => ?_
  rw [List.getElem?_set]
  split
  · rename_i e
    subst e
    rw [List.length_map, if_pos hi, List.getElem?_map, List.getElem?_eq_getElem hi]
    exact congrArg some (eqB_iff.1 hk).symm
  · rfl
theorem PIn.set (h : PIn nm U l) {x : α} {i : Nat} (hp : idxP (fun c => eqB (nm c) (nm x)) l = some i) : PIn nm U (l.set i x) := by
  have e := set_names hp
  exact ⟨by rw [e]; exact h.1, by rw [e]; exact h.2⟩
end
/-- A class whose members' names are there once, of U. -/
structure KnU (U : List ByteArray) (c : ClP) : Prop where
  fs : PIn id U c.fs
  cs : PIn CoP.nm U c.cs
  ps : PIn PrP.nm U c.ps
  ms : PIn MtP.nm U c.ms
/-- A declaration whose members' names are of U, and that is small. -/
structure DeU (U : List ByteArray) (d : ClP) : Prop where
  fs : ∀ x ∈ d.fs, x ∈ U
  cs : ∀ x ∈ d.cs, x.nm ∈ U
  ps : ∀ x ∈ d.ps, x.nm ∈ U
  ms : ∀ x ∈ d.ms, x.nm ∈ U
  ad : ∀ a ∈ d.ad, a.sa ∈ U
  sm : SmC d
/-- A small universe of names. -/
structure SmU (U : List ByteArray) : Prop where
  len : U.length ≤ 1048576
  size : ∀ u ∈ U, u.size ≤ 1048576
theorem KnU.nil (U : List ByteArray) : KnU U ClP.nil := ⟨PIn.nil, PIn.nil, PIn.nil, PIn.nil⟩
section
variable {U : List ByteArray} {c : ClP}
theorem KnU.lfs (h : KnU U c) (hU : SmU U) : c.fs.length ≤ 1048576 := Nat.le_trans h.fs.len hU.len
theorem KnU.lcs (h : KnU U c) (hU : SmU U) : c.cs.length ≤ 1048576 := Nat.le_trans h.cs.len hU.len
theorem KnU.lps (h : KnU U c) (hU : SmU U) : c.ps.length ≤ 1048576 := Nat.le_trans h.ps.len hU.len
theorem KnU.lms (h : KnU U c) (hU : SmU U) : c.ms.length ≤ 1048576 := Nat.le_trans h.ms.len hU.len
end
/-- The faces and the new ones. -/
def PIf (U : List ByteArray) (st : List ByteArray × List ByteArray) : Prop := PIn id U st.1 ∧ st.2.length ≤ st.1.length ∧ ∀ x ∈ st.2, x ∈ st.1
theorem hasB_none {l : List ByteArray} {y : ByteArray} (h : hasB l y = false) : idxP (fun c => eqB (id c) (id y)) l = none := by
  refine idxP_no fun j hj => ?_
  unfold hasB at h
  have := (List.any_eq_false.1 h) l[j] (List.getElem_mem hj)
  rw [eqB_comm]
  simpa using this
theorem PIf.push {U : List ByteArray} {fs hs : List ByteArray} {y : ByteArray} (h : PIf U (fs, hs)) (hy : hasB fs y = false) (hu : y ∈ U) : PIf U (fs ++ [y], hs ++ [y]) := by
  refine ⟨h.1.push hu (hasB_none hy), ?_, fun x hx => ?_⟩
  · have h9 : hs.length ≤ fs.length := h.2.1
    show (hs ++ [y]).length ≤ (fs ++ [y]).length
    rw [List.length_append, List.length_append]
    omega
  · rcases List.mem_append.1 hx with hx | hx
    · exact List.mem_append_left _ (h.2.2 x hx)
    · exact List.mem_append_right _ hx
theorem PIf.len {U : List ByteArray} {st : List ByteArray × List ByteArray} (h : PIf U st) (hU : SmU U) : st.1.length ≤ 1048576 ∧ st.2.length ≤ 1048576 := by
  have := h.1.len
  have := h.2.1
  have := hU.len
  omega
theorem propP_keeps {U : List ByteArray} {nm : ByteArray} {x : PrP} {tr : Bool} {st st' : List PrP × List ByteArray} (h : PIn PrP.nm U st.1) (hx : x.nm ∈ U) (he : propP nm x tr st = .ok st') : PIn PrP.nm U st'.1 := by
  unfold propP at he
  cases hp : placeP st.1 x.nm with
  | none =>
    rw [hp] at he
    cases he
    exact h.push (x := ⟨x.nm, x.st, nm, x.cd⟩) hx hp
  | some i =>
    rw [hp] at he
    have hi := (idxP_some hp).1
    simp only at he
    rw [List.getElem?_eq_getElem hi] at he
    simp only at he
    split at he
    · cases he
    · split at he
      · cases he; exact h
      · split at he
        · cases he
        · cases he
          exact h.set (x := ⟨x.nm, x.st, nm, x.cd⟩) hp
theorem methodP_keeps {U : List ByteArray} {d : ClP} {m : MtP} {tr : Bool} {st st' : List MtP × List (ByteArray × Bool)} (h : PIn MtP.nm U st.1) (hx : m.nm ∈ U) (he : methodP d m tr st = .ok st') : PIn MtP.nm U st'.1 := by
  unfold methodP at he
  simp only at he
  cases hp : placeM st.1 m.nm with
  | none =>
    rw [hp] at he
    cases he
    exact h.push (x := ⟨m.nm, m.st, m.ab, m.fi, d.nm, m.cd⟩) hx hp
  | some i =>
    rw [hp] at he
    have hi := (idxP_some hp).1
    simp only at he
    rw [List.getElem?_eq_getElem hi] at he
    simp only at he
    split at he
    · split at he
      · cases he; exact h.set (x := ⟨m.nm, m.st, m.ab, m.fi, d.nm, m.cd⟩) hp
      · split at he
        · cases he
        · cases he; exact h
    · split at he
      · cases he
      · split at he
        · cases he
        · split at he
          · cases he; exact h
          · cases he; exact h.set (x := ⟨m.nm, m.st, m.ab, m.fi, d.nm, m.cd⟩) hp
theorem gifts_names {U : List ByteArray} {ad : List AdP} {rs : List KC} (ha : ∀ a ∈ ad, a.sa ∈ U) (hr : ∀ t ∈ rs, KnU U t.1) : ∀ m ∈ giftsP ad rs, m.nm ∈ U := by
  intro m hm
  unfold giftsP at hm
  rcases List.mem_append.1 hm with hm | hm
  · unfold gifts1 at hm
    obtain ⟨t, ht, hm⟩ := List.mem_flatMap.1 hm
    exact (hr t ht).ms.mem (List.mem_filter.1 hm).1
  · unfold gifts2 at hm
    obtain ⟨a, haa, hm⟩ := List.mem_flatMap.1 hm
    split at hm
    · cases hm
    · obtain ⟨t, _, rfl⟩ := List.mem_map.1 hm
      exact ha a haa
theorem fKC_kn {U : List ByteArray} {kn : List KC} (h : ∀ x ∈ kn, KnU U x.1) (n : ByteArray) : KnU U (fKC kn n).1 := by
  unfold fKC
  cases hf : findK kn n with
  | none => exact KnU.nil U
  | some x => exact h x (findK_mem' hf)
end Go.Proofs.YtobjmajkcfhpoaaDoor
