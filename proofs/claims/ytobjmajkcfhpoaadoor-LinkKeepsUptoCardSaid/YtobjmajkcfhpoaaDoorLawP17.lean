/-
  What Link makes stays in the universe; what LinkKeeps asks of it: the plain law.
-/
import Derived.Test.YtobjmajkcfhpoaaDoorKeepP17
import Derived.Test.YtobjmajkcfhpoaaDoorLink17
namespace Go.Proofs.YtobjmajkcfhpoaaDoor
open Go.RowKit

theorem none_of {α : Type} {o : Option α} (h : ¬ o.isSome = true) : o = none := by
  cases o with
  | none => rfl
  | some a => exact absurd rfl h
section
variable {U : List ByteArray}
theorem faceC_keeps {n : ByteArray} : ∀ (xs cs cs' : List CoP), (∀ x ∈ xs, x.nm ∈ U) → PIn CoP.nm U cs → faceC n xs cs = .ok cs' → PIn CoP.nm U cs'
  | [], cs, cs', _, h, e => by cases e; exact h
  | x :: xs, cs, cs', hx, h, e => by
    rw [faceC] at e
    by_cases h1 : eqB x.fr n = false
    · rw [if_pos h1] at e
      exact faceC_keeps xs cs cs' (fun y hy => hx y (by simp [hy])) h e
    · rw [if_neg h1] at e
      by_cases h2 : (placeC cs x.nm).isSome = true
      · rw [if_pos h2] at e; cases e
      · rw [if_neg h2] at e
        exact faceC_keeps xs _ cs' (fun y hy => hx y (by simp [hy])) (h.push (hx x (by simp)) (none_of h2)) e
theorem freshC_keeps {kn : List KC} (hk : ∀ x ∈ kn, KnU U x.1) : ∀ (l : List ByteArray) (cs cs' : List CoP), PIn CoP.nm U cs → freshC kn l cs = .ok cs' → PIn CoP.nm U cs'
  | [], cs, cs', h, e => by cases e; exact h
  | n :: l, cs, cs', h, e => by
    rw [freshC] at e
    cases h1 : faceC n ((findK kn n).getD KC.nil).1.cs cs with
    | error c => rw [h1] at e; cases e
    | ok cs1 =>
      rw [h1] at e
      exact freshC_keeps hk l cs1 cs' (faceC_keeps _ _ _ (fun x hx => (fKC_kn hk n).cs.mem hx) h h1) e
theorem ownC_keeps {nm : ByteArray} {hs : List ByteArray} : ∀ (xs cs cs' : List CoP), (∀ x ∈ xs, x.nm ∈ U) → PIn CoP.nm U cs → ownC nm hs xs cs = .ok cs' → PIn CoP.nm U cs'
  | [], cs, cs', _, h, e => by cases e; exact h
  | x :: xs, cs, cs', hx, h, e => by
    rw [ownC_cons] at e
    cases hp : placeC cs x.nm with
    | none =>
      rw [hp] at e
      exact ownC_keeps xs _ cs' (fun y hy => hx y (by simp [hy])) (h.push (x := ⟨x.nm, nm, x.cd⟩) (hx x (by simp)) hp) e
    | some i =>
      rw [hp] at e
      unfold ownQ at e
      simp only at e
      split at e
      · cases e
      · exact ownC_keeps xs _ cs' (fun y hy => hx y (by simp [hy])) (h.set (x := ⟨x.nm, nm, x.cd⟩) hp) e
theorem propsP_keeps {nm : ByteArray} {tr : Bool} : ∀ (xs : List PrP) (s s' : List PrP × List ByteArray), (∀ x ∈ xs, x.nm ∈ U) → PIn PrP.nm U s.1 → propsP nm tr xs s = .ok s' → PIn PrP.nm U s'.1
  | [], s, s', _, h, e => by cases e; exact h
  | x :: xs, s, s', hx, h, e => by
    rw [propsP] at e
    cases h1 : propP nm x tr s with
    | error c => rw [h1] at e; cases e
    | ok s1 =>
      rw [h1] at e
      exact propsP_keeps xs s1 s' (fun y hy => hx y (by simp [hy])) (propP_keeps h (hx x (by simp)) h1) e
theorem traitPs_keeps {nm : ByteArray} : ∀ (rs : List KC) (s s' : List PrP × List ByteArray), (∀ t ∈ rs, KnU U t.1) → PIn PrP.nm U s.1 → traitPs nm rs s = .ok s' → PIn PrP.nm U s'.1
  | [], s, s', _, h, e => by cases e; exact h
  | t :: rs, s, s', hr, h, e => by
    rw [traitPs] at e
    cases h1 : propsP nm true t.1.ps s with
    | error c => rw [h1] at e; cases e
    | ok s1 =>
      rw [h1] at e
      exact traitPs_keeps rs s1 s' (fun y hy => hr y (by simp [hy])) (propsP_keeps _ _ _ (fun x hx => (hr t (by simp)).ps.mem hx) h h1) e
theorem methodsP_keeps {d : ClP} {tr : Bool} : ∀ (xs : List MtP) (s s' : MS), (∀ x ∈ xs, x.nm ∈ U) → PIn MtP.nm U s.1 → methodsP d tr xs s = .ok s' → PIn MtP.nm U s'.1
  | [], s, s', _, h, e => by cases e; exact h
  | x :: xs, s, s', hx, h, e => by
    rw [methodsP] at e
    cases h1 : methodP d x tr s with
    | error c => rw [h1] at e; cases e
    | ok s1 =>
      rw [h1] at e
      exact methodsP_keeps xs s1 s' (fun y hy => hx y (by simp [hy])) (methodP_keeps h (hx x (by simp)) h1) e
theorem faceM_keeps : ∀ (xs ms : List MtP), (∀ x ∈ xs, x.nm ∈ U) → PIn MtP.nm U ms → PIn MtP.nm U (faceM xs ms)
  | [], ms, _, h => h
  | x :: xs, ms, hx, h => by
    rw [faceM]
    refine faceM_keeps xs _ (fun y hy => hx y (by simp [hy])) ?_
    split
    · exact h
    · rename_i h2
      exact h.push (hx x (by simp)) (none_of h2)
theorem facesM_keeps {kn : List KC} (hk : ∀ x ∈ kn, KnU U x.1) : ∀ (l : List ByteArray) (ms : List MtP), PIn MtP.nm U ms → PIn MtP.nm U (facesM kn l ms)
  | [], ms, h => h
  | n :: l, ms, h => by
    rw [facesM]
    exact facesM_keeps hk l _ (faceM_keeps _ _ (fun x hx => (fKC_kn hk n).ms.mem hx) h)
/-- What Link made, and how. -/
structure Made (U : List ByteArray) (d : ClP) (kn : List KC) (c : ClP) : Prop where
  nm : c.nm = d.nm
  pa : c.pa = d.pa
  kd : c.kd = d.kd
  new : findK kn d.nm = none
  right : rightP d = true
  fine : KnU U c
  par : emT d.pa = true ∨ ∃ p, findK kn d.pa = some p ∧ ∃ G, HasM p.1.ms (c.ms, G)
theorem parent_found {kn : List KC} {pa : ByteArray} {p : KC} (h : parentP kn pa = .ok p) : emT pa = true ∨ findK kn pa = some p := by
  unfold parentP at h
  by_cases h1 : emT pa = true
  · exact .inl h1
  · rw [if_neg h1] at h
    right
    unfold oneP at h
    cases hf : findK kn pa with
    | none => rw [hf] at h; cases h
    | some c =>
      rw [hf] at h
      simp only at h
      by_cases h2 : c.1.kd = 1
      · rw [if_pos h2] at h
        simp only at h
        split at h
        · cases h
        · cases h; rfl
      · rw [if_neg h2] at h; cases h
theorem linkP_made {d c : ClP} {kn : List KC} (hk : ∀ x ∈ kn, KnU U x.1) (hd : DeU U d) (h : linkP d kn = .ok c) : Made U d kn c := by
  rw [linkP_eq] at h
  by_cases h1 : rightP d = false
  · rw [if_pos h1] at h; cases h
  · rw [if_neg h1] at h
    by_cases h2 : (findK kn d.nm).isSome = true
    · rw [if_pos h2] at h; cases h
    · rw [if_neg h2, lK_ex] at h
      have hnew : findK kn d.nm = none := by simpa using h2
      have hright : rightP d = true := by simpa using h1
      cases ha : aboveP d kn with
      | error e => rw [ha] at h; cases h
      | ok a =>
        rw [ha] at h
        have h : lK1 d kn a = .ok c := h
        have hA := aboveP_keeps hk hd ha
        rw [lK1_ex] at h
        cases hc : constsP d kn a.p a.hs with
        | error e => rw [hc] at h; cases h
        | ok cs =>
          rw [hc] at h
          have h : lK2 d kn a cs = .ok c := h
          have hcs : PIn CoP.nm U cs := by
            unfold constsP at hc
            cases hf : freshC kn a.hs a.p.1.cs with
            | error e => rw [hf] at hc; cases hc
            | ok c1 =>
              rw [hf] at hc
              exact ownC_keeps _ _ _ hd.cs (freshC_keeps hk _ _ _ (hA.pk hk).cs hf) hc
          rw [lK2_ex] at h
          cases hp : allPs d a.p a.rs with
          | error e => rw [hp] at h; cases h
          | ok ps =>
            rw [hp] at h
            have h : lK3 d kn a cs ps.1 = .ok c := h
            have hps : PIn PrP.nm U ps.1 := by
              unfold allPs at hp
              cases hf : traitPs d.nm a.rs (a.p.1.ps, []) with
              | error e => rw [hf] at hp; cases hp
              | ok s =>
                rw [hf] at hp
                exact propsP_keeps _ _ _ hd.ps (traitPs_keeps _ _ _ (fun t ht => hk t (hA.r t ht)) (hA.pk hk).ps hf) hp
            rw [lK3_ex] at h
            cases hm : allMs d kn a.p a.fs a.rs with
            | error e => rw [hm] at h; cases h
            | ok ms =>
              rw [hm] at h
              have hms : PIn MtP.nm U ms := by
                unfold allMs at hm
                cases hf : methodsP d true (giftsP d.ad a.rs) (facesM kn a.fs a.p.1.ms, []) with
                | error e => rw [hf] at hm; cases hm
                | ok s =>
                  rw [hf] at hm
                  simp only at hm
                  cases hg : methodsP d false d.ms s with
                  | error e => rw [hg] at hm; cases hm
                  | ok s2 =>
                    rw [hg] at hm
                    simp only at hm
                    split at hm
                    · cases hm
                    · cases hm
                      exact methodsP_keeps _ _ _ hd.ms (methodsP_keeps _ _ _ (gifts_names hd.ad (fun t ht => hk t (hA.r t ht))) (facesM_keeps hk _ _ (hA.pk hk).ms) hf) hg
              have hpar : emT d.pa = true ∨ findK kn d.pa = some a.p := by
                unfold aboveP at ha
                cases hq : parentP kn d.pa with
                | error e => rw [hq] at ha; cases ha
                | ok p =>
                  rw [hq] at ha
                  simp only at ha
                  have hpp : a.p = p := by
                    cases hf : facesP kn d.fs (p.1.fs, []) with
                    | error e => rw [hf] at ha; cases ha
                    | ok s =>
                      rw [hf] at ha
                      simp only at ha
                      cases ht : traitsP kn d.ts [] with
                      | error e => rw [ht] at ha; cases ha
                      | ok rs =>
                        rw [ht] at ha
                        simp only at ha
                        split at ha
                        · cases ha; rfl
                        · cases ha
                  rw [hpp]
                  exact parent_found hq
              cases h
              refine ⟨rfl, rfl, rfl, hnew, hright, ⟨hA.f.1, hcs, hps, hms⟩, ?_⟩
              rcases hpar with hpar | hpar
              · exact .inl hpar
              · exact .inr ⟨a.p, hpar, allMs_has hm⟩
end
theorem nodup_inj {α : Type} {f : α → ByteArray} : ∀ {l : List α} {x y : α}, (l.map f).Nodup → x ∈ l → y ∈ l → f x = f y → x = y
  | z :: l, x, y, hn, hx, hy, e => by
    rw [List.map_cons, List.nodup_cons] at hn
    rcases List.mem_cons.1 hx with h1 | h1
    · rcases List.mem_cons.1 hy with h2 | h2
      · rw [h1, h2]
      · exact absurd (by rw [← h1, e]; exact List.mem_map_of_mem h2) hn.1
    · rcases List.mem_cons.1 hy with h2 | h2
      · exact absurd (by rw [← h2, ← e]; exact List.mem_map_of_mem h1) hn.1
      · exact nodup_inj hn.2 h1 h2 e
theorem fstN_nodup {α : Type} {nm : α → ByteArray} {l : List α} {x : α} (hn : (l.map nm).Nodup) (hx : x ∈ l) : fstN nm l (nm x) = some x := by
  cases hf : fstN nm l (nm x) with
  | none =>
    unfold fstN fstP at hf
    cases hi : idxP (fun m => eqB (nm m) (nm x)) l with
    | none => have := idxP_none hi x hx; rw [eqB_self] at this; cases this
    | some i =>
      rw [hi] at hf
      have h1 := (idxP_some hi).1
      have hf : l[i]? = none := hf
      rw [List.getElem?_eq_getElem h1] at hf
      cases hf
  | some y =>
    obtain ⟨h1, h2⟩ := fstN_mem hf
    rw [nodup_inj hn h1 hx h2]
/-- What LinkKeeps asks of a class and a parent of its name. -/
theorem keep_law {U : List ByteArray} {d c : ClP} {kn : List KC} (hk : ∀ x ∈ kn, KnU U x.1) (hn : (kn.map fun x => x.1.nm).Nodup) (hne : ∀ x ∈ kn, emT x.1.nm = false) (hM : Made U d kn c) {p : KC} (hp : p ∈ kn) (he : eqB c.pa p.1.nm = true) {m : MtP} (hm : m ∈ p.1.ms) : ∃ n, methP c.ms m.nm = some n ∧ (m.fi = true → n = m) := by
  have e : d.pa = p.1.nm := by rw [← hM.pa]; exact eqB_iff.1 he
  rcases hM.par with h | ⟨q, hq, G, hG⟩
  · rw [e, hne p hp] at h
    cases h
  · have hqp : q = p := by
      rw [e, findK_fstN] at hq
      have h1 := fstN_nodup (nm := fun x : KC => x.1.nm) hn hp
      rw [hq] at h1
      cases h1
      rfl
    subst hqp
    obtain ⟨n, h1, h2⟩ := hG m hm
    exact ⟨n, h1, fun hf => (h2 hf (fstN_nodup (hk q hp).ms.1 hm)).1⟩
theorem nmP_ne {s : ByteArray} (h : nmP s = true) : emT s = false := by
  unfold nmP at h
  unfold emT
  cases hs : s.toList with
  | nil => rw [hs] at h; exact absurd h (by decide)
  | cons x r => rfl
theorem Made.named {U : List ByteArray} {d c : ClP} {kn : List KC} (hM : Made U d kn c) : emT c.nm = false := by
  rw [hM.nm]
  refine nmP_ne ?_
  have h := hM.right
  rw [rightP_eq] at h
  unfold rightQ at h
  cases hq : nmP d.nm with
  | true => rfl
  | false => rw [hq] at h; simp at h
theorem findK_last {kn : List KC} {c : ClP} {V : VS6} (h : findK kn c.nm = none) : findK (kn ++ [(c, V)]) c.nm = some (c, V) := by
  unfold findK fstP at h ⊢
  rw [idxP_append]
  cases hi : idxP (fun x : KC => eqB x.1.nm c.nm) kn with
  | some i =>
    rw [hi] at h
    have h1 := (idxP_some hi).1
    have h : kn[i]? = none := h
    rw [List.getElem?_eq_getElem h1] at h
    cases h
  | none =>
    have e : idxP (fun x : KC => eqB x.1.nm c.nm) [(c, V)] = some 0 := by
      rw [idxP, if_pos (eqB_self c.nm)]
    rw [e]
    show (kn ++ [(c, V)])[0 + kn.length]? = some (c, V)
    rw [Nat.zero_add, List.getElem?_append_right (Nat.le_refl _), Nat.sub_self]
    rfl
theorem isP_suc2 (kn : List KC) (of : ByteArray) (f : Nat) (name : ByteArray) : isP kn of (f + 1) name = if eqB name of = true then true else match findK kn name with | none => false | some c => if hasB c.1.fs of = true then true else if emT c.1.pa = true then false else isP kn of f c.1.pa := rfl
theorem is_parent {kn : List KC} {c : ClP} {V : VS6} (h : findK kn c.nm = none) (hp : emT c.pa = false) : isP (kn ++ [(c, V)]) c.pa ((kn ++ [(c, V)]).length + 1) c.nm = true := by
  rw [isP_suc2, findK_last h]
  split
  · rfl
  · simp only
    split
    · rfl
    · rw [hp, List.length_append]
      show (if false = true then false else isP (kn ++ [(c, V)]) c.pa (kn.length + 0 + 1) c.pa) = true
      rw [isP_suc2, if_pos (eqB_self c.pa)]
      rfl
theorem is_face {kn : List KC} {c : ClP} {V : VS6} {f : ByteArray} (h : findK kn c.nm = none) (hf : f ∈ c.fs) : isP (kn ++ [(c, V)]) f ((kn ++ [(c, V)]).length + 1) c.nm = true := by
  rw [isP_suc2, findK_last h]
  split
  · rfl
  · simp only
    rw [if_pos]
    exact List.any_eq_true.2 ⟨f, hf, eqB_self f⟩
theorem nodup_snoc {kn : List KC} {c : ClP} {V : VS6} (hn : (kn.map fun x => x.1.nm).Nodup) (h : findK kn c.nm = none) : ((kn ++ [(c, V)]).map fun x => x.1.nm).Nodup := by
  rw [List.map_append, List.nodup_append]
  refine ⟨hn, by simp, fun a ha b hb => ?_⟩
  simp only [List.map_cons, List.map_nil, List.mem_singleton] at hb
  subst hb
  obtain ⟨x, hx, rfl⟩ := List.mem_map.1 ha
  unfold findK fstP at h
  cases hi : idxP (fun x : KC => eqB x.1.nm c.nm) kn with
  | some i =>
    rw [hi] at h
    have h1 := (idxP_some hi).1
    have h : kn[i]? = none := h
    rw [List.getElem?_eq_getElem h1] at h
    cases h
  | none => exact eqB_ne.1 (idxP_none hi x hx)
end Go.Proofs.YtobjmajkcfhpoaaDoor
