/-
  What Link makes stays in the universe; what LinkKeeps asks of it: the plain law.
  append that leaves the old slice as it was: for what is appended for a moment. Of no program.
  LinkKeeps: the law's walk (printed by genKeeps17.py).
  linked: declarations linked one behind the other by the document (printed by genRLinked17.py).
-/
import Derived.Test.YtobjmajkcfhpoaaDoorWp31
import Derived.Test.YtobjmajkcfhpoaaDoorWp19
import Derived.Test.YtobjmajkcfhpoaaDoorWp1
import Derived.Deep.CutRange
import Derived.Test.YtobjmajkcfhpoaaDoorWp30
namespace Go.Proofs.YtobjmajkcfhpoaaDoor
open Go.RowKit
theorem none_of {α : Type} {o : Option α} (h : ¬ o.isSome = true) : o = none := by
 cases o with
 | none => rfl
 | some a => exact absurd rfl h
section
variable {U : List ByteArray}
theorem faceC_keeps {n : ByteArray} : ∀ (xs cs cs' : List CoP), (∀ x ∈ xs, x.nm ∈ U) → PIn CoP.nm U cs → faceC n xs cs = .ok cs' → PIn CoP.nm U cs'
 | [], cs, cs', _, h, e => by cases e; exact h
 | x :: xs, cs, cs', hx, h, e => by
  rw [faceC] at e
  by_cases h1 : eqB x.fr n = false
  ·rw [if_pos h1] at e
   exact faceC_keeps xs cs cs' (fun y hy => hx y (by simp [hy])) h e
  ·rw [if_neg h1] at e
   by_cases h2 : (placeC cs x.nm).isSome = true
   ·rw [if_pos h2] at e; cases e
   ·rw [if_neg h2] at e
    exact faceC_keeps xs _ cs' (fun y hy => hx y (by simp [hy])) (h.push (hx x (by simp)) (none_of h2)) e
theorem freshC_keeps {kn : List KC} (hk : ∀ x ∈ kn, KnU U x.1) : ∀ (l : List ByteArray) (cs cs' : List CoP), PIn CoP.nm U cs → freshC kn l cs = .ok cs' → PIn CoP.nm U cs'
 | [], cs, cs', h, e => by cases e; exact h
 | n :: l, cs, cs', h, e => by
  rw [freshC] at e
  cases h1 : faceC n ((findK kn n).getD KC.nil).1.cs cs with
  | error c => rw [h1] at e; cases e
  | ok cs1 =>
   rw [h1] at e
   exact freshC_keeps hk l cs1 cs' (faceC_keeps _ _ _ (fun x hx => (fKC_kn hk n).cs.mem hx) h h1) e
theorem ownC_keeps {nm : ByteArray} {hs : List ByteArray} : ∀ (xs cs cs' : List CoP), (∀ x ∈ xs, x.nm ∈ U) → PIn CoP.nm U cs → ownC nm hs xs cs = .ok cs' → PIn CoP.nm U cs'
 | [], cs, cs', _, h, e => by cases e; exact h
 | x :: xs, cs, cs', hx, h, e => by
  rw [ownC_cons] at e
  cases hp : placeC cs x.nm with
  | none =>
   rw [hp] at e
   exact ownC_keeps xs _ cs' (fun y hy => hx y (by simp [hy])) (h.push (x := ⟨x.nm, nm, x.cd⟩) (hx x (by simp)) hp) e
  | some i =>
   rw [hp] at e
   unfold ownQ at e
   simp only at e
   split at e
   ·cases e
   ·exact ownC_keeps xs _ cs' (fun y hy => hx y (by simp [hy])) (h.set (x := ⟨x.nm, nm, x.cd⟩) hp) e
theorem propsP_keeps {nm : ByteArray} {tr : Bool} : ∀ (xs : List PrP) (s s' : List PrP × List ByteArray), (∀ x ∈ xs, x.nm ∈ U) → PIn PrP.nm U s.1 → propsP nm tr xs s = .ok s' → PIn PrP.nm U s'.1
 | [], s, s', _, h, e => by cases e; exact h
 | x :: xs, s, s', hx, h, e => by
  rw [propsP] at e
  cases h1 : propP nm x tr s with
  | error c => rw [h1] at e; cases e
  | ok s1 =>
   rw [h1] at e
   exact propsP_keeps xs s1 s' (fun y hy => hx y (by simp [hy])) (propP_keeps h (hx x (by simp)) h1) e
theorem traitPs_keeps {nm : ByteArray} : ∀ (rs : List KC) (s s' : List PrP × List ByteArray), (∀ t ∈ rs, KnU U t.1) → PIn PrP.nm U s.1 → traitPs nm rs s = .ok s' → PIn PrP.nm U s'.1
 | [], s, s', _, h, e => by cases e; exact h
 | t :: rs, s, s', hr, h, e => by
  rw [traitPs] at e
  cases h1 : propsP nm true t.1.ps s with
  | error c => rw [h1] at e; cases e
  | ok s1 =>
   rw [h1] at e
   exact traitPs_keeps rs s1 s' (fun y hy => hr y (by simp [hy])) (propsP_keeps _ _ _ (fun x hx => (hr t (by simp)).ps.mem hx) h h1) e
theorem methodsP_keeps {d : ClP} {tr : Bool} : ∀ (xs : List MtP) (s s' : MS), (∀ x ∈ xs, x.nm ∈ U) → PIn MtP.nm U s.1 → methodsP d tr xs s = .ok s' → PIn MtP.nm U s'.1
 | [], s, s', _, h, e => by cases e; exact h
 | x :: xs, s, s', hx, h, e => by
  rw [methodsP] at e
  cases h1 : methodP d x tr s with
  | error c => rw [h1] at e; cases e
  | ok s1 =>
   rw [h1] at e
   exact methodsP_keeps xs s1 s' (fun y hy => hx y (by simp [hy])) (methodP_keeps h (hx x (by simp)) h1) e
theorem faceM_keeps : ∀ (xs ms : List MtP), (∀ x ∈ xs, x.nm ∈ U) → PIn MtP.nm U ms → PIn MtP.nm U (faceM xs ms)
 | [], ms, _, h => h
 | x :: xs, ms, hx, h => by
  rw [faceM]
  refine faceM_keeps xs _ (fun y hy => hx y (by simp [hy])) ?_
  split
  ·exact h
  ·rename_i h2
   exact h.push (hx x (by simp)) (none_of h2)
theorem facesM_keeps {kn : List KC} (hk : ∀ x ∈ kn, KnU U x.1) : ∀ (l : List ByteArray) (ms : List MtP), PIn MtP.nm U ms → PIn MtP.nm U (facesM kn l ms)
 | [], ms, h => h
 | n :: l, ms, h => by
  rw [facesM]
  exact facesM_keeps hk l _ (faceM_keeps _ _ (fun x hx => (fKC_kn hk n).ms.mem hx) h)
structure Made (U : List ByteArray) (d : ClP) (kn : List KC) (c : ClP) : Prop where
 nm : c.nm = d.nm
 pa : c.pa = d.pa
 kd : c.kd = d.kd
 new : findK kn d.nm = none
 right : rightP d = true
 fine : KnU U c
 par : emT d.pa = true ∨ ∃ p, findK kn d.pa = some p ∧ ∃ G, HasM p.1.ms (c.ms, G)
theorem parent_found {kn : List KC} {pa : ByteArray} {p : KC} (h : parentP kn pa = .ok p) : emT pa = true ∨ findK kn pa = some p := by
 unfold parentP at h; by_cases h1 : emT pa = true
 ·exact .inl h1
 ·rw [if_neg h1] at h; right; unfold oneP at h; cases hf : findK kn pa with
  | none => rw [hf] at h; cases h
  | some c =>
   rw [hf] at h; simp only at h; by_cases h2 : c.1.kd = 1
   ·rw [if_pos h2] at h; simp only at h; split at h
    ·cases h
    ·cases h; rfl
   ·rw [if_neg h2] at h; cases h
theorem linkP_made {d c : ClP} {kn : List KC} (hk : ∀ x ∈ kn, KnU U x.1) (hd : DeU U d) (h : linkP d kn = .ok c) : Made U d kn c := by
 rw [linkP_eq] at h; by_cases h1 : rightP d = false
 ·rw [if_pos h1] at h; cases h
 ·rw [if_neg h1] at h; by_cases h2 : (findK kn d.nm).isSome = true
  ·rw [if_pos h2] at h; cases h
  ·rw [if_neg h2, lK_ex] at h; have hnew : findK kn d.nm = none := by simpa using h2
   have hright : rightP d = true := by simpa using h1
   cases ha : aboveP d kn with
   | error e => rw [ha] at h; cases h
   | ok a =>
    rw [ha] at h; have h : lK1 d kn a = .ok c := h; have hA := aboveP_keeps hk hd ha; rw [lK1_ex] at h; cases hc : constsP d kn a.p a.hs with
    | error e => rw [hc] at h; cases h
    | ok cs =>
     rw [hc] at h; have h : lK2 d kn a cs = .ok c := h; have hcs : PIn CoP.nm U cs := by
      unfold constsP at hc; cases hf : freshC kn a.hs a.p.1.cs with
      | error e => rw [hf] at hc; cases hc
      | ok c1 =>
       rw [hf] at hc; exact ownC_keeps _ _ _ hd.cs (freshC_keeps hk _ _ _ (hA.pk hk).cs hf) hc
     rw [lK2_ex] at h; cases hp : allPs d a.p a.rs with
     | error e => rw [hp] at h; cases h
     | ok ps =>
      rw [hp] at h; have h : lK3 d kn a cs ps.1 = .ok c := h; have hps : PIn PrP.nm U ps.1 := by
       unfold allPs at hp; cases hf : traitPs d.nm a.rs (a.p.1.ps, []) with
       | error e => rw [hf] at hp; cases hp
       | ok s =>
        rw [hf] at hp; exact propsP_keeps _ _ _ hd.ps (traitPs_keeps _ _ _ (fun t ht => hk t (hA.r t ht)) (hA.pk hk).ps hf) hp
      rw [lK3_ex] at h; cases hm : allMs d kn a.p a.fs a.rs with
      | error e => rw [hm] at h; cases h
      | ok ms =>
       rw [hm] at h; have hms : PIn MtP.nm U ms := by
        unfold allMs at hm; cases hf : methodsP d true (giftsP d.ad a.rs) (facesM kn a.fs a.p.1.ms, []) with
        | error e => rw [hf] at hm; cases hm
        | ok s =>
         rw [hf] at hm; simp only at hm; cases hg : methodsP d false d.ms s with
         | error e => rw [hg] at hm; cases hm
         | ok s2 =>
          rw [hg] at hm; simp only at hm; split at hm
          ·cases hm
          ·cases hm; exact methodsP_keeps _ _ _ hd.ms (methodsP_keeps _ _ _ (gifts_names hd.ad (fun t ht => hk t (hA.r t ht))) (facesM_keeps hk _ _ (hA.pk hk).ms) hf) hg
       have hpar : emT d.pa = true ∨ findK kn d.pa = some a.p := by
        unfold aboveP at ha; cases hq : parentP kn d.pa with
        | error e => rw [hq] at ha; cases ha
        | ok p =>
         rw [hq] at ha; simp only at ha; have hpp : a.p = p := by
          cases hf : facesP kn d.fs (p.1.fs, []) with
          | error e => rw [hf] at ha; cases ha
          | ok s =>
           rw [hf] at ha; simp only at ha; cases ht : traitsP kn d.ts [] with
           | error e => rw [ht] at ha; cases ha
           | ok rs =>
            rw [ht] at ha; simp only at ha; split at ha
            ·cases ha; rfl
            ·cases ha
         rw [hpp]; exact parent_found hq
       cases h; refine ⟨rfl, rfl, rfl, hnew, hright, ⟨hA.f.1, hcs, hps, hms⟩, ?_⟩; rcases hpar with hpar | hpar
       ·exact .inl hpar
       ·exact .inr ⟨a.p, hpar, allMs_has hm⟩
end
theorem nmP_ne {s : ByteArray} (h : nmP s = true) : emT s = false := by
 unfold nmP at h; unfold emT; cases hs : s.toList with
 | nil => rw [hs] at h; exact absurd h (by decide)
 | cons x r => rfl
theorem Made.named {U : List ByteArray} {d c : ClP} {kn : List KC} (hM : Made U d kn c) : emT c.nm = false := by
 rw [hM.nm]; refine nmP_ne ?_; have h := hM.right; rw [rightP_eq] at h; unfold rightQ at h; cases hq : nmP d.nm with
 | true => rfl
 | false => rw [hq] at h; simp at h
theorem nodup_snoc {kn : List KC} {c : ClP} {V : VS6} (hn : (kn.map fun x => x.1.nm).Nodup) (h : findK kn c.nm = none) : ((kn ++ [(c, V)]).map fun x => x.1.nm).Nodup := by
 rw [List.map_append, List.nodup_append]; refine ⟨hn, by simp, fun a ha b hb => ?_⟩; simp only [List.map_cons, List.map_nil, List.mem_singleton] at hb; subst hb; obtain ⟨x, hx, rfl⟩ := List.mem_map.1 ha; unfold findK fstP at h; cases hi : idxP (fun x : KC => eqB x.1.nm c.nm) kn with
 | some i =>
  rw [hi] at h; have h1 := (idxP_some hi).1; have h : kn[i]? = none := h; rw [List.getElem?_eq_getElem h1] at h; cases h
 | none => exact eqB_ne.1 (idxP_none hi x hx)
end Go.Proofs.YtobjmajkcfhpoaaDoor

namespace Go.Proofs.YtobjmajkcfhpoaaDoor
open Go.RowKit
section
variable {P : Program}
end
end Go.Proofs.YtobjmajkcfhpoaaDoor

namespace Go.Proofs.YtobjmajkcfhpoaaDoor
open Go.RowKit
attribute [local go_sem] yld_undef
structure KS (W wr : World) (v : Value) (kn : List KC) : Prop where
 or : OR W wr 29 11 v (kn.map KC.row)
 cls : ∀ x ∈ kn, ClIn (NT wr) wr x.1 x.2
theorem KS.same {W wr w1 : World} {v : Value} {kn : List KC} (h : KS W wr v kn) (hb : Below wr.heap.size wr w1) : KS W w1 v kn := ⟨h.or.same hb, fun x hx => nt_under (h.cls x hx) hb⟩
theorem KS.known {W wr : World} {v : Value} {kn : List KC} (h : KS W wr v kn) : KnIn AnyB (NT wr) wr v kn := ⟨RIn.of_owns h.or.own (fun _ _ => trivial), h.cls⟩
theorem KS.nil (W : World) : KS W W (.slice none 0 0) [] := ⟨OR.nil, fun _ h => by cases h⟩
theorem nt_grown {w w3 : World} {v : Value} {size : Nat} {rows : List (List Value)} {c : ClP} {V : VS6} (ho : Owns w 29 size v rows) (hg : w.grownBy w3 v.ownBlock) (h : ClIn (NT w) w c V) : ClIn (NT w3) w3 c V :=
 h.kept fun g ⟨c, t, fr, h1, ht⟩ hgl => by
  have hne : ¬ (v.ownBlock = some g) := fun e => by
   obtain ⟨cur, h2⟩ := own_ty ho e
   rw [h2] at h1
   cases h1
   exact ht rfl
  have e := hg.block g hgl (fun e => hne e.symm)
  exact ⟨e, Nat.lt_of_lt_of_le hgl hg.size, c, t, fr, e.trans h1, ht⟩
theorem KS.push {W wr w3 : World} {v v3 : Value} {kn : List KC} {c : ClP} {V : VS6} (h : KS W wr v kn) (hc : ClIn (NT wr) wr c V) (o3 : Owns w3 29 11 v3 (kn.map KC.row ++ [KC.row (c, V)])) (g3 : wr.grownBy w3 v.ownBlock) (n3 : v3.ownBlock = v.ownBlock ∨ ∃ k, v3.ownBlock = some k ∧ wr.heap.size ≤ k) : KS W w3 v3 (kn ++ [(c, V)]) := by
 have e : kn.map KC.row ++ [KC.row (c, V)] = (kn ++ [(c, V)]).map KC.row := by rw [List.map_append]; rfl
 rw [e] at o3; refine ⟨h.or.next o3 g3 n3, fun x hx => ?_⟩; rcases List.mem_append.1 hx with hx | hx
 ·exact nt_grown h.or.own g3 (h.cls x hx)
 ·rw [List.mem_singleton.1 hx]; exact nt_grown h.or.own g3 hc
structure KL (U : List ByteArray) (kn : List KC) : Prop where
 fine : ∀ x ∈ kn, KnU U x.1
 nd : (kn.map fun x => x.1.nm).Nodup
 ne : ∀ x ∈ kn, emT x.1.nm = false
theorem KL.push {U : List ByteArray} {kn : List KC} {d c : ClP} {V : VS6} (h : KL U kn) (hM : Made U d kn c) : KL U (kn ++ [(c, V)]) := by
 refine ⟨fun x hx => ?_, nodup_snoc h.nd (by rw [hM.nm]; exact hM.new), fun x hx => ?_⟩
 ·rcases List.mem_append.1 hx with hx | hx
  ·exact h.fine x hx
  ·rw [List.mem_singleton.1 hx]; exact hM.fine
 ·rcases List.mem_append.1 hx with hx | hx
  ·exact h.ne x hx
  ·rw [List.mem_singleton.1 hx]; exact hM.named
theorem k_fits {r : List Value} {kn : List KC} (h : kn.length ≤ 1048576) : (kn.map KC.row).length + ([r] : List (List Value)).length ≤ maxLen ∧ ((kn.map KC.row).length + ([r] : List (List Value)).length) * 192 ≤ 140737488355328 := by
 rw [List.length_map]; unfold maxLen; simp only [List.length_cons, List.length_nil]; omega
end Go.Proofs.YtobjmajkcfhpoaaDoor

namespace Go.Proofs.YtobjmajkcfhpoaaDoor
open Go.RowKit
attribute [local go_sem] yld_undef
def KB2 (B : Nat → Prop) (w W : World) (g : Nat) : Prop := (B g ∧ g < w.heap.size) ∨ NT W g
structure KR (U : List ByteArray) (B : Nat → Prop) (w W : World) (v : Value) (kn : List KC) : Prop where
 or : OR w W 29 11 v (kn.map KC.row)
 cls : ∀ x ∈ kn, ClIn (KB2 B w W) W x.1 x.2
 fine : ∀ x ∈ kn, KnU U x.1 ∧ TuC x.1
theorem kb2_under {B : Nat → Prop} {w W W1 : World} {c : ClP} {V : VS6} (h : ClIn (KB2 B w W) W c V) (hb : Below W.heap.size W W1) : ClIn (KB2 B w W1) W1 c V :=
 h.kept fun g hA hg => by
  refine ⟨hb.block g hg, Nat.lt_of_lt_of_le hg hb.size, ?_⟩
  rcases hA with hA | ⟨c, t, fr, h1, ht⟩
  ·exact .inl hA
  ·exact .inr ⟨c, t, fr, (hb.block g hg).trans h1, ht⟩
theorem kb2_grown {B : Nat → Prop} {w W w3 : World} {v : Value} {rows : List (List Value)} {c : ClP} {V : VS6} (ho : OR w W 29 11 v rows) (hg : W.grownBy w3 v.ownBlock) (h : ClIn (KB2 B w W) W c V) : ClIn (KB2 B w w3) w3 c V :=
 h.kept fun g hA hgl => by
  have hne : ¬ (v.ownBlock = some g) := fun e => by
   rcases hA with hA | ⟨c, t, fr, h1, ht⟩
   ·have := ho.fresh g e
    have := hA.2
    omega
   ·obtain ⟨cur, h2⟩ := own_ty ho.own e
    rw [h2] at h1
    cases h1
    exact ht rfl
  have e := hg.block g hgl (fun e => hne e.symm)
  refine ⟨e, Nat.lt_of_lt_of_le hgl hg.size, ?_⟩
  rcases hA with hA | ⟨c, t, fr, h1, ht⟩
  ·exact .inl hA
  ·exact .inr ⟨c, t, fr, e.trans h1, ht⟩
section
variable {U : List ByteArray} {B : Nat → Prop} {w W W1 w3 : World} {v v3 : Value} {kn : List KC} {y : KC}
theorem KR.same (h : KR U B w W v kn) (hb : Below W.heap.size W W1) : KR U B w W1 v kn := ⟨h.or.same hb, fun x hx => kb2_under (h.cls x hx) hb, h.fine⟩
theorem KR.known (h : KR U B w W v kn) : KnIn AnyB (KB2 B w W) W v kn := ⟨RIn.of_owns h.or.own (fun _ _ => trivial), h.cls⟩
theorem KR.nil : KR U B w w (.slice none 0 0) [] := ⟨OR.nil, fun _ h => (by cases h), fun _ h => (by cases h)⟩
theorem KR.push (h : KR U B w W v kn) (hc : ClIn (KB2 B w W) W y.1 y.2) (hf : KnU U y.1 ∧ TuC y.1) (o3 : Owns w3 29 11 v3 (kn.map KC.row ++ [KC.row y])) (g3 : W.grownBy w3 v.ownBlock) (n3 : v3.ownBlock = v.ownBlock ∨ ∃ k, v3.ownBlock = some k ∧ W.heap.size ≤ k) : KR U B w w3 v3 (kn ++ [y]) := by
 have e : kn.map KC.row ++ [KC.row y] = (kn ++ [y]).map KC.row := by rw [List.map_append]; rfl
 rw [e] at o3; refine ⟨h.or.next o3 g3 n3, fun x hx => ?_, fun x hx => ?_⟩
 ·rcases List.mem_append.1 hx with hx | hx
  ·exact kb2_grown h.or g3 (h.cls x hx)
  ·rw [List.mem_singleton.1 hx]; exact kb2_grown h.or g3 hc
 ·rcases List.mem_append.1 hx with hx | hx
  ·exact h.fine x hx
  ·rw [List.mem_singleton.1 hx]; exact hf
end
theorem CapIn.kept {A B : Nat → Prop} {w W : World} {x : KC} (h : CapIn A w x) (hk : ∀ g, A g → g < w.heap.size → W.heap[g]? = w.heap[g]? ∧ g < W.heap.size ∧ B g) : CapIn B W x := by
 obtain ⟨xs, h1, h2, h3⟩ := h.ad; exact ⟨h.fc, h.tc, ⟨xs, h1, h2.kept hk, fun a ha => ⟨(h3 a ha).1.kept hk, (h3 a ha).2⟩⟩, h.az⟩
set_option maxHeartbeats 25600000 in
set_option maxRecDepth 100000 in
theorem linked_any {A B : Nat → Prop} {w : World} {U : List ByteArray} (hU : SmU U) (ao : Option Addr) (cap : Nat) (xs : List KC) (hk : KnIn A B w (.slice ao xs.length cap) xs) (hC : ∀ x ∈ xs, CapIn B w x) (hD : ∀ x ∈ xs, DeU U x.1) (hxs : xs.length ≤ 1048576) :
  Calls Tryd.prog 9 #[.slice ao xs.length cap] w (fun e w' => ∃ (uo : Option Addr) (uc : Nat) (kn : List KC), e = .returned (.slice uo kn.length uc) ∧ KR U B w w' (.slice uo kn.length uc) kn ∧ kn.length ≤ xs.length) := by
 have HK := Hd hk; have HD := Hd hD; have HCA := Hd hC; have S0 : Hid (KR U B w w (.slice none 0 0) []) := Hd KR.nil; clear hk hD hC; go_enter Tryd.func9, Tryd.ntmps9; go_wp2_with fail; go_loopw [3, 5, 6, 7, 10] (fun kv _ _ _ iv wr => ∃ (i : Nat) (uo : Option Addr) (L uc : Nat) (kn : List KC), i ≤ xs.length ∧ iv = .int .i64 i ∧ kv = .slice uo L uc ∧ Hid (L = kn.length) ∧ Hid (KR U B w wr (.slice uo L uc) kn) ∧ Hid (kn.length ≤ i)) (fun _ _ _ _ iv _ => xs.length - (intOf iv).toNat)
 case atStart => exact ⟨0, none, 0, 0, [], Nat.zero_le _, rfl, rfl, Hd rfl, S0, Hd (Nat.le_refl _)⟩
 case round =>
  clear S0; obtain ⟨i, uo, L, uc, kn, hi, rfl, rfl, HLL, HS, HI⟩ := hrel; by_cases hlt : i < xs.length
  ·have hi2 : (i : Int) < (xs.length : Int) := by omega
   obtain ⟨hw', hw⟩ := wr_sm (x := (i : Int) + 1) (by omega) (by omega); have HKB : Hid (kn.length ≤ 1048576) := Hd (Nat.le_trans HI.out (Nat.le_trans hi hxs)); obtain ⟨x, g, off, cp, hx, hxm, -, e, hg, -, hc⟩ := kc_cells (HK.out.rows.under HS.out.or.below) hlt; cases e; obtain ⟨d0, d1, d2, d3, d4, d5, d6, d7, d8, d9, d10⟩ := hc _ (Below.refl _ _); have Hlt := Hd hlt; have HS1 := Hd (HS.out.same (below_alloc1 wr (.cells #[.string x.1.nm, .int .i64 x.1.kd, .bool x.1.ab, .bool x.1.fi, .string x.1.pa, .slice x.2.f.o x.2.f.n x.2.f.c, .slice x.2.t.o x.2.t.n x.2.t.c, .slice x.2.a.o x.2.a.n x.2.a.c, .slice x.2.c.o x.2.c.n x.2.c.c, .slice x.2.p.o x.2.p.n x.2.p.c, .slice x.2.m.o x.2.m.n x.2.m.c] 29))); have HKP : ∀ g, B g → g < w.heap.size → (wr.alloc (.cells #[.string x.1.nm, .int .i64 x.1.kd, .bool x.1.ab, .bool x.1.fi, .string x.1.pa, .slice x.2.f.o x.2.f.n x.2.f.c, .slice x.2.t.o x.2.t.n x.2.t.c, .slice x.2.a.o x.2.a.n x.2.a.c, .slice x.2.c.o x.2.c.n x.2.c.c, .slice x.2.p.o x.2.p.n x.2.p.c, .slice x.2.m.o x.2.m.n x.2.m.c] 29)).heap[g]? = w.heap[g]? ∧ g < (wr.alloc (.cells #[.string x.1.nm, .int .i64 x.1.kd, .bool x.1.ab, .bool x.1.fi, .string x.1.pa, .slice x.2.f.o x.2.f.n x.2.f.c, .slice x.2.t.o x.2.t.n x.2.t.c, .slice x.2.a.o x.2.a.n x.2.a.c, .slice x.2.c.o x.2.c.n x.2.c.c, .slice x.2.p.o x.2.p.n x.2.p.c, .slice x.2.m.o x.2.m.n x.2.m.c] 29)).heap.size ∧ (B g ∧ g < w.heap.size) := fun g hB hg => ⟨HS1.out.or.below.block g hg, Nat.lt_of_lt_of_le hg HS1.out.or.below.size, hB, hg⟩
   have HLK := Hd (rlink_any hU x ⟨uo, L, uc⟩ kn ((HK.out.cls x hxm).kept HKP) ((HCA.out x hxm).kept HKP) HS1.out.known (HD.out x hxm) HS.out.fine HKB.out); have X1 : Hid ((wr.alloc (.cells #[.string x.1.nm, .int .i64 x.1.kd, .bool x.1.ab, .bool x.1.fi, .string x.1.pa, .slice x.2.f.o x.2.f.n x.2.f.c, .slice x.2.t.o x.2.t.n x.2.t.c, .slice x.2.a.o x.2.a.n x.2.a.c, .slice x.2.c.o x.2.c.n x.2.c.c, .slice x.2.p.o x.2.p.n x.2.p.c, .slice x.2.m.o x.2.m.n x.2.m.c] 29)).heap[wr.heap.size]? = some (.cells #[.string x.1.nm, .int .i64 x.1.kd, .bool x.1.ab, .bool x.1.fi, .string x.1.pa, .slice x.2.f.o x.2.f.n x.2.f.c, .slice x.2.t.o x.2.t.n x.2.t.c, .slice x.2.a.o x.2.a.n x.2.a.c, .slice x.2.c.o x.2.c.n x.2.c.c, .slice x.2.p.o x.2.p.n x.2.p.c, .slice x.2.m.o x.2.m.n x.2.m.c] 29 (0, 0))) := Hd (heap_alloc_new wr _); clear hc hx hxm hlt hg HS HKP; go_upto_region 5 with fail; clear d0 d1 d2 d3 d4 d5 d6 d7 d8 d9 d10; obtain ⟨wx, hwx⟩ : ∃ wx, wx = wr.alloc (.cells #[.string x.1.nm, .int .i64 x.1.kd, .bool x.1.ab, .bool x.1.fi, .string x.1.pa, .slice x.2.f.o x.2.f.n x.2.f.c, .slice x.2.t.o x.2.t.n x.2.t.c, .slice x.2.a.o x.2.a.n x.2.a.c, .slice x.2.c.o x.2.c.n x.2.c.c, .slice x.2.p.o x.2.p.n x.2.p.c, .slice x.2.m.o x.2.m.n x.2.m.c] 29) := ⟨_, rfl⟩; rw [← hwx] at HS1 HLK X1 ⊢; clear hwx; have d0 := cB X1.out 0; have d1 := cB X1.out 1; have d2 := cB X1.out 2; have d3 := cB X1.out 3; have d4 := cB X1.out 4; have d5 := cB X1.out 5; have d6 := cB X1.out 6; have d7 := cB X1.out 7; have d8 := cB X1.out 8; have d9 := cB X1.out 9; have d10 := cB X1.out 10
   go_wp2_with fail; refine HLK.out.mono ?_; rintro _ w1 ⟨c, y, rfl, hb, hy⟩; have HS2 := Hd (HS1.out.same hb); have HY : Hid (c = 0 → ClIn (KB2 B w w1) w1 y.1 y.2 ∧ KnU U y.1 ∧ TuC y.1) := Hd hy; clear hb hy d0 d1 d2 d3 d4 d5 d6 d7 d8 d9 d10 HLK HS1; simp only [KC.v]; have HS3 := Hd (HS2.out.same (below_alloc1 w1 (.cells #[.string y.1.nm, .int .i64 y.1.kd, .bool y.1.ab, .bool y.1.fi, .string y.1.pa, .slice y.2.f.o y.2.f.n y.2.f.c, .slice y.2.t.o y.2.t.n y.2.t.c, .slice y.2.a.o y.2.a.n y.2.a.c, .slice y.2.c.o y.2.c.n y.2.c.c, .slice y.2.p.o y.2.p.n y.2.p.c, .slice y.2.m.o y.2.m.n y.2.m.c] 29))); have X3 : Hid ((w1.alloc (.cells #[.string y.1.nm, .int .i64 y.1.kd, .bool y.1.ab, .bool y.1.fi, .string y.1.pa, .slice y.2.f.o y.2.f.n y.2.f.c, .slice y.2.t.o y.2.t.n y.2.t.c, .slice y.2.a.o y.2.a.n y.2.a.c, .slice y.2.c.o y.2.c.n y.2.c.c, .slice y.2.p.o y.2.p.n y.2.p.c, .slice y.2.m.o y.2.m.n y.2.m.c] 29)).heap[w1.heap.size]? = some (.cells #[.string y.1.nm, .int .i64 y.1.kd, .bool y.1.ab, .bool y.1.fi, .string y.1.pa, .slice y.2.f.o y.2.f.n y.2.f.c, .slice y.2.t.o y.2.t.n y.2.t.c, .slice y.2.a.o y.2.a.n y.2.a.c, .slice y.2.c.o y.2.c.n y.2.c.c, .slice y.2.p.o y.2.p.n y.2.p.c, .slice y.2.m.o y.2.m.n y.2.m.c] 29 (0, 0))) := Hd (heap_alloc_new w1 _); have HY3 : Hid (c = 0 → ClIn (KB2 B w (w1.alloc (.cells #[.string y.1.nm, .int .i64 y.1.kd, .bool y.1.ab, .bool y.1.fi, .string y.1.pa, .slice y.2.f.o y.2.f.n y.2.f.c, .slice y.2.t.o y.2.t.n y.2.t.c, .slice y.2.a.o y.2.a.n y.2.a.c, .slice y.2.c.o y.2.c.n y.2.c.c, .slice y.2.p.o y.2.p.n y.2.p.c, .slice y.2.m.o y.2.m.n y.2.m.c] 29))) (w1.alloc (.cells #[.string y.1.nm, .int .i64 y.1.kd, .bool y.1.ab, .bool y.1.fi, .string y.1.pa, .slice y.2.f.o y.2.f.n y.2.f.c, .slice y.2.t.o y.2.t.n y.2.t.c, .slice y.2.a.o y.2.a.n y.2.a.c, .slice y.2.c.o y.2.c.n y.2.c.c, .slice y.2.p.o y.2.p.n y.2.p.c, .slice y.2.m.o y.2.m.n y.2.m.c] 29)) y.1 y.2 ∧ KnU U y.1 ∧ TuC y.1) := Hd (fun h0 => ⟨kb2_under (HY.out h0).1 (below_alloc1 _ _), (HY.out h0).2⟩)
   go_upto_region 6 with fail
   obtain ⟨w2, hw2⟩ : ∃ w2, w2 = w1.alloc (.cells #[.string y.1.nm, .int .i64 y.1.kd, .bool y.1.ab, .bool y.1.fi, .string y.1.pa, .slice y.2.f.o y.2.f.n y.2.f.c, .slice y.2.t.o y.2.t.n y.2.t.c, .slice y.2.a.o y.2.a.n y.2.a.c, .slice y.2.c.o y.2.c.n y.2.c.c, .slice y.2.p.o y.2.p.n y.2.p.c, .slice y.2.m.o y.2.m.n y.2.m.c] 29) := ⟨_, rfl⟩; rw [← hw2] at HS3 X3 HY3 ⊢; clear hw2 HS2 HY; obtain ⟨z, hz⟩ : ∃ z, (c == 0) = z := ⟨_, rfl⟩; have HZ := Hd hz; cases z with
   | false =>
    have HI2 : Hid (kn.length ≤ i + 1) := Hd (Nat.le_succ_of_le HI.out); go_wp2_with fail; go_roundw
    case rel => exact ⟨i + 1, _, _, _, kn, Hlt.out, by go_num, rfl, HLL, HS3, HI2⟩
    case measure => exact meas_lt Hlt.out
   | true =>
    have hc0 : c = 0 := by simpa using HZ.out
    have HC := Hd (HY3.out hc0); clear HY3 hc0; have HB4 := Hd (below_alloc1 w2 (.cells #[.string y.1.nm, .int .i64 y.1.kd, .bool y.1.ab, .bool y.1.fi, .string y.1.pa, .slice y.2.f.o y.2.f.n y.2.f.c, .slice y.2.t.o y.2.t.n y.2.t.c, .slice y.2.a.o y.2.a.n y.2.a.c, .slice y.2.c.o y.2.c.n y.2.c.c, .slice y.2.p.o y.2.p.n y.2.p.c, .slice y.2.m.o y.2.m.n y.2.m.c] 29)); have HS4 := Hd (HS3.out.same HB4.out); have HC4 : Hid (ClIn (KB2 B w (w2.alloc (.cells #[.string y.1.nm, .int .i64 y.1.kd, .bool y.1.ab, .bool y.1.fi, .string y.1.pa, .slice y.2.f.o y.2.f.n y.2.f.c, .slice y.2.t.o y.2.t.n y.2.t.c, .slice y.2.a.o y.2.a.n y.2.a.c, .slice y.2.c.o y.2.c.n y.2.c.c, .slice y.2.p.o y.2.p.n y.2.p.c, .slice y.2.m.o y.2.m.n y.2.m.c] 29))) (w2.alloc (.cells #[.string y.1.nm, .int .i64 y.1.kd, .bool y.1.ab, .bool y.1.fi, .string y.1.pa, .slice y.2.f.o y.2.f.n y.2.f.c, .slice y.2.t.o y.2.t.n y.2.t.c, .slice y.2.a.o y.2.a.n y.2.a.c, .slice y.2.c.o y.2.c.n y.2.c.c, .slice y.2.p.o y.2.p.n y.2.p.c, .slice y.2.m.o y.2.m.n y.2.m.c] 29)) y.1 y.2) := Hd (kb2_under HC.out.1 HB4.out); have hL : Hid (Lies (w2.alloc (.cells #[.string y.1.nm, .int .i64 y.1.kd, .bool y.1.ab, .bool y.1.fi, .string y.1.pa, .slice y.2.f.o y.2.f.n y.2.f.c, .slice y.2.t.o y.2.t.n y.2.t.c, .slice y.2.a.o y.2.a.n y.2.a.c, .slice y.2.c.o y.2.c.n y.2.c.c, .slice y.2.p.o y.2.p.n y.2.p.c, .slice y.2.m.o y.2.m.n y.2.m.c] 29)) 11 (some ⟨w2.heap.size, 0, none⟩) ([[.string y.1.nm, .int .i64 y.1.kd, .bool y.1.ab, .bool y.1.fi, .string y.1.pa, .slice y.2.f.o y.2.f.n y.2.f.c, .slice y.2.t.o y.2.t.n y.2.t.c, .slice y.2.a.o y.2.a.n y.2.a.c, .slice y.2.c.o y.2.c.n y.2.c.c, .slice y.2.p.o y.2.p.n y.2.p.c, .slice y.2.m.o y.2.m.n y.2.m.c]] : List (List Value))) := Hd (lies_new w2 [.string y.1.nm, .int .i64 y.1.kd, .bool y.1.ab, .bool y.1.fi, .string y.1.pa, .slice y.2.f.o y.2.f.n y.2.f.c, .slice y.2.t.o y.2.t.n y.2.t.c, .slice y.2.a.o y.2.a.n y.2.a.c, .slice y.2.c.o y.2.c.n y.2.c.c, .slice y.2.p.o y.2.p.n y.2.p.c, .slice y.2.m.o y.2.m.n y.2.m.c] 29 rfl)
    have hRR : Hid ((kn.map KC.row).length + ([[.string y.1.nm, .int .i64 y.1.kd, .bool y.1.ab, .bool y.1.fi, .string y.1.pa, .slice y.2.f.o y.2.f.n y.2.f.c, .slice y.2.t.o y.2.t.n y.2.t.c, .slice y.2.a.o y.2.a.n y.2.a.c, .slice y.2.c.o y.2.c.n y.2.c.c, .slice y.2.p.o y.2.p.n y.2.p.c, .slice y.2.m.o y.2.m.n y.2.m.c]] : List (List Value)).length ≤ maxLen ∧ ((kn.map KC.row).length + ([[.string y.1.nm, .int .i64 y.1.kd, .bool y.1.ab, .bool y.1.fi, .string y.1.pa, .slice y.2.f.o y.2.f.n y.2.f.c, .slice y.2.t.o y.2.t.n y.2.t.c, .slice y.2.a.o y.2.a.n y.2.a.c, .slice y.2.c.o y.2.c.n y.2.c.c, .slice y.2.p.o y.2.p.n y.2.p.c, .slice y.2.m.o y.2.m.n y.2.m.c]] : List (List Value)).length) * 192 ≤ 140737488355328) := Hd (k_fits HKB.out); have d0 := cB X3.out 0; have d1 := cB X3.out 1; have d2 := cB X3.out 2; have d3 := cB X3.out 3; have d4 := cB X3.out 4; have d5 := cB X3.out 5; have d6 := cB X3.out 6; have d7 := cB X3.out 7; have d8 := cB X3.out 8; have d9 := cB X3.out 9; have d10 := cB X3.out 10; have HI2 : Hid (kn.length + 1 ≤ i + 1) := Hd (Nat.succ_le_succ HI.out); go_wp2_with (at_builtin; refine wpList_append_rows rfl (.tmp 22) (.tmp 24) 22 rfl 29 _ 11 192 Tryd.underlying22 info29 rfl (by decide) (.slice uo L uc) (kn.map KC.row) (by rfl) HS4.out.or.own (some ⟨w2.heap.size, 0, none⟩) 1 1 ([[.string y.1.nm, .int .i64 y.1.kd, .bool y.1.ab, .bool y.1.fi, .string y.1.pa, .slice y.2.f.o y.2.f.n y.2.f.c, .slice y.2.t.o y.2.t.n y.2.t.c, .slice y.2.a.o y.2.a.n y.2.a.c, .slice y.2.c.o y.2.c.n y.2.c.c, .slice y.2.p.o y.2.p.n y.2.p.c, .slice y.2.m.o y.2.m.n y.2.m.c]] : List (List Value)) (by rfl) rfl (fun e => by cases e) hL.out (by simp [Value.oneCell']) (by simp) hRR.out.1 (by have h := hRR.out.2; omega) ?_; intro v3 w3 o3 g3 n3; obtain ⟨a8, L8, c8, hv8, hl8⟩ := owns_slice o3; subst hv8; have R8 := Hd (HS4.out.push HC4.out HC.out.2 o3 g3 n3); have HL8 := Hd hl8; clear o3 g3 n3 hl8)
    have HL9 : Hid (L8 = (kn ++ [y]).length) := Hd (by rw [HL8.out]; simp); have HI3 : Hid ((kn ++ [y]).length ≤ i + 1) := Hd (by rw [List.length_append]; exact HI2.out); go_roundw
    case rel => exact ⟨i + 1, _, _, _, kn ++ [y], Hlt.out, by go_num, rfl, HL9, R8, HI3⟩
    case measure => exact meas_lt Hlt.out
  ·obtain rfl : i = xs.length := by omega
   go_wp2_with fail; go_ret; obtain rfl := HLL.out; exact ⟨_, _, kn, rfl, HS.out, HI.out⟩
end Go.Proofs.YtobjmajkcfhpoaaDoor
