/-
  A class that uses a trait is the class with the trait's members written into it: the plain law.
  alive (printed by genAlive17.py).
  A linked class has all methods of its parent, and the final ones as they are: the plain law.
-/
import Derived.Test.YtobjmajkcfhpoaaDoorWp30
import Derived.Test.YtobjmajkcfhpoaaDoorWp19
import Derived.Test.YtobjmajkcfhpoaaDoorWp17
import Derived.Test.YtobjmajkcfhpoaaDoorWp18
import Derived.Test.YtobjmajkcfhpoaaDoorWp16
namespace Go.Proofs.YtobjmajkcfhpoaaDoor
open Go.RowKit
theorem hasB_mem9 {l : List ByteArray} {s : ByteArray} : hasB l s = true ↔ s ∈ l := by
 unfold hasB; rw [List.any_eq_true]; constructor
 ·rintro ⟨x, hx, h⟩; rw [eqB_iff.1 h]; exact hx
 ·intro h; exact ⟨s, h, eqB_self s⟩
theorem hasB_not9 {l : List ByteArray} {s : ByteArray} : hasB l s = false ↔ s ∉ l := by
 rw [← hasB_mem9, Bool.not_eq_true]
theorem onceP_iff (right : ByteArray → Bool) : ∀ (l met : List ByteArray), onceP right met l = true ↔ (∀ s ∈ l, right s = true ∧ s ∉ met) ∧ l.Nodup
 | [], met => by simp [onceP]
 | s :: r, met => by
  rw [onceP]
  by_cases h : (hasB met s || !right s) = true
  ·rw [if_pos h]
   refine ⟨fun h9 => (by cases h9), fun ⟨h9, _⟩ => ?_⟩
   obtain ⟨h1, h2⟩ := h9 s (by simp)
   rw [h1, hasB_not9.2 h2] at h
   cases h
  ·rw [if_neg h, onceP_iff right r (s :: met)]
   have h1 : right s = true ∧ s ∉ met := by
    cases hr : right s
    ·simp [hr] at h
    ·cases hh : hasB met s
     ·exact ⟨rfl, hasB_not9.1 hh⟩
     ·simp [hh] at h
   constructor
   ·rintro ⟨h2, h3⟩; refine ⟨fun x hx => ?_, List.nodup_cons.2 ⟨fun hs => (h2 s hs).2 (by simp), h3⟩⟩; rcases List.mem_cons.1 hx with rfl | hx
    ·exact h1
    ·exact ⟨(h2 x hx).1, fun h4 => (h2 x hx).2 (by simp [h4])⟩
   ·rintro ⟨h2, h3⟩; obtain ⟨h4, h5⟩ := List.nodup_cons.1 h3; refine ⟨fun x hx => ⟨(h2 x (by simp [hx])).1, fun h6 => ?_⟩, h5⟩; rcases List.mem_cons.1 h6 with rfl | h6
    ·exact h4 hx
    ·exact (h2 x (by simp [hx])).2 h6
theorem onceP_app {right : ByteArray → Bool} {a b : List ByteArray} (ha : a.Nodup) (hr : ∀ s ∈ a, right s = true) (hb : onceP right [] b = true) (hd : ∀ s ∈ a, s ∉ b) : onceP right [] (a ++ b) = true := by
 obtain ⟨h1, h2⟩ := (onceP_iff right b []).1 hb; refine (onceP_iff right _ []).2 ⟨fun s hs => ?_, ?_⟩
 ·rcases List.mem_append.1 hs with hs | hs
  ·exact ⟨hr s hs, by simp⟩
  ·exact h1 s hs
 ·rw [List.nodup_append]; exact ⟨ha, h2, fun x hx y hy e => hd x hx (e ▸ hy)⟩
def fE {α β : Type} (r : Except Int (α × β)) : Except Int α :=
 match r with
 | .error e => .error e
 | .ok s => .ok s.1
section
variable {nm : ByteArray}
theorem propsP_app (tr : Bool) : ∀ (a b : List PrP) (s : List PrP × List ByteArray), propsP nm tr (a ++ b) s = (match propsP nm tr a s with | .error e => .error e | .ok s => propsP nm tr b s)
 | [], b, s => rfl
 | x :: a, b, s => by
  rw [List.cons_append, propsP, propsP]
  cases propP nm x tr s with
  | error e => rfl
  | ok s => exact propsP_app tr a b s
theorem propP_free {x : PrP} {tr : Bool} {ps : List PrP} {us : List ByteArray} (h : hasB us x.nm = false) : propP nm x tr (ps, us) = (match fE (propP nm x false (ps, [])) with | .error e => .error e | .ok l => .ok (l, if tr then x.nm :: us else us)) := by
 unfold propP fE; simp only [h, Bool.false_and, if_neg Bool.false_ne_true]; have h0 : hasB [] x.nm = false := rfl; simp only [h0, Bool.false_and, if_neg Bool.false_ne_true]; cases placeP ps x.nm with
 | none => rfl
 | some i =>
  simp only; cases ps[i]? with
  | none => rfl
  | some y =>
   simp only; by_cases hst : (x.st != y.st) = true
   ·rw [if_pos hst, if_pos hst]
   ·rw [if_neg hst, if_neg hst]
theorem propP_us {x : PrP} {ps : List PrP} {s : List PrP × List ByteArray} (h : propP nm x false (ps, []) = .ok s) : s.2 = [] := by
 unfold propP at h; cases hp : placeP ps x.nm with
 | none => rw [hp] at h; cases h; rfl
 | some i =>
  rw [hp] at h; simp only at h; cases hi : ps[i]? with
  | none => rw [hi] at h; cases h
  | some y =>
   rw [hi] at h; simp only at h; split at h
   ·cases h
   ·split at h
    ·cases h; rfl
    ·split at h
     ·cases h
     ·cases h; rfl
theorem props_tf (tr : Bool) : ∀ (l : List PrP) (ps : List PrP) (us : List ByteArray), (l.map PrP.nm).Nodup → (∀ x ∈ l, hasB us x.nm = false) → (match propsP nm tr l (ps, us) with | .error e => propsP nm false l (ps, []) = .error e | .ok s => propsP nm false l (ps, []) = .ok (s.1, []) ∧ ∀ n, n ∉ l.map PrP.nm → hasB s.2 n = hasB us n)
 | [], ps, us, _, _ => ⟨rfl, fun _ _ => rfl⟩
 | x :: l, ps, us, hn, hu => by
  rw [propsP, propsP, propP_free (hu x (by simp))]
  rw [List.map_cons, List.nodup_cons] at hn
  cases hq : propP nm x false (ps, []) with
  | error e => rfl
  | ok s =>
   obtain ⟨l9, us9⟩ := s
   obtain rfl : us9 = [] := propP_us hq
   simp only [fE]
   have ih := props_tf tr l l9 (if tr then x.nm :: us else us) hn.2 (fun y hy => by
    have h1 := hu y (by simp [hy])
    have h2 : y.nm ≠ x.nm := fun e => hn.1 (e ▸ List.mem_map_of_mem hy)
    cases tr
    ·exact h1
    ·show hasB (x.nm :: us) y.nm = false
     rw [hasB_cons, h1, eqB_ne.2 h2]
     rfl)
   cases hr : propsP nm tr l (l9, if tr then x.nm :: us else us) with
   | error e => rw [hr] at ih; exact ih
   | ok s =>
    rw [hr] at ih
    refine ⟨ih.1, fun n hnn => ?_⟩
    rw [List.map_cons, List.mem_cons, not_or] at hnn
    rw [ih.2 n hnn.2]
    cases tr
    ·rfl
    ·show hasB (x.nm :: us) n = _
     rw [hasB_cons, eqB_ne.2 hnn.1]
     rfl
end
theorem allPs_written (d w : ClP) (p t : KC) (hnm : w.nm = d.nm) (hps : w.ps = t.1.ps ++ d.ps) (hn : (t.1.ps.map PrP.nm).Nodup) (hn2 : (d.ps.map PrP.nm).Nodup) (hd : ∀ x ∈ d.ps, x.nm ∉ t.1.ps.map PrP.nm) : fE (allPs d p [t]) = fE (allPs w p []) := by
 have h1 := props_tf (nm := d.nm) true t.1.ps p.1.ps [] hn (fun _ _ => rfl); unfold allPs; simp only [traitPs, hnm, hps]; rw [propsP_app]; cases hq : propsP d.nm true t.1.ps (p.1.ps, []) with
 | error e =>
  rw [hq] at h1; rw [h1]
 | ok s =>
  obtain ⟨l, us⟩ := s; rw [hq] at h1; rw [h1.1]; simp only; have h2 := props_tf (nm := d.nm) false d.ps l us hn2 (fun x hx => by rw [h1.2 _ (hd x hx)]; rfl); cases hr : propsP d.nm false d.ps (l, us) with
  | error e => rw [hr] at h2; rw [h2]
  | ok s => rw [hr] at h2; rw [h2.1]; rfl
section
variable {d w : ClP}
theorem methodsP_app (tr : Bool) : ∀ (a b : List MtP) (s : List MtP × List (ByteArray × Bool)), methodsP d tr (a ++ b) s = (match methodsP d tr a s with | .error e => .error e | .ok s => methodsP d tr b s)
 | [], b, s => rfl
 | x :: a, b, s => by
  rw [List.cons_append, methodsP, methodsP]
  cases methodP d x tr s with
  | error e => rfl
  | ok s => exact methodsP_app tr a b s
theorem givenP_ne9 (G : List (ByteArray × Bool)) (n n9 : ByteArray) (b : Bool) (h : n ≠ n9) : givenP ((n9, b) :: G) n = givenP G n := by
 unfold givenP fstP; simp only [idxP]; rw [if_neg (by rw [eqB_ne.2 (fun e => h e.symm)]; decide)]; cases idxP (fun x => eqB x.1 n) G <;> rfl
def metF9 (nm : ByteArray) (x : MtP) (ms : List MtP) : Except Int (List MtP) :=
 match placeM ms x.nm with
 | none => .ok (ms ++ [⟨x.nm, x.st, x.ab, x.fi, nm, x.cd⟩])
 | some i => match ms[i]? with
  | none => .error 0
  | some y => if y.fi = true then .error 19 else if (y.st != x.st) = true then .error 20 else .ok (ms.set i ⟨x.nm, x.st, x.ab, x.fi, nm, x.cd⟩)
theorem methodP_free {x : MtP} {tr : Bool} {ms : List MtP} {G : List (ByteArray × Bool)} (h : givenP G x.nm = false) (ha : tr = true → x.ab = false) : methodP d x tr (ms, G) = (match metF9 d.nm x ms with | .error e => .error e | .ok l => .ok (l, (x.nm, tr) :: G)) := by
 unfold methodP metF9; simp only [h, if_neg Bool.false_ne_true]; cases placeM ms x.nm with
 | none => rfl
 | some i =>
  simp only; cases ms[i]? with
  | none => rfl
  | some y =>
   simp only; by_cases hf : y.fi = true
   ·rw [if_pos hf, if_pos hf]
   ·rw [if_neg hf, if_neg hf]; by_cases hst : (y.st != x.st) = true
    ·rw [if_pos hst, if_pos hst]
    ·rw [if_neg hst, if_neg hst, if_neg]; cases tr
     ·simp
     ·rw [ha rfl]; simp
theorem meths_eq (hnm : w.nm = d.nm) (tr tr2 : Bool) : ∀ (l : List MtP) (ms : List MtP) (G G2 : List (ByteArray × Bool)), (l.map MtP.nm).Nodup → (∀ x ∈ l, givenP G x.nm = false ∧ givenP G2 x.nm = false ∧ (tr = true → x.ab = false) ∧ (tr2 = true → x.ab = false)) → (match methodsP d tr l (ms, G) with | .error e => methodsP w tr2 l (ms, G2) = .error e | .ok s => ∃ G3, methodsP w tr2 l (ms, G2) = .ok (s.1, G3) ∧ ∀ n, n ∉ l.map MtP.nm → givenP s.2 n = givenP G n ∧ givenP G3 n = givenP G2 n)
 | [], ms, G, G2, _, _ => ⟨G2, rfl, fun _ _ => ⟨rfl, rfl⟩⟩
 | x :: l, ms, G, G2, hn, hu => by
  obtain ⟨h1, h2, h3, h4⟩ := hu x (by simp)
  rw [methodsP, methodsP, methodP_free h1 h3, methodP_free h2 h4, hnm]
  rw [List.map_cons, List.nodup_cons] at hn
  cases hq : metF9 d.nm x ms with
  | error e => rfl
  | ok l9 =>
   simp only
   have ih := meths_eq hnm tr tr2 l l9 ((x.nm, tr) :: G) ((x.nm, tr2) :: G2) hn.2 (fun y hy => by
    obtain ⟨k1, k2, k3, k4⟩ := hu y (by simp [hy])
    have hne : y.nm ≠ x.nm := fun e => hn.1 (e ▸ List.mem_map_of_mem hy)
    exact ⟨by rw [givenP_ne9 _ _ _ _ hne]; exact k1, by rw [givenP_ne9 _ _ _ _ hne]; exact k2, k3, k4⟩)
   cases hr : methodsP d tr l (l9, (x.nm, tr) :: G) with
   | error e => rw [hr] at ih; exact ih
   | ok s =>
    rw [hr] at ih
    obtain ⟨G3, e3, k3⟩ := ih
    refine ⟨G3, e3, fun n hnn => ?_⟩
    rw [List.map_cons, List.mem_cons, not_or] at hnn
    obtain ⟨j1, j2⟩ := k3 n hnn.2
    rw [givenP_ne9 _ _ _ _ hnn.1] at j1 j2
    exact ⟨j1, j2⟩
theorem gifts_one (t : KC) : giftsP [] [t] = t.1.ms := by
 unfold giftsP gifts1 gifts2; simp [goneP]
theorem gifts_none : giftsP [] [] = [] := rfl
theorem allMs_written (kn : List KC) (p t : KC) (fs : List ByteArray) (hnm : w.nm = d.nm) (hkd : w.kd = d.kd) (hab : w.ab = d.ab) (had : d.ad = []) (had2 : w.ad = []) (hms : w.ms = t.1.ms ++ d.ms) (hn : (t.1.ms.map MtP.nm).Nodup) (hn2 : (d.ms.map MtP.nm).Nodup) (hd : ∀ x ∈ d.ms, x.nm ∉ t.1.ms.map MtP.nm) (hna : ∀ x ∈ t.1.ms, x.ab = false) : allMs d kn p fs [t] = allMs w kn p fs [] := by
 have h1 := meths_eq hnm true false t.1.ms (facesM kn fs p.1.ms) [] [] hn (fun x hx => ⟨rfl, rfl, fun _ => hna x hx, fun h => (by cases h)⟩); unfold allMs; rw [had, had2, gifts_one, gifts_none, hkd, hab, hms]; simp only [methodsP]; rw [methodsP_app]; cases hq : methodsP d true t.1.ms (facesM kn fs p.1.ms, []) with
 | error e =>
  rw [hq] at h1; rw [h1]
 | ok s =>
  obtain ⟨l, G⟩ := s; rw [hq] at h1; obtain ⟨G3, e3, k3⟩ := h1; rw [e3]; simp only; have h2 := meths_eq hnm false false d.ms l G G3 hn2 (fun x hx => ⟨by rw [(k3 _ (hd x hx)).1]; rfl, by rw [(k3 _ (hd x hx)).2]; rfl, fun h => (by cases h), fun h => (by cases h)⟩); cases hr : methodsP d false d.ms (l, G) with
  | error e => rw [hr] at h2; rw [h2]
  | ok s =>
   rw [hr] at h2; obtain ⟨G4, e4, -⟩ := h2; rw [e4]
end
def wrP (d : ClP) (t : KC) : ClP := { d with ts := [], ms := t.1.ms ++ d.ms, ps := t.1.ps ++ d.ps }
structure WrOk (kn : List KC) (d : ClP) (t : KC) (tn : ByteArray) : Prop where
 ad : d.ad = []
 kd : d.kd = 1
 ts : d.ts = [tn]
 right : rightP d = true
 find : findK kn tn = some t
 tk : t.1.kd = 3
 tu : TuC t.1
 nm : (t.1.ms.map MtP.nm).Nodup
 np : (t.1.ps.map PrP.nm).Nodup
 mo : ∀ m ∈ t.1.ms, m.ab = false ∧ placeM d.ms m.nm = none
 po : ∀ p ∈ t.1.ps, ∀ q ∈ d.ps, eqB p.nm q.nm = false
section
variable {kn : List KC} {d : ClP} {t : KC} {tn : ByteArray}
theorem once_nodup {right : ByteArray → Bool} {l : List ByteArray} (h : onceP right [] l = true) : l.Nodup := ((onceP_iff right l []).1 h).2
theorem right_parts (h : rightP d = true) : ((((!nmP d.nm || (!emT d.pa && !nmP d.pa)) || !onceP nmP [] d.fs) || !onceP nmP [] d.ts) = false) ∧ onceP wordP [] (d.cs.map CoP.nm) = true ∧ onceP wordP [] (d.ps.map PrP.nm) = true ∧ onceP wordP [] (d.ms.map MtP.nm) = true ∧ ((d.ad.any fun a => !adaptP a) || (d.ms.any fun m => m.ab && m.fi)) = false := by
 unfold rightP at h; split at h
 ·cases h
 ·rename_i h1; split at h
  ·cases h
  ·rename_i h2; split at h
   ·cases h
   ·rename_i h3; simp only [Bool.not_eq_true] at h1 h3; refine ⟨h1, ?_, ?_, ?_, h3⟩ <;> simp only [Bool.or_eq_true, Bool.not_eq_true', not_or, Bool.not_eq_false] at h2
    ·exact h2.1.1
    ·exact h2.1.2
    ·exact h2.2
theorem WrOk.dm (h : WrOk kn d t tn) : ∀ x ∈ d.ms, x.nm ∉ t.1.ms.map MtP.nm := fun x hx hm => by
 obtain ⟨m, hm, e⟩ := List.mem_map.1 hm
 have h1 := idxP_none (h.mo m hm).2 x hx
 rw [e, eqB_self] at h1
 cases h1
theorem WrOk.dp (h : WrOk kn d t tn) : ∀ x ∈ d.ps, x.nm ∉ t.1.ps.map PrP.nm := fun x hx hm => by
 obtain ⟨m, hm, e⟩ := List.mem_map.1 hm
 have h1 := h.po m hm x hx
 rw [e, eqB_self] at h1
 cases h1
theorem WrOk.rightW (h : WrOk kn d t tn) : rightP (wrP d t) = true := by
 obtain ⟨h1, h2, h3, h4, h5⟩ := right_parts h.right; obtain ⟨k1, k2⟩ := h.tu h.tk; have hp : onceP wordP [] ((wrP d t).ps.map PrP.nm) = true := by
  show onceP wordP [] ((t.1.ps ++ d.ps).map PrP.nm) = true
  rw [List.map_append]; refine onceP_app h.np (fun s hs => ?_) h3 (fun s hs hs2 => ?_)
  ·obtain ⟨p, hp, rfl⟩ := List.mem_map.1 hs; exact k2 p hp
  ·obtain ⟨q, hq, rfl⟩ := List.mem_map.1 hs2; exact h.dp q hq hs
 have hm : onceP wordP [] ((wrP d t).ms.map MtP.nm) = true := by
  show onceP wordP [] ((t.1.ms ++ d.ms).map MtP.nm) = true
  rw [List.map_append]; refine onceP_app h.nm (fun s hs => ?_) h4 (fun s hs hs2 => ?_)
  ·obtain ⟨p, hp, rfl⟩ := List.mem_map.1 hs; exact k1 p hp
  ·obtain ⟨q, hq, rfl⟩ := List.mem_map.1 hs2; exact h.dm q hq hs
 have ht : onceP nmP [] (wrP d t).ts = true := rfl; have hab : (wrP d t).ms.any (fun m => m.ab) = d.ms.any (fun m => m.ab) := by
  show (t.1.ms ++ d.ms).any _ = _
  rw [List.any_append]; have : t.1.ms.any (fun m => m.ab) = false := List.any_eq_false.2 (fun m hm => by rw [(h.mo m hm).1]; decide); rw [this, Bool.false_or]
 have hf : ((wrP d t).ms.any fun m => m.ab && m.fi) = d.ms.any (fun m => m.ab && m.fi) := by
  show (t.1.ms ++ d.ms).any _ = _
  rw [List.any_append]; have : t.1.ms.any (fun m => m.ab && m.fi) = false := List.any_eq_false.2 (fun m hm => by rw [(h.mo m hm).1]; simp); rw [this, Bool.false_or]
 have hr := h.right; unfold rightP at hr ⊢; rw [hp, hm, ht, hf, hab]; have e1 : (wrP d t).nm = d.nm := rfl; have e2 : (wrP d t).pa = d.pa := rfl; have e3 : (wrP d t).fs = d.fs := rfl; have e4 : (wrP d t).cs = d.cs := rfl; have e5 : (wrP d t).ad = d.ad := rfl; have e6 : (wrP d t).kd = d.kd := rfl; have e7 : (wrP d t).ab = d.ab := rfl; have e8 : (wrP d t).fi = d.fi := rfl; rw [e1, e2, e3, e4, e5, e6, e7, e8, h2]; simp only [Bool.or_eq_false_iff] at h1; rw [if_neg (by simp only [Bool.not_eq_true, Bool.or_eq_false_iff]; exact ⟨⟨⟨h1.1.1.1, by simpa using h1.1.1.2⟩, h1.1.2⟩, rfl⟩), if_neg (by decide), if_neg (by rw [h5]; decide), if_pos h.kd]; rw [if_neg (by rw [Bool.not_eq_true]; simpa using right_parts h.right |>.1), h2, h3, h4] at hr; rw [if_neg (by decide), if_neg (by rw [h5]; decide), if_pos h.kd] at hr; exact hr
theorem WrOk.above (h : WrOk kn d t tn) : (∃ e, aboveP d kn = .error e ∧ aboveP (wrP d t) kn = .error e) ∨ ∃ p fs hs, aboveP d kn = .ok ⟨p, fs, hs, [t]⟩ ∧ aboveP (wrP d t) kn = .ok ⟨p, fs, hs, []⟩ := by
 have hon : oneP kn tn 3 = .ok t := by
  unfold oneP; rw [h.find]; simp only; rw [if_pos h.tk]
 have htr : traitsP kn d.ts [] = .ok [t] := by
  rw [h.ts]; simp only [traitsP, hon, List.nil_append]
 unfold aboveP; rw [htr, h.ad]; have e2 : (wrP d t).pa = d.pa := rfl; have e3 : (wrP d t).fs = d.fs := rfl; have e4 : (wrP d t).ts = [] := rfl; have e5 : (wrP d t).ad = [] := h.ad; rw [e2, e3, e4, e5]; cases parentP kn d.pa with
 | error e => exact .inl ⟨e, rfl, rfl⟩
 | ok p =>
  simp only; cases facesP kn d.fs (p.1.fs, []) with
  | error e => exact .inl ⟨e, rfl, rfl⟩
  | ok s => exact .inr ⟨p, s.1, s.2, by simp only [adaptsP, if_true], by simp only [traitsP, adaptsP, if_true]⟩
theorem WrOk.link (h : WrOk kn d t tn) : (∃ e, linkP d kn = .error e ∧ linkP (wrP d t) kn = .error e) ∨ ∃ c, linkP d kn = .ok { c with ts := [tn] } ∧ linkP (wrP d t) kn = .ok c ∧ c.ts = [] ∧ c.ad = [] := by
 obtain ⟨-, -, h3, h4, -⟩ := right_parts h.right; unfold linkP; have hT : ¬ (true = false) := by decide
 rw [h.right, h.rightW, if_neg hT, if_neg hT]; have e1 : (wrP d t).nm = d.nm := rfl; rw [e1]; by_cases hf : (findK kn d.nm).isSome = true
 ·rw [if_pos hf, if_pos hf]; exact .inl ⟨9, rfl, rfl⟩
 ·rw [if_neg hf, if_neg hf]; rcases h.above with ⟨e, ha, hb⟩ | ⟨p, fs, hs, ha, hb⟩
  ·rw [ha, hb]; exact .inl ⟨e, rfl, rfl⟩
  ·rw [ha, hb]; simp only; have hc : constsP (wrP d t) kn p hs = constsP d kn p hs := rfl; rw [hc]; cases constsP d kn p hs with
   | error e => exact .inl ⟨e, rfl, rfl⟩
   | ok cs =>
    simp only; have hps := allPs_written d (wrP d t) p t rfl rfl h.np (once_nodup h3) h.dp; have hms := allMs_written kn p t fs (d := d) (w := wrP d t) rfl rfl rfl h.ad h.ad rfl h.nm (once_nodup h4) h.dm (fun x hx => (h.mo x hx).1); cases hp : allPs d p [t] with
    | error e =>
     rw [hp] at hps; cases hp2 : allPs (wrP d t) p [] with
     | error e2 =>
      rw [hp2] at hps; cases hps; exact .inl ⟨e, rfl, rfl⟩
     | ok s2 => rw [hp2] at hps; cases hps
    | ok s =>
     rw [hp] at hps; cases hp2 : allPs (wrP d t) p [] with
     | error e2 => rw [hp2] at hps; cases hps
     | ok s2 =>
      rw [hp2] at hps; have es : s.1 = s2.1 := Except.ok.inj hps; simp only; rw [hms]; cases allMs (wrP d t) kn p fs [] with
      | error e => exact .inl ⟨e, rfl, rfl⟩
      | ok ms =>
       refine .inr ⟨⟨d.nm, d.kd, d.ab, d.fi, d.pa, fs, [], d.ad, cs, s2.1, ms⟩, ?_, rfl, rfl, h.ad⟩; simp only; rw [es, h.ts]
end
end Go.Proofs.YtobjmajkcfhpoaaDoor

namespace Go.Proofs.YtobjmajkcfhpoaaDoor
open Go.RowKit
attribute [local go_sem] yld_undef
def alT : ClP := (⟨⟨#[84]⟩, 3, false, false, ⟨#[]⟩, [], [], [], [], [], [⟨⟨#[109]⟩, false, false, false, ⟨#[84]⟩, 7⟩]⟩ : ClP)
def alC : ClP := (⟨⟨#[65]⟩, 1, false, false, ⟨#[]⟩, [], [⟨#[84]⟩], [], [], [], [⟨⟨#[109]⟩, false, false, false, ⟨#[65]⟩, 7⟩]⟩ : ClP)
def alD1 : ClP := (⟨⟨#[84]⟩, 3, false, false, ⟨#[]⟩, [], [], [], [], [], [⟨⟨#[109]⟩, false, false, false, ⟨#[]⟩, 7⟩]⟩ : ClP)
def alD2 : ClP := (⟨⟨#[65]⟩, 1, false, false, ⟨#[]⟩, [], [⟨#[84]⟩], [], [], [], []⟩ : ClP)
theorem al_one : linkP alD1 [] = .ok alT := by kernel_rfl
theorem al_two (V : VS6) : linkP alD2 [(alT, V)] = .ok alC := by kernel_rfl
theorem al_meth : methP alC.ms ⟨#[109]⟩ = some ⟨⟨#[109]⟩, false, false, false, ⟨#[65]⟩, 7⟩ := by kernel_rfl
theorem al_is (V : VS6) : isP [(alC, V)] ⟨#[65]⟩ 2 ⟨#[65]⟩ = true := by kernel_rfl
theorem al_U : SmU [⟨#[109]⟩] := ⟨by decide, fun u hu => by rw [List.mem_singleton.1 hu]; decide⟩
theorem al_sm1 : SmC alD1 := ⟨by decide, by decide, by decide, by decide, by decide, by decide, by decide, by decide, fun _ h => (by cases h), fun _ h => (by cases h), fun _ h => (by cases h), fun _ h => (by cases h), fun x h => (by rw [List.mem_singleton.1 h]; decide), fun _ h => (by cases h)⟩
theorem al_sm2 : SmC alD2 := ⟨by decide, by decide, by decide, by decide, by decide, by decide, by decide, by decide, fun _ h => (by cases h), fun x h => (by rw [List.mem_singleton.1 h]; decide), fun _ h => (by cases h), fun _ h => (by cases h), fun _ h => (by cases h), fun _ h => (by cases h)⟩
theorem al_de1 : DeU [⟨#[109]⟩] alD1 := ⟨fun _ h => (by cases h), fun _ h => (by cases h), fun _ h => (by cases h), fun x h => (by rw [List.mem_singleton.1 h]; exact List.mem_singleton.2 rfl), fun _ h => (by cases h), al_sm1⟩
theorem al_de2 : DeU [⟨#[109]⟩] alD2 := ⟨fun _ h => (by cases h), fun _ h => (by cases h), fun _ h => (by cases h), fun _ h => (by cases h), fun _ h => (by cases h), al_sm2⟩
theorem al_kn : KnU [⟨#[109]⟩] alT := ⟨PIn.nil, PIn.nil, PIn.nil, ⟨by simp [alT], fun n h => by rw [List.mem_singleton.1 h]; exact List.mem_singleton.2 rfl⟩⟩
theorem nt_under {w w' : World} {c : ClP} {V : VS6} (h : ClIn (NT w) w c V) (hb : Below w.heap.size w w') : ClIn (NT w') w' c V :=
 h.kept fun g ⟨c, t, fr, h1, ht⟩ hg => ⟨hb.block g hg, Nat.lt_of_lt_of_le hg hb.size, c, t, fr, (hb.block g hg).trans h1, ht⟩
theorem rin_new {w : World} (r : List Value) (t : TypeId) {size : Nat} (h : r.length = size) : RIn AnyB (w.alloc (.cells r.toArray t)) size (.slice (some ⟨w.heap.size, 0, none⟩) 1 1) [r] :=
 ⟨_, _, rfl, lies_new w r t h, fun _ _ _ _ => trivial, fun e => by cases e⟩
set_option maxHeartbeats 12800000 in
set_option maxRecDepth 100000 in
theorem alive_any (w : World) (ht : Tabs w) : Calls Tryd.prog 8 #[] w (BoolPost w true) := by
 have HT := Hd ht; have HB0 := Hd (below_alloc1 w (.cells #[.string ⟨#[109]⟩, .bool false, .bool false, .bool false, .string ⟨#[]⟩, .int .i64 7] 34)); have HC1 : Hid (ClIn AnyB (w.alloc (.cells #[.string ⟨#[109]⟩, .bool false, .bool false, .bool false, .string ⟨#[]⟩, .int .i64 7] 34)) alD1 ⟨⟨none, 0, 0⟩, ⟨none, 0, 0⟩, ⟨none, 0, 0⟩, ⟨none, 0, 0⟩, ⟨none, 0, 0⟩, ⟨some ⟨w.heap.size, 0, none⟩, 1, 1⟩⟩) := Hd ⟨RIn.nil, RIn.nil, AdIn.nil, RIn.nil, RIn.nil, rin_new [.string ⟨#[109]⟩, .bool false, .bool false, .bool false, .string ⟨#[]⟩, .int .i64 7] 34 rfl⟩; have HL1 := Hd (link_any (A' := AnyB) (B := AnyB) al_U (alD1, ⟨⟨none, 0, 0⟩, ⟨none, 0, 0⟩, ⟨none, 0, 0⟩, ⟨none, 0, 0⟩, ⟨none, 0, 0⟩, ⟨some ⟨w.heap.size, 0, none⟩, 1, 1⟩⟩) ⟨none, 0, 0⟩ [] HC1.out KnIn.zero al_de1 (fun _ h => by cases h) (by decide) (HT.out.mono HB0.out)); clear ht; go_enter Tryd.func8, Tryd.ntmps8; go_wp2_with fail; refine HL1.out.mono ?_; intro e1 w1 hp1; have hp1 : LinkPost _ (linkP alD1 []) e1 w1 := hp1; rw [al_one] at hp1; obtain ⟨V, rfl, hb1, hc1⟩ := hp1; have HB1 := Hd (HB0.out.trans (hb1.mono HB0.out.size)); have HX1 := Hd hc1; clear hb1 hc1 HL1 HC1 HB0; have B2 := Hd (below_alloc1 w1 (.cells #[.string ⟨#[84]⟩, .int .i64 3, .bool false, .bool false, .string ⟨#[]⟩, .slice V.f.o V.f.n V.f.c, .slice V.t.o V.t.n V.t.c, .slice V.a.o V.a.n V.a.c, .slice V.c.o V.c.n V.c.c, .slice V.p.o V.p.n V.p.c, .slice V.m.o V.m.n V.m.c] 29)); have T2 : Hid ((w1.alloc (.cells #[.string ⟨#[84]⟩, .int .i64 3, .bool false, .bool false, .string ⟨#[]⟩, .slice V.f.o V.f.n V.f.c, .slice V.t.o V.t.n V.t.c, .slice V.a.o V.a.n V.a.c, .slice V.c.o V.c.n V.c.c, .slice V.p.o V.p.n V.p.c, .slice V.m.o V.m.n V.m.c] 29)).heap[w1.heap.size]? = some (.cells #[.string ⟨#[84]⟩, .int .i64 3, .bool false, .bool false, .string ⟨#[]⟩, .slice V.f.o V.f.n V.f.c, .slice V.t.o V.t.n V.t.c, .slice V.a.o V.a.n V.a.c, .slice V.c.o V.c.n V.c.c, .slice V.p.o V.p.n V.p.c, .slice V.m.o V.m.n V.m.c] 29 (0, 0))) := Hd (heap_alloc_new w1 _)
 have HX2 := Hd (nt_under HX1.out B2.out); simp only [KC.v, alT]; go_upto_region 2 with fail; have HB2 := Hd (HB1.out.trans (B2.out.mono HB1.out.size)); obtain ⟨w2, hw2⟩ : ∃ w2, w2 = w1.alloc (.cells #[.string ⟨#[84]⟩, .int .i64 3, .bool false, .bool false, .string ⟨#[]⟩, .slice V.f.o V.f.n V.f.c, .slice V.t.o V.t.n V.t.c, .slice V.a.o V.a.n V.a.c, .slice V.c.o V.c.n V.c.c, .slice V.p.o V.p.n V.p.c, .slice V.m.o V.m.n V.m.c] 29) := ⟨_, rfl⟩; rw [← hw2] at T2 HX2 HB2 ⊢; clear hw2 B2 HX1 HB1; have c0 := cB (alloc_blk T2.out (.cells #[.string ⟨#[84]⟩] 9)) 0; have c1 := cB (alloc_blk T2.out (.cells #[.string ⟨#[84]⟩] 9)) 1; have c2 := cB (alloc_blk T2.out (.cells #[.string ⟨#[84]⟩] 9)) 2; have c3 := cB (alloc_blk T2.out (.cells #[.string ⟨#[84]⟩] 9)) 3; have c4 := cB (alloc_blk T2.out (.cells #[.string ⟨#[84]⟩] 9)) 4; have c5 := cB (alloc_blk T2.out (.cells #[.string ⟨#[84]⟩] 9)) 5; have c6 := cB (alloc_blk T2.out (.cells #[.string ⟨#[84]⟩] 9)) 6; have c7 := cB (alloc_blk T2.out (.cells #[.string ⟨#[84]⟩] 9)) 7; have c8 := cB (alloc_blk T2.out (.cells #[.string ⟨#[84]⟩] 9)) 8; have c9 := cB (alloc_blk T2.out (.cells #[.string ⟨#[84]⟩] 9)) 9; have c10 := cB (alloc_blk T2.out (.cells #[.string ⟨#[84]⟩] 9)) 10; have B3 := Hd (below_alloc1 w2 (.cells #[.string ⟨#[84]⟩] 9)); have HB3 := Hd (HB2.out.trans (B3.out.mono HB2.out.size)); have HX3 := Hd (nt_under HX2.out B3.out); have HS3 : Hid (RIn AnyB (w2.alloc (.cells #[.string ⟨#[84]⟩] 9)) 1 (.slice (some ⟨w2.heap.size, 0, none⟩) 1 1) ([⟨#[84]⟩].map sR)) := Hd (rin_new [.string ⟨#[84]⟩] 9 rfl)
 have B4 := Hd (below_alloc1 (w2.alloc (.cells #[.string ⟨#[84]⟩] 9)) (.cells #[.string ⟨#[84]⟩, .int .i64 3, .bool false, .bool false, .string ⟨#[]⟩, .slice V.f.o V.f.n V.f.c, .slice V.t.o V.t.n V.t.c, .slice V.a.o V.a.n V.a.c, .slice V.c.o V.c.n V.c.c, .slice V.p.o V.p.n V.p.c, .slice V.m.o V.m.n V.m.c] 29)); have HB4 := Hd (HB3.out.trans (B4.out.mono HB3.out.size)); have HX4 := Hd (nt_under HX3.out B4.out); have HK4 : Hid (KnIn AnyB (NT ((w2.alloc (.cells #[.string ⟨#[84]⟩] 9)).alloc (.cells #[.string ⟨#[84]⟩, .int .i64 3, .bool false, .bool false, .string ⟨#[]⟩, .slice V.f.o V.f.n V.f.c, .slice V.t.o V.t.n V.t.c, .slice V.a.o V.a.n V.a.c, .slice V.c.o V.c.n V.c.c, .slice V.p.o V.p.n V.p.c, .slice V.m.o V.m.n V.m.c] 29))) ((w2.alloc (.cells #[.string ⟨#[84]⟩] 9)).alloc (.cells #[.string ⟨#[84]⟩, .int .i64 3, .bool false, .bool false, .string ⟨#[]⟩, .slice V.f.o V.f.n V.f.c, .slice V.t.o V.t.n V.t.c, .slice V.a.o V.a.n V.a.c, .slice V.c.o V.c.n V.c.c, .slice V.p.o V.p.n V.p.c, .slice V.m.o V.m.n V.m.c] 29)) (.slice (some ⟨w2.heap.size + 1, 0, none⟩) 1 1) [(alT, V)]) := Hd ⟨by
  have h9 := rin_new (w := w2.alloc (.cells #[.string ⟨#[84]⟩] 9)) [.string ⟨#[84]⟩, .int .i64 3, .bool false, .bool false, .string ⟨#[]⟩, .slice V.f.o V.f.n V.f.c, .slice V.t.o V.t.n V.t.c, .slice V.a.o V.a.n V.a.c, .slice V.c.o V.c.n V.c.c, .slice V.p.o V.p.n V.p.c, .slice V.m.o V.m.n V.m.c] 29 (size := 11) rfl; have e9 : (w2.alloc (.cells #[.string ⟨#[84]⟩] 9)).heap.size = w2.heap.size + 1 := by simp
  rw [e9] at h9; exact h9, fun x hx => by rw [List.mem_singleton.1 hx]; exact HX4.out⟩
 have HC4 : Hid (ClIn AnyB ((w2.alloc (.cells #[.string ⟨#[84]⟩] 9)).alloc (.cells #[.string ⟨#[84]⟩, .int .i64 3, .bool false, .bool false, .string ⟨#[]⟩, .slice V.f.o V.f.n V.f.c, .slice V.t.o V.t.n V.t.c, .slice V.a.o V.a.n V.a.c, .slice V.c.o V.c.n V.c.c, .slice V.p.o V.p.n V.p.c, .slice V.m.o V.m.n V.m.c] 29)) alD2 ⟨⟨none, 0, 0⟩, ⟨some ⟨w2.heap.size, 0, none⟩, 1, 1⟩, ⟨none, 0, 0⟩, ⟨none, 0, 0⟩, ⟨none, 0, 0⟩, ⟨none, 0, 0⟩⟩) := Hd ⟨RIn.nil, HS3.out.under B4.out, AdIn.nil, RIn.nil, RIn.nil, RIn.nil⟩; have HL2 := Hd (link_any al_U (alD2, ⟨⟨none, 0, 0⟩, ⟨some ⟨w2.heap.size, 0, none⟩, 1, 1⟩, ⟨none, 0, 0⟩, ⟨none, 0, 0⟩, ⟨none, 0, 0⟩, ⟨none, 0, 0⟩⟩) ⟨some ⟨w2.heap.size + 1, 0, none⟩, 1, 1⟩ [(alT, V)] HC4.out HK4.out al_de2 (fun x h => by rw [List.mem_singleton.1 h]; exact al_kn) (by show 1 ≤ 1048576; decide) (HT.out.mono HB4.out)); go_wp2_with fail; refine HL2.out.mono ?_; intro e5 w5 hp5; have hp5 : LinkPost _ (linkP alD2 [(alT, V)]) e5 w5 := hp5; rw [al_two] at hp5; obtain ⟨V2, rfl, hb5, hc5⟩ := hp5; have HB5 := Hd (HB4.out.trans (hb5.mono HB4.out.size)); have HX5 := Hd hc5; clear hb5 hc5 HL2 HC4 HK4 HX4 HB4 B4 HS3 HX3 HB3 B3 c0 c1 c2 c3 c4 c5 c6 c7 c8 c9 c10 HX2 T2 HB2; have B6 := Hd (below_alloc1 w5 (.cells #[.string ⟨#[65]⟩, .int .i64 1, .bool false, .bool false, .string ⟨#[]⟩, .slice V2.f.o V2.f.n V2.f.c, .slice V2.t.o V2.t.n V2.t.c, .slice V2.a.o V2.a.n V2.a.c, .slice V2.c.o V2.c.n V2.c.c, .slice V2.p.o V2.p.n V2.p.c, .slice V2.m.o V2.m.n V2.m.c] 29)); have T6 : Hid ((w5.alloc (.cells #[.string ⟨#[65]⟩, .int .i64 1, .bool false, .bool false, .string ⟨#[]⟩, .slice V2.f.o V2.f.n V2.f.c, .slice V2.t.o V2.t.n V2.t.c, .slice V2.a.o V2.a.n V2.a.c, .slice V2.c.o V2.c.n V2.c.c, .slice V2.p.o V2.p.n V2.p.c, .slice V2.m.o V2.m.n V2.m.c] 29)).heap[w5.heap.size]? = some (.cells #[.string ⟨#[65]⟩, .int .i64 1, .bool false, .bool false, .string ⟨#[]⟩, .slice V2.f.o V2.f.n V2.f.c, .slice V2.t.o V2.t.n V2.t.c, .slice V2.a.o V2.a.n V2.a.c, .slice V2.c.o V2.c.n V2.c.c, .slice V2.p.o V2.p.n V2.p.c, .slice V2.m.o V2.m.n V2.m.c] 29 (0, 0))) := Hd (heap_alloc_new w5 _)
 have HX6 := Hd (nt_under HX5.out B6.out); have HB6 := Hd (HB5.out.trans (B6.out.mono HB5.out.size)); simp only [KC.v, alC]; go_upto_region 3 with fail; obtain ⟨w6, hw6⟩ : ∃ w6, w6 = w5.alloc (.cells #[.string ⟨#[65]⟩, .int .i64 1, .bool false, .bool false, .string ⟨#[]⟩, .slice V2.f.o V2.f.n V2.f.c, .slice V2.t.o V2.t.n V2.t.c, .slice V2.a.o V2.a.n V2.a.c, .slice V2.c.o V2.c.n V2.c.c, .slice V2.p.o V2.p.n V2.p.c, .slice V2.m.o V2.m.n V2.m.c] 29) := ⟨_, rfl⟩; rw [← hw6] at T6 HX6 HB6 ⊢; clear hw6 B6 HX5 HB5; have c0 := cB T6.out 0; have c1 := cB T6.out 1; have c2 := cB T6.out 2; have c3 := cB T6.out 3; have c4 := cB T6.out 4; have c5 := cB T6.out 5; have c6 := cB T6.out 6; have c7 := cB T6.out 7; have c8 := cB T6.out 8; have c9 := cB T6.out 9; have c10 := cB T6.out 10; have HMC := Hd (method_any (x := (alC, V2)) ⟨#[109]⟩ HX6.out (by show 1 ≤ 1073741824; decide)); rw [show (alC, V2).1.ms = alC.ms from rfl, al_meth] at HMC; go_wp2_with fail; refine HMC.out.mono ?_; rintro _ w7 ⟨hb7, rfl⟩; have HB7 := Hd (HB6.out.trans (hb7.mono HB6.out.size)); have T7 : Hid (w7.heap[w5.heap.size]? = some (.cells #[.string ⟨#[65]⟩, .int .i64 1, .bool false, .bool false, .string ⟨#[]⟩, .slice V2.f.o V2.f.n V2.f.c, .slice V2.t.o V2.t.n V2.t.c, .slice V2.a.o V2.a.n V2.a.c, .slice V2.c.o V2.c.n V2.c.c, .slice V2.p.o V2.p.n V2.p.c, .slice V2.m.o V2.m.n V2.m.c] 29 (0, 0))) := Hd ((hb7.block _ (lt_of_block T6.out)).trans T6.out); have HX7 := Hd (nt_under HX6.out hb7); clear hb7 HMC T6 HX6 HB6 c0 c1 c2 c3 c4 c5 c6 c7 c8 c9 c10
 simp only [Option.getD_some, Option.isSome_some, MtP.v]; go_upto_region 4 with fail; have B8 := Hd (below_alloc1 w7 (.cells #[.string ⟨#[109]⟩, .bool false, .bool false, .bool false, .string ⟨#[65]⟩, .int .i64 7] 34)); have T8 := Hd (alloc_blk T7.out (.cells #[.string ⟨#[109]⟩, .bool false, .bool false, .bool false, .string ⟨#[65]⟩, .int .i64 7] 34)); have M8 : Hid ((w7.alloc (.cells #[.string ⟨#[109]⟩, .bool false, .bool false, .bool false, .string ⟨#[65]⟩, .int .i64 7] 34)).heap[w7.heap.size]? = some (.cells #[.string ⟨#[109]⟩, .bool false, .bool false, .bool false, .string ⟨#[65]⟩, .int .i64 7] 34 (0, 0))) := Hd (heap_alloc_new w7 _); have HB8 := Hd (HB7.out.trans (B8.out.mono HB7.out.size)); have HX8 := Hd (nt_under HX7.out B8.out); obtain ⟨w8, hw8⟩ : ∃ w8, w8 = w7.alloc (.cells #[.string ⟨#[109]⟩, .bool false, .bool false, .bool false, .string ⟨#[65]⟩, .int .i64 7] 34) := ⟨_, rfl⟩; rw [← hw8] at T8 M8 HB8 HX8 ⊢; clear hw8 B8 T7 HX7 HB7 hp1 hp5; have c0 := cB T8.out 0; have c1 := cB T8.out 1; have c2 := cB T8.out 2; have c3 := cB T8.out 3; have c4 := cB T8.out 4; have c5 := cB T8.out 5; have c6 := cB T8.out 6; have c7 := cB T8.out 7; have c8 := cB T8.out 8; have c9 := cB T8.out 9; have c10 := cB T8.out 10; have m0 := cB M8.out 0; have m1 := cB M8.out 1; have m2 := cB M8.out 2; have m3 := cB M8.out 3; have m4 := cB M8.out 4; have m5 := cB M8.out 5; have B9 := Hd (below_alloc1 w8 (.cells #[.string ⟨#[65]⟩, .int .i64 1, .bool false, .bool false, .string ⟨#[]⟩, .slice V2.f.o V2.f.n V2.f.c, .slice V2.t.o V2.t.n V2.t.c, .slice V2.a.o V2.a.n V2.a.c, .slice V2.c.o V2.c.n V2.c.c, .slice V2.p.o V2.p.n V2.p.c, .slice V2.m.o V2.m.n V2.m.c] 29))
 have HB9 := Hd (HB8.out.trans (B9.out.mono HB8.out.size)); have HIS := Hd (is_any (A := AnyB) (kn := [(alC, V2)]) ⟨#[65]⟩ ⟨#[65]⟩ ⟨rin_new [.string ⟨#[65]⟩, .int .i64 1, .bool false, .bool false, .string ⟨#[]⟩, .slice V2.f.o V2.f.n V2.f.c, .slice V2.t.o V2.t.n V2.t.c, .slice V2.a.o V2.a.n V2.a.c, .slice V2.c.o V2.c.n V2.c.c, .slice V2.p.o V2.p.n V2.p.c, .slice V2.m.o V2.m.n V2.m.c] 29 (size := 11) rfl, fun x hx => by rw [List.mem_singleton.1 hx]; exact nt_under HX8.out B9.out⟩ (by show 1 ≤ 1073741824; decide) (fun x hx => by rw [List.mem_singleton.1 hx]; show 0 ≤ 1073741824; decide)); rw [show ([(alC, V2)] : List KC).length + 1 = 2 from rfl, al_is] at HIS; go_wp2_with fail; refine HIS.out.mono ?_; rintro _ w9 ⟨rfl, hb9⟩; have HB10 := Hd (HB9.out.trans (hb9.mono HB9.out.size)); clear hb9 HIS; go_wp2_with fail; go_ret; exact ⟨rfl, HB10.out⟩
end Go.Proofs.YtobjmajkcfhpoaaDoor

namespace Go.Proofs.YtobjmajkcfhpoaaDoor
open Go.RowKit
section
variable {α : Type} {nm : α → ByteArray}
def fstN (nm : α → ByteArray) (l : List α) (n : ByteArray) : Option α := fstP (fun m => eqB (nm m) n) l
theorem idxP_append {p : α → Bool} : ∀ {l r : List α}, idxP p (l ++ r) = match idxP p l with | some i => some i | none => (idxP p r).map (· + l.length)
 | [], r => by
  simp only [List.nil_append, idxP]
  cases idxP p r <;> rfl
 | x :: l, r => by
  rw [List.cons_append, idxP, idxP, idxP_append (l := l) (r := r)]
  by_cases h : p x = true
  ·rw [if_pos h, if_pos h]
  ·rw [if_neg h, if_neg h]
   cases idxP p l with
   | some i => rfl
   | none =>
    cases idxP p r with
    | none => rfl
    | some i =>
     simp only [Option.map_some, List.length_cons]
     congr 1
theorem fstN_append {l r : List α} {n : ByteArray} {x : α} (h : fstN nm l n = some x) : fstN nm (l ++ r) n = some x := by
 unfold fstN fstP at h ⊢; rw [idxP_append]; cases hi : idxP (fun m => eqB (nm m) n) l with
 | none => rw [hi] at h; cases h
 | some i =>
  rw [hi] at h; simp only; have h1 := (idxP_some hi).1; have h : l[i]? = some x := h; show (l ++ r)[i]? = some x
  rw [List.getElem?_append_left h1]; exact h
theorem idxP_names {l r : List α} {n : ByteArray} (h : r.map nm = l.map nm) : idxP (fun m => eqB (nm m) n) r = idxP (fun m => eqB (nm m) n) l := by
 induction l generalizing r with
 | nil =>
  cases r with
  | nil => rfl
  | cons y r => cases h
 | cons x l ih =>
  cases r with
  | nil => cases h
  | cons y r =>
   simp only [List.map_cons, List.cons.injEq] at h; rw [idxP, idxP, ih h.2, h.1]
theorem fstN_set {l : List α} {x z : α} {i : Nat} {n : ByteArray} (hp : idxP (fun c => eqB (nm c) (nm x)) l = some i) (h : fstN nm l n = some z) : fstN nm (l.set i x) n = if nm x = n then some x else some z := by
 have hs := set_names hp; unfold fstN fstP at h ⊢; rw [idxP_names hs]; obtain ⟨hi, -, -⟩ := idxP_some hp; by_cases hn : nm x = n
 ·rw [if_pos hn, ← hn, hp]; show (l.set i x)[i]? = some x
  rw [List.getElem?_set_self hi]
 ·rw [if_neg hn]; cases hj : idxP (fun m => eqB (nm m) n) l with
  | none => rw [hj] at h; cases h
  | some j =>
   rw [hj] at h; have hne : i ≠ j := by
    intro e; subst e; obtain ⟨_, h1, -⟩ := idxP_some hp; obtain ⟨_, h2, -⟩ := idxP_some hj; exact hn ((eqB_iff.1 h1).symm.trans (eqB_iff.1 h2))
   have h : l[j]? = some z := h; show (l.set i x)[j]? = some z
   rw [List.getElem?_set_ne hne]; exact h
theorem fstN_place {l : List α} {n : ByteArray} {x : α} (h : fstN nm l n = some x) : ∃ i, idxP (fun c => eqB (nm c) n) l = some i ∧ l[i]? = some x := by
 unfold fstN fstP at h; cases hi : idxP (fun m => eqB (nm m) n) l with
 | none => rw [hi] at h; cases h
 | some i => rw [hi] at h; exact ⟨i, rfl, h⟩
end
theorem methP_fstN (ms : List MtP) (n : ByteArray) : methP ms n = fstN MtP.nm ms n := rfl
def HasM (pm : List MtP) (s : MS) : Prop := ∀ m0 ∈ pm, ∃ n, methP s.1 m0.nm = some n ∧ (m0.fi = true → fstN MtP.nm pm m0.nm = some m0 → n = m0 ∧ givenP s.2 m0.nm = false)
theorem givenP_cons (G : List (ByteArray × Bool)) (x n : ByteArray) (t : Bool) : givenP ((x, t) :: G) n = if eqB x n = true then t else givenP G n := by
 unfold givenP fstP; rw [idxP]; by_cases h : eqB x n = true
 ·rw [if_pos h, if_pos h]; cases t <;> rfl
 ·rw [if_neg h, if_neg h]; cases hi : idxP (fun y : ByteArray × Bool => eqB y.1 n) G with
  | none => rfl
  | some i => rfl
theorem HasM.push {pm : List MtP} {s : MS} (h : HasM pm s) (m : MtP) (hp : placeM s.1 m.nm = none) (t : Bool) : HasM pm (s.1 ++ [m], (m.nm, t) :: s.2) := by
 intro m0 h0; obtain ⟨n, h1, h2⟩ := h m0 h0; refine ⟨n, fstN_append h1, fun hf hx => ?_⟩; obtain ⟨h3, h4⟩ := h2 hf hx; refine ⟨h3, ?_⟩; rw [givenP_cons]; split
 ·rename_i he; rw [methP_fstN] at h1; obtain ⟨i, hi, -⟩ := fstN_place h1; rw [← eqB_iff.1 he] at hi; have hi : placeM s.1 m.nm = some i := hi; rw [hi] at hp; cases hp
 ·exact h4
theorem HasM.face {pm : List MtP} {ms : List MtP} {G : List (ByteArray × Bool)} (h : HasM pm (ms, G)) (m : MtP) : HasM pm (ms ++ [m], G) := by
 intro m0 h0; obtain ⟨n, h1, h2⟩ := h m0 h0; exact ⟨n, fstN_append h1, h2⟩
theorem HasM.set {pm : List MtP} {s : MS} (h : HasM pm s) {m : MtP} {i : Nat} (hp : placeM s.1 m.nm = some i) {G : List (ByteArray × Bool)} (hG : ∀ n, givenP G n = true → eqB m.nm n = true ∨ givenP s.2 n = true) (hno : ∀ m0 ∈ pm, m0.fi = true → fstN MtP.nm pm m0.nm = some m0 → m0.nm ≠ m.nm) : HasM pm (s.1.set i m, G) := by
 intro m0 h0; obtain ⟨n, h1, h2⟩ := h m0 h0; have e := fstN_set hp h1; by_cases hn : m.nm = m0.nm
 ·rw [if_pos hn] at e; exact ⟨m, e, fun hf hx => absurd hn.symm (hno m0 h0 hf hx)⟩
 ·rw [if_neg hn] at e; refine ⟨n, e, fun hf hx => ?_⟩; obtain ⟨h3, h4⟩ := h2 hf hx; refine ⟨h3, ?_⟩; cases hg : givenP G m0.nm with
  | false => rfl
  | true =>
   rcases hG _ hg with hg | hg
   ·exact absurd (eqB_iff.1 hg) hn
   ·rw [h4] at hg; cases hg
theorem HasM.step {pm : List MtP} {d : ClP} {m0 : MtP} {tr : Bool} {s s' : MS} (h : HasM pm s) (he : methodP d m0 tr s = .ok s') : HasM pm s' := by
 unfold methodP at he; simp only at he; cases hp : placeM s.1 m0.nm with
 | none =>
  rw [hp] at he; cases he; exact h.push ⟨m0.nm, m0.st, m0.ab, m0.fi, d.nm, m0.cd⟩ hp tr
 | some i =>
  rw [hp] at he; have hi := (idxP_some hp).1; simp only at he; rw [List.getElem?_eq_getElem hi] at he; simp only at he; have hfst : ∀ m1 ∈ pm, m1.fi = true → fstN MtP.nm pm m1.nm = some m1 → m1.nm = m0.nm → s.1[i] = m1 ∧ givenP s.2 m0.nm = false := by
   intro m1 h1 hf hx hn; obtain ⟨n, h2, h3⟩ := h m1 h1; obtain ⟨h4, h5⟩ := h3 hf hx; obtain ⟨j, hj, hjn⟩ := fstN_place h2; rw [hn] at hj; have hj : placeM s.1 m0.nm = some j := hj; rw [hp] at hj; cases hj; rw [List.getElem?_eq_getElem hi] at hjn; cases hjn; exact ⟨h4, by rw [← hn]; exact h5⟩
  split at he
  ·rename_i hg; have hno : ∀ m1 ∈ pm, m1.fi = true → fstN MtP.nm pm m1.nm = some m1 → m1.nm ≠ m0.nm := fun m1 h1 hf hx hn => by
    have := (hfst m1 h1 hf hx hn).2; rw [this] at hg; cases hg
   split at he
   ·cases he; exact h.set (m := ⟨m0.nm, m0.st, m0.ab, m0.fi, d.nm, m0.cd⟩) hp (fun n hn => .inr hn) hno
   ·split at he
    ·cases he
    ·cases he; exact h
  ·split at he
   ·cases he
   ·rename_i hfin; have hno : ∀ m1 ∈ pm, m1.fi = true → fstN MtP.nm pm m1.nm = some m1 → m1.nm ≠ m0.nm := fun m1 h1 hf hx hn => by
     have := (hfst m1 h1 hf hx hn).1; rw [this] at hfin; exact hfin hf
    split at he
    ·cases he
    ·split at he
     ·cases he; exact h
     ·cases he; exact h.set (m := ⟨m0.nm, m0.st, m0.ab, m0.fi, d.nm, m0.cd⟩) hp (fun n hn => by
       rw [givenP_cons] at hn; split at hn
       ·rename_i he; exact .inl he
       ·exact .inr hn) hno
theorem HasM.steps {pm : List MtP} {d : ClP} {tr : Bool} : ∀ {l : List MtP} {s s' : MS}, HasM pm s → methodsP d tr l s = .ok s' → HasM pm s'
 | [], s, s', h, he => by cases he; exact h
 | m :: l, s, s', h, he => by
  rw [methodsP] at he
  cases hm : methodP d m tr s with
  | error c => rw [hm] at he; cases he
  | ok s1 =>
   rw [hm] at he
   exact (h.step hm).steps he
theorem HasM.faceM {pm : List MtP} {G : List (ByteArray × Bool)} : ∀ {l : List MtP} {ms : List MtP}, HasM pm (ms, G) → HasM pm (faceM l ms, G)
 | [], ms, h => h
 | m :: l, ms, h => by
  rw [Go.Proofs.YtobjmajkcfhpoaaDoor.faceM]
  refine HasM.faceM ?_
  split
  ·exact h
  ·exact h.face m
theorem HasM.facesM {pm : List MtP} {G : List (ByteArray × Bool)} {kn : List KC} : ∀ {l : List ByteArray} {ms : List MtP}, HasM pm (ms, G) → HasM pm (facesM kn l ms, G)
 | [], ms, h => h
 | n :: l, ms, h => by
  rw [Go.Proofs.YtobjmajkcfhpoaaDoor.facesM]
  exact (h.faceM).facesM
theorem HasM.start (pm : List MtP) (G : List (ByteArray × Bool)) (hG : ∀ n, givenP G n = false) : HasM pm (pm, G) := by
 intro m0 h0; cases hf : fstN MtP.nm pm m0.nm with
 | none =>
  unfold fstN fstP at hf; cases hi : idxP (fun m => eqB m.nm m0.nm) pm with
  | none => have := idxP_none hi m0 h0; rw [eqB_self] at this; cases this
  | some i =>
   rw [hi] at hf; have h1 := (idxP_some hi).1; have hf : pm[i]? = none := hf; rw [List.getElem?_eq_getElem h1] at hf; cases hf
 | some n => exact ⟨n, hf, fun _ hx => ⟨by cases hx; rfl, hG _⟩⟩
theorem allMs_has {d : ClP} {kn : List KC} {p : KC} {fs : List ByteArray} {rs : List KC} {ms : List MtP} (h : allMs d kn p fs rs = .ok ms) : ∃ G, HasM p.1.ms (ms, G) := by
 unfold allMs at h; cases h1 : methodsP d true (giftsP d.ad rs) (facesM kn fs p.1.ms, []) with
 | error c => rw [h1] at h; cases h
 | ok s =>
  rw [h1] at h; simp only at h; cases h2 : methodsP d false d.ms s with
  | error c => rw [h2] at h; cases h
  | ok s2 =>
   rw [h2] at h; simp only at h; split at h
   ·cases h
   ·cases h; exact ⟨s2.2, (((HasM.start p.1.ms [] (fun _ => rfl)).facesM).steps h1).steps h2⟩
end Go.Proofs.YtobjmajkcfhpoaaDoor
