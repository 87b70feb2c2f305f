/-
  Chapter 17: classes as plain data, and what linking makes of them. Of no program.
-/
import Derived.Test.YtobjmajkcfhpoaaDoorName17
namespace Go.Proofs.YtobjmajkcfhpoaaDoor
open Go.RowKit

structure MtP where
  nm : ByteArray
  st : Bool
  ab : Bool
  fi : Bool
  fr : ByteArray
  cd : Int
structure PrP where
  nm : ByteArray
  st : Bool
  fr : ByteArray
  cd : Int
structure CoP where
  nm : ByteArray
  fr : ByteArray
  cd : Int
structure AdP where
  tr : ByteArray
  nm : ByteArray
  ot : List ByteArray
  sa : ByteArray
structure ClP where
  nm : ByteArray
  kd : Int
  ab : Bool
  fi : Bool
  pa : ByteArray
  fs : List ByteArray
  ts : List ByteArray
  ad : List AdP
  cs : List CoP
  ps : List PrP
  ms : List MtP
/-- A slice value. -/
structure SV where
  o : Option Addr
  n : Nat
  c : Nat
/-- Where a class's slices lie. -/
structure VS6 where
  f : SV
  t : SV
  a : SV
  c : SV
  p : SV
  m : SV
/-- A class, and where its slices lie. -/
abbrev KC := ClP × VS6
def sR (s : ByteArray) : List Value := [.string s]
def MtP.row (m : MtP) : List Value := [.string m.nm, .bool m.st, .bool m.ab, .bool m.fi, .string m.fr, .int .i64 m.cd]
def PrP.row (p : PrP) : List Value := [.string p.nm, .bool p.st, .string p.fr, .int .i64 p.cd]
def CoP.row (c : CoP) : List Value := [.string c.nm, .string c.fr, .int .i64 c.cd]
def AdP.row (a : AdP × SV) : List Value := [.string a.1.tr, .string a.1.nm, .slice a.2.o a.2.n a.2.c, .string a.1.sa]
def KC.row (x : KC) : List Value := [.string x.1.nm, .int .i64 x.1.kd, .bool x.1.ab, .bool x.1.fi, .string x.1.pa, .slice x.2.f.o x.2.f.n x.2.f.c, .slice x.2.t.o x.2.t.n x.2.t.c, .slice x.2.a.o x.2.a.n x.2.a.c, .slice x.2.c.o x.2.c.n x.2.c.c, .slice x.2.p.o x.2.p.n x.2.p.c, .slice x.2.m.o x.2.m.n x.2.m.c]
def MtP.v (m : MtP) : Value := .agg #[.string m.nm, .bool m.st, .bool m.ab, .bool m.fi, .string m.fr, .int .i64 m.cd]
def PrP.v (p : PrP) : Value := .agg #[.string p.nm, .bool p.st, .string p.fr, .int .i64 p.cd]
def CoP.v (c : CoP) : Value := .agg #[.string c.nm, .string c.fr, .int .i64 c.cd]
def AdP.v (a : AdP × SV) : Value := .agg #[.string a.1.tr, .string a.1.nm, .slice a.2.o a.2.n a.2.c, .string a.1.sa]
def KC.v (x : KC) : Value := .agg #[.string x.1.nm, .int .i64 x.1.kd, .bool x.1.ab, .bool x.1.fi, .string x.1.pa, .slice x.2.f.o x.2.f.n x.2.f.c, .slice x.2.t.o x.2.t.n x.2.t.c, .slice x.2.a.o x.2.a.n x.2.a.c, .slice x.2.c.o x.2.c.n x.2.c.c, .slice x.2.p.o x.2.p.n x.2.p.c, .slice x.2.m.o x.2.m.n x.2.m.c]
def eqB (a b : ByteArray) : Bool := a.toList == b.toList
theorem ba_ext' {a b : ByteArray} (h : a.toList = b.toList) : a = b := by
  rw [ByteArray.toList_eq, ByteArray.toList_eq] at h
  cases a; cases b
  congr
  exact Array.ext' h
theorem eqB_iff {a b : ByteArray} : eqB a b = true ↔ a = b := by
  unfold eqB
  rw [beq_iff_eq]
  exact ⟨ba_ext', fun h => by rw [h]⟩
theorem eqB_self (a : ByteArray) : eqB a a = true := eqB_iff.2 rfl
theorem eqB_ne {a b : ByteArray} : eqB a b = false ↔ a ≠ b := by rw [← Bool.not_eq_true, Ne, eqB_iff]
theorem eqB_comm (a b : ByteArray) : eqB a b = eqB b a := by
  rw [Bool.eq_iff_iff, eqB_iff, eqB_iff]
  exact eq_comm
def emT (t : ByteArray) : Bool := t.toList.isEmpty
/-- The first place where it holds. -/
def idxP {α : Type} (p : α → Bool) : List α → Option Nat
  | [] => none
  | x :: r => if p x then some 0 else (idxP p r).map (· + 1)
def idxI : Option Nat → Int
  | some i => i
  | none => -1
theorem idxP_some {α : Type} {p : α → Bool} : ∀ {l : List α} {i : Nat}, idxP p l = some i → ∃ h : i < l.length, p l[i] = true ∧ ∀ j (hj : j < l.length), j < i → p l[j] = false
  | [], i, h => by cases h
  | x :: r, i, h => by
    unfold idxP at h
    by_cases hx : p x = true
    · rw [if_pos hx] at h
      cases h
      exact ⟨by simp, hx, fun j _ hj => absurd hj (Nat.not_lt_zero j)⟩
    · rw [if_neg hx] at h
      cases hr : idxP p r with
      | none => rw [hr] at h; cases h
      | some k =>
        rw [hr] at h
        cases h
        obtain ⟨h1, h2, h3⟩ := idxP_some hr
        refine ⟨by simpa using h1, by simpa using h2, fun j hj hjk => ?_⟩
        cases j with
        | zero => simpa using hx
        | succ j =>
          have hjk : j + 1 < k + 1 := hjk
          exact h3 j (by simpa using hj) (by omega)
theorem idxP_none {α : Type} {p : α → Bool} : ∀ {l : List α}, idxP p l = none → ∀ x ∈ l, p x = false
  | [], _, x, hx => by cases hx
  | y :: r, h, x, hx => by
    unfold idxP at h
    by_cases hy : p y = true
    · rw [if_pos hy] at h; cases h
    · rw [if_neg hy] at h
      cases hr : idxP p r with
      | none =>
        rcases List.mem_cons.1 hx with rfl | hx
        · simpa using hy
        · exact idxP_none hr x hx
      | some k => rw [hr] at h; cases h
theorem idxP_at {α : Type} {p : α → Bool} : ∀ {l : List α} {i : Nat} (h : i < l.length), p l[i] = true → (∀ j (hj : j < l.length), j < i → p l[j] = false) → idxP p l = some i
  | x :: r, 0, _, h1, _ => by
    unfold idxP
    rw [if_pos (by simpa using h1)]
  | x :: r, i + 1, h, h1, h2 => by
    have h0 := h2 0 (by simp) (by omega)
    unfold idxP
    rw [if_neg (by simpa using h0), idxP_at (l := r) (i := i) (by simpa using h) h1 (fun j hj hji => h2 (j + 1) (by simpa using hj) (by omega))]
    rfl
theorem idxP_no {α : Type} {p : α → Bool} : ∀ {l : List α}, (∀ j (hj : j < l.length), p l[j] = false) → idxP p l = none
  | [], _ => rfl
  | x :: r, h => by
    have h0 := h 0 (by simp)
    unfold idxP
    rw [if_neg (by simpa using h0), idxP_no (l := r) (fun j hj => h (j + 1) (by simpa using hj))]
    rfl
theorem idxP_isSome {α : Type} {p : α → Bool} : ∀ (l : List α), (idxP p l).isSome = l.any p
  | [] => rfl
  | x :: r => by
    unfold idxP
    rw [List.any_cons, ← idxP_isSome r]
    by_cases h : p x = true
    · rw [if_pos h, h]; rfl
    · rw [if_neg h]
      have : p x = false := by simpa using h
      rw [this]
      cases idxP p r <;> rfl
theorem idxI_nonneg (o : Option Nat) : decide (0 ≤ idxI o) = o.isSome := by
  cases o with
  | none => rfl
  | some i => simp [idxI]
theorem idxI_neg (o : Option Nat) : decide (idxI o < 0) = !o.isSome := by
  cases o with
  | none => rfl
  | some i =>
    have : ¬ ((i : Int) < 0) := by omega
    simp [idxI, this]
/-- The first one where it holds. -/
def fstP {α : Type} (p : α → Bool) (l : List α) : Option α := (idxP p l).bind fun i => l[i]?

/-! What may be. -/
def hasB (l : List ByteArray) (s : ByteArray) : Bool := l.any fun x => eqB s x
def wordP (s : ByteArray) : Bool := nameP s.toList && !(decide (0 ≤ Lib.indexByte s.data.toList 92))
def onceP (right : ByteArray → Bool) : List ByteArray → List ByteArray → Bool
  | _, [] => true
  | met, s :: r => if (hasB met s || !right s) = true then false else onceP right (s :: met) r
def nmP (s : ByteArray) : Bool := nameP s.toList
def adaptP (a : AdP) : Bool :=
  if (!wordP a.nm || (!emT a.tr && !nmP a.tr)) = true then false
  else if (a.ot.all nmP) = false then false
  else if 0 < a.ot.length then emT a.sa && !emT a.tr else wordP a.sa
def rightP (d : ClP) : Bool :=
  if (((!nmP d.nm || (!emT d.pa && !nmP d.pa)) || !onceP nmP [] d.fs) || !onceP nmP [] d.ts) = true then false
  else if ((!onceP wordP [] (d.cs.map CoP.nm) || !onceP wordP [] (d.ps.map PrP.nm)) || !onceP wordP [] (d.ms.map MtP.nm)) = true then false
  else if ((d.ad.any fun a => !adaptP a) || (d.ms.any fun m => m.ab && m.fi)) = true then false
  else if d.kd = 1 then (!d.ab || !d.fi) && (d.ab || !(d.ms.any fun m => m.ab))
  else if d.kd = 2 then (((((!d.ab && !d.fi) && emT d.pa) && decide (d.ps.length = 0)) && decide (d.ts.length = 0)) && decide (d.ad.length = 0)) && !(d.ms.any fun m => !m.ab)
  else if d.kd = 3 then (((!d.ab && !d.fi) && emT d.pa) && decide (d.fs.length = 0)) && decide (d.cs.length = 0)
  else false

/-! What is asked. -/
def findK (kn : List KC) (name : ByteArray) : Option KC := fstP (fun x => eqB x.1.nm name) kn
def methP (ms : List MtP) (name : ByteArray) : Option MtP := fstP (fun m => eqB m.nm name) ms
def isP (kn : List KC) (of : ByteArray) : Nat → ByteArray → Bool
  | 0, _ => false
  | f + 1, name =>
    if eqB name of = true then true
    else match findK kn name with
      | none => false
      | some c => if hasB c.1.fs of = true then true else if emT c.1.pa = true then false else isP kn of f c.1.pa

/-! Linking. -/
def oneP (kn : List KC) (name : ByteArray) (kind : Int) : Except Int KC :=
  match findK kn name with
  | none => .error 6
  | some c => if c.1.kd = kind then .ok c else .error 20
/-- The class that is none. -/
def ClP.nil : ClP := ⟨⟨#[]⟩, 0, false, false, ⟨#[]⟩, [], [], [], [], [], []⟩
def VS6.nil : VS6 := ⟨⟨none, 0, 0⟩, ⟨none, 0, 0⟩, ⟨none, 0, 0⟩, ⟨none, 0, 0⟩, ⟨none, 0, 0⟩, ⟨none, 0, 0⟩⟩
def KC.nil : KC := (ClP.nil, VS6.nil)
def parentP (kn : List KC) (pa : ByteArray) : Except Int KC :=
  if emT pa = true then .ok KC.nil
  else match oneP kn pa 1 with
    | .error e => .error e
    | .ok p => if p.1.fi = true then .error 19 else .ok p
/-- Faces that are put in, each once; those that are new. -/
def putF : List ByteArray → List ByteArray × List ByteArray → List ByteArray × List ByteArray
  | [], s => s
  | x :: r, s => putF r (if hasB s.1 x = true then s else (s.1 ++ [x], s.2 ++ [x]))
def facesP (kn : List KC) : List ByteArray → List ByteArray × List ByteArray → Except Int (List ByteArray × List ByteArray)
  | [], s => .ok s
  | n :: r, s => match oneP kn n 2 with
    | .error e => .error e
    | .ok f => facesP kn r (putF (f.1.fs ++ [n]) s)
def traitsP (kn : List KC) : List ByteArray → List KC → Except Int (List KC)
  | [], s => .ok s
  | n :: r, s => match oneP kn n 3 with
    | .error e => .error e
    | .ok t => traitsP kn r (s ++ [t])
def meansP (a : AdP) (t : KC) : Bool := (methP t.1.ms a.nm).isSome && (emT a.tr || eqB a.tr t.1.nm)
def meantP (rs : List KC) (a : AdP) : List KC := rs.filter (meansP a)
def adaptsP (ts : List ByteArray) (rs : List KC) : List AdP → Int
  | [] => 0
  | a :: r => if (meantP rs a).length = 0 then 6 else if (a.ot.all fun o => hasB ts o) = true then adaptsP ts rs r else 6
/-- What the first step finds: the parent, the faces, the new ones, the traits. -/
structure AboveP where
  p : KC
  fs : List ByteArray
  hs : List ByteArray
  rs : List KC
def aboveP (d : ClP) (kn : List KC) : Except Int AboveP :=
  match parentP kn d.pa with
  | .error e => .error e
  | .ok p => match facesP kn d.fs (p.1.fs, []) with
    | .error e => .error e
    | .ok s => match traitsP kn d.ts [] with
      | .error e => .error e
      | .ok rs => if adaptsP d.ts rs d.ad = 0 then .ok ⟨p, s.1, s.2, rs⟩ else .error (adaptsP d.ts rs d.ad)
def placeC (cs : List CoP) (n : ByteArray) : Option Nat := idxP (fun c => eqB c.nm n) cs
def placeP (ps : List PrP) (n : ByteArray) : Option Nat := idxP (fun p => eqB p.nm n) ps
def placeM (ms : List MtP) (n : ByteArray) : Option Nat := idxP (fun m => eqB m.nm n) ms
/-- Constants of one new face. -/
def faceC (n : ByteArray) : List CoP → List CoP → Except Int (List CoP)
  | [], cs => .ok cs
  | x :: r, cs => if eqB x.fr n = false then faceC n r cs else if (placeC cs x.nm).isSome = true then .error 21 else faceC n r (cs ++ [x])
def freshC (kn : List KC) : List ByteArray → List CoP → Except Int (List CoP)
  | [], cs => .ok cs
  | n :: r, cs => match faceC n ((findK kn n).getD KC.nil).1.cs cs with
    | .error e => .error e
    | .ok cs => freshC kn r cs
def ownC (nm : ByteArray) (hs : List ByteArray) : List CoP → List CoP → Except Int (List CoP)
  | [], cs => .ok cs
  | x :: r, cs => match placeC cs x.nm with
    | none => ownC nm hs r (cs ++ [⟨x.nm, nm, x.cd⟩])
    | some i => if hasB hs ((cs[i]?.map CoP.fr).getD ⟨#[]⟩) = true then .error 19 else ownC nm hs r (cs.set i ⟨x.nm, nm, x.cd⟩)
def constsP (d : ClP) (kn : List KC) (p : KC) (hs : List ByteArray) : Except Int (List CoP) :=
  match freshC kn hs p.1.cs with
  | .error e => .error e
  | .ok cs => ownC d.nm hs d.cs cs
/-- One property; the names that traits lent. -/
def propP (nm : ByteArray) (x : PrP) (trait : Bool) (s : List PrP × List ByteArray) : Except Int (List PrP × List ByteArray) :=
  match placeP s.1 x.nm with
  | none => .ok (s.1 ++ [⟨x.nm, x.st, nm, x.cd⟩], if trait then x.nm :: s.2 else s.2)
  | some i => match s.1[i]? with
    | none => .error 0
    | some y =>
      if (hasB s.2 x.nm && (x.st != y.st || x.cd != y.cd)) = true then .error 21
      else if hasB s.2 x.nm = true then .ok (s.1, if trait then x.nm :: s.2 else s.2)
      else if (x.st != y.st) = true then .error 20
      else .ok (s.1.set i ⟨x.nm, x.st, nm, x.cd⟩, if trait then x.nm :: s.2 else s.2)
def propsP (nm : ByteArray) (trait : Bool) : List PrP → List PrP × List ByteArray → Except Int (List PrP × List ByteArray)
  | [], s => .ok s
  | x :: r, s => match propP nm x trait s with
    | .error e => .error e
    | .ok s => propsP nm trait r s
def traitPs (nm : ByteArray) : List KC → List PrP × List ByteArray → Except Int (List PrP × List ByteArray)
  | [], s => .ok s
  | t :: r, s => match propsP nm true t.1.ps s with
    | .error e => .error e
    | .ok s => traitPs nm r s
def allPs (d : ClP) (p : KC) (rs : List KC) : Except Int (List PrP × List ByteArray) :=
  match traitPs d.nm rs (p.1.ps, []) with
  | .error e => .error e
  | .ok s => propsP d.nm false d.ps s
/-- The methods that traits give. -/
def goneP (ad : List AdP) (t : KC) (m : MtP) : Bool := ad.any fun a => eqB a.nm m.nm && hasB a.ot t.1.nm
def gifts1 (ad : List AdP) (rs : List KC) : List MtP := rs.flatMap fun t => t.1.ms.filter fun m => !goneP ad t m
def asP (a : AdP) (t : KC) : MtP := let m := (methP t.1.ms a.nm).getD ⟨⟨#[]⟩, false, false, false, ⟨#[]⟩, 0⟩; ⟨a.sa, m.st, m.ab, m.fi, m.fr, m.cd⟩
def gifts2 (ad : List AdP) (rs : List KC) : List MtP := ad.flatMap fun a => if emT a.sa = true then [] else (meantP rs a).map (asP a)
def giftsP (ad : List AdP) (rs : List KC) : List MtP := gifts1 ad rs ++ gifts2 ad rs
/-- One method; which names traits gave: the last word counts. -/
def givenP (G : List (ByteArray × Bool)) (n : ByteArray) : Bool := (fstP (fun x => eqB x.1 n) G).map Prod.snd == some true
def methodP (d : ClP) (m0 : MtP) (trait : Bool) (s : List MtP × List (ByteArray × Bool)) : Except Int (List MtP × List (ByteArray × Bool)) :=
  let m : MtP := ⟨m0.nm, m0.st, m0.ab, m0.fi, d.nm, m0.cd⟩
  match placeM s.1 m.nm with
  | none => .ok (s.1 ++ [m], (m.nm, trait) :: s.2)
  | some i => match s.1[i]? with
    | none => .error 0
    | some y =>
      if givenP s.2 m.nm = true then
        if (!trait || y.ab) = true then .ok (s.1.set i m, s.2)
        else if (!m.ab && !(placeM d.ms m.nm).isSome) = true then .error 21
        else .ok s
      else if y.fi = true then .error 19
      else if (y.st != m.st) = true then .error 20
      else if ((trait && m.ab) && !y.ab) = true then .ok s
      else .ok (s.1.set i m, (m.nm, trait) :: s.2)
def methodsP (d : ClP) (trait : Bool) : List MtP → List MtP × List (ByteArray × Bool) → Except Int (List MtP × List (ByteArray × Bool))
  | [], s => .ok s
  | m :: r, s => match methodP d m trait s with
    | .error e => .error e
    | .ok s => methodsP d trait r s
/-- A face's methods that are not there. -/
def faceM : List MtP → List MtP → List MtP
  | [], ms => ms
  | m :: r, ms => faceM r (if (placeM ms m.nm).isSome = true then ms else ms ++ [m])
def facesM (kn : List KC) : List ByteArray → List MtP → List MtP
  | [], ms => ms
  | n :: r, ms => facesM kn r (faceM ((findK kn n).getD KC.nil).1.ms ms)
def allMs (d : ClP) (kn : List KC) (p : KC) (fs : List ByteArray) (rs : List KC) : Except Int (List MtP) :=
  match methodsP d true (giftsP d.ad rs) (facesM kn fs p.1.ms, []) with
  | .error e => .error e
  | .ok s => match methodsP d false d.ms s with
    | .error e => .error e
    | .ok s => if (decide (d.kd = 1) && (!d.ab && s.1.any fun m => m.ab)) = true then .error 10 else .ok s.1
/-- A linked class. -/
def linkP (d : ClP) (kn : List KC) : Except Int ClP :=
  if rightP d = false then .error 1
  else if (findK kn d.nm).isSome = true then .error 9
  else match aboveP d kn with
    | .error e => .error e
    | .ok a => match constsP d kn a.p a.hs with
      | .error e => .error e
      | .ok cs => match allPs d a.p a.rs with
        | .error e => .error e
        | .ok ps => match allMs d kn a.p a.fs a.rs with
          | .error e => .error e
          | .ok ms => .ok ⟨d.nm, d.kd, d.ab, d.fi, d.pa, a.fs, d.ts, d.ad, cs, ps.1, ms⟩
end Go.Proofs.YtobjmajkcfhpoaaDoor
