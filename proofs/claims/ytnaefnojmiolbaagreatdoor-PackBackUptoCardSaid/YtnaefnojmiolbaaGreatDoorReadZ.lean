/-
  What a reader reads, in plain words; what a reader's calls leave.
  What a text reads as, whole.
-/
import Derived.Test.YtnaefnojmiolbaaGreatDoorKeyZ
namespace Go.Proofs.YtnaefnojmiolbaaGreatDoor
open Go.RowKit

/-- A thing as a reader gathers it: its class, its items. -/
abbrev TP := ByteArray × List It
def Th.tp (t : Th) : TP := (t.cls, t.xs)
abbrev ER := Int × Nat
/-- What is read, the place behind it, how many items so far, the things so far. -/
abbrev RV (α : Type) := Except ER (α × Nat × Nat × List TP)
abbrev ValF := Nat → Nat → List TP → RV VT
/-- So many items, and the brace behind them. -/
def itemsP (s : ByteArray) (props : Bool) (val : ValF) : Nat → LS → Nat → Nat → List TP → RV LS
  | 0, l, p, m, ths => match mustP s [125] p with
    | .error e => .error e
    | .ok q => .ok (l, q, m, ths)
  | n + 1, l, p, m, ths => match keyP s props p with
    | .error e => .error e
    | .ok (k, p1) => match mustP s [59] p1 with
      | .error e => .error e
      | .ok p2 => if K.same k.norm k = false then .error (7, p)
        else if (findK k.norm l.xs).isSome = true then .error (9, p)
        else if 2048 < m + 1 then .error (8, p)
        else match val p2 (m + 1) ths with
          | .error e => .error e
          | .ok (x, p3, m', ths') => itemsP s props val n ⟨l.xs ++ [(k.norm, x)], nextP k.norm l.nx⟩ p3 m' ths'
/-- How many items, and the items in braces. -/
def bracesP (s : ByteArray) (props : Bool) (val : ValF) (p m : Nat) (ths : List TP) : RV LS :=
  match numberP s false 2048 p with
  | .error e => .error e
  | .ok (n, p1) => match mustP s [58, 123] p1 with
    | .error e => .error e
    | .ok p2 => itemsP s props val n.toNat LS.new p2 m ths
def objectP (s : ByteArray) (val : ValF) : ValF := fun p m ths =>
  match mustP s [79, 58] p with
  | .error e => .error e
  | .ok p1 => match textP s true p1 with
    | .error e => .error e
    | .ok (name, p2) => match mustP s [58] p2 with
      | .error e => .error e
      | .ok p3 => match bracesP s true val p3 m (ths ++ [(name, [])]) with
        | .error e => .error e
        | .ok (l, p4, m', ths') => .ok (.mk 5 (ths.length + 1) ⟨#[]⟩ [], p4, m', ths'.modify ths.length fun t => (t.1, l.xs))
def listP (s : ByteArray) (val : ValF) : ValF := fun p m ths =>
  match mustP s [97, 58] p with
  | .error e => .error e
  | .ok p1 => match bracesP s false val p1 m ths with
    | .error e => .error e
    | .ok (l, p2, m', ths') => .ok (.mk 4 l.nx ⟨#[]⟩ l.xs, p2, m', ths')
def nullP (s : ByteArray) : ValF := fun p m ths =>
  match mustP s [78, 59] p with
  | .error e => .error e
  | .ok q => .ok (.mk 0 0 ⟨#[]⟩ [], q, m, ths)
def boolP (s : ByteArray) : ValF := fun p m ths =>
  match mustP s [98, 58] p with
  | .error e => .error e
  | .ok q => if nowP s q = 49 then (match mustP s [49, 59] q with
      | .error e => .error e
      | .ok q' => .ok (.mk 1 1 ⟨#[]⟩ [], q', m, ths))
    else match mustP s [48, 59] q with
      | .error e => .error e
      | .ok q' => .ok (.mk 1 0 ⟨#[]⟩ [], q', m, ths)
def intP (s : ByteArray) : ValF := fun p m ths =>
  match mustP s [105, 58] p with
  | .error e => .error e
  | .ok p1 => match numberP s true 0 p1 with
    | .error e => .error e
    | .ok (n, p2) => match mustP s [59] p2 with
      | .error e => .error e
      | .ok q => .ok (.mk 2 n ⟨#[]⟩ [], q, m, ths)
def strP (s : ByteArray) : ValF := fun p m ths =>
  match mustP s [115, 58] p with
  | .error e => .error e
  | .ok p1 => match textP s false p1 with
    | .error e => .error e
    | .ok (t, p2) => match mustP s [59] p2 with
      | .error e => .error e
      | .ok q => .ok (.mk 3 0 t [], q, m, ths)
def refP (s : ByteArray) : ValF := fun p m ths =>
  match mustP s [114, 58] p with
  | .error e => .error e
  | .ok p1 => match numberP s false 65536 p1 with
    | .error e => .error e
    | .ok (n, p2) => if n < 1 ∨ (ths.length : Int) < n then .error (6, p1) else
      match mustP s [59] p2 with
      | .error e => .error e
      | .ok q => .ok (.mk 5 n ⟨#[]⟩ [], q, m, ths)
/-- One that lies outside of the deepest braces. -/
def deepP (s : ByteArray) (sub : Option ValF) : ValF := fun p m ths =>
  match sub with
  | none => .error (4, p)
  | some val => if nowP s p = 79 then objectP s val p m ths else listP s val p m ths
def graphP (s : ByteArray) (sub : Option ValF) : ValF := fun p m ths =>
  if nowP s p = 78 then nullP s p m ths
  else if nowP s p = 98 then boolP s p m ths
  else if nowP s p = 105 then intP s p m ths
  else if nowP s p = 115 then strP s p m ths
  else if nowP s p = 114 then refP s p m ths
  else if nowP s p = 97 ∨ nowP s p = 79 then deepP s sub p m ths
  else .error (wrongC s p, p)
/-- One, with so many braces left. -/
def gvalP (s : ByteArray) : Nat → ValF
  | 0 => graphP s none
  | d + 1 => graphP s (some (gvalP s d))

/-- A reader's things lie where they lay, or in a block that was made meanwhile. -/
def Fresh (w : World) (tv tv' : Value) : Prop := ∀ g, tv'.ownBlock = some g → tv.ownBlock = some g ∨ w.heap.size ≤ g
theorem Fresh.refl (w : World) (tv : Value) : Fresh w tv tv := fun _ h => .inl h
theorem Fresh.trans {w w1 : World} {a b c : Value} (h : Fresh w a b) (k : Fresh w1 b c) (hs : w.heap.size ≤ w1.heap.size) : Fresh w a c := fun g e => by
  rcases k g e with h1 | h1
  · exact h g h1
  · exact .inr (by omega)
theorem RF.trans {w w1 w2 : World} {r : Nat} {a b : Value} (h : Fresh w a b) (m1 : Mod (RF r a) w w1) (m2 : Mod (RF r b) w1 w2) : Mod (RF r a) w w2 :=
  m1.trans' m2 fun i hi e => by
    rcases e with e | e
    · exact .inl e
    · rcases h i e with h1 | h1
      · exact .inr h1
      · omega
section
variable {w w' : World} {r : Nat} {s : ByteArray} {p m : Nat} {tv : Value} {ths : List Th} {b mb : Nat} {v : Value} {l : LS} {ys : List It2}
theorem Rd.mod {F : Nat → Prop} (h : Rd w r s p m tv ths) (hm : Mod F w w') (h1 : ∀ k, RF r tv k → ¬ F k) (h2 : ∀ k, F k → ¬ B64 w k) (h3 : ∀ k, F k → 6 ≤ k) : Rd w' r s p m tv ths :=
  ⟨(hm.block r (lt_of_block h.blk) (h1 r (.inl rfl))).trans h.blk, h.own.kept fun g e => hm.block g (h.own.lt e) (h1 g (.inr e)), h.ne, fun t ht => VT64.mod (h.val t ht) hm h2, h.hp, h.hs, h.hm, h.tab.mod hm h3, h.r6, h.t6⟩
/-- A reader's blocks are none of a list's. -/
theorem Rd.apart (h : Rd w r s p m tv ths) (i : LIs w b v mb l ys) {k : Nat} (hr : RF r tv k) (hl : LFoot b v mb k) : False := by
  have h1 : w.heap[k]? = some (.cells #[.string s, .int .i64 p, .int .i64 m, tv] 116 (0, 0)) ∨ ∃ cur, w.heap[k]? = some (.cells cur 48 (0, 0)) := by
    rcases hr with rfl | e
    · exact .inl h.blk
    · exact .inr (owns_blk h.own e)
  have h2 : (∃ cs, w.heap[k]? = some (.cells cs 161 (0, 0))) ∨ (∃ cur, w.heap[k]? = some (.cells cur 167 (0, 0))) ∨ ∃ es c, w.heap[k]? = some (.map es c) := by
    rcases hl with rfl | e | rfl
    · exact .inl ⟨_, i.blk⟩
    · exact .inr (.inl (owns_blk i.own e))
    · exact .inr (.inr (map_blk i.map))
  rcases h1 with h1 | ⟨c1, h1⟩ <;> rcases h2 with ⟨c2, h2⟩ | ⟨c2, h2⟩ | ⟨es, c2, h2⟩ <;> rw [h1] at h2 <;> cases h2
theorem Rd.list (h : Rd w r s p m tv ths) (i : LIs w b v mb l ys) (hm : Mod (LFoot b v mb) w w') (h6 : ∀ k, LFoot b v mb k → 6 ≤ k) : Rd w' r s p m tv ths :=
  h.mod hm (fun _ hr hl => h.apart i hr hl) (fun _ hl => i.no64 hl) h6
theorem LIs.read (i : LIs w b v mb l ys) (h : Rd w r s p m tv ths) (hm : Mod (RF r tv) w w') : LIs w' b v mb l ys :=
  i.mod hm (fun _ hl hr => h.apart i hr hl) (fun _ hr => h.no64 hr)
theorem Rd.setMany (h : Rd w r s p m tv ths) {n : Nat} (hn : n ≤ 2049) {v : Int} (hv : v = (n : Int)) : Rd (w.setCell ⟨r, 2, none⟩ (.int .i64 v)) r s p n tv ths :=
  hv ▸ ⟨by have := set_blk h.blk 2 (.int .i64 n); simpa using this, h.own.kept fun g e => Below.heap_setCell _ _ _ _ (fun c => h.ne (by rw [e, c])), h.ne,
    fun t ht => VT64.mod (h.val t ht) ((Mod.refl (fun k => k = r) w).setCell _ _ (fun _ => rfl)) (fun g e => h.no64 (.inl e)), h.hp, h.hs, hn, h.tab.mod ((Mod.refl (fun k => k = r) w).setCell _ _ (fun _ => rfl)) (fun k e => by rw [show k = r from e]; exact h.r6), h.r6, h.t6⟩
end
/-- What a reader's value leaves. -/
def VPost (w : World) (r : Nat) (s : ByteArray) (tv : Value) (x : RV VT) : Ending → World → Prop :=
  RPost w r tv x fun y e w' => ∃ co cm cc tv' ths', e = .returned (y.1.v (.slice co cm cc)) ∧ VT64 w' (.slice co cm cc) y.1.xs ∧ Rd w' r s y.2.1 y.2.2.1 tv' ths' ∧ ths'.map Th.tp = y.2.2.2 ∧ Fresh w tv tv' ∧ ths'.length ≤ y.2.1
/-- What a reader's items leave. -/
def LPost (w : World) (r : Nat) (s : ByteArray) (tv : Value) (x : RV LS) : Ending → World → Prop :=
  RPost w r tv x fun y e w' => ∃ b v mb ys tv' ths', e = .returned (.pointer (some ⟨b, 0, none⟩)) ∧ LIs w' b v mb y.1 ys ∧ (∀ k, LFoot b v mb k → w.heap.size ≤ k) ∧ Rd w' r s y.2.1 y.2.2.1 tv' ths' ∧ ths'.map Th.tp = y.2.2.2 ∧ Fresh w tv tv' ∧ ths'.length ≤ y.2.1
end Go.Proofs.YtnaefnojmiolbaaGreatDoor

namespace Go.Proofs.YtnaefnojmiolbaaGreatDoor
open Go.RowKit

/-- What a text reads as. -/
def readP (s : ByteArray) : Except ER (VT × List TP) :=
  match gvalP s 64 0 0 [] with
  | .error e => .error e
  | .ok (y, p, _, ths) => if p < s.size then .error (wrongC s p, p) else .ok (y, ths)
/-- What Unpack answers. -/
def unpackP (s : ByteArray) : Except ER (VT × List TP) := if 65536 < s.size then .error (2, 0) else readP s
end Go.Proofs.YtnaefnojmiolbaaGreatDoor
