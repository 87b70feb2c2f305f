/-
  The walk of a reader's number.
  The walks of a reader's text and key.
  The walk of a reader's key.
  What a reader reads, in plain words; what a reader's calls leave.
  What a text reads as, whole.
  JSON: what a text reads as, in plain words.
  JSON: a text as it is written, and that it is read back; what is read is valid. Of no program.
  JSON: how far a reading goes, and how many items it counts. Of no program.
-/
import Derived.Test.YtnaefnojmiolbaaGreatDoorJw8
import Derived.Deep.LoopGhost
import Derived.Lib.ValidLaws
import Derived.Lib.RuneBytes
import Derived.Test.YtnaefnojmiolbaaGreatDoorJw1
namespace Go.Proofs.YtnaefnojmiolbaaGreatDoor
open Go.RowKit

attribute [local go_sem] yld_undef
/-- Where the digits of a number begin, and where they end. -/
def begP (s : ByteArray) (sign : Bool) (p : Nat) : Nat := if sign = true ∧ nowP s p = 45 then p + 1 else p
def endP (s : ByteArray) (p : Nat) : Nat := p + ((s.toList.drop p).takeWhile isDig).length
/-- A number at a place: what it is, and the place behind it. -/
def numberP (s : ByteArray) (sign : Bool) (most : Int) (p : Nat) : Except (Int × Nat) (Int × Nat) :=
  if isDig (nowP s (begP s sign p)) = true then
    match canonP ((s.toList.take (endP s (begP s sign p))).drop p) with
    | some n => if sign = false ∧ most < n then .error (11, p) else .ok (n, endP s (begP s sign p))
    | none => .error (11, p)
  else .error (wrongC s (begP s sign p), begP s sign p)
theorem endP_step {s : ByteArray} {p : Nat} (h : p < s.size) (hd : isDig s[p] = true) : endP s p = endP s (p + 1) := by
  unfold endP
  rw [List.drop_eq_getElem_cons (by rw [size_toList]; exact h), toList_at h, List.takeWhile_cons, if_pos hd, List.length_cons]
  omega
theorem endP_stop {s : ByteArray} {p : Nat} (h : ¬ isDig (nowP s p) = true) : endP s p = p := by
  unfold endP
  by_cases hp : p < s.size
  · rw [nowP_lt hp] at h
    rw [List.drop_eq_getElem_cons (by rw [size_toList]; exact hp), toList_at hp, List.takeWhile_cons, if_neg h]
    rfl
  · rw [List.drop_of_length_le (by rw [size_toList]; omega)]
    rfl
theorem dig_now_lt {s : ByteArray} {p : Nat} (h : isDig (nowP s p) = true) : p < s.size := by
  by_cases hp : p < s.size
  · exact hp
  · rw [nowP_end hp] at h; exact absurd h (by decide)
theorem endP_le {s : ByteArray} {p : Nat} (h : p ≤ s.size) : endP s p ≤ s.size ∧ p ≤ endP s p := by
  unfold endP
  have := (List.takeWhile_sublist (l := s.toList.drop p) isDig).length_le
  rw [List.length_drop, size_toList] at this
  omega
theorem dig_now (c : UInt8) : isDig c = (!decide ((c.toNat : Int) < 48) && !decide (57 < (c.toNat : Int))) := by
  by_cases h : isDig c = true
  · rw [h]; have := (isDig_iff c).1 h
    rw [decide_eq_false (by omega), decide_eq_false (by omega)]; rfl
  · rw [Bool.not_eq_true _ |>.mp h]
    have h2 : ¬ (48 ≤ c.toNat ∧ c.toNat ≤ 57) := fun a => h ((isDig_iff c).2 a)
    by_cases a : (c.toNat : Int) < 48
    · rw [decide_eq_true a]; rfl
    · rw [decide_eq_true (p := 57 < (c.toNat : Int)) (by omega)]; simp
theorem dig_now2 (c : UInt8) : isDig c = (decide ((48 : Int) ≤ (c.toNat : Int)) && decide ((c.toNat : Int) ≤ 57)) := by
  rw [dig_now]
  congr 1
  · by_cases a : (c.toNat : Int) < 48
    · rw [decide_eq_true a, decide_eq_false (by omega)]; rfl
    · rw [decide_eq_false a, decide_eq_true (by omega)]; rfl
  · by_cases a : 57 < (c.toNat : Int)
    · rw [decide_eq_true a, decide_eq_false (by omega)]; rfl
    · rw [decide_eq_false a, decide_eq_true (by omega)]; rfl
/-- Where a reader stands, as its cell tells. -/
def atOf (w : World) (r : Nat) : Nat := match w.cell? ⟨r, 1, none⟩ with
  | some (.int _ n) => n.toNat
  | _ => 0
def numText (s : ByteArray) (p e : Nat) : ByteArray := s.extract p e
theorem numText_list (s : ByteArray) (p e : Nat) : (numText s p e).toList = (s.toList.take e).drop p := by
  unfold numText
  rw [ByteArray.toList_eq, ByteArray.data_extract, Array.toList_extract, ← ByteArray.toList_eq, List.extract_eq_take_drop, List.drop_take]
end Go.Proofs.YtnaefnojmiolbaaGreatDoor

namespace Go.Proofs.YtnaefnojmiolbaaGreatDoor
open Go.RowKit

attribute [local go_sem] yld_undef
/-- A text at a place: what it is, and the place behind it. -/
def textP (s : ByteArray) (cls : Bool) (p : Nat) : Except (Int × Nat) (ByteArray × Nat) :=
  match numberP s false 65536 p with
  | .error e => .error e
  | .ok (n, p1) => match mustP s [58, 34] p1 with
    | .error e => .error e
    | .ok p2 => if (s.size : Int) - p2 < n then .error (10, s.size)
      else if (cls && !nameP (s.extract p2 (p2 + n.toNat)).toList) = true then .error (7, p2)
      else match mustP s [34] (p2 + n.toNat) with
        | .error e => .error e
        | .ok p3 => .ok (s.extract p2 (p2 + n.toNat), p3)
theorem itoa_neg {n : Int} (h : n < 0) : ∃ l, Lib.itoa n = 45 :: l := by
  rw [itoa_form, if_pos (by simp [h])]
  exact ⟨_, rfl⟩
end Go.Proofs.YtnaefnojmiolbaaGreatDoor

namespace Go.Proofs.YtnaefnojmiolbaaGreatDoor
open Go.RowKit

attribute [local go_sem] yld_undef
/-- A key at a place. -/
def keyP (s : ByteArray) (props : Bool) (p : Nat) : Except (Int × Nat) (K × Nat) :=
  if (!props && decide (nowP s p = 105)) = true then
    match mustP s [105, 58] p with
    | .error e => .error e
    | .ok p1 => match numberP s true 0 p1 with
      | .error e => .error e
      | .ok (n, p2) => .ok (⟨false, n, ⟨#[]⟩⟩, p2)
  else match mustP s [115, 58] p with
    | .error e => .error e
    | .ok p1 => match textP s false p1 with
      | .error e => .error e
      | .ok (t, p2) => .ok (⟨true, 0, t⟩, p2)
section
variable {w W W' : World} {r : Nat} {s : ByteArray} {p m : Nat} {tv : Value} {ths : List Th}
theorem Rd.store (h : Rd w r s p m tv ths) {B : Nat} (hB : B ≠ r) (hT : tv.ownBlock ≠ some B) (h64 : ¬ B64 w B) (h6 : 6 ≤ B) {w' : World} (hm : Mod (fun k => k = B) w w') : Rd w' r s p m tv ths :=
  ⟨(hm.block r (lt_of_block h.blk) (fun e => hB e.symm)).trans h.blk, h.own.kept fun g e => hm.block g (h.own.lt e) (fun c => hT (c ▸ e)), h.ne, fun t ht => VT64.mod (h.val t ht) hm (fun g e => by rw [show g = B from e]; exact h64), h.hp, h.hs, h.hm,
    h.tab.mod hm (fun k e => by rw [show k = B from e]; exact h6), h.r6, h.t6⟩
end
end Go.Proofs.YtnaefnojmiolbaaGreatDoor

namespace Go.Proofs.YtnaefnojmiolbaaGreatDoor
open Go.RowKit

/-- A thing as a reader gathers it: its class, its items. -/
abbrev TP := ByteArray × List It
def Th.tp (t : Th) : TP := (t.cls, t.xs)
abbrev ER := Int × Nat
/-- What is read, the place behind it, how many items so far, the things so far. -/
abbrev RV (α : Type) := Except ER (α × Nat × Nat × List TP)
abbrev ValF := Nat → Nat → List TP → RV VT
/-- So many items, and the brace behind them. -/
def itemsP (s : ByteArray) (props : Bool) (val : ValF) : Nat → LS → Nat → Nat → List TP → RV LS
  | 0, l, p, m, ths => match mustP s [125] p with
    | .error e => .error e
    | .ok q => .ok (l, q, m, ths)
  | n + 1, l, p, m, ths => match keyP s props p with
    | .error e => .error e
    | .ok (k, p1) => match mustP s [59] p1 with
      | .error e => .error e
      | .ok p2 => if K.same k.norm k = false then .error (7, p)
        else if (findK k.norm l.xs).isSome = true then .error (9, p)
        else if 2048 < m + 1 then .error (8, p)
        else match val p2 (m + 1) ths with
          | .error e => .error e
          | .ok (x, p3, m', ths') => itemsP s props val n ⟨l.xs ++ [(k.norm, x)], nextP k.norm l.nx⟩ p3 m' ths'
/-- How many items, and the items in braces. -/
def bracesP (s : ByteArray) (props : Bool) (val : ValF) (p m : Nat) (ths : List TP) : RV LS :=
  match numberP s false 2048 p with
  | .error e => .error e
  | .ok (n, p1) => match mustP s [58, 123] p1 with
    | .error e => .error e
    | .ok p2 => itemsP s props val n.toNat LS.new p2 m ths
def objectP (s : ByteArray) (val : ValF) : ValF := fun p m ths =>
  match mustP s [79, 58] p with
  | .error e => .error e
  | .ok p1 => match textP s true p1 with
    | .error e => .error e
    | .ok (name, p2) => match mustP s [58] p2 with
      | .error e => .error e
      | .ok p3 => match bracesP s true val p3 m (ths ++ [(name, [])]) with
        | .error e => .error e
        | .ok (l, p4, m', ths') => .ok (.mk 5 (ths.length + 1) ⟨#[]⟩ [], p4, m', ths'.modify ths.length fun t => (t.1, l.xs))
def listP (s : ByteArray) (val : ValF) : ValF := fun p m ths =>
  match mustP s [97, 58] p with
  | .error e => .error e
  | .ok p1 => match bracesP s false val p1 m ths with
    | .error e => .error e
    | .ok (l, p2, m', ths') => .ok (.mk 4 l.nx ⟨#[]⟩ l.xs, p2, m', ths')
def nullP (s : ByteArray) : ValF := fun p m ths =>
  match mustP s [78, 59] p with
  | .error e => .error e
  | .ok q => .ok (.mk 0 0 ⟨#[]⟩ [], q, m, ths)
def boolP (s : ByteArray) : ValF := fun p m ths =>
  match mustP s [98, 58] p with
  | .error e => .error e
  | .ok q => if nowP s q = 49 then (match mustP s [49, 59] q with
      | .error e => .error e
      | .ok q' => .ok (.mk 1 1 ⟨#[]⟩ [], q', m, ths))
    else match mustP s [48, 59] q with
      | .error e => .error e
      | .ok q' => .ok (.mk 1 0 ⟨#[]⟩ [], q', m, ths)
def intP (s : ByteArray) : ValF := fun p m ths =>
  match mustP s [105, 58] p with
  | .error e => .error e
  | .ok p1 => match numberP s true 0 p1 with
    | .error e => .error e
    | .ok (n, p2) => match mustP s [59] p2 with
      | .error e => .error e
      | .ok q => .ok (.mk 2 n ⟨#[]⟩ [], q, m, ths)
def strP (s : ByteArray) : ValF := fun p m ths =>
  match mustP s [115, 58] p with
  | .error e => .error e
  | .ok p1 => match textP s false p1 with
    | .error e => .error e
    | .ok (t, p2) => match mustP s [59] p2 with
      | .error e => .error e
      | .ok q => .ok (.mk 3 0 t [], q, m, ths)
def refP (s : ByteArray) : ValF := fun p m ths =>
  match mustP s [114, 58] p with
  | .error e => .error e
  | .ok p1 => match numberP s false 65536 p1 with
    | .error e => .error e
    | .ok (n, p2) => if n < 1 ∨ (ths.length : Int) < n then .error (6, p1) else
      match mustP s [59] p2 with
      | .error e => .error e
      | .ok q => .ok (.mk 5 n ⟨#[]⟩ [], q, m, ths)
/-- One that lies outside of the deepest braces. -/
def deepP (s : ByteArray) (sub : Option ValF) : ValF := fun p m ths =>
  match sub with
  | none => .error (4, p)
  | some val => if nowP s p = 79 then objectP s val p m ths else listP s val p m ths
def graphP (s : ByteArray) (sub : Option ValF) : ValF := fun p m ths =>
  if nowP s p = 78 then nullP s p m ths
  else if nowP s p = 98 then boolP s p m ths
  else if nowP s p = 105 then intP s p m ths
  else if nowP s p = 115 then strP s p m ths
  else if nowP s p = 114 then refP s p m ths
  else if nowP s p = 97 ∨ nowP s p = 79 then deepP s sub p m ths
  else .error (wrongC s p, p)
/-- One, with so many braces left. -/
def gvalP (s : ByteArray) : Nat → ValF
  | 0 => graphP s none
  | d + 1 => graphP s (some (gvalP s d))

/-- A reader's things lie where they lay, or in a block that was made meanwhile. -/
def Fresh (w : World) (tv tv' : Value) : Prop := ∀ g, tv'.ownBlock = some g → tv.ownBlock = some g ∨ w.heap.size ≤ g
theorem Fresh.refl (w : World) (tv : Value) : Fresh w tv tv := fun _ h => .inl h
theorem Fresh.trans {w w1 : World} {a b c : Value} (h : Fresh w a b) (k : Fresh w1 b c) (hs : w.heap.size ≤ w1.heap.size) : Fresh w a c := fun g e => by
  rcases k g e with h1 | h1
  · exact h g h1
  · exact .inr (by omega)
theorem RF.trans {w w1 w2 : World} {r : Nat} {a b : Value} (h : Fresh w a b) (m1 : Mod (RF r a) w w1) (m2 : Mod (RF r b) w1 w2) : Mod (RF r a) w w2 :=
  m1.trans' m2 fun i hi e => by
    rcases e with e | e
    · exact .inl e
    · rcases h i e with h1 | h1
      · exact .inr h1
      · omega
section
variable {w w' : World} {r : Nat} {s : ByteArray} {p m : Nat} {tv : Value} {ths : List Th} {b mb : Nat} {v : Value} {l : LS} {ys : List It2}
theorem Rd.mod {F : Nat → Prop} (h : Rd w r s p m tv ths) (hm : Mod F w w') (h1 : ∀ k, RF r tv k → ¬ F k) (h2 : ∀ k, F k → ¬ B64 w k) (h3 : ∀ k, F k → 6 ≤ k) : Rd w' r s p m tv ths :=
  ⟨(hm.block r (lt_of_block h.blk) (h1 r (.inl rfl))).trans h.blk, h.own.kept fun g e => hm.block g (h.own.lt e) (h1 g (.inr e)), h.ne, fun t ht => VT64.mod (h.val t ht) hm h2, h.hp, h.hs, h.hm, h.tab.mod hm h3, h.r6, h.t6⟩
/-- A reader's blocks are none of a list's. -/
theorem Rd.apart (h : Rd w r s p m tv ths) (i : LIs w b v mb l ys) {k : Nat} (hr : RF r tv k) (hl : LFoot b v mb k) : False := by
  have h1 : w.heap[k]? = some (.cells #[.string s, .int .i64 p, .int .i64 m, tv] 116 (0, 0)) ∨ ∃ cur, w.heap[k]? = some (.cells cur 48 (0, 0)) := by
    rcases hr with rfl | e
    · exact .inl h.blk
    · exact .inr (owns_blk h.own e)
  have h2 : (∃ cs, w.heap[k]? = some (.cells cs 161 (0, 0))) ∨ (∃ cur, w.heap[k]? = some (.cells cur 167 (0, 0))) ∨ ∃ es c, w.heap[k]? = some (.map es c) := by
    rcases hl with rfl | e | rfl
    · exact .inl ⟨_, i.blk⟩
    · exact .inr (.inl (owns_blk i.own e))
    · exact .inr (.inr (map_blk i.map))
  rcases h1 with h1 | ⟨c1, h1⟩ <;> rcases h2 with ⟨c2, h2⟩ | ⟨c2, h2⟩ | ⟨es, c2, h2⟩ <;> rw [h1] at h2 <;> cases h2
theorem Rd.list (h : Rd w r s p m tv ths) (i : LIs w b v mb l ys) (hm : Mod (LFoot b v mb) w w') (h6 : ∀ k, LFoot b v mb k → 6 ≤ k) : Rd w' r s p m tv ths :=
  h.mod hm (fun _ hr hl => h.apart i hr hl) (fun _ hl => i.no64 hl) h6
theorem LIs.read (i : LIs w b v mb l ys) (h : Rd w r s p m tv ths) (hm : Mod (RF r tv) w w') : LIs w' b v mb l ys :=
  i.mod hm (fun _ hl hr => h.apart i hr hl) (fun _ hr => h.no64 hr)
theorem Rd.setMany (h : Rd w r s p m tv ths) {n : Nat} (hn : n ≤ 2049) {v : Int} (hv : v = (n : Int)) : Rd (w.setCell ⟨r, 2, none⟩ (.int .i64 v)) r s p n tv ths :=
  hv ▸ ⟨by have := set_blk h.blk 2 (.int .i64 n); simpa using this, h.own.kept fun g e => Below.heap_setCell _ _ _ _ (fun c => h.ne (by rw [e, c])), h.ne,
    fun t ht => VT64.mod (h.val t ht) ((Mod.refl (fun k => k = r) w).setCell _ _ (fun _ => rfl)) (fun g e => h.no64 (.inl e)), h.hp, h.hs, hn, h.tab.mod ((Mod.refl (fun k => k = r) w).setCell _ _ (fun _ => rfl)) (fun k e => by rw [show k = r from e]; exact h.r6), h.r6, h.t6⟩
end
/-- What a reader's value leaves. -/
def VPost (w : World) (r : Nat) (s : ByteArray) (tv : Value) (x : RV VT) : Ending → World → Prop :=
  RPost w r tv x fun y e w' => ∃ co cm cc tv' ths', e = .returned (y.1.v (.slice co cm cc)) ∧ VT64 w' (.slice co cm cc) y.1.xs ∧ Rd w' r s y.2.1 y.2.2.1 tv' ths' ∧ ths'.map Th.tp = y.2.2.2 ∧ Fresh w tv tv' ∧ ths'.length ≤ y.2.1
/-- What a reader's items leave. -/
def LPost (w : World) (r : Nat) (s : ByteArray) (tv : Value) (x : RV LS) : Ending → World → Prop :=
  RPost w r tv x fun y e w' => ∃ b v mb ys tv' ths', e = .returned (.pointer (some ⟨b, 0, none⟩)) ∧ LIs w' b v mb y.1 ys ∧ (∀ k, LFoot b v mb k → w.heap.size ≤ k) ∧ Rd w' r s y.2.1 y.2.2.1 tv' ths' ∧ ths'.map Th.tp = y.2.2.2 ∧ Fresh w tv tv' ∧ ths'.length ≤ y.2.1
end Go.Proofs.YtnaefnojmiolbaaGreatDoor

namespace Go.Proofs.YtnaefnojmiolbaaGreatDoor
open Go.RowKit

/-- What a text reads as. -/
def readP (s : ByteArray) : Except ER (VT × List TP) :=
  match gvalP s 64 0 0 [] with
  | .error e => .error e
  | .ok (y, p, _, ths) => if p < s.size then .error (wrongC s p, p) else .ok (y, ths)
/-- What Unpack answers. -/
def unpackP (s : ByteArray) : Except ER (VT × List TP) := if 65536 < s.size then .error (2, 0) else readP s
end Go.Proofs.YtnaefnojmiolbaaGreatDoor

namespace Go.Proofs.YtnaefnojmiolbaaGreatDoor
open Go.RowKit

def isBl (c : UInt8) : Bool := c == 32 || c == 9 || c == 10 || c == 13
/-- The place behind the blanks. -/
def blankE (s : ByteArray) (p : Nat) : Nat := p + ((s.toList.drop p).takeWhile isBl).length
theorem blankE_step {s : ByteArray} {p : Nat} (h : p < s.size) (hd : isBl s[p] = true) : blankE s p = blankE s (p + 1) := by
  unfold blankE
  rw [List.drop_eq_getElem_cons (by rw [size_toList]; exact h), toList_at h, List.takeWhile_cons, if_pos hd, List.length_cons]
  omega
theorem blankE_stop {s : ByteArray} {p : Nat} (h : ¬ isBl (nowP s p) = true) : blankE s p = p := by
  unfold blankE
  by_cases hp : p < s.size
  · rw [nowP_lt hp] at h
    rw [List.drop_eq_getElem_cons (by rw [size_toList]; exact hp), toList_at hp, List.takeWhile_cons, if_neg h]
    rfl
  · rw [List.drop_eq_nil_of_le (by rw [size_toList]; omega)]
    rfl
theorem blankE_le {s : ByteArray} {p : Nat} (h : p ≤ s.size) : blankE s p ≤ s.size ∧ p ≤ blankE s p := by
  unfold blankE
  have h1 := (List.takeWhile_sublist (l := s.toList.drop p) isBl).length_le
  rw [List.length_drop, size_toList] at h1
  omega
/-- Where the digits of a number end: a zero stands alone. -/
def jnumE (s : ByteArray) (q : Nat) : Nat := if nowP s q = 48 then q + 1 else endP s q
def jnumB (s : ByteArray) (p : Nat) : Nat := if nowP s p = 45 then p + 1 else p
def isFr (c : UInt8) : Bool := c == 46 || c == 101 || c == 69
def jnumP (s : ByteArray) (p : Nat) : Except ER (Int × Nat) :=
  if isDig (nowP s (jnumB s p)) = true then
    match Lib.atoiAll (numText s p (jnumE s (jnumB s p))).toList with
    | .ok n => if isFr (nowP s (jnumE s (jnumB s p))) = true then .error (11, p) else .ok (n, jnumE s (jnumB s p))
    | _ => .error (11, p)
  else .error (wrongC s (jnumB s p), jnumB s p)
/-- A hexadecimal digit. -/
def hexV (c : UInt8) : Option Nat :=
  if 48 ≤ c.toNat ∧ c.toNat ≤ 57 then some (c.toNat - 48) else if 97 ≤ c.toNat ∧ c.toNat ≤ 102 then some (c.toNat - 87) else if 65 ≤ c.toNat ∧ c.toNat ≤ 70 then some (c.toNat - 55) else none
def hexP (s : ByteArray) : Nat → Nat → Nat → Except ER (Nat × Nat)
  | 0, n, p => .ok (n, p)
  | k + 1, n, p => match hexV (nowP s p) with
    | none => .error (wrongC s p, p)
    | some d => hexP s k (n * 16 + d) (p + 1)
/-- What stands behind the u of an escape that begins at a place. -/
def unitP (s : ByteArray) (from' p : Nat) : Except ER (Nat × Nat) :=
  match hexP s 4 0 p with
  | .error e => .error e
  | .ok (n, q) =>
    if n < 55296 ∨ 57343 < n then .ok (n, q)
    else if 56320 ≤ n then .error (7, from')
    else if ¬ q < s.size then .error (10, q)
    else if nowP s q ≠ 92 then .error (7, from')
    else if ¬ q + 1 < s.size then .error (10, q + 1)
    else if nowP s (q + 1) ≠ 117 then .error (7, from')
    else match hexP s 4 0 (q + 2) with
      | .error e => .error e
      | .ok (m, q2) => if m < 56320 ∨ 57343 < m then .error (7, from') else .ok (65536 + (n - 55296) * 1024 + (m - 56320), q2)
/-- The byte that an escape of one letter is. -/
def shortR (c : UInt8) : Option UInt8 :=
  if c = 34 then some 34 else if c = 92 then some 92 else if c = 47 then some 47 else if c = 98 then some 8 else if c = 102 then some 12
  else if c = 110 then some 10 else if c = 114 then some 13 else if c = 116 then some 9 else none
def escP (s : ByteArray) (p : Nat) : Except ER (Bs × Nat) :=
  if ¬ p + 1 < s.size then .error (10, p + 1)
  else if nowP s (p + 1) = 117 then (match unitP s p (p + 2) with
    | .error e => .error e
    | .ok (n, q) => .ok (Lib.encodeRune n, q))
  else match shortR (nowP s (p + 1)) with
    | none => .error (7, p + 1)
    | some c => .ok ([c], p + 2)
/-- The rune that begins at a place. -/
abbrev decAt (s : ByteArray) (p : Nat) : Nat × Nat := Lib.decodeL (s.toList.drop p)
def jtextL (s : ByteArray) : Nat → Bs → Nat → Except ER (Bs × Nat)
  | 0, _, p => .error (0, p)
  | k + 1, acc, p =>
    if nowP s p = 34 then .ok (acc, p + 1)
    else if ¬ p < s.size ∨ nowP s p < 32 then .error (wrongC s p, p)
    else if nowP s p = 92 then (match escP s p with
      | .error e => .error e
      | .ok (l, q) => jtextL s k (acc ++ l) q)
    else if (decAt s p).1 = 65533 ∧ (decAt s p).2 = 1 then .error (14, p)
    else jtextL s k (acc ++ Lib.encodeRune (decAt s p).1) (p + (decAt s p).2)
def jtextP (s : ByteArray) (p : Nat) : Except ER (Bs × Nat) :=
  match mustP s [34] p with
  | .error e => .error e
  | .ok q => jtextL s (s.size + 1) [] q
def firstB (c : UInt8) : Bool := [110, 116, 102, 34, 91, 123, 45, 48, 49, 50, 51, 52, 53, 54, 55, 56, 57].contains c
def jbegP (s : ByteArray) (obj : Bool) (p : Nat) : Bool := decide (p < s.size) && (if obj then nowP s p == 34 else firstB (nowP s p))
/-- What is read, the place behind it, how many items so far. -/
abbrev JV (α : Type) := Except ER (α × Nat × Nat)
abbrev JValF := Nat → Nat → JV VT
abbrev endC (obj : Bool) : UInt8 := if obj then 125 else 93
def jitemP (s : ByteArray) (obj : Bool) (val : JValF) (l : LS) (p m : Nat) : JV LS :=
  if obj = true then
    match jtextP s p with
    | .error e => .error e
    | .ok (t, p1) => match mustP s [58] (blankE s p1) with
      | .error e => .error e
      | .ok p2 => match val (blankE s p2) m with
        | .error e => .error e
        | .ok (x, p3, m') => .ok ((setP ⟨true, 0, str t⟩ x l).2, p3, m')
  else match val p m with
    | .error e => .error e
    | .ok (x, p3, m') => .ok ((appendP x l).2, p3, m')
def jroundP (s : ByteArray) (obj : Bool) (val : JValF) (l : LS) (p m : Nat) : JV LS :=
  if 2048 < m + 1 ∧ jbegP s obj p = true then .error (8, p) else
  match jitemP s obj val l p (m + 1) with
  | .error e => .error e
  | .ok (l', p', m') => .ok (l', blankE s p', m')
def jitemsL (s : ByteArray) (obj : Bool) (val : JValF) : Nat → Bool → LS → Nat → Nat → JV LS
  | 0, _, _, p, _ => .error (0, p)
  | k + 1, first, l, p, m =>
    if first = true then
      if nowP s p = endC obj then .ok (l, p, m) else
      match jroundP s obj val l p m with
      | .error e => .error e
      | .ok (l', p', m') => jitemsL s obj val k false l' p' m'
    else if nowP s p = 44 then
      match jroundP s obj val l (blankE s (p + 1)) m with
      | .error e => .error e
      | .ok (l', p', m') => jitemsL s obj val k false l' p' m'
    else .ok (l, p, m)
def jlistP (s : ByteArray) (obj : Bool) (sub : Option JValF) : JValF := fun p m =>
  match sub with
  | none => .error (4, p)
  | some val => match jitemsL s obj val (s.size + 2) true LS.new (blankE s (p + 1)) m with
    | .error e => .error e
    | .ok (l, q, m') => if nowP s q = endC obj ∧ q < s.size then .ok (.mk 4 l.nx ⟨#[]⟩ l.xs, q + 1, m') else .error (wrongC s q, q)
def jwordP (s : ByteArray) (w : Bs) (y : VT) : JValF := fun p m =>
  match mustP s w p with
  | .error e => .error e
  | .ok q => .ok (y, q, m)
def jintP (s : ByteArray) : JValF := fun p m =>
  match jnumP s p with
  | .error e => .error e
  | .ok (n, q) => .ok (.mk 2 n ⟨#[]⟩ [], q, m)
def jstrP (s : ByteArray) : JValF := fun p m =>
  match jtextP s p with
  | .error e => .error e
  | .ok (t, q) => .ok (.mk 3 0 (str t) [], q, m)
def jvalP (s : ByteArray) (sub : Option JValF) : JValF := fun p m =>
  if nowP s p = 45 ∨ isDig (nowP s p) = true then jintP s p m
  else if nowP s p = 110 then jwordP s [110, 117, 108, 108] (.mk 0 0 ⟨#[]⟩ []) p m
  else if nowP s p = 116 then jwordP s [116, 114, 117, 101] (.mk 1 1 ⟨#[]⟩ []) p m
  else if nowP s p = 102 then jwordP s [102, 97, 108, 115, 101] (.mk 1 0 ⟨#[]⟩ []) p m
  else if nowP s p = 91 then jlistP s false sub p m
  else if nowP s p = 123 then jlistP s true sub p m
  else if nowP s p = 34 then jstrP s p m
  else .error (wrongC s p, p)
/-- A value with so many lists left. -/
def jdepth (s : ByteArray) : Nat → JValF
  | 0 => jvalP s none
  | d + 1 => jvalP s (some (jdepth s d))
/-- What Decode answers. -/
def decodeP (s : ByteArray) : Except ER VT :=
  if 65536 < s.size then .error (2, 0) else
  match jdepth s 64 (blankE s 0) 0 with
  | .error e => .error e
  | .ok (y, p, _) => if blankE s p < s.size then .error (7, blankE s p) else .ok y
end Go.Proofs.YtnaefnojmiolbaaGreatDoor

namespace Go.Proofs.YtnaefnojmiolbaaGreatDoor
open Go.RowKit

section
variable {s : ByteArray}
end
/-! How a text is written. -/
def hexD (n : Nat) : UInt8 := if n < 10 then (48 + n).toUInt8 else (87 + n).toUInt8
def hex4 (n : Nat) : Bs := [hexD (n / 4096 % 16), hexD (n / 256 % 16), hexD (n / 16 % 16), hexD (n % 16)]
def uniB (n : Nat) : Bs := 92 :: 117 :: hex4 n
/-- The letter of a short escape. -/
def shortW (c : Nat) : Option UInt8 :=
  if c = 34 then some 34 else if c = 92 then some 92 else if c = 47 then some 47 else if c = 8 then some 98 else if c = 12 then some 102
  else if c = 10 then some 110 else if c = 13 then some 114 else if c = 9 then some 116 else none
def escR (c : Nat) : Bs := match shortW c with
  | some d => [92, d]
  | none => if 32 ≤ c ∧ c < 127 then [c.toUInt8] else if 65535 < c then uniB (55296 + (c - 65536) / 1024) ++ uniB (56320 + (c - 65536) % 1024) else uniB c
def escs (cs : List Nat) : Bs := cs.flatMap escR
theorem escs_cons (c : Nat) (cs : List Nat) : escs (c :: cs) = escR c ++ escs cs := rfl
def quoteP (t : Bs) : Bs := 34 :: (escs (runesF t.length t) ++ [34])
section
variable {s : ByteArray}
theorem quote_flat {cs : List Nat} (hc : ∀ c ∈ cs, IsRune c) : quoteP (flatR cs) = 34 :: (escs cs ++ [34]) := by
  unfold quoteP
  rw [runes_flat cs _ hc (flatR_len cs)]
end
/-! What is read is valid, and no longer than what it was read from. -/
section
variable {s : ByteArray}
theorem hexV_zero : hexV 0 = none := by decide
theorem hexV_lt : ∀ x : Fin 256, ∀ d, hexV (UInt8.ofNat x.val) = some d → d < 16 := by decide +kernel
theorem hexV_lt' {c : UInt8} {d : Nat} (h : hexV c = some d) : d < 16 := by
  have := hexV_lt ⟨c.toNat, c.toNat_lt⟩ d (by simpa using h)
  exact this
theorem hexP_ok : ∀ {k n p : Nat} {a : Nat × Nat}, hexP s k n p = .ok a → a.2 = p + k ∧ a.1 < (n + 1) * 16 ^ k ∧ (0 < k → p + k ≤ s.size)
  | 0, n, p, a, h => by rw [hexP] at h; cases h; exact ⟨rfl, by simp, by omega⟩
  | k + 1, n, p, a, h => by
    rw [hexP] at h
    split at h
    · cases h
    · rename_i d hd
      obtain ⟨h1, h2, h3⟩ := hexP_ok h
      have h16 := hexV_lt' hd
      have hp : p < s.size := by
        by_cases hh : p < s.size
        · exact hh
        · rw [nowP_end hh, hexV_zero] at hd; cases hd
      refine ⟨by omega, Nat.lt_of_lt_of_le h2 ?_, fun _ => ?_⟩
      · rw [Nat.pow_succ, ← Nat.mul_assoc, Nat.mul_right_comm]
        exact Nat.mul_le_mul_right _ (by omega)
      · by_cases hk : 0 < k
        · have := h3 hk; omega
        · omega
theorem unitP_ok {f p : Nat} {a : Nat × Nat} (h : unitP s f p = .ok a) : IsRune a.1 ∧ p + 4 ≤ a.2 ∧ a.2 ≤ s.size ∧ (65535 < a.1 → p + 10 ≤ a.2) := by
  unfold unitP at h
  split at h
  · cases h
  · rename_i n q h1
    obtain ⟨e1, l1, s1⟩ := hexP_ok h1
    simp only at e1 l1
    have s1 := s1 (by omega)
    simp at l1
    unfold IsRune
    repeat' split at h
    all_goals first | (simp only [reduceCtorEq] at h; done) | skip
    · injection h with h; subst h; simp only; omega
    · rename_i m q2 h2 _
      obtain ⟨e2, l2, s2⟩ := hexP_ok h2
      simp only at e2 l2
      have s2 := s2 (by omega)
      simp at l2
      injection h with h
      subst h
      simp only
      omega
theorem escP_ok {p : Nat} {a : Bs × Nat} (h : escP s p = .ok a) : (∃ c, IsRune c ∧ a.1 = Lib.encodeRune c) ∧ p + a.1.length ≤ a.2 ∧ a.2 ≤ s.size := by
  unfold escP at h
  split at h
  · cases h
  · rename_i hp
    split at h
    · split at h
      · cases h
      · rename_i n q h1
        obtain ⟨u1, u2, u3, u4⟩ := unitP_ok h1
        cases h
        simp only at u1 u2 u3 u4
        have := (rune_len n).2
        exact ⟨⟨n, u1, rfl⟩, by simp only; omega, u3⟩
    · split at h
      · cases h
      · rename_i c hc
        cases h
        have : c.toNat < 128 := by
          unfold shortR at hc
          repeat' split at hc
          all_goals first | (cases hc; done) | (injection hc with hc; subst hc; decide)
        refine ⟨⟨c.toNat, .inl (by omega), ?_⟩, by simp, by simp only; omega⟩
        rw [rune_ascii this]
        simp
theorem jtextL_ok : ∀ {k p : Nat} {acc : Bs} {a : Bs × Nat}, jtextL s k acc p = .ok a → p ≤ s.size → (∃ cs, (∀ c ∈ cs, IsRune c) ∧ acc = flatR cs) →
    (∃ cs, (∀ c ∈ cs, IsRune c) ∧ a.1 = flatR cs) ∧ a.1.length + p + 1 ≤ acc.length + a.2 ∧ a.2 ≤ s.size
  | 0, p, acc, a, h, _, _ => by rw [jtextL] at h; cases h
  | k + 1, p, acc, a, h, hp, hc => by
    have snoc : ∀ {c : Nat}, IsRune c → ∃ cs, (∀ c ∈ cs, IsRune c) ∧ acc ++ Lib.encodeRune c = flatR cs := by
      obtain ⟨cs, h1, h2⟩ := hc
      intro c h3
      refine ⟨cs ++ [c], ?_, ?_⟩
      · intro x hx
        rcases List.mem_append.1 hx with hx | hx
        · exact h1 x hx
        · rw [List.mem_singleton.1 hx]; exact h3
      · rw [h2, flatR_append]; simp [flatR]
    rw [jtextL] at h
    split at h
    · rename_i h34
      cases h
      have : p < s.size := by
        by_cases hh : p < s.size
        · exact hh
        · rw [nowP_end hh] at h34; exact absurd h34 (by decide)
      exact ⟨hc, by simp only; omega, this⟩
    · split at h
      · cases h
      · rename_i hlt
        have hlt : p < s.size := Classical.byContradiction fun hx => hlt (.inl hx)
        split at h
        · split at h
          · cases h
          · rename_i l q he
            obtain ⟨⟨c, c1, c2⟩, e2, e3⟩ := escP_ok he
            simp only at c2 e2 e3
            subst c2
            obtain ⟨r1, r2, r3⟩ := jtextL_ok h e3 (snoc c1)
            rw [List.length_append] at r2
            exact ⟨r1, by omega, r3⟩
        · split at h
          · cases h
          · rename_i hv
            have hne : s.toList.drop p ≠ [] := by
              intro e
              have := congrArg List.length e
              rw [List.length_drop, size_toList] at this
              simp at this
              omega
            have hle := Lib.decodeL_le _ hne
            have hen := Lib.encode_decode _ hne hv
            rw [List.length_drop, size_toList] at hle
            obtain ⟨r1, r2, r3⟩ := jtextL_ok h (by show p + (Lib.decodeL (s.toList.drop p)).2 ≤ _; omega) (snoc (decode_is hv))
            rw [List.length_append, hen, List.length_take, List.length_drop, size_toList] at r2
            exact ⟨r1, by have : (decAt s p).2 = (Lib.decodeL (s.toList.drop p)).2 := rfl; omega, r3⟩
theorem mustP_ok : ∀ {l : Bs} {p q : Nat}, mustP s l p = .ok q → q = p + l.length ∧ (p ≤ s.size → q ≤ s.size)
  | [], p, q, h => by rw [mustP] at h; cases h; exact ⟨rfl, id⟩
  | c :: l, p, q, h => by
    rw [mustP] at h
    split at h
    · rename_i h1
      obtain ⟨e1, e2⟩ := mustP_ok h
      exact ⟨by simp; omega, fun _ => e2 h1.1⟩
    · cases h
theorem jtextP_ok {p : Nat} {a : Bs × Nat} (h : jtextP s p = .ok a) (hp : p ≤ s.size) : Lib.validD a.1 = true ∧ p + a.1.length + 2 ≤ a.2 ∧ a.2 ≤ s.size := by
  unfold jtextP at h
  split at h
  · cases h
  · rename_i q hq
    obtain ⟨e1, e2⟩ := mustP_ok hq
    obtain ⟨⟨cs, c1, c2⟩, r2, r3⟩ := jtextL_ok h (e2 hp) ⟨[], by simp, by simp [flatR]⟩
    simp at e1 r2
    exact ⟨by rw [c2]; exact flat_valid cs c1, by omega, r3⟩
end
end Go.Proofs.YtnaefnojmiolbaaGreatDoor

namespace Go.Proofs.YtnaefnojmiolbaaGreatDoor
open Go.RowKit

/-- A reading goes on, and begins where a value begins. -/
def JOk (s : ByteArray) (val : JValF) : Prop := ∀ p m a, p ≤ s.size → val p m = .ok a → p < a.2.1 ∧ a.2.1 ≤ s.size ∧ m ≤ a.2.2 ∧ jbegP s false p = true
section
variable {s : ByteArray}
theorem now_lt {p : Nat} (h : nowP s p ≠ 0) : p < s.size := by
  by_cases hp : p < s.size
  · exact hp
  · exact absurd (nowP_end hp) h
theorem jbeg_of {p : Nat} (h : firstB (nowP s p) = true) (h0 : nowP s p ≠ 0) : jbegP s false p = true := by
  unfold jbegP
  simp [now_lt h0, h]
theorem jmust_now {p q : Nat} {c : UInt8} {l : Bs} (h : mustP s (c :: l) p = .ok q) : nowP s p = c ∧ p < s.size := by
  rw [mustP] at h
  split at h
  · rename_i hc; exact ⟨hc.2, hc.1⟩
  · cases h
theorem jtextP_beg {p : Nat} {a : Bs × Nat} (h : jtextP s p = .ok a) : jbegP s true p = true ∧ nowP s p = 34 := by
  unfold jtextP at h
  split at h
  · cases h
  · rename_i q hq
    obtain ⟨h1, h2⟩ := jmust_now hq
    exact ⟨by unfold jbegP; simp [h1, h2], h1⟩
theorem setN_len {k : K} {v : VT} {l : LS} : (setN k v l).2.xs.length ≤ l.xs.length + 1 := by
  unfold setN
  split
  · simp
  · split
    · simp
    · simp
theorem setN_nx {k : K} {v : VT} {l : LS} (hb : k.b = false) (hn : k.n = l.nx) (h0 : 0 ≤ l.nx) (h1 : l.nx < 9223372036854775807) : 0 ≤ (setN k v l).2.nx ∧ (setN k v l).2.nx ≤ l.nx + 1 := by
  unfold setN
  split
  · simp only; omega
  · split
    · simp only; omega
    · simp only
      unfold nextP
      rw [if_pos ⟨hb, h0, by omega⟩, if_neg (by omega)]
      omega
theorem appendP_len {v : VT} {l : LS} : (appendP v l).2.xs.length ≤ l.xs.length + 1 := by
  unfold appendP
  split
  · simp
  · split
    · exact setN_len
    · exact setN_len
theorem appendP_nx {v : VT} {l : LS} (h0 : 0 ≤ l.nx) (h1 : l.nx < 9223372036854775807) : 0 ≤ (appendP v l).2.nx ∧ (appendP v l).2.nx ≤ l.nx + 1 := by
  unfold appendP
  rw [if_neg (by omega)]
  split
  · exact setN_nx rfl rfl h0 h1
  · exact setN_nx rfl rfl h0 h1
/-- How a list stands while it is read. -/
structure LRead (obj : Bool) (l : LS) (m : Nat) : Prop where
  ok : l.Ok
  len : l.xs.length ≤ m
  nx : obj = false → 0 ≤ l.nx ∧ l.nx ≤ m
theorem LRead.new (obj : Bool) (m : Nat) : LRead obj LS.new m := ⟨LS.new_ok, by simp [LS.new], fun _ => by simp [LS.new]⟩
theorem LRead.mono {obj : Bool} {l : LS} {m m' : Nat} (h : LRead obj l m) (hm : m ≤ m') : LRead obj l m' := ⟨h.ok, Nat.le_trans h.len hm, fun e => by have := h.nx e; omega⟩
theorem jitemP_ok {obj : Bool} {val : JValF} (hv : JOk s val) {l : LS} {p m : Nat} {a : LS × Nat × Nat} (hp : p ≤ s.size) (h : jitemP s obj val l p m = .ok a) :
    p < a.2.1 ∧ a.2.1 ≤ s.size ∧ m ≤ a.2.2 ∧ jbegP s obj p = true ∧ (s.size ≤ 65536 → ∀ m0, LRead obj l m0 → m0 + 1 ≤ m → m ≤ 65536 → LRead obj a.1 m) := by
  unfold jitemP at h
  cases obj with
  | true =>
    simp only [if_true] at h
    split at h
    · cases h
    · rename_i t p1 h1
      obtain ⟨-, t2, t3⟩ := jtextP_ok h1 hp
      simp only at t2 t3
      have b1 := blankE_le t3
      split at h
      · cases h
      · rename_i p2 h2
        obtain ⟨m1, m2⟩ := mustP_ok h2
        have m2 := m2 b1.1
        have b2 := blankE_le m2
        split at h
        · cases h
        · rename_i x p3 m' h3
          obtain ⟨v1, v2, v3, -⟩ := hv _ _ _ b2.1 h3
          cases h
          simp only at v1 v2 v3 m1
          simp only
          refine ⟨by simp at m1; omega, v2, v3, (jtextP_beg h1).1, fun hs m0 hl hm0 hm => ⟨setP_ok ⟨by show (-9223372036854775808 : Int) ≤ 0; decide, by show (0 : Int) ≤ 9223372036854775807; decide, by show (str t).size ≤ _; rw [str_size]; omega⟩ hl.ok, ?_, fun e => by cases e⟩⟩
          have := setN_len (k := (K.mk true 0 (str t)).norm) (v := x) (l := l)
          have := hl.len
          unfold setP
          omega
  | false =>
    simp only [Bool.false_eq_true, if_false] at h
    split at h
    · cases h
    · rename_i x p3 m' h3
      obtain ⟨v1, v2, v3, v4⟩ := hv _ _ _ hp h3
      cases h
      simp only at v1 v2 v3
      refine ⟨v1, v2, v3, v4, fun hs m0 hl hm0 hm => ⟨appendP_ok hl.ok, ?_, fun _ => ?_⟩⟩
      · have := appendP_len (v := x) (l := l)
        have := hl.len
        simp only
        omega
      · have h0 := hl.nx rfl
        have := appendP_nx (v := x) (l := l) h0.1 (by omega)
        simp only
        omega
theorem jroundP_ok {obj : Bool} {val : JValF} (hv : JOk s val) {l : LS} {p m : Nat} {a : LS × Nat × Nat} (hp : p ≤ s.size) (h : jroundP s obj val l p m = .ok a) :
    p < a.2.1 ∧ a.2.1 ≤ s.size ∧ m + 1 ≤ a.2.2 ∧ m + 1 ≤ 2048 := by
  unfold jroundP at h
  split at h
  · cases h
  · rename_i hc
    split at h
    · cases h
    · rename_i l' p' m' h1
      obtain ⟨i1, i2, i3, i4, -⟩ := jitemP_ok hv hp h1
      simp only at i1 i2 i3
      have b := blankE_le i2
      cases h
      simp only
      refine ⟨by omega, b.1, i3, ?_⟩
      apply Classical.byContradiction
      intro hx
      exact hc ⟨by omega, i4⟩
theorem jitemsL_ok {obj : Bool} {val : JValF} (hv : JOk s val) : ∀ {k : Nat} {fst : Bool} {l : LS} {p m : Nat} {a : LS × Nat × Nat}, p ≤ s.size → jitemsL s obj val k fst l p m = .ok a → p ≤ a.2.1 ∧ a.2.1 ≤ s.size ∧ m ≤ a.2.2
  | 0, fst, l, p, m, a, _, h => by rw [jitemsL] at h; cases h
  | k + 1, fst, l, p, m, a, hp, h => by
    rw [jitemsL] at h
    split at h
    · split at h
      · cases h; exact ⟨Nat.le_refl _, hp, Nat.le_refl _⟩
      · split at h
        · cases h
        · rename_i l' p' m' h1
          obtain ⟨r1, r2, r3, -⟩ := jroundP_ok hv hp h1
          simp only at r1 r2 r3
          obtain ⟨t1, t2, t3⟩ := jitemsL_ok hv r2 h
          exact ⟨by omega, t2, by omega⟩
    · split at h
      · rename_i hc
        have hlt : p < s.size := now_lt (by rw [hc]; decide)
        have b := blankE_le (s := s) (p := p + 1) (by omega)
        split at h
        · cases h
        · rename_i l' p' m' h1
          obtain ⟨r1, r2, r3, -⟩ := jroundP_ok hv b.1 h1
          simp only at r1 r2 r3
          obtain ⟨t1, t2, t3⟩ := jitemsL_ok hv r2 h
          exact ⟨by omega, t2, by omega⟩
      · cases h; exact ⟨Nat.le_refl _, hp, Nat.le_refl _⟩
theorem jlistP_ok {obj : Bool} {sub : Option JValF} (hv : ∀ v, sub = some v → JOk s v) {p m : Nat} {a : VT × Nat × Nat} (hp : p < s.size) (h : jlistP s obj sub p m = .ok a) : p < a.2.1 ∧ a.2.1 ≤ s.size ∧ m ≤ a.2.2 := by
  unfold jlistP at h
  split at h
  · cases h
  · rename_i val
    split at h
    · cases h
    · rename_i l q m' h1
      have b := blankE_le (s := s) (p := p + 1) (by omega)
      obtain ⟨t1, t2, t3⟩ := jitemsL_ok (hv _ rfl) b.1 h1
      simp only at t1 t2 t3
      split at h
      · rename_i hc
        cases h
        simp only
        exact ⟨by omega, hc.2, t3⟩
      · cases h
theorem dig_first : ∀ x : Fin 256, isDig (UInt8.ofNat x.val) = true → firstB (UInt8.ofNat x.val) = true := by decide +kernel
theorem of_dig (c : UInt8) (h : isDig c = true) : firstB c = true := by
  have := dig_first ⟨c.toNat, c.toNat_lt⟩ (by simpa using h)
  simpa using this
theorem atoi_bounds {l : Bs} {n : Int} (h : Lib.atoiAll l = .ok n) : -9223372036854775808 ≤ n ∧ n ≤ 9223372036854775807 := by
  unfold Lib.atoiAll at h
  cases l with
  | nil => simp at h
  | cons c r =>
    simp only at h
    split at h
    · cases h
    · cases h
    · rename_i u _
      split at h
      · cases h
      · split at h
        · cases h
        · injection h with h
          split at h <;> omega
theorem jnumP_ok {p : Nat} {a : Int × Nat} (h : jnumP s p = .ok a) : p < a.2 ∧ a.2 ≤ s.size ∧ jbegP s false p = true ∧ (-9223372036854775808 ≤ a.1 ∧ a.1 ≤ 9223372036854775807) := by
  unfold jnumP at h
  have hB : p ≤ jnumB s p ∧ (jnumB s p ≠ p → nowP s p = 45) := by
    unfold jnumB
    split
    · rename_i hc; exact ⟨by omega, fun _ => hc⟩
    · exact ⟨Nat.le_refl _, fun e => absurd rfl e⟩
  split at h
  · rename_i hd
    have hlt : jnumB s p < s.size := by
      apply now_lt
      intro e
      rw [e] at hd
      exact absurd hd (by decide)
    have hE : jnumB s p < jnumE s (jnumB s p) ∧ jnumE s (jnumB s p) ≤ s.size := by
      unfold jnumE
      split
      · omega
      · have e := endP_step hlt (by rw [← nowP_lt hlt]; exact hd)
        have := endP_le (s := s) (p := jnumB s p + 1) (by omega)
        rw [e]
        omega
    have hbeg : jbegP s false p = true := by
      by_cases e : jnumB s p = p
      · rw [e] at hd hlt
        refine jbeg_of ?_ (fun e0 => by rw [e0] at hd; exact absurd hd (by decide))
        have := of_dig (nowP s p) hd
        exact this
      · have := hB.2 e
        exact jbeg_of (by rw [this]; decide) (by rw [this]; decide)
    split at h
    · rename_i n ha
      split at h
      · cases h
      · cases h
        exact ⟨by simp only; omega, hE.2, hbeg, atoi_bounds ha⟩
    · cases h
  · cases h
theorem jvalP_ok {sub : Option JValF} (hv : ∀ v, sub = some v → JOk s v) : JOk s (jvalP s sub) := by
  intro p m a hp h
  unfold jvalP at h
  split at h
  · unfold jintP at h
    split at h
    · cases h
    · rename_i n q h1
      obtain ⟨n1, n2, n3, -⟩ := jnumP_ok h1
      cases h
      exact ⟨n1, n2, Nat.le_refl _, n3⟩
  · have word : ∀ {w : Bs} {y : VT} {c : UInt8} {l : Bs}, w = c :: l → nowP s p = c → firstB c = true → c ≠ 0 → jwordP s w y p m = .ok a → p < a.2.1 ∧ a.2.1 ≤ s.size ∧ m ≤ a.2.2 ∧ jbegP s false p = true := by
      intro w y c l hw hc hf h0 h1
      unfold jwordP at h1
      split at h1
      · cases h1
      · rename_i q hq
        obtain ⟨e1, e2⟩ := mustP_ok hq
        cases h1
        have e2 := e2 hp
        rw [hw] at e1
        simp at e1
        exact ⟨by simp only; omega, e2, Nat.le_refl _, jbeg_of (by rw [hc]; exact hf) (by rw [hc]; exact h0)⟩
    split at h
    · rename_i hc; exact word rfl hc (by decide) (by decide) h
    · split at h
      · rename_i hc; exact word rfl hc (by decide) (by decide) h
      · split at h
        · rename_i hc; exact word rfl hc (by decide) (by decide) h
        · split at h
          · rename_i hc
            have h0 : nowP s p ≠ 0 := by rw [hc]; decide
            obtain ⟨t1, t2, t3⟩ := jlistP_ok hv (now_lt h0) h
            exact ⟨t1, t2, t3, jbeg_of (by rw [hc]; decide) h0⟩
          · split at h
            · rename_i hc
              have h0 : nowP s p ≠ 0 := by rw [hc]; decide
              obtain ⟨t1, t2, t3⟩ := jlistP_ok hv (now_lt h0) h
              exact ⟨t1, t2, t3, jbeg_of (by rw [hc]; decide) h0⟩
            · split at h
              · rename_i hc
                unfold jstrP at h
                split at h
                · cases h
                · rename_i t q h1
                  obtain ⟨-, t2, t3⟩ := jtextP_ok h1 hp
                  simp only at t2 t3
                  cases h
                  exact ⟨by simp only; omega, t3, Nat.le_refl _, jbeg_of (by rw [hc]; decide) (by rw [hc]; decide)⟩
              · cases h
theorem jdepth_ok : ∀ d : Nat, JOk s (jdepth s d)
  | 0 => jvalP_ok (fun v e => by cases e)
  | d + 1 => jvalP_ok (fun v e => by cases e; exact jdepth_ok d)
end
end Go.Proofs.YtnaefnojmiolbaaGreatDoor
