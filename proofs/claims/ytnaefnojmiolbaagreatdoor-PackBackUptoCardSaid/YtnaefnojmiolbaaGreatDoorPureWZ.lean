/-
  What a writer of packed graphs writes, in plain words; what was read is written as the same bytes. Of no program but the reader's words.
  No beginning of a text that is read is read: it is open at its end. Of no program but the reader's words.
  What Pack answers, in plain words; what was read may be packed, and is packed as the same bytes. Of no program but the reader's words.
  What is read is packed as the same bytes; no beginning of it is read; a fault's place lies within the text. Of no program but the reader's words.
  The one graph of alive: its text is read as it.
-/
import Derived.Test.YtnaefnojmiolbaaGreatDoorPushZ
import Derived.Test.YtnaefnojmiolbaaGreatDoorItemsRZ
import Derived.Test.YtnaefnojmiolbaaGreatDoorRightZ
import Derived.Test.YtnaefnojmiolbaaGreatDoorWithinZ
import Derived.Test.YtnaefnojmiolbaaGreatDoorReadZ
namespace Go.Proofs.YtnaefnojmiolbaaGreatDoor
open Go.RowKit

instance : DecidableEq ByteArray := fun a b => decidable_of_iff (a.toList = b.toList) ⟨ba_ext, fun h => by rw [h]⟩
/-- What a writer has: its text so far, the numbers of the objects that began. -/
structure WS where
  t : Bs
  o : List Int
abbrev WR := Except Int WS
abbrev PutF := VT → WS → WR
def textW (t : ByteArray) : Bs := [115, 58] ++ (Lib.itoa t.size ++ ([58, 34] ++ (t.toList ++ [34, 59])))
def keyW (k : K) : Bs := if k.b = true then textW k.t else [105, 58] ++ (Lib.itoa k.n ++ [59])
def itemsW (put : PutF) : List It → WS → WR
  | [], w => .ok w
  | x :: l, w => match put x.2 ⟨w.t ++ keyW x.1, w.o⟩ with
    | .error e => .error e
    | .ok w' => itemsW put l w'
def bracesW (sub : Option PutF) (l : List It) (w : WS) : WR := match sub with
  | none => .error 4
  | some put => match itemsW put l ⟨w.t ++ (Lib.itoa l.length ++ [58, 123]), w.o⟩ with
    | .error e => .error e
    | .ok w' => .ok ⟨w'.t ++ [125], w'.o⟩
/-- A text that is too long already is put down. -/
def cutW (t : Bs) : Bs := if 131072 < t.length then List.replicate 65537 32 else t
/-- The place of an object among those that began. -/
def placeW (o : List Int) (n : Int) : Option Nat := o.findIdx? fun x => decide (x = n)
def objectW (F : List TP) (sub : Option PutF) (n : Int) (w : WS) : WR := match placeW w.o n with
  | some i => .ok ⟨w.t ++ ([114, 58] ++ (Lib.itoa (i + 1) ++ [59])), w.o⟩
  | none => match F[(n - 1).toNat]? with
    | none => .error 0
    | some th => bracesW sub th.2 ⟨w.t ++ ([79, 58] ++ (Lib.itoa th.1.size ++ ([58, 34] ++ (th.1.toList ++ [34, 58])))), w.o ++ [n]⟩
def valueW (F : List TP) (sub : Option PutF) (v : VT) (w : WS) : WR :=
  if v.k = 0 then .ok ⟨w.t ++ [78, 59], w.o⟩
  else if v.k = 1 then .ok ⟨w.t ++ ([98, 58] ++ (Lib.itoa v.n ++ [59])), w.o⟩
  else if v.k = 2 then .ok ⟨w.t ++ ([105, 58] ++ (Lib.itoa v.n ++ [59])), w.o⟩
  else if v.k = 3 then .ok ⟨w.t ++ textW v.t, w.o⟩
  else if v.k = 4 then bracesW sub v.xs ⟨w.t ++ [97, 58], w.o⟩
  else if v.k = 5 then objectW F sub v.n w
  else .ok w
section
variable (F : List TP) (sub : Option PutF) (n : Int) (t : ByteArray) (l : List It) (w : WS)
theorem valueW_0 : valueW F sub (.mk 0 n t l) w = .ok ⟨w.t ++ [78, 59], w.o⟩ := rfl
theorem valueW_1 : valueW F sub (.mk 1 n t l) w = .ok ⟨w.t ++ ([98, 58] ++ (Lib.itoa n ++ [59])), w.o⟩ := rfl
theorem valueW_2 : valueW F sub (.mk 2 n t l) w = .ok ⟨w.t ++ ([105, 58] ++ (Lib.itoa n ++ [59])), w.o⟩ := rfl
theorem valueW_3 : valueW F sub (.mk 3 n t l) w = .ok ⟨w.t ++ textW t, w.o⟩ := rfl
theorem valueW_4 : valueW F sub (.mk 4 n t l) w = bracesW sub l ⟨w.t ++ [97, 58], w.o⟩ := rfl
theorem valueW_5 : valueW F sub (.mk 5 n t l) w = objectW F sub n w := rfl
end
def graphW (F : List TP) (sub : Option PutF) : PutF := fun v w => valueW F sub v ⟨cutW w.t, w.o⟩
/-- One, with so many braces left. -/
def gvalW (F : List TP) : Nat → PutF
  | 0 => graphW F none
  | d + 1 => graphW F (some (gvalW F d))

/-! What was read is written as the same bytes. -/
/-- The numbers of so many objects. -/
def ordW (n : Nat) : List Int := (List.range n).map fun (i : Nat) => ((i : Int) + 1)
theorem ordW_succ (n : Nat) : ordW (n + 1) = ordW n ++ [((n : Int) + 1)] := by
  unfold ordW
  rw [List.range_succ, List.map_append]
  rfl
theorem place_new (n : Nat) : placeW (ordW n) ((n : Int) + 1) = none := by
  unfold placeW ordW
  rw [List.findIdx?_eq_none_iff]
  intro x hx
  obtain ⟨i, hi, rfl⟩ := List.mem_map.1 hx
  have := List.mem_range.1 hi
  simp
  omega
theorem place_old {n : Nat} {m : Int} (h0 : 1 ≤ m) (h1 : m ≤ n) : placeW (ordW n) m = some (m.toNat - 1) := by
  unfold placeW
  rw [List.findIdx?_eq_some_iff_getElem]
  refine ⟨by simp [ordW]; omega, by simp [ordW]; omega, fun j hj => ?_⟩
  simp [ordW]
  omega
section
variable {s : ByteArray}
/-- The text so far. -/
abbrev upW (s : ByteArray) (p : Nat) : Bs := s.toList.take p
theorem up_must : ∀ {t : Bs} {p q : Nat}, mustP s t p = .ok q → upW s q = upW s p ++ t
  | [], p, q, h => by cases h; simp
  | c :: t, p, q, h => by
    rw [mustP] at h
    split at h
    · rename_i hc
      rw [up_must h]
      have h1 : upW s (p + 1) = upW s p ++ [c] := by
        have hp := hc.1
        have h2 := hc.2
        rw [nowP_lt hp] at h2
        unfold upW
        rw [List.take_add_one, List.getElem?_eq_getElem (by rw [size_toList]; exact hp), toList_at hp, h2]
        rfl
      rw [h1]
      simp
    · cases h
theorem up_number {sign : Bool} {most n : Int} {p q : Nat} (h : numberP s sign most p = .ok (n, q)) : upW s q = upW s p ++ Lib.itoa n := by
  have ha := numberP_at h
  unfold numberP at h
  split at h
  · split at h
    · rename_i k hk
      split at h
      · cases h
      · cases h
        rw [(canonP_some hk).2]
        unfold upW
        have := List.take_append_drop p (s.toList.take (endP s (begP s sign p)))
        rw [List.take_take, Nat.min_eq_left (by omega)] at this
        exact this.symm
    · cases h
  · cases h
theorem up_at {p q : Nat} (h : p ≤ q) : upW s q = upW s p ++ (s.extract p q).toList := by
  have h1 := List.take_append_drop p (upW s q)
  have h2 : (s.extract p q).toList = (s.toList.take q).drop p := numText_list s p q
  rw [h2]
  unfold upW at h1 ⊢
  rw [List.take_take, Nat.min_eq_left h] at h1
  exact h1.symm
theorem extract_size {p q : Nat} (h : p ≤ q) (hq : q ≤ s.size) : (s.extract p q).size = q - p := by
  rw [ByteArray.size_extract]
  omega
theorem up_text {cls : Bool} {t : ByteArray} {p q : Nat} (h : textP s cls p = .ok (t, q)) : upW s q = upW s p ++ (Lib.itoa t.size ++ ([58, 34] ++ (t.toList ++ [34]))) := by
  unfold textP at h
  split at h
  · cases h
  · rename_i n p1 h1
    split at h
    · cases h
    · rename_i p2 h2
      split at h
      · cases h
      · rename_i hle
        split at h
        · cases h
        · split at h
          · cases h
          · rename_i p3 h3
            cases h
            have hn := (numberP_lim h1).1
            have e1 := (mustP_le h2).2 (numberP_at h1).2
            have hs := extract_size (s := s) (p := p2) (q := p2 + n.toNat) (by omega) (by omega)
            rw [up_must h3, up_at (s := s) (p := p2) (q := p2 + n.toNat) (by omega), up_must h2, up_number h1]
            rw [hs, show ((p2 + n.toNat - p2 : Nat) : Int) = n by omega]
            simp
theorem text_end {cls : Bool} {t : ByteArray} {p q : Nat} (h : textP s cls p = .ok (t, q)) : q ≤ s.size := by
  unfold textP at h
  split at h
  · cases h
  · rename_i n p1 h1
    split at h
    · cases h
    · rename_i p2 h2
      split at h
      · cases h
      · rename_i hle
        split at h
        · cases h
        · split at h
          · cases h
          · rename_i p3 h3
            cases h
            have hn := (numberP_lim h1).1
            have e1 := (mustP_le h2).2 (numberP_at h1).2
            exact (mustP_le h3).2 (by omega)
theorem key_end {props : Bool} {k : K} {p q : Nat} (h : keyP s props p = .ok (k, q)) : q ≤ s.size := by
  unfold keyP at h
  split at h
  · split at h
    · cases h
    · split at h
      · cases h
      · rename_i h2
        cases h
        exact (numberP_at h2).2
  · split at h
    · cases h
    · split at h
      · cases h
      · rename_i h2
        cases h
        exact text_end h2
theorem up_key {props : Bool} {k : K} {p q r : Nat} (h : keyP s props p = .ok (k, q)) (hm : mustP s [59] q = .ok r) : upW s r = upW s p ++ keyW k := by
  unfold keyP at h
  split at h
  · split at h
    · cases h
    · rename_i p1 h1
      split at h
      · cases h
      · rename_i n p2 h2
        cases h
        rw [up_must hm, up_number h2, up_must h1]
        simp [keyW]
  · split at h
    · cases h
    · rename_i p1 h1
      split at h
      · cases h
      · rename_i t p2 h2
        cases h
        rw [up_must hm, up_text h2, up_must h1]
        simp [keyW, textW]
end
theorem mod_ne {l : List TP} {n i : Nat} {f : TP → TP} (h : n ≠ i) : (l.modify n f)[i]? = l[i]? := by
  rw [List.getElem?_modify]
  cases l[i]? <;> simp [h]
theorem mod_eq {l : List TP} {n : Nat} {f : TP → TP} : (l.modify n f)[n]? = l[n]?.map f := by
  rw [List.getElem?_modify]
  cases l[n]? <;> simp
/-- What stands in front stays. -/
def Keep (val : ValF) : Prop := ∀ p m ths y, val p m ths = .ok y → ∀ i, i < ths.length → y.2.2.2[i]? = ths[i]?
theorem itemsP_keep {s : ByteArray} {props : Bool} {val : ValF} (hv : Keep val) (hg : Grows val) : ∀ {n : Nat} {l : LS} {p m : Nat} {ths : List TP} {y : LS × Nat × Nat × List TP}, itemsP s props val n l p m ths = .ok y → ∀ i, i < ths.length → y.2.2.2[i]? = ths[i]?
  | 0, l, p, m, ths, y, h => by
    rw [itemsP] at h
    split at h
    · cases h
    · cases h; exact fun _ _ => rfl
  | n + 1, l, p, m, ths, y, h => by
    rw [itemsP] at h
    split at h
    · cases h
    · split at h
      · cases h
      · split at h
        · cases h
        · split at h
          · cases h
          · split at h
            · cases h
            · split at h
              · cases h
              · rename_i hx
                intro i hi
                have h1 := hv _ _ _ _ hx i hi
                have h2 := hg _ _ _ _ hx
                exact (itemsP_keep hv hg h i (Nat.lt_of_lt_of_le hi h2)).trans h1
theorem bracesP_keep {s : ByteArray} {props : Bool} {val : ValF} (hv : Keep val) (hg : Grows val) {p m : Nat} {ths : List TP} {y : LS × Nat × Nat × List TP} (h : bracesP s props val p m ths = .ok y) : ∀ i, i < ths.length → y.2.2.2[i]? = ths[i]? := by
  unfold bracesP at h
  split at h
  · cases h
  · split at h
    · cases h
    · exact itemsP_keep hv hg h
theorem objectP_keep {s : ByteArray} {val : ValF} (hv : Keep val) (hg : Grows val) : Keep (objectP s val) := by
  intro p m ths y h i hi
  unfold objectP at h
  split at h
  · cases h
  · split at h
    · cases h
    · split at h
      · cases h
      · split at h
        · cases h
        · rename_i hb
          have hk := bracesP_keep hv hg hb i (by simp; omega)
          cases h
          simp only at hk ⊢
          rw [mod_ne (by omega), hk, List.getElem?_append_left hi]
theorem listP_keep {s : ByteArray} {val : ValF} (hv : Keep val) (hg : Grows val) : Keep (listP s val) := by
  intro p m ths y h
  unfold listP at h
  split at h
  · cases h
  · split at h
    · cases h
    · rename_i hb
      have := bracesP_keep hv hg hb
      cases h
      exact this
theorem graphP_keep {s : ByteArray} {sub : Option ValF} (hv : ∀ val, sub = some val → Keep val ∧ Grows val) : Keep (graphP s sub) := by
  intro p m ths y h
  unfold graphP at h
  split at h
  · unfold nullP at h
    split at h
    · cases h
    · cases h; exact fun _ _ => rfl
  split at h
  · unfold boolP at h
    split at h
    · cases h
    · split at h
      · split at h
        · cases h
        · cases h; exact fun _ _ => rfl
      · split at h
        · cases h
        · cases h; exact fun _ _ => rfl
  split at h
  · unfold intP at h
    split at h
    · cases h
    · split at h
      · cases h
      · split at h
        · cases h
        · cases h; exact fun _ _ => rfl
  split at h
  · unfold strP at h
    split at h
    · cases h
    · split at h
      · cases h
      · split at h
        · cases h
        · cases h; exact fun _ _ => rfl
  split at h
  · unfold refP at h
    split at h
    · cases h
    · split at h
      · cases h
      · split at h
        · cases h
        · split at h
          · cases h
          · cases h; exact fun _ _ => rfl
  split at h
  · unfold deepP at h
    split at h
    · cases h
    · rename_i val
      split at h
      · exact objectP_keep (hv val rfl).1 (hv val rfl).2 _ _ _ _ h
      · exact listP_keep (hv val rfl).1 (hv val rfl).2 _ _ _ _ h
  · cases h
theorem gvalP_keep (s : ByteArray) : ∀ d, Keep (gvalP s d)
  | 0 => graphP_keep fun _ h => by cases h
  | d + 1 => graphP_keep fun val h => by cases h; exact ⟨gvalP_keep s d, gvalP_grows s d⟩
/-- From so many things on, the final things are those. -/
def Agree (F : List TP) (a : Nat) (ths' : List TP) : Prop := ∀ i, a ≤ i → i < ths'.length → F[i]? = ths'[i]?
/-- What a value's reading read, a writer writes. -/
def Echo (s : ByteArray) (val : ValF) (put : List TP → PutF) : Prop := ∀ p m ths (y : VT × Nat × Nat × List TP), val p m ths = .ok y → p ≤ s.size → y.2.1 ≤ s.size ∧ ∀ F, Agree F ths.length y.2.2.2 → put F y.1 ⟨upW s p, ordW ths.length⟩ = .ok ⟨upW s y.2.1, ordW y.2.2.2.length⟩
theorem itemsP_echo {s : ByteArray} {props : Bool} {val : ValF} {put : List TP → PutF} (he : Echo s val put) (hk : Keep val) (hg : Grows val) : ∀ {n : Nat} {l : LS} {p m : Nat} {ths : List TP} {y : LS × Nat × Nat × List TP}, itemsP s props val n l p m ths = .ok y → p ≤ s.size →
    ∃ ys q0, y.1.xs = l.xs ++ ys ∧ ys.length = n ∧ mustP s [125] q0 = .ok y.2.1 ∧ q0 ≤ s.size ∧ ∀ F, Agree F ths.length y.2.2.2 → itemsW (put F) ys ⟨upW s p, ordW ths.length⟩ = .ok ⟨upW s q0, ordW y.2.2.2.length⟩
  | 0, l, p, m, ths, y, h, hp => by
    rw [itemsP] at h
    split at h
    · cases h
    · rename_i q hq
      cases h
      exact ⟨[], p, by simp, rfl, hq, hp, fun _ _ => rfl⟩
  | n + 1, l, p, m, ths, y, h, hp => by
    rw [itemsP] at h
    split at h
    · cases h
    · rename_i k p1 h1
      split at h
      · cases h
      · rename_i p2 h2
        split at h
        · cases h
        · rename_i hsame
          split at h
          · cases h
          · split at h
            · cases h
            · split at h
              · cases h
              · rename_i x p3 m3 ths3 h3
                have hkk : k.norm = k := K.same_iff.1 (by simpa using hsame)
                have hp2 : p2 ≤ s.size := (mustP_le h2).2 (key_end h1)
                obtain ⟨e1, e2⟩ := he _ _ _ _ h3 hp2
                obtain ⟨ys, q0, i1, i2, i3, i4, i5⟩ := itemsP_echo he hk hg h e1
                refine ⟨(k, x) :: ys, q0, ?_, by simp [i2], i3, i4, fun F hF => ?_⟩
                · rw [i1, hkk]; simp
                · have hgr := hg _ _ _ _ h3
                  have hle : ths3.length ≤ y.2.2.2.length := itemsP_grows hg h
                  have hA : Agree F ths.length ths3 := fun i ha hb => (hF i ha (Nat.lt_of_lt_of_le hb hle)).trans (itemsP_keep hk hg h i hb)
                  have hB : Agree F ths3.length y.2.2.2 := fun i ha hb => hF i (Nat.le_trans hgr ha) hb
                  rw [itemsW]
                  simp only
                  rw [← up_key h1 h2, e2 F hA]
                  exact i5 F hB
theorem bracesP_echo {s : ByteArray} {props : Bool} {val : ValF} {put : List TP → PutF} (he : Echo s val put) (hk : Keep val) (hg : Grows val) {p m : Nat} {ths : List TP} {y : LS × Nat × Nat × List TP} (h : bracesP s props val p m ths = .ok y) :
    y.2.1 ≤ s.size ∧ ∀ F, Agree F ths.length y.2.2.2 → bracesW (some (put F)) y.1.xs ⟨upW s p, ordW ths.length⟩ = .ok ⟨upW s y.2.1, ordW y.2.2.2.length⟩ := by
  unfold bracesP at h
  split at h
  · cases h
  · rename_i n p1 h1
    split at h
    · cases h
    · rename_i p2 h2
      have hp2 := (mustP_le h2).2 (numberP_at h1).2
      obtain ⟨ys, q0, i1, i2, i3, i4, i5⟩ := itemsP_echo he hk hg h hp2
      rw [show LS.new.xs = [] from rfl, List.nil_append] at i1
      refine ⟨(mustP_le i3).2 i4, fun F hF => ?_⟩
      have hn := (numberP_lim h1).1
      unfold bracesW
      simp only
      rw [i1, i2, show ((n.toNat : Nat) : Int) = n by omega]
      rw [show upW s p ++ (Lib.itoa n ++ [58, 123]) = upW s p2 by rw [up_must h2, up_number h1]; simp]
      rw [i5 F hF]
      simp only
      rw [up_must i3]
theorem cut_up {s : ByteArray} (hs : s.size ≤ 65536) (p : Nat) : cutW (upW s p) = upW s p := by
  unfold cutW
  rw [if_neg]
  have := List.length_take_le p s.toList
  have h2 : (upW s p).length ≤ s.toList.length := by unfold upW; simp; omega
  rw [size_toList] at h2
  omega
theorem graphP_echo {s : ByteArray} (hs : s.size ≤ 65536) {sub : Option ValF} {put : Option (List TP → PutF)} (hsub : ∀ val, sub = some val → ∃ pf, put = some pf ∧ Echo s val pf ∧ Keep val ∧ Grows val) :
    Echo s (graphP s sub) (fun F => graphW F (put.map fun pf => pf F)) := by
  intro p m ths y h hp
  unfold graphP at h
  have hcut : ∀ F v, graphW F (put.map fun pf => pf F) v ⟨upW s p, ordW ths.length⟩ = valueW F (put.map fun pf => pf F) v ⟨upW s p, ordW ths.length⟩ := fun F v => by
    unfold graphW
    rw [cut_up hs]
  split at h
  · unfold nullP at h
    split at h
    · cases h
    · rename_i q hq
      cases h
      refine ⟨(mustP_le hq).2 hp, fun F _ => ?_⟩
      dsimp only
      rw [hcut, valueW_0, up_must hq]
  split at h
  · unfold boolP at h
    split at h
    · cases h
    · rename_i q hq
      have h1 := (mustP_le hq).2 hp
      split at h
      · split at h
        · cases h
        · rename_i q2 hq2
          cases h
          refine ⟨(mustP_le hq2).2 h1, fun F _ => ?_⟩
          dsimp only
          rw [hcut, valueW_1, up_must hq2, up_must hq]
          have : Lib.itoa 1 = [49] := by rw [show (1 : Int) = ((1 : Nat) : Int) from rfl, Lib.itoa_nonneg, Lib.decDigits_one (by decide)]; rfl
          rw [this]
          simp
      · split at h
        · cases h
        · rename_i q2 hq2
          cases h
          refine ⟨(mustP_le hq2).2 h1, fun F _ => ?_⟩
          dsimp only
          rw [hcut, valueW_1, up_must hq2, up_must hq]
          rw [itoa_zero]
          simp
  split at h
  · unfold intP at h
    split at h
    · cases h
    · rename_i q hq
      have h1 := (mustP_le hq).2 hp
      split at h
      · cases h
      · rename_i n q1 hq1
        split at h
        · cases h
        · rename_i q2 hq2
          cases h
          refine ⟨(mustP_le hq2).2 (numberP_at hq1).2, fun F _ => ?_⟩
          dsimp only
          rw [hcut, valueW_2, up_must hq2, up_number hq1, up_must hq]
          simp
  split at h
  · unfold strP at h
    split at h
    · cases h
    · rename_i q hq
      have h1 := (mustP_le hq).2 hp
      split at h
      · cases h
      · rename_i t q1 hq1
        split at h
        · cases h
        · rename_i q2 hq2
          cases h
          refine ⟨(mustP_le hq2).2 (text_end hq1), fun F _ => ?_⟩
          dsimp only
          rw [hcut, valueW_3, up_must hq2, up_text hq1, up_must hq]
          simp [textW]
  split at h
  · unfold refP at h
    split at h
    · cases h
    · rename_i q hq
      have h1 := (mustP_le hq).2 hp
      split at h
      · cases h
      · rename_i n q1 hq1
        split at h
        · cases h
        · rename_i hn
          split at h
          · cases h
          · rename_i q2 hq2
            cases h
            refine ⟨(mustP_le hq2).2 (numberP_at hq1).2, fun F _ => ?_⟩
            dsimp only
            rw [hcut, valueW_5, objectW]
            have hpl : placeW (ordW ths.length) n = some (n.toNat - 1) := place_old (by omega) (by omega)
            simp only [hpl]
            rw [up_must hq2, up_number hq1, up_must hq, show (((n.toNat - 1 : Nat) : Int) + 1) = n by omega]
            simp
  split at h
  · unfold deepP at h
    split at h
    · cases h
    · rename_i val
      obtain ⟨pf, hpf, he, hk, hg⟩ := hsub val rfl
      subst hpf
      split at h
      · unfold objectP at h
        split at h
        · cases h
        · rename_i q hq
          have h1 := (mustP_le hq).2 hp
          split at h
          · cases h
          · rename_i name q1 hq1
            split at h
            · cases h
            · rename_i q2 hq2
              split at h
              · cases h
              · rename_i l q3 m3 ths3 hb
                cases h
                obtain ⟨b1, b2⟩ := bracesP_echo he hk hg hb
                refine ⟨b1, fun F hF => ?_⟩
                dsimp only
                rw [hcut, valueW_5, objectW]
                have hpl : placeW (ordW ths.length) ((ths.length : Int) + 1) = none := place_new _
                simp only [hpl]
                have hgr : ths.length + 1 ≤ ths3.length := by have := bracesP_grows hg hb; simpa using this
                have hkp : ths3[ths.length]? = some (name, []) := by
                  have := bracesP_keep hk hg hb ths.length (by simp)
                  rw [this]
                  simp
                have hFn : F[(((ths.length : Int) + 1) - 1).toNat]? = some (name, l.xs) := by
                  rw [show (((ths.length : Int) + 1) - 1).toNat = ths.length by omega]
                  rw [hF ths.length (Nat.le_refl _) (by simp; omega)]
                  dsimp only
                  rw [mod_eq, hkp]
                  rfl
                simp only [hFn]
                have hA : Agree F (ths ++ [(name, ([] : List It))]).length ths3 := fun i ha hb' => by
                  simp only [List.length_append, List.length_cons, List.length_nil] at ha
                  rw [hF i (by omega) (by simp; omega)]
                  dsimp only
                  rw [mod_ne (by omega)]
                have e := b2 F hA
                rw [show (ths ++ [(name, ([] : List It))]).length = ths.length + 1 by simp, ordW_succ] at e
                rw [show upW s p ++ ([79, 58] ++ (Lib.itoa ((name, l.xs).1.size : Int) ++ ([58, 34] ++ ((name, l.xs).1.toList ++ [34, 58])))) = upW s q2 by rw [up_must hq2, up_text hq1, up_must hq]; simp]
                show bracesW (some (pf F)) l.xs ⟨upW s q2, ordW ths.length ++ [((ths.length : Int) + 1)]⟩ = _
                rw [e]
                simp
      · unfold listP at h
        split at h
        · cases h
        · rename_i q hq
          have h1 := (mustP_le hq).2 hp
          split at h
          · cases h
          · rename_i l q3 m3 ths3 hb
            cases h
            obtain ⟨b1, b2⟩ := bracesP_echo he hk hg hb
            refine ⟨b1, fun F hF => ?_⟩
            dsimp only
            rw [hcut, valueW_4]
            have e := b2 F hF
            rw [up_must hq] at e
            exact e
  · cases h
theorem gvalP_echo {s : ByteArray} (hs : s.size ≤ 65536) : ∀ d, Echo s (gvalP s d) (fun F => gvalW F d)
  | 0 => graphP_echo hs (put := none) fun _ h => by cases h
  | d + 1 => graphP_echo hs (put := some fun F => gvalW F d) fun val h => by cases h; exact ⟨_, rfl, gvalP_echo hs d, gvalP_keep s d, gvalP_grows s d⟩
end Go.Proofs.YtnaefnojmiolbaaGreatDoor

namespace Go.Proofs.YtnaefnojmiolbaaGreatDoor
open Go.RowKit

/-- A text's beginning. -/
structure Beg (s s' : ByteArray) (c : Nat) : Prop where
  l : s'.toList = s.toList.take c
  h : c ≤ s.size
section
variable {s s' : ByteArray} {c : Nat}
theorem Beg.size (b : Beg s s' c) : s'.size = c := by
  have := congrArg List.length b.l
  rw [List.length_take, size_toList, size_toList, Nat.min_eq_left b.h] at this
  exact this
theorem Beg.now (b : Beg s s' c) {p : Nat} (hp : p < c) : nowP s' p = nowP s p := by
  unfold nowP
  rw [b.l, List.getElem?_take, if_pos hp]
theorem Beg.now0 (b : Beg s s' c) : nowP s' c = 0 := nowP_end (by rw [b.size]; omega)
theorem Beg.wrong (b : Beg s s' c) : wrongC s' c = 10 := by
  unfold wrongC
  rw [if_neg (by rw [b.size]; omega)]
theorem Beg.must (b : Beg s s' c) : ∀ {l : Bs} {p q : Nat}, mustP s l p = .ok q → p ≤ c → (q ≤ c → mustP s' l p = .ok q) ∧ (c < q → mustP s' l p = .error (10, c))
  | [], p, q, h, hp => by
    cases h
    exact ⟨fun _ => rfl, fun h => by omega⟩
  | a :: l, p, q, h, hp => by
    have hq := (mustP_le h).1
    rw [mustP] at h
    split at h
    · rename_i hc
      simp only [List.length_cons] at hq
      rw [mustP]
      rcases Nat.lt_or_ge p c with hpc | hpc
      · rw [if_pos ⟨by rw [b.size]; exact hpc, by rw [b.now hpc]; exact hc.2⟩]
        exact b.must h (by omega)
      · obtain rfl : p = c := by omega
        rw [if_neg (fun e => by have := e.1; rw [b.size] at this; omega), b.wrong]
        exact ⟨fun e => by omega, fun _ => rfl⟩
    · cases h
theorem Beg.over (b : Beg s s' c) (a : UInt8) (l : Bs) : mustP s' (a :: l) c = .error (10, c) := by
  rw [mustP, if_neg (fun e => by have := e.1; rw [b.size] at this; omega), b.wrong]
theorem takeWhile_take_len (f : UInt8 → Bool) : ∀ (l : Bs) (k : Nat), ((l.take k).takeWhile f).length = min k (l.takeWhile f).length
  | [], k => by simp
  | a :: l, 0 => by simp
  | a :: l, k + 1 => by
    rw [List.take_succ_cons, List.takeWhile_cons, List.takeWhile_cons]
    split
    · rw [List.length_cons, List.length_cons, takeWhile_take_len f l k]; omega
    · simp
theorem Beg.ends (b : Beg s s' c) {p : Nat} (hp : p ≤ c) : endP s' p = min c (endP s p) := by
  unfold endP
  rw [b.l, List.drop_take, takeWhile_take_len]
  omega
theorem dec_step {u : Nat} (h : ¬ u < 10) : ∃ d, Lib.decDigits u = Lib.decDigits (u / 10) ++ [d] := by
  rw [Lib.decDigits, dif_neg h]
  exact ⟨_, rfl⟩
/-- The beginning of a number's digits are a number's digits. -/
theorem dec_take (u : Nat) : ∀ k, 1 ≤ k → ∃ v, (Lib.decDigits u).take k = Lib.decDigits v ∧ v ≤ u ∧ (1 ≤ u → 1 ≤ v) := by
  induction u using Nat.strongRecOn with
  | ind u ih =>
    intro k hk
    by_cases h : u < 10
    · rw [Lib.decDigits_one h]
      refine ⟨u, ?_, Nat.le_refl _, fun h => h⟩
      rw [Lib.decDigits_one h, List.take_of_length_le (by simpa using hk)]
    · obtain ⟨d, hd⟩ := dec_step h
      rcases Nat.lt_or_ge (Lib.decDigits (u / 10)).length k with hl | hl
      · refine ⟨u, ?_, Nat.le_refl _, fun h => h⟩
        rw [List.take_of_length_le (by rw [hd]; simp; omega)]
      · obtain ⟨v, h1, h2, h3⟩ := ih (u / 10) (by omega) k hk
        refine ⟨v, ?_, by omega, fun _ => h3 (by omega)⟩
        rw [hd, List.take_append_of_le_length hl, h1]
theorem itoa_take {n : Int} (h0 : -9223372036854775808 ≤ n) (h1 : n ≤ 9223372036854775807) {k : Nat} (hk : 1 ≤ k) (hs : n < 0 → 2 ≤ k) :
    ∃ m, (Lib.itoa n).take k = Lib.itoa m ∧ (-9223372036854775808 ≤ m ∧ m ≤ 9223372036854775807) ∧ (0 ≤ n → m ≤ n ∧ (1 ≤ n → 1 ≤ m)) := by
  rcases Int.lt_or_le n 0 with hn | hn
  · obtain ⟨k, rfl⟩ : ∃ j, k = j + 1 := ⟨k - 1, by omega⟩
    obtain ⟨v, a, b, c⟩ := dec_take n.natAbs k (by have := hs hn; omega)
    have c1 := c (by omega)
    refine ⟨-(v : Int), ?_, ⟨by omega, by omega⟩, fun h => by omega⟩
    have e : Lib.itoa n = 45 :: Lib.decDigits n.natAbs := by unfold Lib.itoa; rw [if_pos hn]
    rw [Lib.itoa_neg v c1, e, List.take_succ_cons, a]
  · obtain ⟨v, a, b, c⟩ := dec_take n.toNat k hk
    refine ⟨v, ?_, ⟨by omega, by omega⟩, fun _ => ⟨by omega, fun h => by have := c (by omega); omega⟩⟩
    have e : Lib.itoa n = Lib.decDigits n.toNat := by unfold Lib.itoa; rw [if_neg (by omega)]
    rw [Lib.itoa_nonneg v, e, a]
theorem Beg.number (b : Beg s s' c) {sign : Bool} {most n : Int} {p q : Nat} (h : numberP s sign most p = .ok (n, q)) (hp : p ≤ c) :
    (q ≤ c → numberP s' sign most p = .ok (n, q)) ∧ (c < q → numberP s' sign most p = .error (10, c) ∨ ∃ m, numberP s' sign most p = .ok (m, c) ∧ (sign = false → m ≤ n ∧ (1 ≤ n → 1 ≤ m))) := by
  have hpq := numberP_at h
  have hlim : sign = false → 0 ≤ n ∧ n ≤ most := fun e => by subst e; exact numberP_lim h
  unfold numberP at h
  split at h
  · rename_i hd
    have hbl := dig_now_lt hd
    have hs1 := endP_step hbl (by rw [← nowP_lt hbl]; exact hd)
    have hs2 := (endP_le (s := s) (p := begP s sign p + 1) (by omega)).2
    have hpb : p ≤ begP s sign p ∧ begP s sign p ≤ p + 1 := by unfold begP; split <;> omega
    split at h
    · rename_i k hk
      split at h
      · cases h
      · rename_i hmost
        cases h
        obtain ⟨hkb, hki⟩ := canonP_some hk
        have hbeg : p < c → begP s' sign p = begP s sign p := fun e => by unfold begP; rw [b.now e]
        refine ⟨fun hq => ?_, fun hq => ?_⟩
        · have hb := hbeg (by omega)
          unfold numberP
          rw [hb, b.now (by omega), if_pos hd, b.ends (by omega), Nat.min_eq_right (by omega), b.l, List.take_take, Nat.min_eq_left (by omega), hk]
          simp only
          rw [if_neg hmost]
        · rcases Nat.lt_or_ge p c with hpc | hpc
          · have hb := hbeg hpc
            rcases Nat.lt_or_ge (begP s sign p) c with hbc | hbc
            · refine .inr ?_
              unfold numberP
              rw [hb, b.now hbc, if_pos hd, b.ends (by omega), Nat.min_eq_left (by omega), b.l, List.take_take, Nat.min_self]
              have hsl : ((s.toList.take c).drop p) = (Lib.itoa n).take (c - p) := by
                rw [hki, List.drop_take, List.drop_take, List.take_take, Nat.min_eq_left (by omega)]
              obtain ⟨m, m1, m2, m3⟩ := itoa_take hkb.1 hkb.2 (k := c - p) (by omega) (fun hn => by
                have : begP s sign p ≠ p := fun e => by
                  rw [e] at hd hki
                  obtain ⟨l, hl⟩ := itoa_neg hn
                  rw [hl] at hki
                  have hp1 : p < s.size := by omega
                  have hx : ((s.toList.take (endP s p)).drop p)[0]? = some 45 := by rw [← hki]; rfl
                  rw [List.getElem?_drop, List.getElem?_take] at hx
                  simp only [Nat.add_zero] at hx
                  split at hx
                  · rw [List.getElem?_eq_getElem (by rw [size_toList]; exact hp1), toList_at hp1] at hx
                    rw [nowP_lt hp1] at hd
                    rw [Option.some.inj hx] at hd
                    exact absurd hd (by decide)
                  · cases hx
                omega)
              rw [hsl, m1, canonP_itoa m2.1 m2.2]
              simp only
              refine ⟨m, if_neg ?_, fun e => m3 (hlim e).1⟩
              rintro ⟨e, hm⟩
              have := m3 (hlim e).1
              have := (hlim e).2
              omega
            · refine .inl ?_
              have e : begP s sign p = c := by omega
              unfold numberP
              rw [hb, e, b.now0, if_neg (by decide), b.wrong]
          · obtain rfl : p = c := by omega
            refine .inl ?_
            have hb : begP s' sign p = p := by unfold begP; rw [b.now0, if_neg (by simp)]
            unfold numberP
            rw [hb, b.now0, if_neg (by decide), b.wrong]
    · cases h
  · cases h
theorem Beg.piece (b : Beg s s' c) {p q : Nat} (hq : q ≤ c) : s'.extract p q = s.extract p q := by
  apply ba_ext
  have h1 : (s'.extract p q).toList = (s'.toList.take q).drop p := numText_list s' p q
  have h2 : (s.extract p q).toList = (s.toList.take q).drop p := numText_list s p q
  rw [h1, h2, b.l, List.take_take, Nat.min_eq_left hq]
theorem Beg.text (b : Beg s s' c) {cls : Bool} {t : ByteArray} {p q : Nat} (h : textP s cls p = .ok (t, q)) (hp : p ≤ c) :
    (q ≤ c → textP s' cls p = .ok (t, q)) ∧ (c < q → textP s' cls p = .error (10, c)) := by
  unfold textP at h
  split at h
  · cases h
  · rename_i n p1 h1
    have a1 := (numberP_at h1).1
    have hn := (numberP_lim h1).1
    split at h
    · cases h
    · rename_i p2 h2
      have a2 := (mustP_le h2).1
      split at h
      · cases h
      · rename_i hle
        split at h
        · cases h
        · rename_i hname
          split at h
          · cases h
          · rename_i p3 h3
            have a3 := (mustP_le h3).1
            cases h
            simp only [List.length_cons, List.length_nil] at a2 a3
            have n1 := b.number h1 hp
            refine ⟨fun hq => ?_, fun hq => ?_⟩
            · unfold textP
              rw [n1.1 (by omega)]
              simp only
              rw [(b.must h2 (by omega)).1 (by omega)]
              simp only
              rw [if_neg (by rw [b.size]; omega), b.piece (by omega), if_neg hname, (b.must h3 (by omega)).1 hq]
            · rcases Nat.lt_or_ge c p1 with hc | hc
              · unfold textP
                rcases n1.2 hc with e | ⟨m, e, -⟩
                · rw [e]
                · rw [e]
                  simp only
                  rw [b.over]
              · unfold textP
                rw [n1.1 hc]
                simp only
                rcases Nat.lt_or_ge c p2 with hc2 | hc2
                · rw [(b.must h2 hc).2 hc2]
                · rw [(b.must h2 hc).1 hc2]
                  simp only
                  rcases Nat.lt_or_ge c (p2 + n.toNat) with hc3 | hc3
                  · rw [if_pos (by rw [b.size]; omega), b.size]
                  · rw [if_neg (by rw [b.size]; omega), b.piece hc3, if_neg hname, (b.must h3 hc3).2 hq]
theorem Beg.key (b : Beg s s' c) {props : Bool} {k : K} {p q r : Nat} (h : keyP s props p = .ok (k, q)) (hm : mustP s [59] q = .ok r) (hp : p ≤ c) :
    (r ≤ c → keyP s' props p = .ok (k, q) ∧ mustP s' [59] q = .ok r) ∧ (c < r → keyP s' props p = .error (10, c) ∨ ∃ k' q', keyP s' props p = .ok (k', q') ∧ mustP s' [59] q' = .error (10, c)) := by
  have ar := (mustP_le hm).1
  simp only [List.length_cons, List.length_nil] at ar
  rcases Nat.lt_or_ge p c with hpc | hpc
  · unfold keyP at h ⊢
    rw [b.now hpc]
    split at h
    · rename_i hk
      rw [if_pos hk]
      split at h
      · cases h
      · rename_i p1 h1
        have a1 := (mustP_le h1).1
        simp only [List.length_cons, List.length_nil] at a1
        split at h
        · cases h
        · rename_i n p2 h2
          have a2 := (numberP_at h2).1
          cases h
          refine ⟨fun hq => ?_, fun hq => ?_⟩
          · rw [(b.must h1 hp).1 (by omega)]
            simp only
            rw [(b.number h2 (by omega)).1 (by omega)]
            exact ⟨rfl, (b.must hm (by omega)).1 hq⟩
          · rcases Nat.lt_or_ge c p1 with hc | hc
            · exact .inl (by rw [(b.must h1 hp).2 hc])
            · rw [(b.must h1 hp).1 hc]
              simp only
              rcases Nat.lt_or_ge c q with hc2 | hc2
              · rcases (b.number h2 hc).2 hc2 with e | ⟨m, e, -⟩
                · exact .inl (by rw [e])
                · exact .inr ⟨_, _, by rw [e], b.over _ _⟩
              · exact .inr ⟨_, _, by rw [(b.number h2 hc).1 hc2], (b.must hm hc2).2 hq⟩
    · rename_i hk
      rw [if_neg hk]
      split at h
      · cases h
      · rename_i p1 h1
        have a1 := (mustP_le h1).1
        simp only [List.length_cons, List.length_nil] at a1
        split at h
        · cases h
        · rename_i t p2 h2
          cases h
          have a2 : p1 < q := textP_at h2
          refine ⟨fun hq => ?_, fun hq => ?_⟩
          · rw [(b.must h1 hp).1 (by omega)]
            simp only
            rw [(b.text h2 (by omega)).1 (by omega)]
            exact ⟨rfl, (b.must hm (by omega)).1 hq⟩
          · rcases Nat.lt_or_ge c p1 with hc | hc
            · exact .inl (by rw [(b.must h1 hp).2 hc])
            · rw [(b.must h1 hp).1 hc]
              simp only
              rcases Nat.lt_or_ge c q with hc2 | hc2
              · exact .inl (by rw [(b.text h2 hc).2 hc2])
              · exact .inr ⟨_, _, by rw [(b.text h2 hc).1 hc2], (b.must hm hc2).2 hq⟩
  · obtain rfl : p = c := by omega
    have a1 := keyP_at h
    refine ⟨fun hq => by omega, fun _ => .inl ?_⟩
    unfold keyP
    rw [b.now0, if_neg (by simp), b.over]
/-- What a value's reading says of a beginning. -/
def Pre (c : Nat) (val val' : ValF) : Prop := ∀ p m ths (y : VT × Nat × Nat × List TP), val p m ths = .ok y → p < y.2.1 ∧ (p ≤ c → (y.2.1 ≤ c → val' p m ths = .ok y) ∧ (c < y.2.1 → val' p m ths = .error (10, c)))
theorem itemsP_pre (b : Beg s s' c) {props : Bool} {val val' : ValF} (hv : Pre c val val') : ∀ {n : Nat} {l : LS} {p m : Nat} {ths : List TP} {y : LS × Nat × Nat × List TP}, itemsP s props val n l p m ths = .ok y →
    p < y.2.1 ∧ (p ≤ c → (y.2.1 ≤ c → itemsP s' props val' n l p m ths = .ok y) ∧ (c < y.2.1 → itemsP s' props val' n l p m ths = .error (10, c)))
  | 0, l, p, m, ths, y, h => by
    rw [itemsP] at h
    split at h
    · cases h
    · rename_i q hq
      have a := (mustP_le hq).1
      cases h
      simp only [List.length_cons, List.length_nil] at a ⊢
      refine ⟨by omega, fun hp => ⟨fun e => ?_, fun e => ?_⟩⟩
      · rw [itemsP, (b.must hq hp).1 e]
      · rw [itemsP, (b.must hq hp).2 e]
  | n + 1, l, p, m, ths, y, h => by
    rw [itemsP] at h
    split at h
    · cases h
    · rename_i k p1 h1
      have a1 := keyP_at h1
      split at h
      · cases h
      · rename_i p2 h2
        have a2 := (mustP_le h2).1
        simp only [List.length_cons, List.length_nil] at a2
        split at h
        · cases h
        · rename_i t1
          split at h
          · cases h
          · rename_i t2
            split at h
            · cases h
            · rename_i t3
              split at h
              · cases h
              · rename_i x p3 m3 ths3 h3
                obtain ⟨v1, v2⟩ := hv _ _ _ _ h3
                obtain ⟨i1, i2⟩ := itemsP_pre b hv h
                simp only at v1
                refine ⟨by omega, fun hp => ⟨fun e => ?_, fun e => ?_⟩⟩
                · obtain ⟨k1, k2⟩ := (b.key h1 h2 hp).1 (by omega)
                  rw [itemsP, k1]
                  simp only
                  rw [k2]
                  simp only
                  rw [if_neg t1, if_neg t2, if_neg t3, (v2 (by omega)).1 (by show p3 ≤ c; omega)]
                  exact (i2 (by omega)).1 e
                · rw [itemsP]
                  rcases Nat.lt_or_ge c p2 with hc | hc
                  · rcases (b.key h1 h2 hp).2 hc with k1 | ⟨k', q', k1, k2⟩
                    · rw [k1]
                    · rw [k1]
                      simp only
                      rw [k2]
                  · obtain ⟨k1, k2⟩ := (b.key h1 h2 hp).1 hc
                    rw [k1]
                    simp only
                    rw [k2]
                    simp only
                    rw [if_neg t1, if_neg t2, if_neg t3]
                    rcases Nat.lt_or_ge c p3 with hc3 | hc3
                    · rw [(v2 hc).2 hc3]
                    · rw [(v2 hc).1 hc3]
                      exact (i2 hc3).2 e
theorem bracesP_pre (b : Beg s s' c) {props : Bool} {val val' : ValF} (hv : Pre c val val') {p m : Nat} {ths : List TP} {y : LS × Nat × Nat × List TP} (h : bracesP s props val p m ths = .ok y) :
    p < y.2.1 ∧ (p ≤ c → (y.2.1 ≤ c → bracesP s' props val' p m ths = .ok y) ∧ (c < y.2.1 → bracesP s' props val' p m ths = .error (10, c))) := by
  unfold bracesP at h ⊢
  split at h
  · cases h
  · rename_i n p1 h1
    have a1 := (numberP_at h1).1
    split at h
    · cases h
    · rename_i p2 h2
      have a2 := (mustP_le h2).1
      simp only [List.length_cons, List.length_nil] at a2
      obtain ⟨i1, i2⟩ := itemsP_pre b hv h
      refine ⟨by omega, fun hp => ⟨fun e => ?_, fun e => ?_⟩⟩
      · rw [(b.number h1 hp).1 (by omega)]
        simp only
        rw [(b.must h2 (by omega)).1 (by omega)]
        exact (i2 (by omega)).1 e
      · rcases Nat.lt_or_ge c p1 with hc | hc
        · rcases (b.number h1 hp).2 hc with k | ⟨m', k, -⟩
          · rw [k]
          · rw [k]
            simp only
            rw [b.over]
        · rw [(b.number h1 hp).1 hc]
          simp only
          rcases Nat.lt_or_ge c p2 with hc2 | hc2
          · rw [(b.must h2 hc).2 hc2]
          · rw [(b.must h2 hc).1 hc2]
            exact (i2 hc2).2 e
theorem graphP_pre (b : Beg s s' c) {sub sub' : Option ValF} (hsub : ∀ val, sub = some val → ∃ val', sub' = some val' ∧ Pre c val val') : Pre c (graphP s sub) (graphP s' sub') := by
  intro p m ths y h
  have hlt : p < y.2.1 ∧ (p < c → (y.2.1 ≤ c → graphP s' sub' p m ths = .ok y) ∧ (c < y.2.1 → graphP s' sub' p m ths = .error (10, c))) := by
    unfold graphP at h
    split at h
    · rename_i hb
      unfold nullP at h
      split at h
      · cases h
      · rename_i q hq
        have a := (mustP_le hq).1
        cases h
        simp only [List.length_cons, List.length_nil] at a ⊢
        refine ⟨by omega, fun hp => ?_⟩
        unfold graphP nullP
        rw [b.now hp, if_pos hb]
        have m1 := b.must hq (by omega)
        exact ⟨fun e => by rw [m1.1 e], fun e => by rw [m1.2 e]⟩
    rename_i n0
    split at h
    · rename_i hb
      unfold boolP at h
      split at h
      · cases h
      · rename_i q hq
        have a := (mustP_le hq).1
        simp only [List.length_cons, List.length_nil] at a
        split at h
        · rename_i h49
          split at h
          · cases h
          · rename_i q2 hq2
            have a2 := (mustP_le hq2).1
            cases h
            simp only [List.length_cons, List.length_nil] at a2 ⊢
            refine ⟨by omega, fun hp => ?_⟩
            unfold graphP boolP
            rw [b.now hp, if_neg n0, if_pos hb]
            have m1 := b.must hq (by omega)
            refine ⟨fun e => ?_, fun e => ?_⟩
            · rw [m1.1 (by omega)]
              simp only
              rw [b.now (by omega), if_pos h49, (b.must hq2 (by omega)).1 e]
            · rcases Nat.lt_or_ge c q with hc | hc
              · rw [m1.2 hc]
              · rw [m1.1 hc]
                simp only
                rcases Nat.lt_or_ge q c with hc2 | hc2
                · rw [b.now hc2, if_pos h49, (b.must hq2 hc).2 e]
                · obtain rfl : q = c := by omega
                  rw [b.now0, if_neg (by decide), b.over]
        · rename_i h49
          split at h
          · cases h
          · rename_i q2 hq2
            have a2 := (mustP_le hq2).1
            cases h
            simp only [List.length_cons, List.length_nil] at a2 ⊢
            refine ⟨by omega, fun hp => ?_⟩
            unfold graphP boolP
            rw [b.now hp, if_neg n0, if_pos hb]
            have m1 := b.must hq (by omega)
            refine ⟨fun e => ?_, fun e => ?_⟩
            · rw [m1.1 (by omega)]
              simp only
              rw [b.now (by omega), if_neg h49, (b.must hq2 (by omega)).1 e]
            · rcases Nat.lt_or_ge c q with hc | hc
              · rw [m1.2 hc]
              · rw [m1.1 hc]
                simp only
                rcases Nat.lt_or_ge q c with hc2 | hc2
                · rw [b.now hc2, if_neg h49, (b.must hq2 hc).2 e]
                · obtain rfl : q = c := by omega
                  rw [b.now0, if_neg (by decide), b.over]
    rename_i n1
    split at h
    · rename_i hb
      unfold intP at h
      split at h
      · cases h
      · rename_i q hq
        have a := (mustP_le hq).1
        simp only [List.length_cons, List.length_nil] at a
        split at h
        · cases h
        · rename_i n q1 hq1
          have a1 := (numberP_at hq1).1
          split at h
          · cases h
          · rename_i q2 hq2
            have a2 := (mustP_le hq2).1
            cases h
            simp only [List.length_cons, List.length_nil] at a2 ⊢
            refine ⟨by omega, fun hp => ?_⟩
            unfold graphP intP
            rw [b.now hp, if_neg n0, if_neg n1, if_pos hb]
            have m1 := b.must hq (by omega)
            refine ⟨fun e => ?_, fun e => ?_⟩
            · rw [m1.1 (by omega)]
              simp only
              rw [(b.number hq1 (by omega)).1 (by omega)]
              simp only
              rw [(b.must hq2 (by omega)).1 e]
            · rcases Nat.lt_or_ge c q with hc | hc
              · rw [m1.2 hc]
              · rw [m1.1 hc]
                simp only
                rcases Nat.lt_or_ge c q1 with hc2 | hc2
                · rcases (b.number hq1 hc).2 hc2 with k | ⟨m', k, -⟩
                  · rw [k]
                  · rw [k]
                    simp only
                    rw [b.over]
                · rw [(b.number hq1 hc).1 hc2]
                  simp only
                  rw [(b.must hq2 hc2).2 e]
    rename_i n2
    split at h
    · rename_i hb
      unfold strP at h
      split at h
      · cases h
      · rename_i q hq
        have a := (mustP_le hq).1
        simp only [List.length_cons, List.length_nil] at a
        split at h
        · cases h
        · rename_i t q1 hq1
          have a1 : q < q1 := textP_at hq1
          split at h
          · cases h
          · rename_i q2 hq2
            have a2 := (mustP_le hq2).1
            cases h
            simp only [List.length_cons, List.length_nil] at a2 ⊢
            refine ⟨by omega, fun hp => ?_⟩
            unfold graphP strP
            rw [b.now hp, if_neg n0, if_neg n1, if_neg n2, if_pos hb]
            have m1 := b.must hq (by omega)
            refine ⟨fun e => ?_, fun e => ?_⟩
            · rw [m1.1 (by omega)]
              simp only
              rw [(b.text hq1 (by omega)).1 (by omega)]
              simp only
              rw [(b.must hq2 (by omega)).1 e]
            · rcases Nat.lt_or_ge c q with hc | hc
              · rw [m1.2 hc]
              · rw [m1.1 hc]
                simp only
                rcases Nat.lt_or_ge c q1 with hc2 | hc2
                · rw [(b.text hq1 hc).2 hc2]
                · rw [(b.text hq1 hc).1 hc2]
                  simp only
                  rw [(b.must hq2 hc2).2 e]
    rename_i n3
    split at h
    · rename_i hb
      unfold refP at h
      split at h
      · cases h
      · rename_i q hq
        have a := (mustP_le hq).1
        simp only [List.length_cons, List.length_nil] at a
        split at h
        · cases h
        · rename_i n q1 hq1
          have a1 := (numberP_at hq1).1
          split at h
          · cases h
          · rename_i hn
            split at h
            · cases h
            · rename_i q2 hq2
              have a2 := (mustP_le hq2).1
              cases h
              simp only [List.length_cons, List.length_nil] at a2 ⊢
              refine ⟨by omega, fun hp => ?_⟩
              unfold graphP refP
              rw [b.now hp, if_neg n0, if_neg n1, if_neg n2, if_neg n3, if_pos hb]
              have m1 := b.must hq (by omega)
              refine ⟨fun e => ?_, fun e => ?_⟩
              · rw [m1.1 (by omega)]
                simp only
                rw [(b.number hq1 (by omega)).1 (by omega)]
                simp only
                rw [if_neg hn, (b.must hq2 (by omega)).1 e]
              · rcases Nat.lt_or_ge c q with hc | hc
                · rw [m1.2 hc]
                · rw [m1.1 hc]
                  simp only
                  rcases Nat.lt_or_ge c q1 with hc2 | hc2
                  · rcases (b.number hq1 hc).2 hc2 with k | ⟨m', k, k2⟩
                    · rw [k]
                    · rw [k]
                      have k3 := k2 rfl
                      simp only
                      rw [if_neg (by omega), b.over]
                  · rw [(b.number hq1 hc).1 hc2]
                    simp only
                    rw [if_neg hn, (b.must hq2 hc2).2 e]
    rename_i n4
    split at h
    · rename_i hb
      unfold deepP at h
      split at h
      · cases h
      · rename_i val
        obtain ⟨val', hsv, hv⟩ := hsub val rfl
        subst hsv
        split at h
        · rename_i h79
          unfold objectP at h
          split at h
          · cases h
          · rename_i q hq
            have a := (mustP_le hq).1
            simp only [List.length_cons, List.length_nil] at a
            split at h
            · cases h
            · rename_i name q1 hq1
              have a1 : q < q1 := textP_at hq1
              split at h
              · cases h
              · rename_i q2 hq2
                have a2 := (mustP_le hq2).1
                simp only [List.length_cons, List.length_nil] at a2
                split at h
                · cases h
                · rename_i l q3 m3 ths3 hbr
                  obtain ⟨i1, i2⟩ := bracesP_pre b hv hbr
                  cases h
                  simp only at i1 ⊢
                  refine ⟨by omega, fun hp => ?_⟩
                  unfold graphP deepP objectP
                  rw [b.now hp, if_neg n0, if_neg n1, if_neg n2, if_neg n3, if_neg n4, if_pos hb]
                  simp only
                  rw [if_pos h79]
                  have m1 := b.must hq (by omega)
                  refine ⟨fun e => ?_, fun e => ?_⟩
                  · rw [m1.1 (by omega)]
                    simp only
                    rw [(b.text hq1 (by omega)).1 (by omega)]
                    simp only
                    rw [(b.must hq2 (by omega)).1 (by omega)]
                    simp only
                    rw [(i2 (by omega)).1 e]
                  · rcases Nat.lt_or_ge c q with hc | hc
                    · rw [m1.2 hc]
                    · rw [m1.1 hc]
                      simp only
                      rcases Nat.lt_or_ge c q1 with hc2 | hc2
                      · rw [(b.text hq1 hc).2 hc2]
                      · rw [(b.text hq1 hc).1 hc2]
                        simp only
                        rcases Nat.lt_or_ge c q2 with hc3 | hc3
                        · rw [(b.must hq2 hc2).2 hc3]
                        · rw [(b.must hq2 hc2).1 hc3]
                          simp only
                          rw [(i2 hc3).2 e]
        · rename_i h79
          unfold listP at h
          split at h
          · cases h
          · rename_i q hq
            have a := (mustP_le hq).1
            simp only [List.length_cons, List.length_nil] at a
            split at h
            · cases h
            · rename_i l q3 m3 ths3 hbr
              obtain ⟨i1, i2⟩ := bracesP_pre b hv hbr
              cases h
              simp only at i1 ⊢
              refine ⟨by omega, fun hp => ?_⟩
              unfold graphP deepP listP
              rw [b.now hp, if_neg n0, if_neg n1, if_neg n2, if_neg n3, if_neg n4, if_pos hb]
              simp only
              rw [if_neg h79]
              have m1 := b.must hq (by omega)
              refine ⟨fun e => ?_, fun e => ?_⟩
              · rw [m1.1 (by omega)]
                simp only
                rw [(i2 (by omega)).1 e]
              · rcases Nat.lt_or_ge c q with hc | hc
                · rw [m1.2 hc]
                · rw [m1.1 hc]
                  simp only
                  rw [(i2 hc).2 e]
    · cases h
  refine ⟨hlt.1, fun hp => ?_⟩
  rcases Nat.lt_or_ge p c with hc | hc
  · exact hlt.2 hc
  · obtain rfl : p = c := by omega
    refine ⟨fun e => by have := hlt.1; omega, fun _ => ?_⟩
    unfold graphP
    rw [b.now0, if_neg (by decide), if_neg (by decide), if_neg (by decide), if_neg (by decide), if_neg (by decide), if_neg (by decide), b.wrong]
theorem gvalP_pre (b : Beg s s' c) : ∀ d, Pre c (gvalP s d) (gvalP s' d)
  | 0 => graphP_pre b fun _ h => by cases h
  | d + 1 => graphP_pre b fun val h => by cases h; exact ⟨_, rfl, gvalP_pre b d⟩
end
end Go.Proofs.YtnaefnojmiolbaaGreatDoor

namespace Go.Proofs.YtnaefnojmiolbaaGreatDoor
open Go.RowKit

mutual
/-- How many items lie in a value. -/
def countV : VT → Nat
  | .mk _ _ _ l => l.length + countL l
def countL : List (K × VT) → Nat
  | [] => 0
  | (_, v) :: r => countV v + countL r
end
theorem countV_eq (v : VT) : countV v = v.xs.length + countL v.xs := by cases v; rw [countV]; rfl
theorem countL_cons (x : It) (r : List It) : countL (x :: r) = countV x.2 + countL r := by cases x; rw [countL]
theorem countL_append (a b : List It) : countL (a ++ b) = countL a + countL b := by
  induction a with
  | nil => simp [countL]
  | cons x a ih => rw [List.cons_append, countL_cons, countL_cons, ih]; omega
theorem left_count (v : VT) : ∀ n : Int, (countV v : Int) ≤ n → leftV v n = n - countV v := by
  refine VT.ind (P := fun v => ∀ n : Int, (countV v : Int) ≤ n → leftV v n = n - countV v) ?_ v
  intro k m t l ih n hn
  rw [leftV, countV]
  rw [countV] at hn
  have : ∀ (r : List It), (∀ x ∈ r, x ∈ l) → ∀ n : Int, (countL r : Int) ≤ n → leftL r n = n - countL r := by
    intro r
    induction r with
    | nil => intro _ n hn; rw [leftL, countL]; simp
    | cons x r ihr =>
      intro hr n hn
      rw [countL_cons] at hn ⊢
      rw [leftL_cons, if_neg (by omega), ih x (hr x (by simp)) n (by omega), ihr (fun y hy => hr y (by simp [hy])) _ (by omega)]
      omega
  rw [this l (fun _ h => h) _ (by omega)]
  omega
theorem left_countL (r : List It) (n : Int) (h : (r.length + countL r : Nat) ≤ n) : leftL r (n - r.length) = n - (r.length + countL r : Nat) := by
  have := left_count (.mk 0 0 ⟨#[]⟩ r) n (by rw [countV]; exact h)
  rw [leftV, countV] at this
  exact this
theorem count_mem {r : List It} {x : It} (h : x ∈ r) : countV x.2 ≤ countL r := by
  induction r with
  | nil => cases h
  | cons y r ih =>
    rw [countL_cons]
    rcases List.mem_cons.1 h with rfl | h
    · omega
    · have := ih h; omega

/-! Pack in plain words. -/
def metW (met : List ByteArray) (t : ByteArray) : Bool := met.any fun y => decide (y = t)
/-- A thing's items may be, behind keys that were met. -/
def propsW (many : Int) : List ByteArray → List It → Bool
  | _, [] => true
  | met, x :: l => if (!x.1.b || !K.same x.1.norm x.1 || metW met x.1.t || !rightV x.2 || !withinV x.2 many) = true then false else propsW many (x.1.t :: met) l
def thingW (t : TP) (many : Int) : Bool := nameP t.1.toList && propsW many [] t.2
def thingsW (many : Int) : Int → List TP → Bool
  | _, [] => true
  | left, t :: r => if leftL t.2 (left - t.2.length) < 0 then false else if thingW t many = false then false else thingsW many (leftL t.2 (left - t.2.length)) r
/-- What a writing comes to. -/
def packR (x : WR) : ByteArray × Int := match x with
  | .error e => (⟨#[]⟩, e)
  | .ok w => if 65536 < w.t.length then (⟨#[]⟩, 2) else (str w.t, 0)
/-- The text, the error. -/
def packP (v : VT) (F : List TP) : ByteArray × Int :=
  if (rightV v && withinV v F.length) = false then (⟨#[]⟩, 1)
  else if thingsW F.length (leftV v 2048) F = false then (⟨#[]⟩, 1)
  else packR (gvalW F 64 v ⟨[], []⟩)

/-! How many items are read. -/
def totalW (ths : List TP) : Nat := (ths.map fun t => t.2.length + countL t.2).sum
theorem total_append (a b : List TP) : totalW (a ++ b) = totalW a + totalW b := by unfold totalW; rw [List.map_append, List.sum_append]
theorem total_modify {ths : List TP} {n : Nat} {name : ByteArray} {xs : List It} (h : ths[n]? = some (name, [])) : totalW (ths.modify n fun t => (t.1, xs)) = totalW ths + (xs.length + countL xs) := by
  induction ths generalizing n with
  | nil => cases h
  | cons t r ih =>
    cases n with
    | zero =>
      cases h
      rw [List.modify_zero_cons]
      unfold totalW
      simp [countL]
      omega
    | succ n =>
      rw [List.modify_succ_cons]
      rw [List.getElem?_cons_succ] at h
      have := ih h
      unfold totalW at this ⊢
      rw [List.map_cons, List.map_cons, List.sum_cons, List.sum_cons, this]
      omega
theorem total_mem {ths : List TP} {t : TP} (h : t ∈ ths) : t.2.length + countL t.2 ≤ totalW ths := by
  induction ths with
  | nil => cases h
  | cons x r ih =>
    unfold totalW at ih ⊢
    rw [List.map_cons, List.sum_cons]
    rcases List.mem_cons.1 h with rfl | h
    · omega
    · have := ih h; omega
def Cnt (val : ValF) : Prop := ∀ p m ths (y : VT × Nat × Nat × List TP), val p m ths = .ok y → y.2.2.1 + totalW ths = m + countV y.1 + totalW y.2.2.2 ∧ (m ≤ 2048 → y.2.2.1 ≤ 2048)
section
variable {s : ByteArray}
theorem itemsP_cnt {props : Bool} {val : ValF} (hv : Cnt val) : ∀ {n : Nat} {l : LS} {p m : Nat} {ths : List TP} {y : LS × Nat × Nat × List TP}, itemsP s props val n l p m ths = .ok y →
    y.2.2.1 + totalW ths + (l.xs.length + countL l.xs) = m + (y.1.xs.length + countL y.1.xs) + totalW y.2.2.2 ∧ (m ≤ 2048 → y.2.2.1 ≤ 2048) ∧ y.1.xs.length = l.xs.length + n
  | 0, l, p, m, ths, y, h => by
    rw [itemsP] at h
    split at h
    · cases h
    · cases h; exact ⟨by simp only; omega, fun h => h, rfl⟩
  | n + 1, l, p, m, ths, y, h => by
    rw [itemsP] at h
    split at h
    · cases h
    · split at h
      · cases h
      · split at h
        · cases h
        · split at h
          · cases h
          · split at h
            · cases h
            · rename_i hm
              split at h
              · cases h
              · rename_i x p3 m3 ths3 h3
                obtain ⟨a, b⟩ := hv _ _ _ _ h3
                obtain ⟨c, d, e⟩ := itemsP_cnt hv h
                simp only [List.length_append, List.length_cons, List.length_nil, countL_append, countL_cons] at a b c e
                have hz : countL [] = 0 := by rw [countL]
                rw [hz] at c
                exact ⟨by omega, fun _ => d (b (by omega)), by omega⟩
theorem bracesP_cnt {props : Bool} {val : ValF} (hv : Cnt val) {p m : Nat} {ths : List TP} {y : LS × Nat × Nat × List TP} (h : bracesP s props val p m ths = .ok y) :
    y.2.2.1 + totalW ths = m + (y.1.xs.length + countL y.1.xs) + totalW y.2.2.2 ∧ (m ≤ 2048 → y.2.2.1 ≤ 2048) ∧ y.1.xs.length ≤ 2048 := by
  unfold bracesP at h
  split at h
  · cases h
  · rename_i n p1 h1
    have hn := numberP_lim h1
    split at h
    · cases h
    · obtain ⟨a, b, c⟩ := itemsP_cnt hv h
      have e1 : LS.new.xs.length = 0 := rfl
      have e2 : countL LS.new.xs = 0 := by show countL [] = 0; rw [countL]
      exact ⟨by omega, b, by omega⟩
theorem graphP_cnt {sub : Option ValF} (hs : ∀ val, sub = some val → Cnt val ∧ Keep val ∧ Grows val) : Cnt (graphP s sub) := by
  intro p m ths y h
  have leaf : ∀ (v : VT) (q : Nat), v.xs = [] → m + totalW ths = m + countV v + totalW ths ∧ (m ≤ 2048 → m ≤ 2048) := fun v q e => ⟨by rw [countV_eq, e]; simp [countL], fun h => h⟩
  unfold graphP at h
  split at h
  · unfold nullP at h
    split at h
    · cases h
    · cases h; exact leaf _ 0 rfl
  split at h
  · unfold boolP at h
    split at h
    · cases h
    · split at h
      · split at h
        · cases h
        · cases h; exact leaf _ 0 rfl
      · split at h
        · cases h
        · cases h; exact leaf _ 0 rfl
  split at h
  · unfold intP at h
    split at h
    · cases h
    · split at h
      · cases h
      · split at h
        · cases h
        · cases h; exact leaf _ 0 rfl
  split at h
  · unfold strP at h
    split at h
    · cases h
    · split at h
      · cases h
      · split at h
        · cases h
        · cases h; exact leaf _ 0 rfl
  split at h
  · unfold refP at h
    split at h
    · cases h
    · split at h
      · cases h
      · split at h
        · cases h
        · split at h
          · cases h
          · cases h; exact leaf _ 0 rfl
  split at h
  · unfold deepP at h
    split at h
    · cases h
    · rename_i val
      obtain ⟨hc, hk, hg⟩ := hs val rfl
      split at h
      · unfold objectP at h
        split at h
        · cases h
        · split at h
          · cases h
          · rename_i name q1 hq1
            split at h
            · cases h
            · split at h
              · cases h
              · rename_i l q3 m3 ths3 hb
                obtain ⟨a, b, -⟩ := bracesP_cnt hc hb
                have hkp : ths3[ths.length]? = some (name, []) := by
                  have := bracesP_keep hk hg hb ths.length (by simp)
                  rw [this]
                  simp
                cases h
                simp only at a b ⊢
                rw [total_append] at a
                have e1 : totalW [(name, ([] : List It))] = 0 := by simp [totalW, countL]
                rw [total_modify hkp, countV_eq]
                have e2 : countL [] = 0 := by rw [countL]
                simp only [VT.xs, List.length_nil, e2]
                exact ⟨by omega, b⟩
      · unfold listP at h
        split at h
        · cases h
        · split at h
          · cases h
          · rename_i l q3 m3 ths3 hb
            obtain ⟨a, b, -⟩ := bracesP_cnt hc hb
            cases h
            simp only at a b ⊢
            rw [countV_eq]
            exact ⟨a, b⟩
  · cases h
theorem gvalP_cnt (s : ByteArray) : ∀ d, Cnt (gvalP s d)
  | 0 => graphP_cnt fun _ h => by cases h
  | d + 1 => graphP_cnt fun val h => by cases h; exact ⟨gvalP_cnt s d, gvalP_keep s d, gvalP_grows s d⟩
end

/-! What is read may be. -/
theorem itemsL_at (n d : Int) (met : List K) (x : It) (r : List It) : itemsL n d met (x :: r) = ((K.same x.1.norm x.1 && !(decide (x.1 ∈ met)) && mayV x.2 (d + 1)) && (!(!x.1.b && decide (0 ≤ n) && decide (n ≤ x.1.n)) && itemsL n d (x.1 :: met) r)) := by
  cases x; rw [itemsL]
theorem itemsL_of {n d : Int} : ∀ {l : List It} {met : List K}, Once l → (∀ x ∈ l, x.1.norm = x.1 ∧ x.1 ∉ met ∧ mayV x.2 (d + 1) = true ∧ (x.1.b = false → 0 ≤ n → x.1.n < n)) → itemsL n d met l = true
  | [], met, _, _ => by rw [itemsL]
  | x :: r, met, ho, h => by
    obtain ⟨a, b, c, e⟩ := h x (by simp)
    have ho' := List.pairwise_cons.1 ho
    rw [itemsL_at, a, K.same_self, c, itemsL_of ho'.2 (fun y hy => ?_)]
    · simp only [Bool.and_true, Bool.true_and]
      rw [decide_eq_false b]
      simp only [Bool.not_false, Bool.true_and]
      cases hb : x.1.b
      · have := e hb
        simp only [Bool.not_false, Bool.true_and, Bool.not_eq_true', Bool.and_eq_false_iff, decide_eq_false_iff_not]
        omega
      · simp
    · obtain ⟨a', b', c', e'⟩ := h y (by simp [hy])
      refine ⟨a', ?_, c', e'⟩
      rw [List.mem_cons]
      rintro (e | e)
      · exact ho'.1 y hy e.symm
      · exact b' e
theorem may_mono (v : VT) : ∀ d d' : Int, d' ≤ d → mayV v d = true → mayV v d' = true := by
  refine VT.ind (P := fun v => ∀ d d' : Int, d' ≤ d → mayV v d = true → mayV v d' = true) ?_ v
  intro k n t l ih d d' hd h
  have hi : ∀ (r : List It) (met : List K), (∀ x ∈ r, x ∈ l) → itemsL n d met r = true → itemsL n d' met r = true := by
    intro r
    induction r with
    | nil => intro met _ _; rw [itemsL]
    | cons x r ihr =>
      intro met hr h
      rw [itemsL_at] at h ⊢
      simp only [Bool.and_eq_true] at h ⊢
      obtain ⟨⟨a, b⟩, c, e⟩ := h
      exact ⟨⟨a, ih x (hr x (by simp)) (d + 1) (d' + 1) (by omega) b⟩, c, ihr _ (fun y hy => hr y (by simp [hy])) e⟩
  rw [mayV] at h ⊢
  split at h
  · rename_i h0; rw [if_pos h0]; exact h
  rename_i h0
  rw [if_neg h0]
  split at h
  · rename_i h1; rw [if_pos h1]; exact h
  rename_i h1
  rw [if_neg h1]
  split at h
  · rename_i h2; rw [if_pos h2]; exact h
  rename_i h2
  rw [if_neg h2]
  split at h
  · rename_i h3; rw [if_pos h3]; exact h
  rename_i h3
  rw [if_neg h3]
  split at h
  · rename_i h4; rw [if_pos h4]; exact h
  rename_i h4
  rw [if_neg h4]
  split at h
  · rename_i h5
    rw [if_pos h5]
    simp only [Bool.and_eq_true, decide_eq_true_eq] at h ⊢
    obtain ⟨⟨⟨a, b⟩, c⟩, e⟩ := h
    exact ⟨⟨⟨a, b⟩, by omega⟩, hi l [] (fun _ h => h) e⟩
  · cases h
theorem withinL_of {l : List It} {N : Int} (h : ∀ x ∈ l, withinV x.2 N = true) : withinL l N = true := by
  induction l with
  | nil => rw [withinL]
  | cons x r ih =>
    obtain ⟨q, x⟩ := x
    rw [withinL_cons, ih (fun y hy => h y (by simp [hy])), h (q, x) (by simp)]
    rfl
/-- No key's text in a value is long. -/
inductive KSm : VT → Prop
  | mk (k n : Int) (t : ByteArray) (l : List It) (h : ∀ x ∈ l, x.1.t.size ≤ 1073741824) (hs : ∀ x ∈ l, KSm x.2) : KSm (.mk k n t l)
def GoodS (v : VT) : Prop := v.Good ∧ KSm v
def KG (k : K) : Prop := k.Good ∧ k.t.size ≤ 1073741824
theorem keyP_kg {s : ByteArray} {props : Bool} {k : K} {p q : Nat} (hs : s.size ≤ 65536) (h : keyP s props p = .ok (k, q)) : KG k := by
  refine ⟨keyP_good hs h, ?_⟩
  unfold keyP at h
  split at h
  · split at h
    · cases h
    · split at h
      · cases h
      · cases h; show (⟨#[]⟩ : ByteArray).size ≤ _; decide
  · split at h
    · cases h
    · split at h
      · cases h
      · rename_i h2
        have := textP_size h2
        cases h
        exact Nat.le_trans this (by omega)
/-- A thing may be, but for how many items it has. -/
structure ThOk (N : Int) (t : TP) : Prop where
  name : nameP t.1.toList = true
  once : Once t.2
  at_ : ∀ x ∈ t.2, x.1.b = true ∧ x.1.norm = x.1 ∧ mayV x.2 0 = true ∧ withinV x.2 N = true ∧ KG x.1 ∧ GoodS x.2
/-- A list may be, within so many braces. -/
structure LOk (N d : Int) (props : Bool) (l : LS) : Prop where
  once : Once l.xs
  at_ : ∀ x ∈ l.xs, (props = true → x.1.b = true) ∧ x.1.norm = x.1 ∧ mayV x.2 (d + 1) = true ∧ withinV x.2 N = true ∧ KG x.1 ∧ GoodS x.2 ∧ (x.1.b = false → 0 ≤ l.nx → x.1.n < l.nx)
  lo : -1 ≤ l.nx
  hi : l.nx ≤ 9223372036854775807
theorem LOk.new (N d : Int) (props : Bool) : LOk N d props LS.new := ⟨List.Pairwise.nil, by simp [LS.new], by simp [LS.new], by simp [LS.new]⟩
theorem LOk.add {N d : Int} {props : Bool} {l : LS} (h : LOk N d props l) {k : K} {x : VT} (h1 : props = true → k.b = true) (h2 : k.norm = k) (h3 : mayV x (d + 1) = true) (h4 : withinV x N = true) (h5 : KG k) (h6 : GoodS x) (hf : findK k l.xs = none) : LOk N d props ⟨l.xs ++ [(k, x)], nextP k l.nx⟩ := by
  have hb := nextP_bounds h5.1 h.lo h.hi
  refine ⟨once_snoc h.once hf, fun y hy => ?_, hb.1, hb.2⟩
  rcases List.mem_append.1 hy with hy | hy
  · obtain ⟨a1, a2, a3, a4, a5, a6, a7⟩ := h.at_ y hy
    refine ⟨a1, a2, a3, a4, a5, a6, fun e1 e2 => ?_⟩
    have a8 := a7 e1
    simp only at e2 ⊢
    unfold nextP at e2 ⊢
    split
    · rename_i hc
      rw [if_pos hc] at e2
      split
      · rename_i hm; rw [if_pos hm] at e2; omega
      · omega
    · rename_i hc
      rw [if_neg hc] at e2
      exact a8 e2
  · rw [List.mem_singleton.1 hy]
    refine ⟨h1, h2, h3, h4, h5, h6, fun e1 e2 => ?_⟩
    simp only at e1 e2 ⊢
    unfold nextP at e2 ⊢
    split
    · rename_i hc
      rw [if_pos hc] at e2
      split
      · rename_i hm; rw [if_pos hm] at e2; omega
      · omega
    · rename_i hc
      rw [if_neg hc] at e2
      rcases Int.lt_or_le k.n l.nx with hl | hl
      · exact hl
      · exact absurd ⟨e1, e2, hl⟩ hc
def FitV (N d : Int) (val : ValF) : Prop := ∀ p m ths (y : VT × Nat × Nat × List TP), val p m ths = .ok y → (y.2.2.2.length : Int) ≤ N → (∀ t ∈ ths, ThOk N t) → mayV y.1 d = true ∧ withinV y.1 N = true ∧ GoodS y.1 ∧ ∀ t ∈ y.2.2.2, ThOk N t
section
variable {s : ByteArray}
theorem itemsP_fit (hs : s.size ≤ 65536) {N d : Int} {props : Bool} {val : ValF} (hv : FitV N (d + 1) val) (hg : Grows val) : ∀ {n : Nat} {l : LS} {p m : Nat} {ths : List TP} {y : LS × Nat × Nat × List TP}, itemsP s props val n l p m ths = .ok y → (y.2.2.2.length : Int) ≤ N → LOk N d props l → (∀ t ∈ ths, ThOk N t) → LOk N d props y.1 ∧ ∀ t ∈ y.2.2.2, ThOk N t
  | 0, l, p, m, ths, y, h, hN, hl, ht => by
    rw [itemsP] at h
    split at h
    · cases h
    · cases h; exact ⟨hl, ht⟩
  | n + 1, l, p, m, ths, y, h, hN, hl, ht => by
    rw [itemsP] at h
    split at h
    · cases h
    · rename_i k p1 h1
      split at h
      · cases h
      · split at h
        · cases h
        · rename_i hsame
          split at h
          · cases h
          · rename_i hfind
            split at h
            · cases h
            · split at h
              · cases h
              · rename_i x p3 m3 ths3 h3
                have hkk : k.norm = k := K.same_iff.1 (by simpa using hsame)
                have hle : ths3.length ≤ y.2.2.2.length := itemsP_grows hg h
                obtain ⟨f1, f2, f3, f4⟩ := hv _ _ _ _ h3 (by simp only; omega) ht
                rw [hkk] at hfind h
                refine itemsP_fit hs hv hg h hN (hl.add (fun e => ?_) hkk f1 f2 (keyP_kg hs h1) f3 ?_) f4
                · subst e
                  unfold keyP at h1
                  rw [if_neg (by simp)] at h1
                  split at h1
                  · cases h1
                  · split at h1
                    · cases h1
                    · cases h1; rfl
                · cases hf : findK k l.xs with
                  | none => rfl
                  | some i => rw [hf] at hfind; exact absurd rfl hfind
theorem bracesP_fit (hs : s.size ≤ 65536) {N d : Int} {props : Bool} {val : ValF} (hv : FitV N (d + 1) val) (hg : Grows val) {p m : Nat} {ths : List TP} {y : LS × Nat × Nat × List TP} (h : bracesP s props val p m ths = .ok y) (hN : (y.2.2.2.length : Int) ≤ N) (ht : ∀ t ∈ ths, ThOk N t) : LOk N d props y.1 ∧ ∀ t ∈ y.2.2.2, ThOk N t := by
  unfold bracesP at h
  split at h
  · cases h
  · split at h
    · cases h
    · exact itemsP_fit hs hv hg h hN (LOk.new _ _ _) ht
theorem empty_t : emptyT ⟨#[]⟩ = true := by unfold emptyT; rw [ByteArray.toList_eq]; rfl
theorem good_leaf {k n : Int} {t : ByteArray} (h1 : -9223372036854775808 ≤ k ∧ k ≤ 9223372036854775807) (h2 : -9223372036854775808 ≤ n ∧ n ≤ 9223372036854775807) (h3 : t.size ≤ 140737488351232) : GoodS (VT.mk k n t []) := ⟨VT.good_mk h1 h2 h3 (fun x hx => by cases hx), .mk _ _ _ _ (fun x hx => by cases hx) (fun x hx => by cases hx)⟩
theorem text_name {t : ByteArray} {p q : Nat} (h : textP s true p = .ok (t, q)) : nameP t.toList = true := by
  unfold textP at h
  split at h
  · cases h
  · split at h
    · cases h
    · split at h
      · cases h
      · split at h
        · cases h
        · rename_i hname
          split at h
          · cases h
          · cases h
            simpa using hname
theorem graphP_fit (hs : s.size ≤ 65536) {N d : Int} (hNb : N ≤ 9223372036854775807) {sub : Option ValF} (hsub : ∀ val, sub = some val → FitV N (d + 1) val ∧ Grows val ∧ Keep val ∧ Cnt val ∧ 0 ≤ d ∧ d < 64) : FitV N d (graphP s sub) := by
  intro p m ths y h hN ht
  unfold graphP at h
  split at h
  · unfold nullP at h
    split at h
    · cases h
    · cases h
      exact ⟨by rw [mayV]; simp [empty_t], by rw [withinV]; simp [withinL], good_leaf (by decide) (by decide) (by decide), ht⟩
  split at h
  · unfold boolP at h
    split at h
    · cases h
    · split at h
      · split at h
        · cases h
        · cases h
          exact ⟨by rw [mayV]; simp [empty_t], by rw [withinV]; simp [withinL], good_leaf (by decide) (by decide) (by decide), ht⟩
      · split at h
        · cases h
        · cases h
          exact ⟨by rw [mayV]; simp [empty_t], by rw [withinV]; simp [withinL], good_leaf (by decide) (by decide) (by decide), ht⟩
  split at h
  · unfold intP at h
    split at h
    · cases h
    · split at h
      · cases h
      · rename_i n q1 hq1
        split at h
        · cases h
        · cases h
          exact ⟨by rw [mayV]; simp [empty_t], by rw [withinV]; simp [withinL], good_leaf (by decide) (numberP_bounds hq1) (by decide), ht⟩
  split at h
  · unfold strP at h
    split at h
    · cases h
    · split at h
      · cases h
      · rename_i t q1 hq1
        split at h
        · cases h
        · cases h
          have := textP_size hq1
          exact ⟨by rw [mayV]; simp; omega, by rw [withinV]; simp [withinL], good_leaf (by decide) (by decide) (by omega), ht⟩
  split at h
  · unfold refP at h
    split at h
    · cases h
    · split at h
      · cases h
      · rename_i n q1 hq1
        split at h
        · cases h
        · rename_i hn
          split at h
          · cases h
          · cases h
            have hb := numberP_bounds hq1
            simp only at hN
            exact ⟨by rw [mayV]; simp [empty_t]; omega, by rw [withinV]; simp [withinL]; omega, good_leaf (by decide) hb (by decide), ht⟩
  split at h
  · unfold deepP at h
    split at h
    · cases h
    · rename_i val
      obtain ⟨hv, hg, hk, hc, hd0, hd⟩ := hsub val rfl
      split at h
      · unfold objectP at h
        split at h
        · cases h
        · split at h
          · cases h
          · rename_i name q1 hq1
            split at h
            · cases h
            · split at h
              · cases h
              · rename_i l q3 m3 ths3 hb
                cases h
                have hgr : ths.length + 1 ≤ ths3.length := by have := bracesP_grows hg hb; simpa using this
                simp only [List.length_modify] at hN
                obtain ⟨hl, ht3⟩ := bracesP_fit hs hv hg hb hN (fun t hm => by
                  rcases List.mem_append.1 hm with hm | hm
                  · exact ht t hm
                  · rw [List.mem_singleton.1 hm]
                    exact ⟨text_name hq1, List.Pairwise.nil, fun x hx => by cases hx⟩)
                have hkp : ths3[ths.length]? = some (name, []) := by
                  have := bracesP_keep hk hg hb ths.length (by simp)
                  rw [this]
                  simp
                replace hl : LOk N d true l := hl
                refine ⟨by rw [mayV]; simp [empty_t]; try omega, by rw [withinV]; simp [withinL]; omega, good_leaf (by decide) ⟨by omega, ?_⟩ (by decide), fun t hm => ?_⟩
                · omega
                · obtain ⟨i, hi, rfl⟩ := List.getElem_of_mem hm
                  rw [List.getElem_modify]
                  rw [List.length_modify] at hi
                  split
                  · rename_i e
                    subst e
                    have hn : ths3[ths.length] = (name, []) := by
                      rw [List.getElem?_eq_getElem hi] at hkp
                      exact Option.some.inj hkp
                    rw [hn]
                    exact ⟨text_name hq1, hl.once, fun x hx => by
                      obtain ⟨a1, a2, a3, a4, a5, a6, -⟩ := hl.at_ x hx
                      exact ⟨a1 rfl, a2, may_mono x.2 (d + 1) 0 (by omega) a3, a4, a5, a6⟩⟩
                  · exact ht3 _ (List.getElem_mem hi)
      · unfold listP at h
        split at h
        · cases h
        · split at h
          · cases h
          · rename_i l q3 m3 ths3 hb
            cases h
            obtain ⟨hl, ht3⟩ := bracesP_fit hs hv hg hb hN ht
            replace hl : LOk N d false l := hl
            have hlen := (bracesP_cnt hc hb).2.2
            simp only at hlen
            refine ⟨?_, ?_, ⟨VT.good_mk (by decide) ⟨by have := hl.lo; omega, hl.hi⟩ (by decide) (fun x hx => ⟨(hl.at_ x hx).2.2.2.2.1.1, (hl.at_ x hx).2.2.2.2.2.1.1⟩), .mk _ _ _ _ (fun x hx => (hl.at_ x hx).2.2.2.2.1.2) (fun x hx => (hl.at_ x hx).2.2.2.2.2.1.2)⟩, ht3⟩
            · rw [mayV]
              simp only [show ¬ ((4 : Int) = 0) by decide, show ¬ ((4 : Int) = 1) by decide, show ¬ ((4 : Int) = 2) by decide, show ¬ ((4 : Int) = 3) by decide, show ¬ ((4 : Int) = 5) by decide, if_false, if_true]
              rw [itemsL_of hl.once (fun x hx => ?_), empty_t]
              · have := hl.lo
                simp
                omega
              · obtain ⟨a1, a2, a3, a4, a5, a6, a7⟩ := hl.at_ x hx
                exact ⟨a2, by simp, a3, a7⟩
            · rw [withinV, withinL_of (fun x hx => (hl.at_ x hx).2.2.2.1)]
              simp
  · cases h
theorem gvalP_fit (hs : s.size ≤ 65536) (N : Int) (hNb : N ≤ 9223372036854775807) : ∀ k : Nat, k ≤ 64 → FitV N (64 - (k : Int)) (gvalP s k)
  | 0, _ => graphP_fit hs hNb fun _ h => by cases h
  | k + 1, hk => graphP_fit hs hNb fun val h => by
    cases h
    refine ⟨?_, gvalP_grows s k, gvalP_keep s k, gvalP_cnt s k, by omega, by omega⟩
    have := gvalP_fit hs N hNb k (by omega)
    rw [show (64 - ((k + 1 : Nat) : Int)) + 1 = 64 - (k : Int) by omega]
    exact this
end
/-! There are no more things than bytes. -/
def Len (val : ValF) : Prop := ∀ p m ths (y : VT × Nat × Nat × List TP), val p m ths = .ok y → y.2.2.2.length + p ≤ ths.length + y.2.1
section
variable {s : ByteArray}
theorem itemsP_len {props : Bool} {val : ValF} (hv : Len val) : ∀ {n : Nat} {l : LS} {p m : Nat} {ths : List TP} {y : LS × Nat × Nat × List TP}, itemsP s props val n l p m ths = .ok y → y.2.2.2.length + p ≤ ths.length + y.2.1
  | 0, l, p, m, ths, y, h => by
    rw [itemsP] at h
    split at h
    · cases h
    · rename_i h1; have := (mustP_le h1).1; cases h; simp only; omega
  | n + 1, l, p, m, ths, y, h => by
    rw [itemsP] at h
    split at h
    · cases h
    · rename_i h1
      have a1 := keyP_at h1
      split at h
      · cases h
      · rename_i h2
        have a2 := (mustP_le h2).1
        split at h
        · cases h
        · split at h
          · cases h
          · split at h
            · cases h
            · split at h
              · cases h
              · rename_i h3
                have a3 := hv _ _ _ _ h3
                have a4 := itemsP_len hv h
                simp only at a3
                omega
theorem bracesP_len {props : Bool} {val : ValF} (hv : Len val) {p m : Nat} {ths : List TP} {y : LS × Nat × Nat × List TP} (h : bracesP s props val p m ths = .ok y) : y.2.2.2.length + p ≤ ths.length + y.2.1 := by
  unfold bracesP at h
  split at h
  · cases h
  · rename_i h1
    have a1 := (numberP_at h1).1
    split at h
    · cases h
    · rename_i h2
      have a2 := (mustP_le h2).1
      have a3 := itemsP_len hv h
      omega
theorem graphP_len {sub : Option ValF} (hs : ∀ val, sub = some val → Len val) : Len (graphP s sub) := by
  intro p m ths y h
  unfold graphP at h
  split at h
  · unfold nullP at h
    split at h
    · cases h
    · rename_i h1; have a1 := (mustP_le h1).1; cases h; simp only; omega
  split at h
  · unfold boolP at h
    split at h
    · cases h
    · rename_i h1
      have a1 := (mustP_le h1).1
      split at h
      · split at h
        · cases h
        · rename_i h2; have a2 := (mustP_le h2).1; cases h; simp only; omega
      · split at h
        · cases h
        · rename_i h2; have a2 := (mustP_le h2).1; cases h; simp only; omega
  split at h
  · unfold intP at h
    split at h
    · cases h
    · rename_i h1
      have a1 := (mustP_le h1).1
      split at h
      · cases h
      · rename_i h2
        have a2 := (numberP_at h2).1
        split at h
        · cases h
        · rename_i h3; have a3 := (mustP_le h3).1; cases h; simp only; omega
  split at h
  · unfold strP at h
    split at h
    · cases h
    · rename_i h1
      have a1 := (mustP_le h1).1
      split at h
      · cases h
      · rename_i h2
        have a2 := textP_at h2
        split at h
        · cases h
        · rename_i h3; have a3 := (mustP_le h3).1; cases h; simp only; omega
  split at h
  · unfold refP at h
    split at h
    · cases h
    · rename_i h1
      have a1 := (mustP_le h1).1
      split at h
      · cases h
      · rename_i h2
        have a2 := (numberP_at h2).1
        split at h
        · cases h
        · split at h
          · cases h
          · rename_i h3; have a3 := (mustP_le h3).1; cases h; simp only; omega
  split at h
  · unfold deepP at h
    split at h
    · cases h
    · rename_i val
      have hv := hs val rfl
      split at h
      · unfold objectP at h
        split at h
        · cases h
        · rename_i h1
          have a1 := (mustP_le h1).1
          split at h
          · cases h
          · rename_i h2
            have a2 := textP_at h2
            split at h
            · cases h
            · rename_i h3
              have a3 := (mustP_le h3).1
              split at h
              · cases h
              · rename_i hb
                have a4 := bracesP_len hv hb
                cases h
                simp only [List.length_append, List.length_cons, List.length_nil, List.length_modify] at a1 a3 a4 ⊢
                omega
      · unfold listP at h
        split at h
        · cases h
        · rename_i h1
          have a1 := (mustP_le h1).1
          split at h
          · cases h
          · rename_i hb
            have a4 := bracesP_len hv hb
            cases h
            simp only at a4 ⊢
            omega
  · cases h
theorem gvalP_len (s : ByteArray) : ∀ d, Len (gvalP s d)
  | 0 => graphP_len fun _ h => by cases h
  | d + 1 => graphP_len fun val h => by cases h; exact gvalP_len s d
end
end Go.Proofs.YtnaefnojmiolbaaGreatDoor

namespace Go.Proofs.YtnaefnojmiolbaaGreatDoor
open Go.RowKit

theorem text_key {k : K} (hb : k.b = true) (hn : k.norm = k) : k = ⟨true, 0, k.t⟩ := by
  unfold K.norm at hn
  rw [if_pos hb] at hn
  split at hn
  · rw [← hn] at hb; cases hb
  · exact hn.symm
theorem right_of {v : VT} (h : mayV v 0 = true) (hc : countV v ≤ 2048) : rightV v = true := by
  unfold rightV
  rw [left_count v 2048 (by omega), h]
  simp
  omega
theorem met_not {met : List ByteArray} {t : ByteArray} (h : t ∉ met) : metW met t = false := by
  unfold metW
  rw [List.any_eq_false]
  intro y hy e
  exact h (of_decide_eq_true e ▸ hy)
theorem propsW_of {N : Int} : ∀ {l : List It} {met : List ByteArray}, Once l → (∀ x ∈ l, x.1.b = true ∧ x.1.norm = x.1 ∧ x.1.t ∉ met ∧ rightV x.2 = true ∧ withinV x.2 N = true) → propsW N met l = true
  | [], met, _, _ => rfl
  | x :: r, met, ho, h => by
    obtain ⟨a, b, c, d, e⟩ := h x (by simp)
    have ho' := List.pairwise_cons.1 ho
    rw [propsW, a, b, K.same_self, met_not c, d, e]
    simp only [Bool.not_true, Bool.or_false, Bool.false_eq_true, if_false]
    refine propsW_of ho'.2 fun y hy => ?_
    obtain ⟨a', b', c', d', e'⟩ := h y (by simp [hy])
    refine ⟨a', b', ?_, d', e'⟩
    rw [List.mem_cons]
    rintro (q | q)
    · refine ho'.1 y hy ?_
      rw [text_key a b, text_key a' b', q]
    · exact c' q
theorem thingsW_of {N : Int} : ∀ {l : List TP} {left : Int}, (totalW l : Int) ≤ left → left ≤ 2048 → (∀ t ∈ l, ThOk N t) → thingsW N left l = true
  | [], _, _, _, _ => rfl
  | t :: r, left, hl, h2, h => by
    have e : totalW (t :: r) = (t.2.length + countL t.2) + totalW r := by unfold totalW; rw [List.map_cons, List.sum_cons]
    have ht := h t (by simp)
    have hc := left_countL t.2 left (by omega)
    rw [thingsW, hc, if_neg (by omega), if_neg, thingsW_of (by omega) (by omega) (fun y hy => h y (by simp [hy]))]
    unfold thingW
    rw [ht.name, propsW_of ht.once (fun x hx => ?_)]
    · simp
    · obtain ⟨a, b, c, d, -, -⟩ := ht.at_ x hx
      have := count_mem hx
      exact ⟨a, b, by simp, right_of c (by omega), d⟩
theorem up_all (s : ByteArray) : upW s s.size = s.toList := by
  unfold upW
  rw [List.take_of_length_le (by rw [size_toList]; exact Nat.le_refl _)]
/-- What is read. -/
theorem read_parts {s : ByteArray} {v : VT} {ths : List TP} (h : readP s = .ok (v, ths)) (hs : s.size ≤ 65536) : ∃ m, gvalP s 64 0 0 [] = .ok (v, s.size, m, ths) := by
  unfold readP at h
  split at h
  · cases h
  · rename_i y p m ths' hg
    split at h
    · cases h
    · rename_i hp
      cases h
      have := (gvalP_echo hs 64 _ _ _ _ hg (Nat.zero_le _)).1
      simp only at this
      obtain rfl : p = s.size := by omega
      exact ⟨m, hg⟩
/-- What is read is packed as the same bytes. -/
theorem read_pack {s : ByteArray} {v : VT} {ths : List TP} (hs : s.size ≤ 65536) (h : readP s = .ok (v, ths)) :
    packP v ths = (s, 0) ∧ 0 < s.size ∧ GoodS v ∧ (∀ t ∈ ths, ThOk ths.length t) ∧ countV v + totalW ths ≤ 2048 := by
  obtain ⟨m, hg⟩ := read_parts h hs
  obtain ⟨c1, c2⟩ := gvalP_cnt s 64 _ _ _ _ hg
  have e0 : totalW [] = 0 := rfl
  have c2' := c2 (by omega)
  have c1 : m = countV v + totalW ths := by
    have c1 : m + totalW [] = 0 + countV v + totalW ths := c1
    rw [e0] at c1
    omega
  have c2' : m ≤ 2048 := c2'
  have hlen : ths.length ≤ 65536 := by
    have hg2 := gvalP_len s 64 _ _ _ _ hg
    simp only [List.length_nil] at hg2
    omega
  obtain ⟨f1, f2, f3, f4⟩ := gvalP_fit hs ths.length (by omega) 64 (Nat.le_refl _) _ _ _ _ hg (by simp) (fun t ht => by cases ht)
  have f1 : mayV v 0 = true := f1
  have f2 : withinV v ths.length = true := f2
  obtain ⟨-, e2⟩ := gvalP_echo hs 64 _ _ _ _ hg (Nat.zero_le _)
  have e3 := e2 ths (fun _ _ _ => rfl)
  simp only at e3
  refine ⟨?_, (gvalP_pre (s' := s) (c := s.size) ⟨by rw [List.take_of_length_le (by rw [size_toList]; exact Nat.le_refl _)], Nat.le_refl _⟩ 64 _ _ _ _ hg).1, f3, f4, by omega⟩
  unfold packP
  rw [right_of f1 (by omega), f2, if_neg (by simp), left_count v 2048 (by omega), thingsW_of (l := ths) (left := 2048 - (countV v : Int)) (by omega) (by omega) f4, if_neg (by simp)]
  have e4 : gvalW ths 64 v ⟨[], []⟩ = .ok ⟨s.toList, ordW ths.length⟩ := by
    rw [← up_all s]
    exact e3
  rw [e4]
  unfold packR
  simp only
  rw [if_neg (by rw [size_toList]; omega), str_of]
/-- No beginning of it is read. -/
theorem read_beg {s s' : ByteArray} {c : Nat} {v : VT} {ths : List TP} (hs : s.size ≤ 65536) (h : readP s = .ok (v, ths)) (b : Beg s s' c) (hc : c < s.size) : readP s' = .error (10, c) := by
  obtain ⟨m, hg⟩ := read_parts h hs
  have := ((gvalP_pre b 64 _ _ _ _ hg).2 (Nat.zero_le _)).2 hc
  unfold readP
  rw [this]

/-! A fault's place lies within the text. -/
theorem wrongC_ne {s : ByteArray} {p : Nat} : wrongC s p ≠ 0 := by unfold wrongC; split <;> decide
section
variable {s : ByteArray}
theorem must_err : ∀ {l : Bs} {p : Nat} {c : Int} {a : Nat}, mustP s l p = .error (c, a) → p ≤ s.size → a ≤ s.size ∧ c ≠ 0
  | [], _, _, _, h, _ => by cases h
  | x :: l, p, c, a, h, hp => by
    rw [mustP] at h
    split at h
    · rename_i hc; exact must_err h hc.1
    · cases h; exact ⟨hp, wrongC_ne⟩
theorem number_err {sign : Bool} {most : Int} {p : Nat} {c : Int} {a : Nat} (h : numberP s sign most p = .error (c, a)) (hp : p ≤ s.size) : a ≤ s.size ∧ c ≠ 0 := by
  have hb : begP s sign p ≤ s.size := by
    unfold begP
    split
    · rename_i hc
      rcases Nat.lt_or_ge p s.size with h1 | h1
      · exact h1
      · rw [nowP_end (by omega)] at hc; exact absurd hc.2 (by decide)
    · exact hp
  unfold numberP at h
  split at h
  · split at h
    · split at h
      · cases h; exact ⟨hp, by decide⟩
      · cases h
    · cases h; exact ⟨hp, by decide⟩
  · cases h; exact ⟨hb, wrongC_ne⟩
theorem text_err {cls : Bool} {p : Nat} {c : Int} {a : Nat} (h : textP s cls p = .error (c, a)) (hp : p ≤ s.size) : a ≤ s.size ∧ c ≠ 0 := by
  unfold textP at h
  split at h
  · rename_i h1; cases h; exact number_err h1 hp
  · rename_i n p1 h1
    have a1 := (numberP_at h1).2
    split at h
    · rename_i h2; cases h; exact must_err h2 a1
    · rename_i p2 h2
      have a2 := (mustP_le h2).2 a1
      split at h
      · cases h; exact ⟨Nat.le_refl _, by decide⟩
      · rename_i hle
        have hn := (numberP_lim h1).1
        split at h
        · cases h; exact ⟨a2, by decide⟩
        · split at h
          · rename_i h3; cases h; exact must_err h3 (by omega)
          · cases h
theorem key_err {props : Bool} {p : Nat} {c : Int} {a : Nat} (h : keyP s props p = .error (c, a)) (hp : p ≤ s.size) : a ≤ s.size ∧ c ≠ 0 := by
  unfold keyP at h
  split at h
  · split at h
    · rename_i h1; cases h; exact must_err h1 hp
    · rename_i p1 h1
      split at h
      · rename_i h2; cases h; exact number_err h2 ((mustP_le h1).2 hp)
      · cases h
  · split at h
    · rename_i h1; cases h; exact must_err h1 hp
    · rename_i p1 h1
      split at h
      · rename_i h2; cases h; exact text_err h2 ((mustP_le h1).2 hp)
      · cases h
def Errs (s : ByteArray) (val : ValF) : Prop := ∀ p m ths (c : Int) (a : Nat), val p m ths = .error (c, a) → p ≤ s.size → a ≤ s.size ∧ c ≠ 0
def Ends (s : ByteArray) (val : ValF) : Prop := ∀ p m ths (y : VT × Nat × Nat × List TP), val p m ths = .ok y → p ≤ s.size → y.2.1 ≤ s.size
theorem itemsP_err {props : Bool} {val : ValF} (hv : Errs s val) (he : Ends s val) : ∀ {n : Nat} {l : LS} {p m : Nat} {ths : List TP} {c : Int} {a : Nat}, itemsP s props val n l p m ths = .error (c, a) → p ≤ s.size → a ≤ s.size ∧ c ≠ 0
  | 0, l, p, m, ths, c, a, h, hp => by
    rw [itemsP] at h
    split at h
    · rename_i h1; cases h; exact must_err h1 hp
    · cases h
  | n + 1, l, p, m, ths, c, a, h, hp => by
    rw [itemsP] at h
    split at h
    · rename_i h1; cases h; exact key_err h1 hp
    · rename_i k p1 h1
      have a1 := key_end h1
      split at h
      · rename_i h2; cases h; exact must_err h2 a1
      · rename_i p2 h2
        have a2 := (mustP_le h2).2 a1
        split at h
        · cases h; exact ⟨hp, by decide⟩
        · split at h
          · cases h; exact ⟨hp, by decide⟩
          · split at h
            · cases h; exact ⟨hp, by decide⟩
            · split at h
              · rename_i h3; cases h; exact hv _ _ _ _ _ h3 a2
              · rename_i h3
                exact itemsP_err hv he h (he _ _ _ _ h3 a2)
theorem bracesP_err {props : Bool} {val : ValF} (hv : Errs s val) (he : Ends s val) {p m : Nat} {ths : List TP} {c : Int} {a : Nat} (h : bracesP s props val p m ths = .error (c, a)) (hp : p ≤ s.size) : a ≤ s.size ∧ c ≠ 0 := by
  unfold bracesP at h
  split at h
  · rename_i h1; cases h; exact number_err h1 hp
  · rename_i n p1 h1
    have a1 := (numberP_at h1).2
    split at h
    · rename_i h2; cases h; exact must_err h2 a1
    · rename_i p2 h2
      exact itemsP_err hv he h ((mustP_le h2).2 a1)
theorem graphP_err {sub : Option ValF} (hs : ∀ val, sub = some val → Errs s val ∧ Ends s val) : Errs s (graphP s sub) := by
  intro p m ths c a h hp
  unfold graphP at h
  split at h
  · unfold nullP at h
    split at h
    · rename_i h1; cases h; exact must_err h1 hp
    · cases h
  split at h
  · unfold boolP at h
    split at h
    · rename_i h1; cases h; exact must_err h1 hp
    · rename_i q h1
      have a1 := (mustP_le h1).2 hp
      split at h
      · split at h
        · rename_i h2; cases h; exact must_err h2 a1
        · cases h
      · split at h
        · rename_i h2; cases h; exact must_err h2 a1
        · cases h
  split at h
  · unfold intP at h
    split at h
    · rename_i h1; cases h; exact must_err h1 hp
    · rename_i q h1
      have a1 := (mustP_le h1).2 hp
      split at h
      · rename_i h2; cases h; exact number_err h2 a1
      · rename_i h2
        split at h
        · rename_i h3; cases h; exact must_err h3 (numberP_at h2).2
        · cases h
  split at h
  · unfold strP at h
    split at h
    · rename_i h1; cases h; exact must_err h1 hp
    · rename_i q h1
      have a1 := (mustP_le h1).2 hp
      split at h
      · rename_i h2; cases h; exact text_err h2 a1
      · rename_i h2
        split at h
        · rename_i h3; cases h; exact must_err h3 (text_end h2)
        · cases h
  split at h
  · unfold refP at h
    split at h
    · rename_i h1; cases h; exact must_err h1 hp
    · rename_i q h1
      have a1 := (mustP_le h1).2 hp
      split at h
      · rename_i h2; cases h; exact number_err h2 a1
      · rename_i h2
        split at h
        · cases h; exact ⟨a1, by decide⟩
        · split at h
          · rename_i h3; cases h; exact must_err h3 (numberP_at h2).2
          · cases h
  split at h
  · unfold deepP at h
    split at h
    · cases h; exact ⟨hp, by decide⟩
    · rename_i val
      obtain ⟨hv, he⟩ := hs val rfl
      split at h
      · unfold objectP at h
        split at h
        · rename_i h1; cases h; exact must_err h1 hp
        · rename_i q h1
          have a1 := (mustP_le h1).2 hp
          split at h
          · rename_i h2; cases h; exact text_err h2 a1
          · rename_i h2
            split at h
            · rename_i h3; cases h; exact must_err h3 (text_end h2)
            · rename_i h3
              split at h
              · rename_i h4; cases h; exact bracesP_err hv he h4 ((mustP_le h3).2 (text_end h2))
              · cases h
      · unfold listP at h
        split at h
        · rename_i h1; cases h; exact must_err h1 hp
        · rename_i q h1
          have a1 := (mustP_le h1).2 hp
          split at h
          · rename_i h4; cases h; exact bracesP_err hv he h4 a1
          · cases h
  · cases h; exact ⟨hp, wrongC_ne⟩
theorem gvalP_err (hs : s.size ≤ 65536) : ∀ d, Errs s (gvalP s d)
  | 0 => graphP_err fun _ h => by cases h
  | d + 1 => graphP_err fun val h => by cases h; exact ⟨gvalP_err hs d, fun p m ths y h1 h2 => (gvalP_echo hs d p m ths y h1 h2).1⟩
theorem read_err (hs : s.size ≤ 65536) {c : Int} {a : Nat} (h : readP s = .error (c, a)) : a ≤ s.size ∧ c ≠ 0 := by
  unfold readP at h
  split at h
  · rename_i h1
    cases h
    exact gvalP_err hs 64 _ _ _ _ _ h1 (Nat.zero_le _)
  · rename_i y p m ths' hg
    split at h
    · rename_i hp; cases h; exact ⟨Nat.le_of_lt hp, wrongC_ne⟩
    · cases h
end
end Go.Proofs.YtnaefnojmiolbaaGreatDoor

namespace Go.Proofs.YtnaefnojmiolbaaGreatDoor
open Go.RowKit

/-- The text of one object twice. -/
def aliveT : ByteArray := ⟨#[97, 58, 50, 58, 123, 105, 58, 48, 59, 79, 58, 49, 58, 34, 65, 34, 58, 49, 58, 123, 115, 58, 49, 58, 34, 98, 34, 59, 98, 58, 49, 59, 125, 105, 58, 49, 59, 114, 58, 49, 59, 125]⟩
def aliveO : VT := .mk 5 1 ⟨#[]⟩ []
def aliveP : List It := [(⟨true, 0, ⟨#[98]⟩⟩, .mk 1 1 ⟨#[]⟩ [])]
def aliveV : VT := .mk 4 2 ⟨#[]⟩ [(⟨false, 0, ⟨#[]⟩⟩, aliveO), (⟨false, 1, ⟨#[]⟩⟩, aliveO)]
def aliveF : List TP := [(⟨#[65]⟩, aliveP)]
theorem alive_read : readP aliveT = .ok (aliveV, aliveF) := by kernel_rfl
end Go.Proofs.YtnaefnojmiolbaaGreatDoor
