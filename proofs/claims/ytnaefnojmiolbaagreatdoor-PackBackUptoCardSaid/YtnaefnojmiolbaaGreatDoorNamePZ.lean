/-
  Which texts are classes' names, as plain data; the parts between backslashes.
-/
import Derived.Test.YtnaefnojmiolbaaGreatDoorBaseZ
import Derived.Shelf.Strings.Split
namespace Go.Proofs.YtnaefnojmiolbaaGreatDoor
open Go.RowKit

theorem toList_at {s : ByteArray} {j : Nat} (h : j < s.size) : s.toList[j]'(by rw [size_toList]; exact h) = s[j] := by
  simp [ByteArray.toList_eq]
  rfl
/-- A text's parts between backslashes. -/
def partsP : Bs → List Bs
  | [] => [[]]
  | c :: r => if c = 92 then [] :: partsP r else match partsP r with
    | p :: ps => (c :: p) :: ps
    | [] => [[c]]
theorem partsP_ne (l : Bs) : partsP l ≠ [] := by
  cases l with
  | nil => simp [partsP]
  | cons c r =>
    unfold partsP
    split
    · simp
    · split <;> simp
theorem partsP_hit {c : UInt8} (h : c = 92) (r : Bs) : partsP (c :: r) = [] :: partsP r := by rw [partsP, if_pos h]
theorem partsP_miss {c : UInt8} (h : c ≠ 92) {r p : Bs} {ps : List Bs} (e : partsP r = p :: ps) : partsP (c :: r) = (c :: p) :: ps := by rw [partsP, if_neg h, e]
theorem splitK_parts : ∀ (l : Bs), Lib.splitK [92] 0 (l.count 92) l = partsP l
  | [] => rfl
  | c :: r => by
    have ih := splitK_parts r
    by_cases h : c = 92
    · subst h
      rw [List.count_cons_self, partsP_hit rfl, ← ih]
      have hi : Lib.index ((92 : UInt8) :: r) [92] = 0 := by rw [Lib.index_one]; rfl
      rw [Lib.splitK, hi]
      rfl
    · rw [List.count_cons_of_ne (by simpa using h)]
      have hi : Lib.index (c :: r) [92] = if Lib.index r [92] == -1 then -1 else Lib.index r [92] + 1 := by
        rw [Lib.index_one, Lib.index_one, Lib.indexByte, if_neg (by simpa using h)]
      cases hk : r.count 92 with
      | zero =>
        rw [hk] at ih
        have e : partsP r = [r] := ih.symm
        rw [partsP_miss h e]
        rfl
      | succ k =>
        rw [hk] at ih
        rw [Lib.splitK] at ih ⊢
        by_cases hm : Lib.index r [92] = -1
        · exfalso
          rw [Lib.index_one] at hm
          have : ∀ (l : Bs), Lib.indexByte l 92 = -1 → l.count 92 = 0 := by
            intro l
            induction l with
            | nil => intro _; rfl
            | cons b l ihl =>
              intro he
              rw [Lib.indexByte] at he
              by_cases hb : b = 92
              · rw [if_pos (by simpa using hb)] at he; cases he
              · rw [if_neg (by simpa using hb)] at he
                rw [List.count_cons_of_ne (by simpa using hb)]
                apply ihl
                have := Lib.indexByte_ge l 92
                split at he
                · rename_i hq; simpa using hq
                · omega
          rw [this r hm] at hk
          cases hk
        · have hge := Lib.index_ge r [92]
          obtain ⟨i, hi'⟩ : ∃ i : Nat, Lib.index r [92] = i := ⟨(Lib.index r [92]).toNat, by omega⟩
          rw [hi'] at hi ih
          rw [if_neg (by simp)] at hi ih
          rw [hi, if_neg (by rw [beq_iff_eq]; omega)]
          have e1 : ((i : Int) + 1).toNat = i + 1 := by omega
          have e2 : (i : Int).toNat = i := by omega
          rw [e2] at ih
          rw [e1, partsP_miss h ih.symm]
          simp only [Nat.add_zero, List.length_singleton, List.take_succ_cons]
          rw [List.drop_succ_cons]
theorem splitB_parts (s : ByteArray) : Lib.splitB (str [92]) 0 (Lib.countB s (str [92])) s = (partsP s.toList).map str := by
  have h := Lib.splitB_data (str [92]) 0 (Lib.countB s (str [92])) s
  have hc : Lib.countB s (str [92]) = s.toList.count 92 := by
    show Lib.count _ [92] = _
    rw [Lib.count_one, bl_eq]
  rw [hc] at h ⊢
  have h2 : (Lib.splitB (str [92]) 0 (s.toList.count 92) s).map (·.data.toList) = partsP s.toList := by
    rw [h, ← splitK_parts, bl_eq]; rfl
  rw [← h2, List.map_map]
  conv => lhs; rw [← List.map_id (Lib.splitB _ _ _ _)]
  exact List.map_congr_left fun x _ => (str_data x).symm
theorem countB_parts (s : ByteArray) : Lib.countB s (str [92]) + 1 = (partsP s.toList).length := by
  have := Lib.splitB_all (str [92]) (by decide) 0 _ s rfl
  rw [splitB_parts, List.length_map] at this
  exact this.symm

def letterC (c : UInt8) : Bool := decide (c.toNat = 95) || (decide (97 ≤ c.toNat) && decide (c.toNat ≤ 122)) || (decide (65 ≤ c.toNat) && decide (c.toNat ≤ 90))
def digitC (c : UInt8) : Bool := decide (48 ≤ c.toNat) && decide (c.toNat ≤ 57)
def partOk : Bs → Bool
  | [] => false
  | c :: r => letterC c && r.all fun d => letterC d || digitC d
/-- Is a text a class's name? -/
def nameP (s : Bs) : Bool := decide (s.length ≤ 64) && (partsP s).all partOk
/-- The document's way: byte by byte. -/
def rscan : Bool → Bs → Option Bool
  | b, [] => some b
  | b, c :: r => if b && !letterC c then none else if c = 92 then rscan true r else if !letterC c && !digitC c then none else rscan false r
theorem letter_92 : letterC 92 = false := by decide
theorem digit_92 : digitC 92 = false := by decide
def okC (c : UInt8) : Bool := letterC c || digitC c
theorem partOk_cons (c : UInt8) (r : Bs) : partOk (c :: r) = (letterC c && r.all okC) := rfl
theorem rscan_acc : ∀ (l : Bs) (b : Bool) (p : Bs) (ps : List Bs), partsP l = p :: ps → (decide (rscan b l = some false)) = ((if b then partOk p else p.all okC) && ps.all partOk)
  | [], b, p, ps, h => by
    obtain ⟨rfl, rfl⟩ : p = [] ∧ ps = [] := by simpa [partsP, eq_comm] using h
    cases b <;> rfl
  | c :: r, b, p, ps, h => by
    obtain ⟨p', ps', h'⟩ : ∃ p' ps', partsP r = p' :: ps' := List.exists_cons_of_ne_nil (partsP_ne r)
    by_cases hc : c = 92
    · subst hc
      rw [partsP_hit rfl] at h
      obtain ⟨rfl, rfl⟩ : p = [] ∧ ps = partsP r := by simpa [eq_comm] using h
      have ih := rscan_acc r true p' ps' h'
      cases b with
      | true => rfl
      | false =>
        rw [rscan]
        simp only [Bool.false_and, Bool.false_eq_true, if_false, if_true, ih, h', List.all_nil, List.all_cons, Bool.true_and]
    · rw [partsP_miss hc h'] at h
      obtain ⟨h1, h2⟩ : c :: p' = p ∧ ps' = ps := by simpa using h
      subst h1 h2
      have ih := rscan_acc r false p' ps' h'
      simp only [Bool.false_eq_true, if_false] at ih
      rw [rscan]
      cases b with
      | true =>
        rw [partOk_cons]
        cases hl : letterC c with
        | false => rfl
        | true =>
          simp only [Bool.not_true, Bool.and_false, Bool.false_eq_true, if_false, if_neg hc, Bool.false_and, if_true, Bool.true_and]
          exact ih
      | false =>
        rw [List.all_cons]
        cases hl : letterC c with
        | false =>
          cases hd : digitC c with
          | false => simp [okC, hl, hd, hc]
          | true =>
            simp only [Bool.not_false, Bool.false_and, Bool.false_eq_true, if_false, if_neg hc, Bool.not_true, Bool.and_false, okC, hl, hd, Bool.or_true, Bool.true_and]
            exact ih
        | true =>
          simp only [Bool.not_true, Bool.false_and, Bool.false_eq_true, if_false, if_neg hc, okC, hl, Bool.true_or, Bool.true_and]
          exact ih
theorem nameP_scan (l : Bs) : nameP l = (decide (l.length ≤ 64) && decide (rscan true l = some false)) := by
  obtain ⟨p, ps, h⟩ : ∃ p ps, partsP l = p :: ps := List.exists_cons_of_ne_nil (partsP_ne l)
  rw [rscan_acc l true p ps h, nameP, h]
  rfl
end Go.Proofs.YtnaefnojmiolbaaGreatDoor
