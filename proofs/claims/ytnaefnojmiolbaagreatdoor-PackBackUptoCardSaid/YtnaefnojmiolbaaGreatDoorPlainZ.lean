/-
  Keys, trees of values, and lists of values as plain data: what each call on a list does. Of no program.
-/
import Derived.Test.YtnaefnojmiolbaaGreatDoorBackZ
namespace Go.Proofs.YtnaefnojmiolbaaGreatDoor

/-- A key: a text, or a number. -/
structure K where
  b : Bool
  n : Int
  t : ByteArray

def K.v (k : K) : Value := .agg #[.bool k.b, .int .i64 k.n, .string k.t]
def K.cells (k : K) : List Value := [.bool k.b, .int .i64 k.n, .string k.t]
def K.same (x y : K) : Bool := x.b == y.b && (x.n == y.n && x.t.toList == y.t.toList)
theorem ba_ext {x y : ByteArray} (h : x.toList = y.toList) : x = y := by
  rw [← str_of x, ← str_of y, h]
theorem K.same_iff {x y : K} : K.same x y = true ↔ x = y := by
  cases x; cases y
  unfold K.same
  simp only [Bool.and_eq_true, beq_iff_eq, K.mk.injEq]
  exact ⟨fun ⟨a, b, c⟩ => ⟨a, b, ba_ext c⟩, fun ⟨a, b, c⟩ => ⟨a, b, by rw [c]⟩⟩
instance : DecidableEq K := fun a b => decidable_of_iff (K.same a b = true) K.same_iff
theorem K.same_self (x : K) : K.same x x = true := K.same_iff.2 rfl
theorem K.same_ne {x y : K} : K.same x y = false ↔ x ≠ y := by
  rw [← Bool.not_eq_true, Ne, K.same_iff]
theorem K.same_comm (x y : K) : K.same x y = K.same y x := by
  rw [Bool.eq_iff_iff, K.same_iff, K.same_iff]
  exact eq_comm
theorem K.v_inj {x y : K} (h : x.v = y.v) : x = y := by
  cases x; cases y
  simp [K.v] at h
  simp [h]

def k0 : K := ⟨false, 0, ⟨#[]⟩⟩
/-- The number that a text of a number's own digits is. -/
def canonP (l : Bs) : Option Int := if (numericP l).2 && (Lib.itoa (numericP l).1 == l) then some (numericP l).1 else none
def K.norm (k : K) : K := if k.b then (match canonP k.t.toList with | some n => ⟨false, n, ⟨#[]⟩⟩ | none => ⟨true, 0, k.t⟩) else ⟨false, k.n, ⟨#[]⟩⟩
/-- Within what a key can be. -/
structure K.Good (k : K) : Prop where
  lo : -9223372036854775808 ≤ k.n
  hi : k.n ≤ 9223372036854775807
  sz : k.t.size ≤ 140737488351232
/-- In its one form. -/
structure K.Norm (k : K) : Prop extends K.Good k where
  same : k.norm = k

theorem sat_bounds (n : Bool) (u : Nat) : -9223372036854775808 ≤ sat n u ∧ sat n u ≤ 9223372036854775807 := by
  unfold sat
  split <;> split <;> omega
theorem numericP_bounds (l : Bs) : -9223372036854775808 ≤ (numericP l).1 ∧ (numericP l).1 ≤ 9223372036854775807 := by
  unfold numericP numOf
  split
  · rename_i n h
    split at h
    · cases h
    · injection h with h
      injection h with h1 h2
      subst h1
      exact sat_bounds _ _
  · exact ⟨by decide, by decide⟩
theorem canonP_some {l : Bs} {n : Int} (h : canonP l = some n) : (-9223372036854775808 ≤ n ∧ n ≤ 9223372036854775807) ∧ Lib.itoa n = l := by
  unfold canonP at h
  split at h
  · rename_i hc
    simp only [Bool.and_eq_true, beq_iff_eq] at hc
    cases h
    exact ⟨numericP_bounds l, hc.2⟩
  · cases h
theorem canonP_itoa {n : Int} (h0 : -9223372036854775808 ≤ n) (h1 : n ≤ 9223372036854775807) : canonP (Lib.itoa n) = some n := by
  unfold canonP
  rw [numeric_itoa0 h0 h1]
  simp
theorem K.norm_good {k : K} (h : k.Good) : k.norm.Good := by
  unfold K.norm
  split
  · split
    · rename_i n hn
      have := canonP_some hn
      exact ⟨this.1.1, this.1.2, by show (⟨#[]⟩ : ByteArray).size ≤ _; decide⟩
    · exact ⟨by show _ ≤ (0 : Int); decide, by show (0 : Int) ≤ _; decide, h.sz⟩
  · exact ⟨h.lo, h.hi, by show (⟨#[]⟩ : ByteArray).size ≤ _; decide⟩
theorem K.norm_norm (k : K) : k.norm.norm = k.norm := by
  unfold K.norm
  cases hb : k.b
  · simp
  · cases hc : canonP k.t.toList
    · simp [hc]
    · simp
theorem K.norm_is {k : K} (h : k.Good) : k.norm.Norm := ⟨K.norm_good h, K.norm_norm k⟩
theorem K.norm_num (n : Int) : (K.mk false n ⟨#[]⟩).norm = ⟨false, n, ⟨#[]⟩⟩ := rfl

/-- A value: its kind, its number, its text, its items. -/
inductive VT where
  | mk (k n : Int) (t : ByteArray) (xs : List (K × VT))
def VT.k : VT → Int | .mk k _ _ _ => k
def VT.n : VT → Int | .mk _ n _ _ => n
def VT.t : VT → ByteArray | .mk _ _ t _ => t
def VT.xs : VT → List (K × VT) | .mk _ _ _ l => l
theorem VT.eta (v : VT) : VT.mk v.k v.n v.t v.xs = v := by cases v; rfl
theorem VT.ind {P : VT → Prop} (h : ∀ k n t l, (∀ x ∈ l, P x.2) → P (.mk k n t l)) : ∀ v, P v
  | .mk k n t l => h k n t l (fun x _ => VT.ind h x.2)
termination_by v => SizeOf.sizeOf v
decreasing_by
  rename_i hx
  have := List.sizeOf_lt_of_mem hx
  cases x
  simp at *
  omega
/-- A value's cells, its items behind c. -/
def VT.cells (v : VT) (c : Value) : List Value := [.int .i64 v.k, .int .i64 v.n, .string v.t, c]
def VT.v (v : VT) (c : Value) : Value := .agg #[.int .i64 v.k, .int .i64 v.n, .string v.t, c]
abbrev It := K × VT
def findK (k : K) (xs : List It) : Option Nat := xs.findIdx? fun x => x.1.same k

theorem findK_lt {k : K} {xs : List It} {i : Nat} (h : findK k xs = some i) : i < xs.length := (List.findIdx?_eq_some_iff_getElem.1 h).1
theorem findK_at {k : K} {xs : List It} {i : Nat} (h : findK k xs = some i) : (xs[i]'(findK_lt h)).1 = k := by
  obtain ⟨_, h2, _⟩ := List.findIdx?_eq_some_iff_getElem.1 h
  exact K.same_iff.1 h2
theorem findK_none {k : K} {xs : List It} : findK k xs = none ↔ ∀ x ∈ xs, x.1 ≠ k := by
  unfold findK
  rw [List.findIdx?_eq_none_iff]
  exact ⟨fun h x hx => K.same_ne.1 (h x hx), fun h x hx => K.same_ne.2 (h x hx)⟩
theorem findK_append (k : K) (xs ys : List It) : findK k (xs ++ ys) = match findK k xs with | some i => some i | none => (findK k ys).map (· + xs.length) := by
  unfold findK
  rw [List.findIdx?_append]
  cases List.findIdx? (fun x => x.1.same k) xs <;> rfl
theorem findK_snoc {k k' : K} {v : VT} {xs : List It} (h : findK k xs = none) : findK k' (xs ++ [(k, v)]) = if k' = k then some xs.length else findK k' xs := by
  rw [findK_append]
  by_cases e : k' = k
  · subst e
    rw [h, if_pos rfl]
    show (List.findIdx? _ [(k', v)]).map _ = _
    simp [List.findIdx?_singleton, K.same_self]
  · rw [if_neg e]
    cases findK k' xs with
    | some i => rfl
    | none =>
      show (List.findIdx? _ [(k, v)]).map _ = _
      simp [List.findIdx?_singleton, K.same_ne.2 (fun x => e x.symm)]
/-- Keys that stand once. -/
def Once (xs : List It) : Prop := xs.Pairwise fun x y => x.1 ≠ y.1
theorem findK_once {xs : List It} (h : Once xs) {i : Nat} (hi : i < xs.length) : findK (xs[i]).1 xs = some i := by
  unfold findK
  rw [List.findIdx?_eq_some_iff_getElem]
  refine ⟨hi, K.same_self _, fun j hj => ?_⟩
  have := List.pairwise_iff_getElem.1 h j i (by omega) hi hj
  simpa using K.same_ne.2 this
theorem findK_set {xs : List It} {i : Nat} {v : VT} (k : K) (hi : i < xs.length) : findK k (xs.set i (xs[i].1, v)) = findK k xs := by
  unfold findK
  induction xs generalizing i with
  | nil => simp at hi
  | cons x r ih =>
    cases i with
    | zero => simp [List.findIdx?_cons]
    | succ i =>
      simp only [List.set_cons_succ, List.getElem_cons_succ, List.findIdx?_cons]
      rw [ih]
theorem once_set {xs : List It} {i : Nat} {v : VT} (h : Once xs) (hi : i < xs.length) : Once (xs.set i (xs[i].1, v)) := by
  unfold Once at *
  rw [List.pairwise_iff_getElem] at *
  intro a b ha hb hab
  have h' := h a b (by simpa using ha) (by simpa using hb) hab
  simp only [List.getElem_set]
  split
  · rename_i e
    subst e
    split
    · omega
    · exact h'
  · split
    · rename_i e; subst e; exact h'
    · exact h'
theorem once_snoc {xs : List It} {k : K} {v : VT} (h : Once xs) (hf : findK k xs = none) : Once (xs ++ [(k, v)]) := by
  unfold Once at *
  rw [List.pairwise_append]
  refine ⟨h, by simp, fun a ha b hb => ?_⟩
  rw [List.mem_singleton.1 hb]
  exact findK_none.1 hf a ha
theorem once_del {xs : List It} (h : Once xs) (i : Nat) : Once (xs.eraseIdx i) := by
  unfold Once at *
  exact List.Pairwise.sublist (List.eraseIdx_sublist xs i) h
/-- Behind a key that is struck the places go one down. -/
theorem findK_del {xs : List It} (h : Once xs) {i : Nat} (hi : i < xs.length) (k : K) : findK k (xs.eraseIdx i) = match findK k xs with | some j => if j = i then none else if j < i then some j else some (j - 1) | none => none := by
  cases hf : findK k xs with
  | none =>
    have h1 := findK_none.1 hf
    exact findK_none.2 fun x hx => h1 x (List.mem_of_mem_eraseIdx hx)
  | some j =>
    have hj := findK_lt hf
    have hk := findK_at hf
    have hd := once_del h i
    simp only
    by_cases e : j = i
    · subst e
      rw [if_pos rfl]
      refine findK_none.2 fun x hx => ?_
      obtain ⟨a, ha, rfl⟩ := List.getElem_of_mem hx
      rw [List.getElem_eraseIdx]
      unfold Once at h
      have hp := List.pairwise_iff_getElem.1 h
      rw [List.length_eraseIdx_of_lt hj] at ha
      split
      · rw [← hk]; exact hp a j (by omega) hj (by omega)
      · rw [← hk]; exact fun e => hp j (a + 1) hj (by omega) (by omega) e.symm
    · rw [if_neg e]
      by_cases hlt : j < i
      · rw [if_pos hlt]
        have hjl : j < (xs.eraseIdx i).length := by rw [List.length_eraseIdx_of_lt hi]; omega
        have e2 : (xs.eraseIdx i)[j] = xs[j] := by rw [List.getElem_eraseIdx, dif_pos hlt]
        have := findK_once hd hjl
        rw [e2, hk] at this
        exact this
      · rw [if_neg hlt]
        have hjl : j - 1 < (xs.eraseIdx i).length := by rw [List.length_eraseIdx_of_lt hi]; omega
        have e2 : (xs.eraseIdx i)[j - 1] = xs[j] := by
          rw [List.getElem_eraseIdx, dif_neg (by omega)]
          congr 1; omega
        have := findK_once hd hjl
        rw [e2, hk] at this
        exact this

/-- A list's items, and its next number. -/
structure LS where
  xs : List It
  nx : Int
def LS.new : LS := ⟨[], 0⟩
def nextP (k : K) (nx : Int) : Int := if k.b = false ∧ 0 ≤ nx ∧ nx ≤ k.n then (if k.n = 9223372036854775807 then -1 else k.n + 1) else nx
/-- Set at a key in its one form. -/
def setN (k : K) (v : VT) (l : LS) : Int × LS := match findK k l.xs with
  | some i => (0, ⟨l.xs.set i (k, v), l.nx⟩)
  | none => if 2048 ≤ l.xs.length then (8, l) else (0, ⟨l.xs ++ [(k, v)], nextP k l.nx⟩)
def setP (k : K) (v : VT) (l : LS) : Int × LS := setN k.norm v l
def appendP (v : VT) (l : LS) : (K × Int) × LS := if l.nx < 0 then ((k0, 8), l) else
  if (setP ⟨false, l.nx, ⟨#[]⟩⟩ v l).1 = 0 then ((⟨false, l.nx, ⟨#[]⟩⟩, 0), (setP ⟨false, l.nx, ⟨#[]⟩⟩ v l).2) else ((k0, (setP ⟨false, l.nx, ⟨#[]⟩⟩ v l).1), (setP ⟨false, l.nx, ⟨#[]⟩⟩ v l).2)
def getP (k : K) (l : LS) : Option VT := match findK k.norm l.xs with
  | some i => (l.xs[i]?).map (·.2)
  | none => none

/-- What holds of every list that calls can make. -/
structure LS.Ok (l : LS) : Prop where
  once : Once l.xs
  norm : ∀ x ∈ l.xs, x.1.Norm
  len : l.xs.length ≤ 2048
  lo : -1 ≤ l.nx
  hi : l.nx ≤ 9223372036854775807
theorem LS.new_ok : LS.new.Ok := ⟨List.Pairwise.nil, by simp [LS.new], by simp [LS.new], by simp [LS.new], by simp [LS.new]⟩
theorem nextP_bounds {k : K} {nx : Int} (hk : k.Good) (h0 : -1 ≤ nx) (h1 : nx ≤ 9223372036854775807) : -1 ≤ nextP k nx ∧ nextP k nx ≤ 9223372036854775807 := by
  have := hk.hi
  unfold nextP
  split
  · split <;> omega
  · exact ⟨h0, h1⟩
theorem set_same {xs : List It} {i : Nat} {k : K} {v : VT} (hi : i < xs.length) (hk : xs[i].1 = k) : xs.set i (k, v) = xs.set i (xs[i].1, v) := by rw [hk]
theorem setN_ok {k : K} {v : VT} {l : LS} (hk : k.Norm) (h : l.Ok) : (setN k v l).2.Ok := by
  unfold setN
  cases hf : findK k l.xs with
  | some i =>
    have hi := findK_lt hf
    have hat := findK_at hf
    simp only
    refine ⟨?_, fun x hx => ?_, by simpa using h.len, h.lo, h.hi⟩
    · show Once (l.xs.set i (k, v))
      rw [set_same hi hat]; exact once_set h.once hi
    · rcases List.mem_or_eq_of_mem_set hx with hx | rfl
      · exact h.norm x hx
      · exact hk
  | none =>
    simp only
    split
    · exact h
    · have hb := nextP_bounds hk.toGood h.lo h.hi
      refine ⟨once_snoc h.once hf, fun x hx => ?_, by simp; omega, hb.1, hb.2⟩
      rcases List.mem_append.1 hx with hx | hx
      · exact h.norm x hx
      · rw [List.mem_singleton.1 hx]; exact hk
theorem setP_ok {k : K} {v : VT} {l : LS} (hk : k.Good) (h : l.Ok) : (setP k v l).2.Ok := setN_ok (K.norm_is hk) h
theorem appendP_ok {v : VT} {l : LS} (h : l.Ok) : (appendP v l).2.Ok := by
  unfold appendP
  split
  · exact h
  · have hg : (K.mk false l.nx ⟨#[]⟩).Good := ⟨by have := h.lo; show _ ≤ l.nx; omega, h.hi, by show (⟨#[]⟩ : ByteArray).size ≤ _; decide⟩
    split
    · exact setP_ok hg h
    · exact setP_ok hg h
end Go.Proofs.YtnaefnojmiolbaaGreatDoor
