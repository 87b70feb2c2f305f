/-
  Keys, trees of values, and lists of values as plain data: what each call on a list does. Of no program.
  From a walk that answers true and turns nothing that was there to the statement's own form; and arguments opened by their types.
  What the listed variables give; Itoa, Atoi and Norm.
  Trees of values in memory.
  The walk of left: how many of so many items are left behind a value's.
-/
import Derived.Test.YtnaefnojmiolbaaGreatDoorJp3
import Derived.Test.YtnaefnojmiolbaaGreatDoorRows
import Derived.Test.YtnaefnojmiolbaaGreatDoorJp1
import Derived.ProofKit
import Derived.OpenShut
import Derived.SizedLaws
import Derived.Deep.CondSized
import Derived.Deep.Slices
import Derived.Test.YtnaefnojmiolbaaGreatDoorShelf
import Derived.Shelf.Unicode.DecodeSlow
import Derived.Lib.AtoiErrMem
import Derived.Lib.AppendIntMem
import Derived.Deep.RegionHeld3
import Derived.Deep.QuietTactic
import Derived.BigQuiet
namespace Go.Proofs.YtnaefnojmiolbaaGreatDoor

/-- A key: a text, or a number. -/
structure K where
  b : Bool
  n : Int
  t : ByteArray

def K.v (k : K) : Value := .agg #[.bool k.b, .int .i64 k.n, .string k.t]
def K.cells (k : K) : List Value := [.bool k.b, .int .i64 k.n, .string k.t]
def K.same (x y : K) : Bool := x.b == y.b && (x.n == y.n && x.t.toList == y.t.toList)
theorem ba_ext {x y : ByteArray} (h : x.toList = y.toList) : x = y := by
  rw [← str_of x, ← str_of y, h]
theorem K.same_iff {x y : K} : K.same x y = true ↔ x = y := by
  cases x; cases y
  unfold K.same
  simp only [Bool.and_eq_true, beq_iff_eq, K.mk.injEq]
  exact ⟨fun ⟨a, b, c⟩ => ⟨a, b, ba_ext c⟩, fun ⟨a, b, c⟩ => ⟨a, b, by rw [c]⟩⟩
instance : DecidableEq K := fun a b => decidable_of_iff (K.same a b = true) K.same_iff
theorem K.same_self (x : K) : K.same x x = true := K.same_iff.2 rfl
theorem K.same_ne {x y : K} : K.same x y = false ↔ x ≠ y := by
  rw [← Bool.not_eq_true, Ne, K.same_iff]
theorem K.same_comm (x y : K) : K.same x y = K.same y x := by
  rw [Bool.eq_iff_iff, K.same_iff, K.same_iff]
  exact eq_comm
theorem K.v_inj {x y : K} (h : x.v = y.v) : x = y := by
  cases x; cases y
  simp [K.v] at h
  simp [h]

def k0 : K := ⟨false, 0, ⟨#[]⟩⟩
/-- The number that a text of a number's own digits is. -/
def canonP (l : Bs) : Option Int := if (numericP l).2 && (Lib.itoa (numericP l).1 == l) then some (numericP l).1 else none
def K.norm (k : K) : K := if k.b then (match canonP k.t.toList with | some n => ⟨false, n, ⟨#[]⟩⟩ | none => ⟨true, 0, k.t⟩) else ⟨false, k.n, ⟨#[]⟩⟩
/-- Within what a key can be. -/
structure K.Good (k : K) : Prop where
  lo : -9223372036854775808 ≤ k.n
  hi : k.n ≤ 9223372036854775807
  sz : k.t.size ≤ 140737488351232
/-- In its one form. -/
structure K.Norm (k : K) : Prop extends K.Good k where
  same : k.norm = k

theorem sat_bounds (n : Bool) (u : Nat) : -9223372036854775808 ≤ sat n u ∧ sat n u ≤ 9223372036854775807 := by
  unfold sat
  split <;> split <;> omega
theorem numericP_bounds (l : Bs) : -9223372036854775808 ≤ (numericP l).1 ∧ (numericP l).1 ≤ 9223372036854775807 := by
  unfold numericP numOf
  split
  · rename_i n h
    split at h
    · cases h
    · injection h with h
      injection h with h1 h2
      subst h1
      exact sat_bounds _ _
  · exact ⟨by decide, by decide⟩
theorem canonP_some {l : Bs} {n : Int} (h : canonP l = some n) : (-9223372036854775808 ≤ n ∧ n ≤ 9223372036854775807) ∧ Lib.itoa n = l := by
  unfold canonP at h
  split at h
  · rename_i hc
    simp only [Bool.and_eq_true, beq_iff_eq] at hc
    cases h
    exact ⟨numericP_bounds l, hc.2⟩
  · cases h
theorem canonP_itoa {n : Int} (h0 : -9223372036854775808 ≤ n) (h1 : n ≤ 9223372036854775807) : canonP (Lib.itoa n) = some n := by
  unfold canonP
  rw [numeric_itoa0 h0 h1]
  simp
theorem K.norm_good {k : K} (h : k.Good) : k.norm.Good := by
  unfold K.norm
  split
  · split
    · rename_i n hn
      have := canonP_some hn
      exact ⟨this.1.1, this.1.2, by show (⟨#[]⟩ : ByteArray).size ≤ _; decide⟩
    · exact ⟨by show _ ≤ (0 : Int); decide, by show (0 : Int) ≤ _; decide, h.sz⟩
  · exact ⟨h.lo, h.hi, by show (⟨#[]⟩ : ByteArray).size ≤ _; decide⟩
theorem K.norm_norm (k : K) : k.norm.norm = k.norm := by
  unfold K.norm
  cases hb : k.b
  · simp
  · cases hc : canonP k.t.toList
    · simp [hc]
    · simp
theorem K.norm_is {k : K} (h : k.Good) : k.norm.Norm := ⟨K.norm_good h, K.norm_norm k⟩
theorem K.norm_num (n : Int) : (K.mk false n ⟨#[]⟩).norm = ⟨false, n, ⟨#[]⟩⟩ := rfl

/-- A value: its kind, its number, its text, its items. -/
inductive VT where
  | mk (k n : Int) (t : ByteArray) (xs : List (K × VT))
def VT.k : VT → Int | .mk k _ _ _ => k
def VT.n : VT → Int | .mk _ n _ _ => n
def VT.t : VT → ByteArray | .mk _ _ t _ => t
def VT.xs : VT → List (K × VT) | .mk _ _ _ l => l
theorem VT.eta (v : VT) : VT.mk v.k v.n v.t v.xs = v := by cases v; rfl
theorem VT.ind {P : VT → Prop} (h : ∀ k n t l, (∀ x ∈ l, P x.2) → P (.mk k n t l)) : ∀ v, P v
  | .mk k n t l => h k n t l (fun x _ => VT.ind h x.2)
termination_by v => SizeOf.sizeOf v
decreasing_by
  rename_i hx
  have := List.sizeOf_lt_of_mem hx
  cases x
  simp at *
  omega
/-- A value's cells, its items behind c. -/
def VT.cells (v : VT) (c : Value) : List Value := [.int .i64 v.k, .int .i64 v.n, .string v.t, c]
def VT.v (v : VT) (c : Value) : Value := .agg #[.int .i64 v.k, .int .i64 v.n, .string v.t, c]
abbrev It := K × VT
def findK (k : K) (xs : List It) : Option Nat := xs.findIdx? fun x => x.1.same k

theorem findK_lt {k : K} {xs : List It} {i : Nat} (h : findK k xs = some i) : i < xs.length := (List.findIdx?_eq_some_iff_getElem.1 h).1
theorem findK_at {k : K} {xs : List It} {i : Nat} (h : findK k xs = some i) : (xs[i]'(findK_lt h)).1 = k := by
  obtain ⟨_, h2, _⟩ := List.findIdx?_eq_some_iff_getElem.1 h
  exact K.same_iff.1 h2
theorem findK_none {k : K} {xs : List It} : findK k xs = none ↔ ∀ x ∈ xs, x.1 ≠ k := by
  unfold findK
  rw [List.findIdx?_eq_none_iff]
  exact ⟨fun h x hx => K.same_ne.1 (h x hx), fun h x hx => K.same_ne.2 (h x hx)⟩
theorem findK_append (k : K) (xs ys : List It) : findK k (xs ++ ys) = match findK k xs with | some i => some i | none => (findK k ys).map (· + xs.length) := by
  unfold findK
  rw [List.findIdx?_append]
  cases List.findIdx? (fun x => x.1.same k) xs <;> rfl
theorem findK_snoc {k k' : K} {v : VT} {xs : List It} (h : findK k xs = none) : findK k' (xs ++ [(k, v)]) = if k' = k then some xs.length else findK k' xs := by
  rw [findK_append]
  by_cases e : k' = k
  · subst e
    rw [h, if_pos rfl]
    show (List.findIdx? _ [(k', v)]).map _ = _
    simp [List.findIdx?_singleton, K.same_self]
  · rw [if_neg e]
    cases findK k' xs with
    | some i => rfl
    | none =>
      show (List.findIdx? _ [(k, v)]).map _ = _
      simp [List.findIdx?_singleton, K.same_ne.2 (fun x => e x.symm)]
/-- Keys that stand once. -/
def Once (xs : List It) : Prop := xs.Pairwise fun x y => x.1 ≠ y.1
theorem findK_once {xs : List It} (h : Once xs) {i : Nat} (hi : i < xs.length) : findK (xs[i]).1 xs = some i := by
  unfold findK
  rw [List.findIdx?_eq_some_iff_getElem]
  refine ⟨hi, K.same_self _, fun j hj => ?_⟩
  have := List.pairwise_iff_getElem.1 h j i (by omega) hi hj
  simpa using K.same_ne.2 this
theorem findK_set {xs : List It} {i : Nat} {v : VT} (k : K) (hi : i < xs.length) : findK k (xs.set i (xs[i].1, v)) = findK k xs := by
  unfold findK
  induction xs generalizing i with
  | nil => simp at hi
  | cons x r ih =>
    cases i with
    | zero => simp [List.findIdx?_cons]
    | succ i =>
      simp only [List.set_cons_succ, List.getElem_cons_succ, List.findIdx?_cons]
      rw [ih]
theorem once_set {xs : List It} {i : Nat} {v : VT} (h : Once xs) (hi : i < xs.length) : Once (xs.set i (xs[i].1, v)) := by
  unfold Once at *
  rw [List.pairwise_iff_getElem] at *
  intro a b ha hb hab
  have h' := h a b (by simpa using ha) (by simpa using hb) hab
  simp only [List.getElem_set]
  split
  · rename_i e
    subst e
    split
    · omega
    · exact h'
  · split
    · rename_i e; subst e; exact h'
    · exact h'
theorem once_snoc {xs : List It} {k : K} {v : VT} (h : Once xs) (hf : findK k xs = none) : Once (xs ++ [(k, v)]) := by
  unfold Once at *
  rw [List.pairwise_append]
  refine ⟨h, by simp, fun a ha b hb => ?_⟩
  rw [List.mem_singleton.1 hb]
  exact findK_none.1 hf a ha
theorem once_del {xs : List It} (h : Once xs) (i : Nat) : Once (xs.eraseIdx i) := by
  unfold Once at *
  exact List.Pairwise.sublist (List.eraseIdx_sublist xs i) h
/-- Behind a key that is struck the places go one down. -/
theorem findK_del {xs : List It} (h : Once xs) {i : Nat} (hi : i < xs.length) (k : K) : findK k (xs.eraseIdx i) = match findK k xs with | some j => if j = i then none else if j < i then some j else some (j - 1) | none => none := by
  cases hf : findK k xs with
  | none =>
    have h1 := findK_none.1 hf
    exact findK_none.2 fun x hx => h1 x (List.mem_of_mem_eraseIdx hx)
  | some j =>
    have hj := findK_lt hf
    have hk := findK_at hf
    have hd := once_del h i
    simp only
    by_cases e : j = i
    · subst e
      rw [if_pos rfl]
      refine findK_none.2 fun x hx => ?_
      obtain ⟨a, ha, rfl⟩ := List.getElem_of_mem hx
      rw [List.getElem_eraseIdx]
      unfold Once at h
      have hp := List.pairwise_iff_getElem.1 h
      rw [List.length_eraseIdx_of_lt hj] at ha
      split
      · rw [← hk]; exact hp a j (by omega) hj (by omega)
      · rw [← hk]; exact fun e => hp j (a + 1) hj (by omega) (by omega) e.symm
    · rw [if_neg e]
      by_cases hlt : j < i
      · rw [if_pos hlt]
        have hjl : j < (xs.eraseIdx i).length := by rw [List.length_eraseIdx_of_lt hi]; omega
        have e2 : (xs.eraseIdx i)[j] = xs[j] := by rw [List.getElem_eraseIdx, dif_pos hlt]
        have := findK_once hd hjl
        rw [e2, hk] at this
        exact this
      · rw [if_neg hlt]
        have hjl : j - 1 < (xs.eraseIdx i).length := by rw [List.length_eraseIdx_of_lt hi]; omega
        have e2 : (xs.eraseIdx i)[j - 1] = xs[j] := by
          rw [List.getElem_eraseIdx, dif_neg (by omega)]
          congr 1; omega
        have := findK_once hd hjl
        rw [e2, hk] at this
        exact this

/-- A list's items, and its next number. -/
structure LS where
  xs : List It
  nx : Int
def LS.new : LS := ⟨[], 0⟩
def nextP (k : K) (nx : Int) : Int := if k.b = false ∧ 0 ≤ nx ∧ nx ≤ k.n then (if k.n = 9223372036854775807 then -1 else k.n + 1) else nx
/-- Set at a key in its one form. -/
def setN (k : K) (v : VT) (l : LS) : Int × LS := match findK k l.xs with
  | some i => (0, ⟨l.xs.set i (k, v), l.nx⟩)
  | none => if 2048 ≤ l.xs.length then (8, l) else (0, ⟨l.xs ++ [(k, v)], nextP k l.nx⟩)
def setP (k : K) (v : VT) (l : LS) : Int × LS := setN k.norm v l
def appendP (v : VT) (l : LS) : (K × Int) × LS := if l.nx < 0 then ((k0, 8), l) else
  if (setP ⟨false, l.nx, ⟨#[]⟩⟩ v l).1 = 0 then ((⟨false, l.nx, ⟨#[]⟩⟩, 0), (setP ⟨false, l.nx, ⟨#[]⟩⟩ v l).2) else ((k0, (setP ⟨false, l.nx, ⟨#[]⟩⟩ v l).1), (setP ⟨false, l.nx, ⟨#[]⟩⟩ v l).2)
def getP (k : K) (l : LS) : Option VT := match findK k.norm l.xs with
  | some i => (l.xs[i]?).map (·.2)
  | none => none

/-- What holds of every list that calls can make. -/
structure LS.Ok (l : LS) : Prop where
  once : Once l.xs
  norm : ∀ x ∈ l.xs, x.1.Norm
  len : l.xs.length ≤ 2048
  lo : -1 ≤ l.nx
  hi : l.nx ≤ 9223372036854775807
theorem LS.new_ok : LS.new.Ok := ⟨List.Pairwise.nil, by simp [LS.new], by simp [LS.new], by simp [LS.new], by simp [LS.new]⟩
theorem nextP_bounds {k : K} {nx : Int} (hk : k.Good) (h0 : -1 ≤ nx) (h1 : nx ≤ 9223372036854775807) : -1 ≤ nextP k nx ∧ nextP k nx ≤ 9223372036854775807 := by
  have := hk.hi
  unfold nextP
  split
  · split <;> omega
  · exact ⟨h0, h1⟩
theorem set_same {xs : List It} {i : Nat} {k : K} {v : VT} (hi : i < xs.length) (hk : xs[i].1 = k) : xs.set i (k, v) = xs.set i (xs[i].1, v) := by rw [hk]
theorem setN_ok {k : K} {v : VT} {l : LS} (hk : k.Norm) (h : l.Ok) : (setN k v l).2.Ok := by
  unfold setN
  cases hf : findK k l.xs with
  | some i =>
    have hi := findK_lt hf
    have hat := findK_at hf
    simp only
    refine ⟨?_, fun x hx => ?_, by simpa using h.len, h.lo, h.hi⟩
    · show Once (l.xs.set i (k, v))
      rw [set_same hi hat]; exact once_set h.once hi
    · rcases List.mem_or_eq_of_mem_set hx with hx | rfl
      · exact h.norm x hx
      · exact hk
  | none =>
    simp only
    split
    · exact h
    · have hb := nextP_bounds hk.toGood h.lo h.hi
      refine ⟨once_snoc h.once hf, fun x hx => ?_, by simp; omega, hb.1, hb.2⟩
      rcases List.mem_append.1 hx with hx | hx
      · exact h.norm x hx
      · rw [List.mem_singleton.1 hx]; exact hk
theorem setP_ok {k : K} {v : VT} {l : LS} (hk : k.Good) (h : l.Ok) : (setP k v l).2.Ok := setN_ok (K.norm_is hk) h
theorem appendP_ok {v : VT} {l : LS} (h : l.Ok) : (appendP v l).2.Ok := by
  unfold appendP
  split
  · exact h
  · have hg : (K.mk false l.nx ⟨#[]⟩).Good := ⟨by have := h.lo; show _ ≤ l.nx; omega, h.hi, by show (⟨#[]⟩ : ByteArray).size ≤ _; decide⟩
    split
    · exact setP_ok hg h
    · exact setP_ok hg h
end Go.Proofs.YtnaefnojmiolbaaGreatDoor

namespace Go.Proofs.YtnaefnojmiolbaaGreatDoor
open Go.RowKit Go.ChangeShapes Go.WideShapes Go.ChangeAt

section
variable {H : Type} {enc : TypeId × Value → H} {P : Program}

/-- All arguments read behind the call as they did. -/
theorem trodAll_below (hl : laidOutB P = true) {W W' : World} (hb : Below W.heap.size W W') : ∀ (ts : List TypeId) (vs : List Value) (ds : List (DataW H)) (ps : List MemPlace),
    (∀ t ∈ ts, P.readableRec t = true ∧ t < P.types.size) → DataW.TrodAll enc P W 0 (fun _ => true) true ts vs ds ps → (∀ x ∈ ps, x.block < W.heap.size) →
    DataW.TrodAll enc P W' 0 (fun b => decide (b < W.heap.size)) true ts vs ds ps
  | [], vs, ds, ps, _, h, _ => by
    obtain ⟨rfl, rfl, rfl⟩ := trodAll_nil h
    exact trodAll_mk0
  | t :: ts, vs, ds, ps, hr, h, hlt => by
    obtain ⟨v, vs', d, ds', p, q, rfl, rfl, rfl, h1, h2⟩ := trodAll_cons h
    exact trodAll_cons_mk (Below.trod hl (hr t (by simp)).1 (hr t (by simp)).2 h1 hb (fun x hx => hlt x (by simp [hx]))) (trodAll_below hl hb ts vs' ds' q (fun t ht => hr t (by simp [ht])) h2 (fun x hx => hlt x (by simp [hx])))

theorem law_post {f : Func} {s : ChangeSpec} {tb : TypeId} {W W' : World} {args : Array Value} {ds gs : List (DataW H)} {before : List MemPlace}
    (hl : laidOutB P = true) (hr : f.params.toList.all (fun t => P.readableRec t && decide (t < P.types.size)) = true) (hres : f.resultTypes = #[tb]) (htb : P.underlying tb = some .bool) (hv : s.vars = [])
    (hs : s.fn H (ds ++ gs) = { results := [.lit (.bool true)], args := ds })
    (hW : DataW.Whole enc P f.params.toList s.vars false W args.toList ds gs before) (hb : Below W.heap.size W W') :
    s.post enc P f false true false false W args (.bool true) W' := by
  have hW' := hW
  obtain ⟨p, q, hA, hV, rfl, _, _⟩ := hW
  have hq : q = [] := by rw [hv] at hV; exact (trodVars_none hV).2
  subst hq
  have hlt : ∀ x ∈ p, x.block < W.heap.size := fun x hx => hW'.lt x (by simp [hx])
  refine ⟨ds, gs, p ++ [], [], p, [], hW', ?_, ?_, ?_, hb.frame _, fun h => by cases h⟩
  · rw [hres, hs]
    exact trodAll_mk1 (shut_bool htb true)
  · rw [hs]
    refine trodAll_below hl hb _ _ _ _ (fun t ht => ?_) hA hlt
    have := List.all_eq_true.1 hr t ht
    simpa using this
  · rw [hs, hv]
    rfl

/-- Rows of a slice that came in, each opened by its element's law. -/
theorem open_rows {α : Type} {W : World} {t e : TypeId} {size : Nat} {cells : α → List Value} {good : α → Prop} {fuel : Nat} {cs : List Value} {x : DataW H × List MemPlace}
    (ht : P.underlying t = some (.slice e)) (hsz : P.cellsOf e = size) (hpos : 0 < size)
    (hel : ∀ (n : Nat) (cs : List Value) (x : DataW H × List MemPlace), cs.length = size → DataW.trod enc P W 0 (fun _ => true) true n e cs = some x → ∃ a, cs = cells a ∧ good a)
    (h : DataW.trod enc P W 0 (fun _ => true) true fuel t cs = some x) :
    ∃ ao cap, ∃ xs : List α, cs = [.slice ao xs.length cap] ∧ xs.length ≤ cap ∧ cap ≤ maxLen ∧ Lies W size ao (xs.map cells) ∧ (∀ a ∈ xs, good a) ∧ (ao = none → xs = [] ∧ cap = 0) ∧
      (∀ ds ps, x = (ds, ps) → (ds = .nil ∧ xs = []) ∨ ∃ el sp, ds = .slice el sp ∧ el.length = xs.length ∧ sp.length = cap - xs.length) := by
  rcases Deep.open_slice ht h with ⟨rfl, rfl⟩ | ⟨a, len, cap, m, n, D, Pl, rfl, _, hl, hm, hmm, rfl, hx⟩
  · exact ⟨none, 0, [], rfl, by simp, by simp, Lies.nil _ _ _, by simp, fun _ => ⟨rfl, rfl⟩, fun ds ps e => .inl (by cases e; exact ⟨rfl, rfl⟩)⟩
  · obtain rfl : m = cap := by simpa using hmm
    have key : ∀ i, i < len → ∃ r : α, good r ∧ (W.cells? 0 (a.add (i * size)) size = some (cells r)) := by
      intro i hi
      obtain ⟨cs', h1, h2⟩ := hx i (by omega)
      rw [hsz] at h1
      obtain ⟨_, hlen, _⟩ := World.cells?_some h1
      obtain ⟨r, rfl, hg⟩ := hel n cs' _ hlen h2
      exact ⟨r, hg, h1⟩
    have lst : ∀ k, k ≤ len → ∃ xs : List α, xs.length = k ∧ (∀ r ∈ xs, good r) ∧ ∀ i r, xs[i]? = some r → W.cells? 0 (a.add (i * size)) size = some (cells r) := by
      intro k
      induction k with
      | zero => exact fun _ => ⟨[], rfl, by simp, by simp⟩
      | succ k ih =>
        intro hk
        obtain ⟨xs, h1, h2, h3⟩ := ih (by omega)
        obtain ⟨r, hg, hr⟩ := key k (by omega)
        refine ⟨xs ++ [r], by simp [h1], ?_, ?_⟩
        · intro y hy
          rcases List.mem_append.1 hy with hy | hy
          · exact h2 y hy
          · simp at hy; subst hy; exact hg
        · intro i y hy
          by_cases hi : i < k
          · rw [List.getElem?_append_left (by omega)] at hy; exact h3 i y hy
          · have hlt := (List.getElem?_eq_some_iff.1 hy).1
            simp [h1] at hlt
            obtain rfl : i = k := by omega
            rw [List.getElem?_append_right (by omega), h1] at hy
            simp at hy; subst hy; exact hr
    obtain ⟨xs, hlen, hg, hc⟩ := lst len (Nat.le_refl _)
    refine ⟨some a, m, xs, by rw [hlen], by omega, hm, ?_, hg, (fun e => by cases e), fun ds ps e => .inr ?_⟩
    · intro i r hi
      rw [List.getElem?_map] at hi
      cases hxi : xs[i]? with
      | none => rw [hxi] at hi; cases hi
      | some y =>
        rw [hxi] at hi
        cases hi
        obtain ⟨_, hl', hcell⟩ := World.cells?_some (hc i y hxi)
        have hlt : i < xs.length := (List.getElem?_eq_some_iff.1 hxi).1
        obtain ⟨_, hl0, hcell0⟩ := World.cells?_some (hc 0 _ (List.getElem?_eq_getElem (by omega)))
        have h00 := hcell0 0 hpos
        have h0 := hcell 0 hpos
        have hspot : a.spot = none := by
          rw [Nat.zero_mul, show (a.add 0).add 0 = a from rfl] at h00
          cases hsp : a.spot with
          | none => rfl
          | some s =>
            exfalso
            unfold World.cell? at h00
            rw [List.getElem?_eq_getElem (by omega)] at h00
            split at h00
            · rw [hsp] at h00; simp at h00
            · cases h00
        obtain ⟨g, off, spot⟩ := a
        simp at hspot
        subst hspot
        refine ⟨g, off, rfl, ?_, hl', fun j u hj => ?_⟩
        · rw [Addr.add_lit, Addr.add_lit] at h0
          have h0' : W.cell? ⟨g, off + i * size + 0, none⟩ = some ((cells y)[0]'(by omega)) := by rw [h0]; simp [hl', hpos]
          exact World.block_lt_of_cell? W _ h0'
        · have hj' : j < size := by rw [← hl']; exact (List.getElem?_eq_some_iff.1 hj).1
          have hcj := hcell j hj'
          rw [Addr.add_lit, Addr.add_lit] at hcj
          rw [hcj, hj]
    · cases e
      exact ⟨_, _, rfl, by simp [hlen], by simp [hlen]⟩
end
end Go.Proofs.YtnaefnojmiolbaaGreatDoor

namespace Go.Proofs.YtnaefnojmiolbaaGreatDoor
open Go.RowKit

/-- What the listed variables read as. -/
structure Tabs (w : World) : Prop where
  pow : Lib.TabIs Tryz.prog w "internal/strconv.uint64pow10" .u64 Lib.pow10Tab
  rng : ∃ tp p, w.var? Tryz.prog "strconv.ErrRange" = some #[.iface tp p]
  syn : ∃ tp p, w.var? Tryz.prog "strconv.ErrSyntax" = some #[.iface tp p]
  len : ∃ m, w.cell? ⟨2, 0, none⟩ = some (.int .i64 m)
  utf : Lib.Utf8Tabs 0 1 w
theorem var_keep {P : Program} {w w' : World} {n : String} {cs : Array Value} (h : w.var? P n = some cs) (hb : Below w.heap.size w w') : w'.var? P n = some cs := by
  cases hg : P.globalNamed n with
  | none => unfold World.var? at h; rw [hg] at h; cases h
  | some g =>
    have hlt : g < w.heap.size := by
      rcases Nat.lt_or_ge g w.heap.size with hl | hl
      · exact hl
      · unfold World.var? at h
        rw [hg] at h
        simp only [Option.bind_some] at h
        rw [Array.getElem?_eq_none hl] at h
        cases h
    exact var?_below hb hg hlt h
theorem cell_lt {w : World} {p : Addr} {v : Value} (h : w.cell? p = some v) : p.block < w.heap.size := by
  rcases Nat.lt_or_ge p.block w.heap.size with hl | hl
  · exact hl
  · simp [World.cell?, Array.getElem?_eq_none hl] at h
theorem utf_keep {w w' : World} (h : Lib.Utf8Tabs 0 1 w) (hb : Below w.heap.size w w') : Lib.Utf8Tabs 0 1 w' :=
  ⟨fun c hc => (hb.cell (cell_lt (h.1 c hc))).trans (h.1 c hc), fun i hi => ⟨(hb.cell (cell_lt (h.2 i hi).1)).trans (h.2 i hi).1, (hb.cell (cell_lt (h.2 i hi).2)).trans (h.2 i hi).2⟩⟩
theorem Tabs.mono {w w' : World} (h : Tabs w) (hb : Below w.heap.size w w') : Tabs w' :=
  ⟨var_keep h.pow hb, let ⟨a, b, e⟩ := h.rng; ⟨a, b, var_keep e hb⟩, let ⟨a, b, e⟩ := h.syn; ⟨a, b, var_keep e hb⟩, let ⟨m, e⟩ := h.len; ⟨m, (hb.cell (cell_lt e)).trans e⟩, utf_keep h.utf hb⟩
theorem Tabs.mono' {B : Nat} {w w' : World} (h : Tabs w) (hb : Below B w w') (hB : w.heap.size ≤ B) : Tabs w' :=
  h.mono ⟨hb.os, hb.tape, hb.output, hb.size, fun k hk => hb.block k (Nat.lt_of_lt_of_le hk hB)⟩

def BoolPost (w : World) (b : Bool) (e : Ending) (w' : World) : Prop := e = .returned (.bool b) ∧ Below w.heap.size w w'
def IntPost (w : World) (x : Int) (e : Ending) (w' : World) : Prop := e = .returned (.int .i64 x) ∧ Below w.heap.size w w'
theorem below_alloc1 (w : World) (o : Obj) : Below w.heap.size w (w.alloc o) := (Below.refl _ w).alloc (Nat.le_refl _) o
theorem belowN {B : Nat} {a w : World} (h : Below B a w) (n : Nat) : Below B a (w.drewN n) := ⟨h.os, h.tape, h.output, h.size, h.block⟩
theorem belowD {B : Nat} {a w : World} (h : Below B a w) : Below B a w.drew := ⟨h.os, h.tape, h.output, h.size, h.block⟩
theorem bl_eq (s : ByteArray) : s.toList = s.data.toList := ByteArray.toList_eq s
theorem wr64 {x : Int} (h0 : -9223372036854775808 ≤ x) (h1 : x ≤ 9223372036854775807) : wrap64 x = x := by unfold wrap64; omega
theorem wr_sm {x : Int} (h0 : -9223372036854775808 ≤ x) (h1 : x ≤ 9223372036854775807) : wrap64 x = x ∧ IntKind.i64.wrap x = x := ⟨wr64 h0 h1, wrap_in h0 h1⟩
theorem itoa_short {n : Int} (h0 : -9223372036854775808 ≤ n) (h1 : n ≤ 9223372036854775807) : (str (Lib.itoa n)).size ≤ 21 := by
  have h := Lib.itoa_length_le n h0 h1
  rw [str_size]
  omega
/-- A value lies in a block of the call's own. -/
structure At1 (w W : World) (B : Nat) (oa : Obj) : Prop where
  a : W.heap[B]? = some oa
  below : Below w.heap.size w W
theorem At1.mono {w W W' : World} {B : Nat} {oa : Obj} (h : At1 w W B oa) (hb : Below W.heap.size W W') : At1 w W' B oa :=
  ⟨(hb.block _ (lt_of_block h.a)).trans h.a, h.below.trans (hb.mono h.below.size)⟩
theorem At1.drew {w W : World} {B : Nat} {oa : Obj} (h : At1 w W B oa) : At1 w W.drew B oa := ⟨h.a, h.below.drew⟩
theorem at1_start (w : World) (oa : Obj) : At1 w (w.alloc oa) w.heap.size oa := ⟨heap_alloc_new w oa, below_alloc1 w oa⟩
/-- Two values lie in blocks of the call's own. -/
structure At2 (w W : World) (B : Nat) (oa ob : Obj) : Prop where
  a : W.heap[B]? = some oa
  b : W.heap[B + 1]? = some ob
  below : Below w.heap.size w W
theorem At2.mono {w W W' : World} {B : Nat} {oa ob : Obj} (h : At2 w W B oa ob) (hb : Below W.heap.size W W') : At2 w W' B oa ob :=
  ⟨(hb.block _ (lt_of_block h.a)).trans h.a, (hb.block _ (lt_of_block h.b)).trans h.b, h.below.trans (hb.mono h.below.size)⟩
theorem At2.drew {w W : World} {B : Nat} {oa ob : Obj} (h : At2 w W B oa ob) : At2 w W.drew B oa ob := ⟨h.a, h.b, h.below.drew⟩
theorem at2_start (w : World) (oa ob : Obj) : At2 w ((w.alloc oa).alloc ob) w.heap.size oa ob :=
  ⟨(Below.heap_alloc _ _ _ (by simp)).trans (heap_alloc_new w oa), by have h := heap_alloc_new (w.alloc oa) ob; simpa using h, (below_alloc1 w oa).alloc (by simp) ob⟩
/-- What the region of one value keeps. -/
def S1 (w : World) (B : Nat) (oa : Obj) (W : World) : Prop := Tabs w ∧ At1 w W B oa
theorem S1.tabs {w W : World} {B : Nat} {oa : Obj} (h : S1 w B oa W) : Tabs W := h.1.mono h.2.below
theorem S1.below {w W : World} {B : Nat} {oa : Obj} (h : S1 w B oa W) : Below w.heap.size w W := h.2.below
theorem S1.mono {w W W' : World} {B : Nat} {oa : Obj} (h : S1 w B oa W) (hb : Below W.heap.size W W') : S1 w B oa W' := ⟨h.1, h.2.mono hb⟩
theorem S1.drew {w W : World} {B : Nat} {oa : Obj} (h : S1 w B oa W) : S1 w B oa W.drew := ⟨h.1, h.2.drew⟩
/-- What the region of two values keeps. -/
def S2 (w : World) (B : Nat) (oa ob : Obj) (W : World) : Prop := Tabs w ∧ At2 w W B oa ob
theorem S2.tabs {w W : World} {B : Nat} {oa ob : Obj} (h : S2 w B oa ob W) : Tabs W := h.1.mono h.2.below
theorem S2.below {w W : World} {B : Nat} {oa ob : Obj} (h : S2 w B oa ob W) : Below w.heap.size w W := h.2.below
theorem S2.mono {w W W' : World} {B : Nat} {oa ob : Obj} (h : S2 w B oa ob W) (hb : Below W.heap.size W W') : S2 w B oa ob W' := ⟨h.1, h.2.mono hb⟩
theorem S2.drew {w W : World} {B : Nat} {oa ob : Obj} (h : S2 w B oa ob W) : S2 w B oa ob W.drew := ⟨h.1, h.2.drew⟩
/-- A guard whose own operation was passed over. -/
theorem gA {α : Type} {l : List α} {i : Nat} : l.toArray[i]? = l[i]? := List.getElem?_toArray
theorem gS {α : Type} {a : α} {l : List α} {i : Nat} : (a :: l)[i + 1]? = l[i]? := List.getElem?_cons_succ
theorem gZ {α : Type} {a : α} {l : List α} : (a :: l)[0]? = some a := List.getElem?_cons_zero
theorem pA {α : Type} {l : List α} {i : Nat} {a : α} : l.toArray.setIfInBounds i a = (l.set i a).toArray := List.setIfInBounds_toArray ..
theorem pZ {α : Type} {a b : α} {l : List α} : (a :: l).set 0 b = b :: l := List.set_cons_zero
theorem pS {α : Type} {a b : α} {l : List α} {i : Nat} : (a :: l).set (i + 1) b = a :: l.set i b := List.set_cons_succ
theorem yld_undef : Go.yielded.match_1 (fun _ => Option Bool) (some undef) (fun b => some b) (fun _ => none) = none := rfl
end Go.Proofs.YtnaefnojmiolbaaGreatDoor

namespace Go.Proofs.YtnaefnojmiolbaaGreatDoor
open Go.RowKit

mutual
/-- Within what a value can be, all through. -/
def VT.Good : VT → Prop
  | .mk k n t l => (-9223372036854775808 ≤ k ∧ k ≤ 9223372036854775807) ∧ (-9223372036854775808 ≤ n ∧ n ≤ 9223372036854775807) ∧ t.size ≤ 140737488351232 ∧ GoodL l
def GoodL : List (K × VT) → Prop
  | [] => True
  | (k, v) :: r => k.Good ∧ v.Good ∧ GoodL r
end
theorem goodL_iff : ∀ {l : List (K × VT)}, GoodL l ↔ ∀ x ∈ l, x.1.Good ∧ x.2.Good
  | [] => by simp [GoodL]
  | (k, v) :: r => by
    rw [GoodL, goodL_iff (l := r)]
    simp
    exact ⟨fun ⟨a, b, c⟩ => ⟨⟨a, b⟩, c⟩, fun ⟨⟨a, b⟩, c⟩ => ⟨a, b, c⟩⟩
theorem VT.Good.parts {v : VT} (h : v.Good) : (-9223372036854775808 ≤ v.k ∧ v.k ≤ 9223372036854775807) ∧ (-9223372036854775808 ≤ v.n ∧ v.n ≤ 9223372036854775807) ∧ v.t.size ≤ 140737488351232 ∧ ∀ x ∈ v.xs, x.1.Good ∧ x.2.Good := by
  cases v
  rw [VT.Good] at h
  exact ⟨h.1, h.2.1, h.2.2.1, goodL_iff.1 h.2.2.2⟩
theorem VT.good_mk {k n : Int} {t : ByteArray} {l : List (K × VT)} (h1 : -9223372036854775808 ≤ k ∧ k ≤ 9223372036854775807) (h2 : -9223372036854775808 ≤ n ∧ n ≤ 9223372036854775807) (h3 : t.size ≤ 140737488351232) (h4 : ∀ x ∈ l, x.1.Good ∧ x.2.Good) : (VT.mk k n t l).Good := by
  rw [VT.Good]
  exact ⟨h1, h2, h3, goodL_iff.2 h4⟩

/-- One item's cells. -/
def itCells (x : It) (c : Value) : List Value := [.bool x.1.b, .int .i64 x.1.n, .string x.1.t, .int .i64 x.2.k, .int .i64 x.2.n, .string x.2.t, c]
theorem itCells_len (x : It) (c : Value) : (itCells x c).length = 7 := rfl
def rowsV (xs : List It) (c : Nat → Value) : List (List Value) := xs.mapIdx fun j x => itCells x (c j)
theorem rowsV_len (xs : List It) (c : Nat → Value) : (rowsV xs c).length = xs.length := by simp [rowsV]
theorem rowsV_get {xs : List It} {c : Nat → Value} {j : Nat} (h : j < xs.length) : (rowsV xs c)[j]? = some (itCells xs[j] (c j)) := by simp [rowsV, h]
/-- Items lie behind a slice value, in blocks of A, all through. -/
inductive VAt (A : Nat → Prop) (w : World) : Value → List It → Prop
  | mk (ao : Option Addr) (cap : Nat) (xs : List It) (c : Nat → Value) (lies : Lies w 7 ao (rowsV xs c)) (blk : ∀ g off, ao = some ⟨g, off, none⟩ → xs ≠ [] → A g)
      (len : xs.length ≤ 140737488355328) (sub : ∀ (j : Nat) (hj : j < xs.length), VAt A w (c j) (xs[j]).2.xs) : VAt A w (.slice ao xs.length cap) xs
theorem VAt.form {A : Nat → Prop} {w : World} {v : Value} {xs : List It} (h : VAt A w v xs) : ∃ ao cap, v = .slice ao xs.length cap ∧ xs.length ≤ 140737488355328 := by
  cases h with
  | mk ao cap xs c _ _ len _ => exact ⟨ao, cap, rfl, len⟩
theorem VAt.nil (A : Nat → Prop) (w : World) (ao : Option Addr) (cap : Nat) : VAt A w (.slice ao 0 cap) [] :=
  .mk ao cap [] (fun _ => .bool false) (Lies.nil _ _ _) (fun _ _ _ h => absurd rfl h) (by simp) (fun j hj => by simp at hj)
/-- One item. -/
theorem VAt.at {A : Nat → Prop} {w : World} {ao : Option Addr} {cap m : Nat} {xs : List It} (h : VAt A w (.slice ao m cap) xs) {j : Nat} (hj : j < xs.length) :
    ∃ g off c, ao = some ⟨g, off, none⟩ ∧ g < w.heap.size ∧ A g ∧ VAt A w c (xs[j]).2.xs ∧
      w.cell? ⟨g, off + j * 7, none⟩ = some (.bool xs[j].1.b) ∧ w.cell? ⟨g, off + j * 7 + 1, none⟩ = some (.int .i64 xs[j].1.n) ∧ w.cell? ⟨g, off + j * 7 + 2, none⟩ = some (.string xs[j].1.t) ∧
      w.cell? ⟨g, off + j * 7 + 3, none⟩ = some (.int .i64 xs[j].2.k) ∧ w.cell? ⟨g, off + j * 7 + 4, none⟩ = some (.int .i64 xs[j].2.n) ∧ w.cell? ⟨g, off + j * 7 + 5, none⟩ = some (.string xs[j].2.t) ∧ w.cell? ⟨g, off + j * 7 + 6, none⟩ = some c := by
  generalize hv : Value.slice ao m cap = v at h
  cases h with
  | mk ao' cap' xs c lies blk len sub =>
    cases hv
    obtain ⟨g, off, rfl, hg, -, hc⟩ := lies j _ (rowsV_get hj)
    have d0 := hc 0 _ rfl
    rw [Nat.add_zero] at d0
    exact ⟨g, off, c j, rfl, hg, blk g off rfl (fun e => by subst e; simp at hj), sub j hj, d0, hc 1 _ rfl, hc 2 _ rfl, hc 3 _ rfl, hc 4 _ rfl, hc 5 _ rfl, hc 6 _ rfl⟩
/-- One item, by name. -/
theorem VAt.get {A : Nat → Prop} {w : World} {ao : Option Addr} {cap m : Nat} {xs : List It} (h : VAt A w (.slice ao m cap) xs) {j : Nat} (hj : j < xs.length) :
    ∃ q x g off c, xs[j]? = some (q, x) ∧ (q, x) ∈ xs ∧ ao = some ⟨g, off, none⟩ ∧ g < w.heap.size ∧ A g ∧ VAt A w c x.xs ∧
      w.cell? ⟨g, off + j * 7, none⟩ = some (.bool q.b) ∧ w.cell? ⟨g, off + j * 7 + 1, none⟩ = some (.int .i64 q.n) ∧ w.cell? ⟨g, off + j * 7 + 2, none⟩ = some (.string q.t) ∧
      w.cell? ⟨g, off + j * 7 + 3, none⟩ = some (.int .i64 x.k) ∧ w.cell? ⟨g, off + j * 7 + 4, none⟩ = some (.int .i64 x.n) ∧ w.cell? ⟨g, off + j * 7 + 5, none⟩ = some (.string x.t) ∧ w.cell? ⟨g, off + j * 7 + 6, none⟩ = some c := by
  obtain ⟨g, off, c, rest⟩ := h.at hj
  exact ⟨xs[j].1, xs[j].2, g, off, c, by rw [List.getElem?_eq_getElem hj], List.getElem_mem hj, rest⟩
theorem drop_at {α : Type} {l : List α} {j : Nat} {x : α} (h : l[j]? = some x) : l.drop j = x :: l.drop (j + 1) := by
  obtain ⟨hj, rfl⟩ := List.getElem?_eq_some_iff.1 h
  exact List.drop_eq_getElem_cons hj
theorem VAt.kept {A B : Nat → Prop} {w w' : World} {v : Value} {xs : List It} (h : VAt A w v xs) (hk : ∀ g, A g → g < w.heap.size → w'.heap[g]? = w.heap[g]? ∧ g < w'.heap.size ∧ B g) : VAt B w' v xs := by
  induction h with
  | mk ao cap xs c lies blk len _ ih =>
    refine .mk ao cap xs c (fun i r hr => ?_) (fun g off e hne => ?_) len ih
    · obtain ⟨g, off, e, hg, hl, hc⟩ := lies i r hr
      have hne : xs ≠ [] := fun e => by subst e; simp [rowsV] at hr
      obtain ⟨h1, h2, _⟩ := hk g (blk g off e hne) hg
      exact ⟨g, off, e, h2, hl, fun j u hj => (World.cell?_of_block (w := w) h1).trans (hc j u hj)⟩
    · obtain ⟨g', off', e', hg, -, -⟩ := lies 0 _ (rowsV_get (List.length_pos_iff.2 hne))
      rw [e] at e'; cases e'
      exact (hk g (blk g off e hne) hg).2.2
theorem VAt.mod {A F : Nat → Prop} {w w' : World} {v : Value} {xs : List It} (h : VAt A w v xs) (m : Mod F w w') (hF : ∀ g, A g → g < w.heap.size → ¬ F g) : VAt A w' v xs :=
  h.kept fun g ha hg => ⟨m.block g hg (hF g ha hg), m.lt hg, ha⟩
theorem VAt.under {A : Nat → Prop} {w w' : World} {v : Value} {xs : List It} (h : VAt A w v xs) (hb : Below w.heap.size w w') : VAt A w' v xs :=
  h.kept fun g ha hg => ⟨hb.block g hg, Nat.lt_of_lt_of_le hg hb.size, ha⟩
theorem VAt.mono {A B : Nat → Prop} {w : World} {v : Value} {xs : List It} (h : VAt A w v xs) (hab : ∀ g, A g → g < w.heap.size → B g) : VAt B w v xs :=
  h.kept fun g ha hg => ⟨rfl, hg, hab g ha hg⟩
/-- Anywhere. -/
abbrev VIn (w : World) (v : Value) (xs : List It) : Prop := VAt (fun _ => True) w v xs
theorem VAt.any {A : Nat → Prop} {w : World} {v : Value} {xs : List It} (h : VAt A w v xs) : VIn w v xs := h.mono fun _ _ _ => trivial
/-- One item as it lies in a later world. -/
theorem VAt.getB {A : Nat → Prop} {w wr : World} {B : Nat} {ao : Option Addr} {cap m : Nat} {xs : List It} (h : VAt A w (.slice ao m cap) xs) {j : Nat} (hj : j < xs.length) (hb : Below B w wr) (hB : B = w.heap.size) :
    ∃ q x g off co cc, xs[j]? = some (q, x) ∧ (q, x) ∈ xs ∧ ao = some ⟨g, off, none⟩ ∧ VIn wr (.slice co x.xs.length cc) x.xs ∧
      wr.cell? ⟨g, off + j * 7, none⟩ = some (.bool q.b) ∧ wr.cell? ⟨g, off + j * 7 + 1, none⟩ = some (.int .i64 q.n) ∧ wr.cell? ⟨g, off + j * 7 + 2, none⟩ = some (.string q.t) ∧
      wr.cell? ⟨g, off + j * 7 + 3, none⟩ = some (.int .i64 x.k) ∧ wr.cell? ⟨g, off + j * 7 + 4, none⟩ = some (.int .i64 x.n) ∧ wr.cell? ⟨g, off + j * 7 + 5, none⟩ = some (.string x.t) ∧ wr.cell? ⟨g, off + j * 7 + 6, none⟩ = some (.slice co x.xs.length cc) := by
  subst hB
  obtain ⟨q, x, g, off, c, h1, h2, h3, hg, -, hc, c0, c1, c2, c3, c4, c5, c6⟩ := h.get hj
  obtain ⟨co, cc, rfl, -⟩ := hc.form
  have k := fun o => hb.cell (p := ⟨g, o, none⟩) hg
  exact ⟨q, x, g, off, co, cc, h1, h2, h3, (hc.kept fun b _ hb' => ⟨hb.block b hb', Nat.lt_of_lt_of_le hb' hb.size, trivial⟩), (k _).trans c0, (k _).trans c1, (k _).trans c2, (k _).trans c3, (k _).trans c4, (k _).trans c5, (k _).trans c6⟩
/-- A value's block, an item's block. -/
abbrev VB (v : VT) (c : Value) : Obj := .cells #[.int .i64 v.k, .int .i64 v.n, .string v.t, c] 24
abbrev IB (x : It) (c : Value) : Obj := .cells #[.bool x.1.b, .int .i64 x.1.n, .string x.1.t, .int .i64 x.2.k, .int .i64 x.2.n, .string x.2.t, c] 64
theorem vb_cells {W : World} {B : Nat} {v : VT} {c : Value} (h : W.heap[B]? = some (VB v c)) :
    W.cell? ⟨B, 0, none⟩ = some (.int .i64 v.k) ∧ W.cell? ⟨B, 1, none⟩ = some (.int .i64 v.n) ∧ W.cell? ⟨B, 2, none⟩ = some (.string v.t) ∧ W.cell? ⟨B, 3, none⟩ = some c :=
  ⟨cell_blk h 0, cell_blk h 1, cell_blk h 2, cell_blk h 3⟩
theorem ib_cells {W : World} {B : Nat} {x : It} {c : Value} (h : W.heap[B]? = some (IB x c)) :
    W.cell? ⟨B, 0, none⟩ = some (.bool x.1.b) ∧ W.cell? ⟨B, 1, none⟩ = some (.int .i64 x.1.n) ∧ W.cell? ⟨B, 2, none⟩ = some (.string x.1.t) ∧ W.cell? ⟨B, 3, none⟩ = some (.int .i64 x.2.k) ∧ W.cell? ⟨B, 4, none⟩ = some (.int .i64 x.2.n) ∧ W.cell? ⟨B, 5, none⟩ = some (.string x.2.t) ∧ W.cell? ⟨B, 6, none⟩ = some c :=
  ⟨cell_blk h 0, cell_blk h 1, cell_blk h 2, cell_blk h 3, cell_blk h 4, cell_blk h 5, cell_blk h 6⟩
end Go.Proofs.YtnaefnojmiolbaaGreatDoor

namespace Go.Proofs.YtnaefnojmiolbaaGreatDoor
open Go.RowKit

mutual
def leftV : VT → Int → Int
  | .mk _ _ _ l, n => leftL l (n - l.length)
def leftL : List (K × VT) → Int → Int
  | [], n => n
  | (_, v) :: r, n => if n < 0 then n else leftL r (leftV v n)
end
theorem leftL_cons (x : It) (r : List It) (n : Int) : leftL (x :: r) n = if n < 0 then n else leftL r (leftV x.2 n) := by cases x; rw [leftL]
theorem leftV_eq (v : VT) (n : Int) : leftV v n = leftL v.xs (n - v.xs.length) := by cases v; rw [leftV]; rfl
theorem leftL_neg {l : List It} {n : Int} (h : n < 0) : leftL l n = n := by
  cases l with
  | nil => rfl
  | cons x r => rw [leftL_cons, if_pos h]
/-- What is left is no more, and not far below 0. -/
theorem leftV_le (v : VT) : ∀ n, 0 ≤ n → (∀ x ∈ v.xs, True) → leftV v n ≤ n := by
  refine VT.ind (P := fun v => ∀ n, 0 ≤ n → (∀ x ∈ v.xs, True) → leftV v n ≤ n) ?_ v
  intro k m t l ih n hn _
  rw [leftV]
  have : ∀ (r : List It), (∀ x ∈ r, x ∈ l) → ∀ n, leftL r n ≤ n := by
    intro r
    induction r with
    | nil => intro _ n; exact Int.le_refl _
    | cons x r ihr =>
      intro hr n
      rw [leftL_cons]
      split
      · exact Int.le_refl _
      · have h1 := ih x (hr x (by simp)) n (by omega) (fun _ _ => trivial)
        have h2 := ihr (fun y hy => hr y (by simp [hy])) (leftV x.2 n)
        omega
  have h := this l (fun _ h => h) (n - l.length)
  omega
theorem leftL_le (r : List It) : ∀ n, leftL r n ≤ n := by
  induction r with
  | nil => intro n; exact Int.le_refl _
  | cons x r ihr =>
    intro n
    rw [leftL_cons]
    split
    · exact Int.le_refl _
    · have h1 := leftV_le x.2 n (by omega) (fun _ _ => trivial)
      have h2 := ihr (leftV x.2 n)
      omega
/-- No list in it is longer than memory bears. -/
inductive Fits : List It → Prop
  | mk (l : List It) (h : l.length ≤ 140737488355328) (hs : ∀ x ∈ l, Fits x.2.xs) : Fits l
theorem VAt.fits {A : Nat → Prop} {w : World} {v : Value} {xs : List It} (h : VAt A w v xs) : Fits xs := by
  induction h with
  | mk ao cap xs c _ _ len _ ih =>
    refine .mk _ len fun x hx => ?_
    obtain ⟨j, hj, rfl⟩ := List.getElem_of_mem hx
    exact ih j hj
theorem leftV_ge (v : VT) : Fits v.xs → ∀ n, 0 ≤ n → -140737488355328 ≤ leftV v n := by
  refine VT.ind (P := fun v => Fits v.xs → ∀ n, 0 ≤ n → -140737488355328 ≤ leftV v n) ?_ v
  intro k m t l ih hf n hn
  have hf' : Fits l := hf
  obtain ⟨_, hl, hs⟩ := hf'
  rw [leftV]
  have : ∀ (r : List It), (∀ x ∈ r, x ∈ l) → ∀ n : Int, -140737488355328 ≤ n → -140737488355328 ≤ leftL r n := by
    intro r
    induction r with
    | nil => intro _ n hn; exact hn
    | cons x r ihr =>
      intro hr n hn
      rw [leftL_cons]
      split
      · exact hn
      · exact ihr (fun y hy => hr y (by simp [hy])) _ (ih x (hr x (by simp)) (hs x (hr x (by simp))) n (by omega))
  exact this l (fun _ h => h) _ (by omega)

set_option maxHeartbeats 1600000 in
set_option maxRecDepth 100000 in
theorem left_any (v : VT) : ∀ (w : World) (c : Value) (n : Int), VIn w c v.xs → 0 ≤ n → n ≤ 2048 → Calls Tryz.prog 51 #[v.v c, .int .i64 n] w (IntPost w (leftV v n)) := by
  refine VT.ind (P := fun v => ∀ (w : World) (c : Value) (n : Int), VIn w c v.xs → 0 ≤ n → n ≤ 2048 → Calls Tryz.prog 51 #[v.v c, .int .i64 n] w (IntPost w (leftV v n))) ?_ v
  intro k m t l ih w c n hv h0 h1
  have hv : VIn w c l := hv
  have hfit := hv.fits
  obtain ⟨ao, cap, rfl, hlen⟩ := hv.form
  have HV := Lib.hid hv
  have IH := Lib.hid ih
  have HF := Lib.hid hfit
  have HB := Lib.hid (below_alloc1 w (VB (.mk k m t l) (.slice ao l.length cap)))
  obtain ⟨a0, a1, a2, a3⟩ := vb_cells (heap_alloc_new w (VB (.mk k m t l) (.slice ao l.length cap)))
  obtain ⟨hw', hw⟩ := wr_sm (x := n - (l.length : Int)) (by omega) (by omega)
  obtain ⟨r, hr⟩ : ∃ r, r = leftV (.mk k m t l) n := ⟨_, rfl⟩
  have HR : Hid (r = leftL (l.drop 0) (n - l.length)) := Lib.hid (by rw [hr, leftV]; rfl)
  have HL := Lib.hid hlen
  have HN := Lib.hid h0
  rw [← hr]
  clear hv ih hfit hr hlen h0
  show Calls Tryz.prog 51 #[.agg #[.int .i64 k, .int .i64 m, .string t, .slice ao l.length cap], .int .i64 n] w (IntPost w r)
  go_enter Tryz.func51, Tryz.ntmps51
  go_wp2_with fail
  go_loopw [1, 15] (fun nv kv wr => ∃ (j : Nat) (x : Int), j ≤ l.length ∧ nv = .int .i64 x ∧ kv = .int .i64 j ∧ Hid (r = leftL (l.drop j) x ∧ x ≤ 2048 ∧ -140737488355328 ≤ x) ∧ Hid (Below w.heap.size w wr)) (fun _ kv _ => l.length - (intOf kv).toNat)
  case atStart => exact ⟨0, n - l.length, Nat.zero_le _, rfl, rfl, Lib.hid ⟨HR.out, by omega, by have := HL.out; have := HN.out; omega⟩, HB⟩
  case round =>
    obtain ⟨j, x, hj, rfl, rfl, HX, BX⟩ := hrel
    by_cases hlt : j < l.length
    · obtain ⟨q, v, g, off, co, cc, hq, hm, rfl, hc, d0, d1, d2, d3, d4, d5, d6⟩ := HV.out.getB hlt BX.out rfl
      have hi : (j : Int) < (l.length : Int) := by omega
      obtain ⟨hwi', hwi⟩ : wrap64 ((j : Int) + 1) = (j : Int) + 1 ∧ IntKind.i64.wrap ((j : Int) + 1) = (j : Int) + 1 := wr_sm (by omega) (by have := HL.out; omega)
      obtain ⟨b0, b1, b2, b3, b4, b5, b6⟩ := ib_cells (heap_alloc_new wr (IB (q, v) (.slice co v.xs.length cc)))
      have BY := Lib.hid (BX.out.alloc BX.out.size (IB (q, v) (.slice co v.xs.length cc)))
      have HC : 0 ≤ x → Calls Tryz.prog 51 #[.agg #[.int .i64 v.k, .int .i64 v.n, .string v.t, .slice co v.xs.length cc], .int .i64 x] (wr.alloc (IB (q, v) (.slice co v.xs.length cc))) (IntPost (wr.alloc (IB (q, v) (.slice co v.xs.length cc))) (leftV v x)) := fun h => IH.out (q, v) hm _ (.slice co v.xs.length cc) x (hc.under (below_alloc1 _ _)) h HX.out.2.1
      have HD : Hid (leftL (l.drop j) x = if x < 0 then x else leftL (l.drop (j + 1)) (leftV v x)) := Lib.hid (by rw [drop_at hq, leftL_cons])
      have HG := Lib.hid (fun h0 : 0 ≤ x => leftV_ge v hc.fits x h0)
      have HGe := Lib.hid (fun h0 : 0 ≤ x => leftV_le v x h0 (fun _ _ => trivial))
      have HLT := Lib.hid hlt
      generalize leftV v x = y at HC HD HG HGe
      clear hc hq hm hlt
      by_cases hx : x < 0
      · have hrx : r = x := by rw [HX.out.1, HD.out, if_pos hx]
        subst hrx
        clear HC
        go_wp2_with fail
        go_ret
        exact ⟨rfl, BY.out⟩
      · have HC' := HC (by omega)
        clear HC
        go_wp2_with fail
        refine HC'.mono ?_
        rintro e w5 ⟨rfl, hb⟩
        have B5 := Lib.hid (BY.out.trans (hb.mono BY.out.size))
        clear hb HC'
        go_wp2_with fail
        go_roundw
        case rel => exact ⟨j + 1, y, HLT.out, rfl, by go_num, Lib.hid ⟨by rw [HX.out.1, HD.out, if_neg (by omega)], by have := HGe.out (by omega); have := HX.out.2.1; omega, HG.out (by omega)⟩, B5⟩
        case measure => have := HLT.out; simp [intOf]; omega
    · obtain rfl : j = l.length := by omega
      have hrx : r = x := by rw [HX.out.1, List.drop_length]; rfl
      subst hrx
      go_wp2_with fail
      go_ret
      exact ⟨rfl, BX.out⟩
end Go.Proofs.YtnaefnojmiolbaaGreatDoor
