/-
  The memo as plain lists: what each call does, said without a program.
-/
import Derived.WalkKit
namespace Go.Proofs.Ytchiedlagdecoaa

/-- A unit of a memo: its path, its stamp, what it holds. -/
structure U where
  path : ByteArray
  stamp : Int
  u : Int

def U.cells (x : U) : List Value := [.string x.path, .int .i64 x.stamp, .int .i64 x.u]
theorem U.cells_len (x : U) : x.cells.length = 3 := rfl

/-- The place of a path. -/
def find (p : ByteArray) (us : List U) : Option Nat := us.findIdx? fun x => x.path.toList == p.toList
def idx (p : ByteArray) (us : List U) : Int := match find p us with | some i => i | none => -1

theorem idx_hit (p : ByteArray) (us : List U) (k : Nat) (hk : k < us.length) (hf : find p (us.take k) = none) (he : (us[k].path.toList == p.toList) = true) : find p us = some k := by
  unfold find at *
  rw [List.findIdx?_eq_some_iff_getElem]
  refine ⟨hk, he, fun j hj => ?_⟩
  rw [List.findIdx?_eq_none_iff] at hf
  have := hf us[j] (by rw [List.mem_take_iff_getElem]; exact ⟨j, by omega, rfl⟩)
  simpa using this
theorem find_lt {p : ByteArray} {us : List U} {i : Nat} (h : find p us = some i) : i < us.length := by
  unfold find at h
  exact (List.findIdx?_eq_some_iff_getElem.1 h).1
theorem find_at {p : ByteArray} {us : List U} {i : Nat} (h : find p us = some i) : (us[i]'(find_lt h)).path.toList = p.toList := by
  unfold find at h
  obtain ⟨h1, h2, _⟩ := List.findIdx?_eq_some_iff_getElem.1 h
  simpa using h2
theorem find_snoc {p : ByteArray} {us : List U} {k : Nat} (hk : k < us.length) (hf : find p (us.take k) = none) (he : (us[k].path.toList == p.toList) = false) : find p (us.take (k + 1)) = none := by
  unfold find at *
  rw [List.take_succ_eq_append_getElem hk, List.findIdx?_append, hf]
  simp only [List.findIdx?_singleton, he]
  rfl

def dropU (p : ByteArray) (us : List U) : List U := match find p us with | some i => us.take i ++ us.drop (i + 1) | none => us
def hasU (p : ByteArray) (us : List U) : Bool := (find p us).isSome
/-- What Get finds. -/
def hitU (p : ByteArray) (st : Int) (us : List U) : Option U := match find p us with | some i => (match us[i]? with | some x => if x.stamp = st then some x else none | none => none) | none => none
def getU (p : ByteArray) (st : Int) (us : List U) : List U := match hitU p st us with | some x => dropU p us ++ [x] | none => dropU p us
def addU (p : ByteArray) (st u : Int) (us : List U) : List U := dropU p us ++ [⟨p, st, u⟩]
def putU (most : Int) (p : ByteArray) (st u : Int) (us : List U) : List U := let l := addU p st u us; if most < (l.length : Int) then l.drop 1 else l

theorem drop_len (p : ByteArray) (us : List U) : (dropU p us).length ≤ us.length := by
  unfold dropU
  split
  · rename_i i h
    have := find_lt h
    simp; omega
  · exact Nat.le_refl _
theorem drop_len_hit {p : ByteArray} {us : List U} {i : Nat} (h : find p us = some i) : (dropU p us).length + 1 = us.length := by
  have := find_lt h
  unfold dropU
  rw [h]
  simp; omega
theorem get_len (p : ByteArray) (st : Int) (us : List U) : (getU p st us).length ≤ us.length := by
  unfold getU
  split
  · rename_i x h
    unfold hitU at h
    split at h
    · rename_i i hi
      have := drop_len_hit hi
      simp; omega
    · cases h
  · exact drop_len p us
theorem add_len (p : ByteArray) (st u : Int) (us : List U) : (addU p st u us).length ≤ us.length + 1 := by
  unfold addU
  have := drop_len p us
  simp; omega
theorem put_len (most : Int) (p : ByteArray) (st u : Int) (us : List U) : (putU most p st u us).length ≤ us.length + 1 := by
  unfold putU
  have := add_len p st u us
  simp only
  split
  · simp; omega
  · exact this

end Go.Proofs.Ytchiedlagdecoaa
