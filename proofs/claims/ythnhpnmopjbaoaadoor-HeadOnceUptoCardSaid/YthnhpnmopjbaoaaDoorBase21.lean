/-
  What the listed variables give; the walks of Nth, of the document's Nth, of path.
-/
import Derived.Test.YthnhpnmopjbaoaaDoorDig21
import Derived.Test.YthnhpnmopjbaoaaDoorRight21
import Derived.Test.YthnhpnmopjbaoaaDoorShelf
import Derived.Lib.AtoiErrMem
import Derived.Lib.AppendIntMem
namespace Go.Proofs.YthnhpnmopjbaoaaDoor
open Go.RowKit

/-- What the listed variables read as. -/
structure Tabs (w : World) : Prop where
  pow : Lib.TabIs Tryd.prog w "internal/strconv.uint64pow10" .u64 Lib.pow10Tab
  syn : ∃ tp p, w.var? Tryd.prog "strconv.ErrSyntax" = some #[.iface tp p]
  len : ∃ m, w.cell? ⟨1, 0, none⟩ = some (.int .i64 m)
theorem var_keep {P : Program} {w w' : World} {n : String} {cs : Array Value} (h : w.var? P n = some cs) (hb : Below w.heap.size w w') : w'.var? P n = some cs := by
  cases hg : P.globalNamed n with
  | none => unfold World.var? at h; rw [hg] at h; cases h
  | some g =>
    have hlt : g < w.heap.size := by
      rcases Nat.lt_or_ge g w.heap.size with hl | hl
      · exact hl
      · unfold World.var? at h
        rw [hg] at h
        simp only [Option.bind_some] at h
        rw [Array.getElem?_eq_none hl] at h
        cases h
    exact var?_below hb hg hlt h
theorem cell_lt {w : World} {p : Addr} {v : Value} (h : w.cell? p = some v) : p.block < w.heap.size := by
  rcases Nat.lt_or_ge p.block w.heap.size with hl | hl
  · exact hl
  · simp [World.cell?, Array.getElem?_eq_none hl] at h
theorem Tabs.mono {w w' : World} (h : Tabs w) (hb : Below w.heap.size w w') : Tabs w' :=
  ⟨var_keep h.pow hb, let ⟨a, b, e⟩ := h.syn; ⟨a, b, var_keep e hb⟩, let ⟨m, e⟩ := h.len; ⟨m, (hb.cell (cell_lt e)).trans e⟩⟩
theorem Tabs.mono' {B : Nat} {w w' : World} (h : Tabs w) (hb : Below B w w') (hB : w.heap.size ≤ B) : Tabs w' :=
  h.mono ⟨hb.os, hb.tape, hb.output, hb.size, fun k hk => hb.block k (Nat.lt_of_lt_of_le hk hB)⟩

def BoolPost (w : World) (b : Bool) (e : Ending) (w' : World) : Prop := e = .returned (.bool b) ∧ Below w.heap.size w w'
theorem below_alloc1 (w : World) (o : Obj) : Below w.heap.size w (w.alloc o) := (Below.refl _ w).alloc (Nat.le_refl _) o
theorem itoa_any (n : Int) (h0 : -9223372036854775808 ≤ n) (h1 : n ≤ 9223372036854775807) (w : World) (ht : Tabs w) : Calls Tryd.prog 36 #[.int .i64 n] w (TextPost w (Lib.itoa n)) := by
  refine (Tryd.strconv_Itoa n h0 h1 w ht.pow).mono ?_
  rintro e w1 ⟨rfl, k, os, rfl⟩
  exact ⟨rfl, Lib.below_grow w.heap.size w (Nat.le_refl _) k os⟩
/-- The id of a number. -/
def nthP (n : Int) : Bs := 115 :: Lib.itoa (max n 0)
theorem nth_str (n : Int) : str (nthP n) = str [115] ++ str (Lib.itoa (max n 0)) := by rw [str_append]; rfl
theorem itoa_short {n : Int} (h0 : -9223372036854775808 ≤ n) (h1 : n ≤ 9223372036854775807) : (str (Lib.itoa n)).size ≤ 21 := by
  have h := Lib.itoa_length_le n h0 h1
  rw [str_size]
  omega
theorem nth_any (n : Int) (h1 : n ≤ 9223372036854775807) (w : World) (ht : Tabs w) : Calls Tryd.prog 14 #[.int .i64 n] w (TextPost w (nthP n)) := by
  have HI := itoa_any (max n 0) (by omega) (by omega) w ht
  have hz := itoa_short (n := max n 0) (by omega) (by omega)
  unfold TextPost
  rw [nth_str]
  generalize Lib.itoa (max n 0) = res at HI hz ⊢
  clear ht
  go_enter Tryd.func14, Tryd.ntmps14
  go_wp2_with fail
  refine HI.mono ?_
  rintro e w1 ⟨rfl, hb⟩
  have HB := Lib.hid hb
  clear hb HI
  go_wp2_with fail
  go_ret
  exact ⟨rfl, HB.out⟩
theorem rnth_any (n : Int) (h1 : n ≤ 9223372036854775807) (w : World) : Calls Tryd.prog 15 #[.int .i64 n] w (TextPost w (nthP n)) := by
  have HI := rdigits_any (max n 0) (by omega) (by omega) w
  have hz := itoa_short (n := max n 0) (by omega) (by omega)
  unfold TextPost
  rw [nth_str]
  generalize Lib.itoa (max n 0) = res at HI hz ⊢
  go_enter Tryd.func15, Tryd.ntmps15
  go_wp2_with fail
  refine HI.mono ?_
  rintro e w1 ⟨rfl, hb⟩
  have HB := Lib.hid hb
  clear hb HI
  go_wp2_with fail
  go_ret
  exact ⟨rfl, HB.out⟩
/-- A record's path. -/
def pathB (l : Bs) : Bs := [47, 115, 101, 115, 115, 47] ++ l
theorem path_any (s : ByteArray) (hs : s.size ≤ 32) (w : World) : Calls Tryd.prog 39 #[.string s] w fun e w' => e = .returned (.string (str (pathB s.toList))) ∧ w = w' := by
  have he : str (pathB s.toList) = str [47, 115, 101, 115, 115, 47] ++ s := by
    unfold pathB
    rw [← str_append, str_of]
  rw [he]
  go_enter Tryd.func39, Tryd.ntmps39
  go_wp2_with fail
  go_ret
  exact ⟨rfl, rfl⟩
end Go.Proofs.YthnhpnmopjbaoaaDoor
