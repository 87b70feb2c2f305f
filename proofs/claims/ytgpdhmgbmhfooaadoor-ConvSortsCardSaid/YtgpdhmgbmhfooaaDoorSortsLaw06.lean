/-
  ConvSorts: the plain law, and the walk.
-/
import Derived.Test.YtgpdhmgbmhfooaaDoorHeld06
import Derived.Test.YtgpdhmgbmhfooaaDoorBackWalk06
namespace Go.Proofs.YtgpdhmgbmhfooaaDoor
open Go.RowKit

theorem sorts_text {n : Int} (h0 : -9223372036854775808 ≤ n) (h1 : n ≤ 9223372036854775807) (a : Bs) (ha : ∀ c ∈ a, isBlank c = true) (k : Int) : numP 3 k (a ++ Lib.itoa n) = (n, true) := by
  have := numeric_itoa h0 h1 a [] ha (by simp)
  rw [List.append_nil] at this
  exact this
theorem order_nums {k1 n1 : Int} {t1 : Bs} {m1 : Nat} {k2 n2 : Int} {t2 : Bs} {m2 : Nat} {x y : Int} (p1 : k1 = 2 ∨ k1 = 3) (p2 : k2 = 2 ∨ k2 = 3) (h1 : numP k1 n1 t1 = (x, true)) (h2 : numP k2 n2 t2 = (y, true)) :
    orderP k1 n1 t1 m1 k2 n2 t2 m2 = (Lib.compareInt x y, 0) := by
  unfold orderP
  have e1 : plainP k1 = true := by unfold plainP; rcases p1 with rfl | rfl <;> decide
  have e2 : plainP k2 = true := by unfold plainP; rcases p2 with rfl | rfl <;> decide
  rw [e1, e2, if_neg (by decide), if_neg (by omega), h1, h2]
  rfl
/-- What is found of three numbers, as the statement reads it. -/
def ringOk (m n k : Int) : Bool := !(decide (m ≤ 0) && decide (n ≤ 0)) || (decide (k ≤ 0) && ((m == 0 && n == 0) == (k == 0)))
theorem ring_ok (a b c : Int) : ringOk (Lib.compareInt a b) (Lib.compareInt b c) (Lib.compareInt a c) = true := by
  unfold Lib.compareInt ringOk
  split <;> split <;> split <;> (try split) <;> (try split) <;> (try split) <;> first | rfl | omega
theorem cmp_cases (a b : Int) : Lib.compareInt a b = -1 ∨ Lib.compareInt a b = 0 ∨ Lib.compareInt a b = 1 := by
  unfold Lib.compareInt
  split
  · exact .inl rfl
  · split
    · exact .inr (.inr rfl)
    · exact .inr (.inl rfl)

abbrev XB (n : Int) : Obj := VB 2 n ⟨#[]⟩ none 0 0
abbrev YB (t : ByteArray) : Obj := VB 3 0 t none 0 0
/-- Three values in blocks of the call's own. -/
structure At3 (w W : World) (n : Int) (x y z : Nat) (t u : ByteArray) : Prop where
  a : W.heap[x]? = some (XB n)
  b : W.heap[y]? = some (YB t)
  c : W.heap[z]? = some (YB u)
  below : Below w.heap.size w W
theorem At3.mono {w W W' : World} {n : Int} {x y z : Nat} {t u : ByteArray} (h : At3 w W n x y z t u) (hb : Below W.heap.size W W') : At3 w W' n x y z t u :=
  ⟨(hb.block _ (lt_of_block h.a)).trans h.a, (hb.block _ (lt_of_block h.b)).trans h.b, (hb.block _ (lt_of_block h.c)).trans h.c, h.below.trans (hb.mono h.below.size)⟩

set_option maxRecDepth 100000 in
set_option maxHeartbeats 6400000 in
theorem sorts_of (a b c : Int) (t u : ByteArray) (m n k : Int) (hring : ringOk m n k = true) (hm : m = -1 ∨ m = 0 ∨ m = 1) (hn : n = -1 ∨ n = 0 ∨ n = 1) (hk : k = -1 ∨ k = 0 ∨ k = 1) (w : World) (ht : Tabs w) (tc : ByteArray) (hu : (⟨#[32]⟩ : ByteArray) ++ tc = u) (htc : tc.size ≤ 40)
    (HD1 : ∀ w, Tabs w → Calls Tryd.prog 35 #[.int .i64 b] w fun e w' => e = .returned (.string t) ∧ Below w.heap.size w w')
    (HD2 : ∀ w, Tabs w → Calls Tryd.prog 35 #[.int .i64 c] w fun e w' => e = .returned (.string tc) ∧ Below w.heap.size w w')
    (HO1 : ∀ w, Tabs w → Calls Tryd.prog 36 #[.agg #[.int .i64 2, .int .i64 a, .string ⟨#[]⟩, .slice none 0 0], .agg #[.int .i64 3, .int .i64 0, .string t, .slice none 0 0]] w (TwoPost w (m, 0)))
    (HO2 : ∀ w, Tabs w → Calls Tryd.prog 36 #[.agg #[.int .i64 3, .int .i64 0, .string t, .slice none 0 0], .agg #[.int .i64 3, .int .i64 0, .string u, .slice none 0 0]] w (TwoPost w (n, 0)))
    (HO3 : ∀ w, Tabs w → Calls Tryd.prog 36 #[.agg #[.int .i64 2, .int .i64 a, .string ⟨#[]⟩, .slice none 0 0], .agg #[.int .i64 3, .int .i64 0, .string u, .slice none 0 0]] w (TwoPost w (k, 0))) :
    Calls Tryd.prog 11 #[.int .i64 a, .int .i64 b, .int .i64 c] w (BoolPost w true) := by
  have HA := alive_any
  have HTS := Lib.hid ht
  clear ht
  have HR := Lib.hid (⟨hring, hm, hn, hk⟩ : _ ∧ _ ∧ _ ∧ _)
  clear hring hm hn hk
  have A0 := Lib.hid (at1_start w (XB a))
  go_enter Tryd.func11, Tryd.ntmps11
  go_wp2_with fail
  refine (HD1 _ (HTS.out.mono A0.out.below)).mono ?_; rintro e w1 ⟨rfl, hb⟩; have A1 := Lib.hid (A0.out.mono hb); clear A0 hb HD1
  have A2 := Lib.hid (A1.out.mono (below_alloc1 w1 (YB t)))
  have Y2 := Lib.hid (heap_alloc_new w1 (YB t))
  go_wp2_with fail
  refine (HD2 _ (HTS.out.mono A2.out.below)).mono ?_; rintro e w3 ⟨rfl, hb⟩; have A3 := Lib.hid (A2.out.mono hb); have Y3 := Lib.hid ((hb.block _ (lt_of_block Y2.out)).trans Y2.out); clear A1 A2 Y2 hb HD2
  have A4 : Hid (At3 w (w3.alloc (YB u)) a w.heap.size w1.heap.size w3.heap.size t u) := ⟨alloc_blk A3.out.a _, alloc_blk Y3.out _, heap_alloc_new w3 _, (A3.out.mono (below_alloc1 w3 _)).below⟩
  clear A3 Y3
  obtain ⟨a0, a1, a2, a3⟩ := cells4 A4.out.a; obtain ⟨b0, b1, b2, b3⟩ := cells4 A4.out.b; obtain ⟨c0, c1, c2, c3⟩ := cells4 A4.out.c
  go_wp2_with fail
  refine (HO1 _ (HTS.out.mono A4.out.below)).mono ?_; rintro e w5 ⟨rfl, hb⟩; have A5 := Lib.hid (A4.out.mono hb); clear A4 hb HO1 a0 a1 a2 a3 b0 b1 b2 b3 c0 c1 c2 c3; obtain ⟨a0, a1, a2, a3⟩ := cells4 A5.out.a; obtain ⟨b0, b1, b2, b3⟩ := cells4 A5.out.b; obtain ⟨c0, c1, c2, c3⟩ := cells4 A5.out.c
  go_wp2_with fail
  refine (HO2 _ (HTS.out.mono A5.out.below)).mono ?_; rintro e w6 ⟨rfl, hb⟩; have A6 := Lib.hid (A5.out.mono hb); clear A5 hb HO2 a0 a1 a2 a3 b0 b1 b2 b3 c0 c1 c2 c3; obtain ⟨a0, a1, a2, a3⟩ := cells4 A6.out.a; obtain ⟨b0, b1, b2, b3⟩ := cells4 A6.out.b; obtain ⟨c0, c1, c2, c3⟩ := cells4 A6.out.c
  go_wp2_with fail
  refine (HO3 _ (HTS.out.mono A6.out.below)).mono ?_; rintro e w7 ⟨rfl, hb⟩; have A7 := Lib.hid (A6.out.mono hb); clear A6 hb HO3 a0 a1 a2 a3 b0 b1 b2 b3 c0 c1 c2 c3
  go_wp2_with fail
  refine (HA _ (HTS.out.mono A7.out.below)).mono ?_; rintro e w8 ⟨rfl, hb⟩; have A8 := Lib.hid (A7.out.mono hb); clear A7 hb HA
  obtain ⟨hring, hm, hn, hk⟩ := HR.out
  clear HR hu htc
  rcases hm with rfl | rfl | rfl <;> rcases hn with rfl | rfl | rfl <;> rcases hk with rfl | rfl | rfl
  all_goals first
    | exact absurd hring (by decide)
    | (clear hring
       go_wp2_with fail
       go_ret
       exact ⟨rfl, A8.out.below⟩)
end Go.Proofs.YtgpdhmgbmhfooaaDoor
