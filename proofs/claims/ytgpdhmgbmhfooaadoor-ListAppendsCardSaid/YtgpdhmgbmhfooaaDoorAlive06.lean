/-
  The walk of the laws' alive.
-/
import Derived.Test.YtgpdhmgbmhfooaaDoorOrderD06
namespace Go.Proofs.YtgpdhmgbmhfooaaDoor
open Go.RowKit

theorem decDigits_lt {u : Nat} (h : u < 10) : Lib.decDigits u = [UInt8.ofNat (48 + u)] := by rw [Lib.decDigits, dif_pos h]
theorem itoa_m70 : Lib.itoa (-70) = [45, 55, 48] := by
  have h : Lib.decDigits 70 = [55, 48] := by
    rw [Lib.decDigits, dif_neg (by decide), decDigits_lt (by decide)]
    rfl
  show (45 : UInt8) :: Lib.decDigits 70 = _
  rw [h]
abbrev t10 : ByteArray := ⟨#[49, 48]⟩
abbrev t12x : ByteArray := ⟨#[49, 50, 120]⟩
theorem num10 : numP 3 0 t10.toList = (10, true) := by rw [bl_eq]; decide
theorem num9 : numP 2 9 (⟨#[]⟩ : ByteArray).toList = (9, true) := by rw [bl_eq]; decide
theorem beg12 : numberP 3 0 t12x.toList 0 = 12 := by rw [bl_eq]; decide
theorem tru12 : truthP 3 0 t12x.toList 0 = true := by rw [bl_eq]; decide
/-- A value lies in a block of the call's own. -/
structure At1 (w W : World) (B : Nat) (oa : Obj) : Prop where
  a : W.heap[B]? = some oa
  below : Below w.heap.size w W
theorem At1.mono {w W W' : World} {B : Nat} {oa : Obj} (h : At1 w W B oa) (hb : Below W.heap.size W W') : At1 w W' B oa :=
  ⟨(hb.block _ (lt_of_block h.a)).trans h.a, h.below.trans (hb.mono h.below.size)⟩
theorem At1.drew {w W : World} {B : Nat} {oa : Obj} (h : At1 w W B oa) : At1 w W.drew B oa := ⟨h.a, h.below.drew⟩
theorem at1_start (w : World) (oa : Obj) : At1 w (w.alloc oa) w.heap.size oa := ⟨heap_alloc_new w oa, below_alloc1 w oa⟩
set_option maxRecDepth 100000 in
set_option maxHeartbeats 3200000 in
theorem alive_any (w : World) (ht : Tabs w) : Calls Tryd.prog 34 #[] w (BoolPost w true) := by
  have HO : ∀ w, Tabs w → Calls Tryd.prog 36 #[.agg #[.int .i64 3, .int .i64 0, .string t10, .slice none 0 0], .agg #[.int .i64 2, .int .i64 9, .string ⟨#[]⟩, .slice none 0 0]] w (TwoPost w (1, 0)) := fun w h => order_32_11 0 9 t10 ⟨#[]⟩ none none 0 0 0 0 (by decide) (by decide) (by decide) (by decide) w h 10 9 num10 num9
  have HN : ∀ w, Tabs w → Calls Tryd.prog 41 #[.agg #[.int .i64 3, .int .i64 0, .string t12x, .slice none 0 0]] w (IntPost w 12) := fun w h => by rw [← beg12]; exact number_any 3 0 t12x none 0 0 (by decide) w h
  have HT : ∀ w, Calls Tryd.prog 39 #[.agg #[.int .i64 3, .int .i64 0, .string t12x, .slice none 0 0]] w (BoolPost w true) := fun w => by rw [← tru12]; exact truth_any 3 0 t12x none 0 0 w
  have HD : ∀ w, Tabs w → Calls Tryd.prog 35 #[.int .i64 (-70)] w (TextPost w [45, 55, 48]) := fun w h => by rw [← itoa_m70]; exact digits_any (-70) (by decide) (by decide) w h
  have HTS := Lib.hid ht
  clear ht
  go_enter Tryd.func34, Tryd.ntmps34
  have A0 := Lib.hid (at1_start w (VB 3 0 t12x none 0 0))
  go_wp2_with fail
  refine (HO _ (HTS.out.mono A0.out.below)).mono ?_; rintro e w1 ⟨rfl, hb⟩; have A1 := Lib.hid (A0.out.mono hb); clear A0 hb HO; obtain ⟨c0, c1, c2, c3⟩ := cells4 A1.out.a
  go_wp2_with fail
  refine (HN _ (HTS.out.mono A1.out.below)).mono ?_; rintro e w2 ⟨rfl, hb⟩; have A2 := Lib.hid (A1.out.mono hb); clear A1 hb HN c0 c1 c2 c3; obtain ⟨c0, c1, c2, c3⟩ := cells4 A2.out.a
  go_wp2_with fail
  refine (HT _).mono ?_; rintro e w3 ⟨rfl, hb⟩; have A3 := Lib.hid (A2.out.mono hb); clear A2 hb HT c0 c1 c2 c3; obtain ⟨c0, c1, c2, c3⟩ := cells4 A3.out.a
  go_wp2_with fail
  refine (HD _ (HTS.out.mono A3.out.below)).mono ?_; rintro e w4 ⟨rfl, hb⟩; have A4 := Lib.hid (A3.out.mono hb); clear A3 hb HD c0 c1 c2 c3
  go_wp2_with fail
  go_ret
  exact ⟨by show Ending.returned (.bool ((str [45, 55, 48]).toList == [45, 55, 48])) = _; rw [str_toList]; rfl, A4.out.below⟩
end Go.Proofs.YtgpdhmgbmhfooaaDoor
