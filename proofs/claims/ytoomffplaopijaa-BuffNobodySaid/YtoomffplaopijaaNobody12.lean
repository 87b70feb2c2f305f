/-
  The walk of the statement BuffNobody: a stack that nobody made.
-/
import Derived.Test.YtoomffplaopijaaLive12
namespace Go.Proofs.Ytoomffplaopijaa
open Go.RowKit

/-- nil, or a struct that New did not make. -/
def NoStack (w : World) (v : Value) : Prop := v = .pointer none ∨ ∃ b, v = .pointer (some ⟨b, 0, none⟩) ∧ w.cell? ⟨b, 0, none⟩ = some (.bool false)

theorem ok_no (v : Value) (w : World) (h : NoStack w v) : Calls Try.prog 28 #[v] w fun e w' => e = .returned (.bool false) ∧ w = w' := by
  rcases h with rfl | ⟨b, rfl, h⟩
  · exact ok_nil w
  · exact ok_any b false w h
theorem top_no (v : Value) (w : World) (h : NoStack w v) : Calls Try.prog 27 #[v] w fun e w' => e = .returned (.pointer none) ∧ w = w' := by
  have H := Lib.hid h
  clear h
  go_enter Try.func27, Try.ntmps27
  go_wp2_with (go_at_call 28; refine (ok_no _ _ H.out).mono ?_; rintro e w' ⟨rfl, rfl⟩)
  go_ret
  exact ⟨rfl, rfl⟩
theorem mark_no (v : Value) (n : Int) (w : World) (h : NoStack w v) : Calls Try.prog 24 #[v, .int .i64 n] w fun e w' => e = .returned (.tuple #[]) ∧ w = w' := by
  have H := Lib.hid h
  clear h
  go_enter Try.func24, Try.ntmps24
  go_wp2_with (go_at_call 28; refine (ok_no _ _ H.out).mono ?_; rintro e w' ⟨rfl, rfl⟩)
  go_end0
  exact ⟨rfl, rfl⟩
theorem get_no (v : Value) (w : World) (h : NoStack w v) : Calls Try.prog 12 #[v] w fun e w' => e = .returned (.tuple #[.string .empty, .bool false]) ∧ w = w' := by
  have H := Lib.hid h
  clear h
  go_enter Try.func12, Try.ntmps12
  go_wp2_with (go_at_call 27; refine (top_no _ _ H.out).mono ?_; rintro e w' ⟨rfl, rfl⟩)
  go_ret2
  exact ⟨rfl, rfl⟩
theorem drop_no (v : Value) (w : World) (h : NoStack w v) : Calls Try.prog 25 #[v] w fun e w' => e = .returned (.tuple #[.string .empty, .bool false]) ∧ w = w' := by
  have H := Lib.hid h
  clear h
  go_enter Try.func25, Try.ntmps25
  go_wp2_with (go_at_call 12; refine (get_no _ _ H.out).mono ?_; rintro e w' ⟨rfl, rfl⟩)
  go_ret2
  exact ⟨rfl, rfl⟩
theorem push_no (v : Value) (x : ByteArray) (w : World) (h : NoStack w v) : Calls Try.prog 16 #[v, .string x] w fun e w' => e = .returned (.int .i64 5) ∧ w = w' := by
  have H := Lib.hid h
  clear h
  go_enter Try.func16, Try.ntmps16
  go_wp2_with (go_at_call 28; refine (ok_no _ _ H.out).mono ?_; rintro e w' ⟨rfl, rfl⟩)
  go_ret
  exact ⟨rfl, rfl⟩
theorem write_no (v : Value) (x : ByteArray) (w : World) (h : NoStack w v) : Calls Try.prog 17 #[v, .string x] w fun e w' => e = .returned (.int .i64 5) ∧ w = w' := by
  have H := Lib.hid h
  clear h
  go_enter Try.func17, Try.ntmps17
  go_wp2_with (go_at_call 28; refine (ok_no _ _ H.out).mono ?_; rintro e w' ⟨rfl, rfl⟩)
  go_ret
  exact ⟨rfl, rfl⟩
theorem clean_no (v : Value) (w : World) (h : NoStack w v) : Calls Try.prog 26 #[v] w fun e w' => e = .returned (.bool false) ∧ w = w' := by
  have H := Lib.hid h
  clear h
  go_enter Try.func26, Try.ntmps26
  go_wp2_with (go_at_call 27; refine (top_no _ _ H.out).mono ?_; rintro e w' ⟨rfl, rfl⟩)
  go_ret
  exact ⟨rfl, rfl⟩
theorem flush_no (v : Value) (w : World) (h : NoStack w v) : Calls Try.prog 18 #[v] w fun e w' => e = .returned (.int .i64 5) ∧ w = w' := by
  have H := Lib.hid h
  clear h
  go_enter Try.func18, Try.ntmps18
  go_wp2_with (go_at_call 28; refine (ok_no _ _ H.out).mono ?_; rintro e w' ⟨rfl, rfl⟩)
  go_ret
  exact ⟨rfl, rfl⟩
theorem pop_no (v : Value) (w : World) (h : NoStack w v) : Calls Try.prog 19 #[v] w fun e w' => e = .returned (.int .i64 5) ∧ w = w' := by
  have H := Lib.hid h
  clear h
  go_enter Try.func19, Try.ntmps19
  go_wp2_with (go_at_call 18; refine (flush_no _ _ H.out).mono ?_; rintro e w' ⟨rfl, rfl⟩)
  go_ret
  exact ⟨rfl, rfl⟩
theorem end_no (v : Value) (w : World) (h : NoStack w v) : Calls Try.prog 20 #[v] w fun e w' => e = .returned (.int .i64 5) ∧ w = w' := by
  have H := Lib.hid h
  clear h
  go_enter Try.func20, Try.ntmps20
  go_wp2_with (go_at_call 28; refine (ok_no _ _ H.out).mono ?_; rintro e w' ⟨rfl, rfl⟩)
  go_ret
  exact ⟨rfl, rfl⟩
theorem depth_no (v : Value) (w : World) (h : NoStack w v) : Calls Try.prog 13 #[v] w fun e w' => e = .returned (.int .i64 0) ∧ w = w' := by
  have H := Lib.hid h
  clear h
  go_enter Try.func13, Try.ntmps13
  go_wp2_with (go_at_call 28; refine (ok_no _ _ H.out).mono ?_; rintro e w' ⟨rfl, rfl⟩)
  go_ret
  exact ⟨rfl, rfl⟩
theorem bottom_no (v : Value) (w : World) (h : NoStack w v) : Calls Try.prog 14 #[v] w fun e w' => e = .returned (.string .empty) ∧ w = w' := by
  have H := Lib.hid h
  clear h
  go_enter Try.func14, Try.ntmps14
  go_wp2_with (go_at_call 28; refine (ok_no _ _ H.out).mono ?_; rintro e w' ⟨rfl, rfl⟩)
  go_ret
  exact ⟨rfl, rfl⟩
theorem first_no (v : Value) (w : World) (h : NoStack w v) : Calls Try.prog 15 #[v] w fun e w' => e = .returned (.int .i64 (-1)) ∧ w = w' := by
  have H := Lib.hid h
  clear h
  go_enter Try.func15, Try.ntmps15
  go_wp2_with (go_at_call 28; refine (ok_no _ _ H.out).mono ?_; rintro e w' ⟨rfl, rfl⟩)
  go_ret
  exact ⟨rfl, rfl⟩

theorem nobody1 : push false sk0 (ByteArray.mk #[117, 112]).toList = (6, sk0) := by rw [tl2]; rfl
theorem nobody2 : push false sk0 (ByteArray.mk #[]).toList = (0, ⟨[⟨[], []⟩], [], 0, -1⟩) := by rw [show (ByteArray.mk #[]).toList = [] from List.eq_nil_of_length_eq_zero (by rw [size_toList]; rfl)]; rfl

set_option maxRecDepth 100000 in
set_option maxHeartbeats 3200000 in
theorem nobody_any (x : ByteArray) (n : Int) (W : World) :
    Calls Try.prog 8 #[.string x, .int .i64 n] W (AlivePost W) := by
  go_enter Try.func8, Try.ntmps8
  go_wp2_with fail
  obtain ⟨w3, hw3⟩ : ∃ w3, w3 = ((W.alloc (.cells #[.bool false, .nilFunc, .slice none 0 0, .slice none 0 0, .int .i64 0, .int .i64 0, .int .i64 0] 50)).alloc (.cells #[.pointer none, .pointer (some ⟨W.heap.size, 0, none⟩)] 23)) := ⟨_, rfl⟩
  have b1 : w3.heap[W.heap.size]? = some (.cells #[.bool false, .nilFunc, .slice none 0 0, .slice none 0 0, .int .i64 0, .int .i64 0, .int .i64 0] 50 (0, 0)) := by rw [hw3]; exact alloc_blk (heap_alloc_new W _) _
  have b2 : w3.heap[W.heap.size + 1]? = some (.cells #[.pointer none, .pointer (some ⟨W.heap.size, 0, none⟩)] 23 (0, 0)) := by
    rw [hw3]
    have := heap_alloc_new (W.alloc (.cells #[.bool false, .nilFunc, .slice none 0 0, .slice none 0 0, .int .i64 0, .int .i64 0, .int .i64 0] 50)) (.cells #[.pointer none, .pointer (some ⟨W.heap.size, 0, none⟩)] 23)
    rw [show (W.alloc (.cells #[.bool false, .nilFunc, .slice none 0 0, .slice none 0 0, .int .i64 0, .int .i64 0, .int .i64 0] 50)).heap.size = W.heap.size + 1 by simp] at this
    exact this
  have BL : Hid (Below W.heap.size W w3) := by
    show Below _ _ _
    rw [hw3]
    exact ((Below.refl _ W).alloc (by simp) _).alloc (by simp) _
  rw [← hw3]
  clear hw3
  have e0 := cell_blk b2 0
  have e1 := cell_blk b2 1
  have d0 := cell_blk b1 0
  simp at e0 e1 d0
  have n0 : Hid (NoStack w3 (.pointer none)) := .inl rfl
  have n1 : Hid (NoStack w3 (.pointer (some ⟨W.heap.size, 0, none⟩))) := .inr ⟨_, rfl, d0⟩
  clear b1 b2 d0
  go_loop [16] (fun i => ∃ k : Nat, k ≤ 2 ∧ i = .int .i64 k) (fun i => 2 - (intOf i).toNat)
  case atStart => exact ⟨0, by omega, rfl⟩
  case round =>
    obtain ⟨k, hk, rfl⟩ := hrel
    by_cases h2 : k = 2
    · subst h2
      have HFN : Hid (FnIs .nilFunc false) := .inr ⟨rfl, rfl⟩
      go_wp2_with (first
        | (go_at_call 9; refine (live_new (fv := .nilFunc) (hf := false) HFN.out _ W.heap.size BL.out.size).mono ?_; rintro e w1 ⟨rfl, l, m⟩; have m' := BL.out.trans m; have LL := Lib.hid l; have MM := Lib.hid m'; clear l m m')
        | (go_at_call 16; refine (live_push L2.out ⟨#[]⟩).mono ?_; rw [nobody2]; rintro e w2 ⟨rfl, l, m⟩; have m' := MM.out.trans m; clear L2 MM; have LL := Lib.hid l; have MM := Lib.hid m'; clear l m m')
        | (go_at_call 16; refine (live_push LL.out ⟨#[117, 112]⟩).mono ?_; rw [nobody1]; rintro e w2 ⟨rfl, l, m⟩; have m' := MM.out.trans m; clear LL MM; have L2 := Lib.hid l; have MM := Lib.hid m'; clear l m m')
        | (go_at_call 11; refine (alive_any _).mono ?_; rintro e w4 ⟨rfl, b4⟩; have B4 := Lib.hid (MM.out.trans (b4.mono MM.out.size)); clear b4))
      go_ret
      exact ⟨rfl, B4.out⟩
    · rcases (show k = 0 ∨ k = 1 by omega) with rfl | rfl
      · go_wp2_with (first
          | (go_at_call 24; refine (mark_no _ _ _ n0.out).mono ?_; rintro e w' ⟨rfl, rfl⟩)
          | (go_at_call 12; refine (get_no _ _ n0.out).mono ?_; rintro e w' ⟨rfl, rfl⟩)
          | (go_at_call 25; refine (drop_no _ _ n0.out).mono ?_; rintro e w' ⟨rfl, rfl⟩)
          | (go_at_call 16; refine (push_no _ _ _ n0.out).mono ?_; rintro e w' ⟨rfl, rfl⟩)
          | (go_at_call 17; refine (write_no _ _ _ n0.out).mono ?_; rintro e w' ⟨rfl, rfl⟩)
          | (go_at_call 26; refine (clean_no _ _ n0.out).mono ?_; rintro e w' ⟨rfl, rfl⟩)
          | (go_at_call 18; refine (flush_no _ _ n0.out).mono ?_; rintro e w' ⟨rfl, rfl⟩)
          | (go_at_call 19; refine (pop_no _ _ n0.out).mono ?_; rintro e w' ⟨rfl, rfl⟩)
          | (go_at_call 20; refine (end_no _ _ n0.out).mono ?_; rintro e w' ⟨rfl, rfl⟩)
          | (go_at_call 13; refine (depth_no _ _ n0.out).mono ?_; rintro e w' ⟨rfl, rfl⟩)
          | (go_at_call 14; refine (bottom_no _ _ n0.out).mono ?_; rintro e w' ⟨rfl, rfl⟩)
          | (go_at_call 15; refine (first_no _ _ n0.out).mono ?_; rintro e w' ⟨rfl, rfl⟩))
        go_round
        case rel => exact ⟨1, by omega, rfl⟩
        case measure => simp [intOf]
      · go_wp2_with (first
          | (go_at_call 24; refine (mark_no _ _ _ n1.out).mono ?_; rintro e w' ⟨rfl, rfl⟩)
          | (go_at_call 12; refine (get_no _ _ n1.out).mono ?_; rintro e w' ⟨rfl, rfl⟩)
          | (go_at_call 25; refine (drop_no _ _ n1.out).mono ?_; rintro e w' ⟨rfl, rfl⟩)
          | (go_at_call 16; refine (push_no _ _ _ n1.out).mono ?_; rintro e w' ⟨rfl, rfl⟩)
          | (go_at_call 17; refine (write_no _ _ _ n1.out).mono ?_; rintro e w' ⟨rfl, rfl⟩)
          | (go_at_call 26; refine (clean_no _ _ n1.out).mono ?_; rintro e w' ⟨rfl, rfl⟩)
          | (go_at_call 18; refine (flush_no _ _ n1.out).mono ?_; rintro e w' ⟨rfl, rfl⟩)
          | (go_at_call 19; refine (pop_no _ _ n1.out).mono ?_; rintro e w' ⟨rfl, rfl⟩)
          | (go_at_call 20; refine (end_no _ _ n1.out).mono ?_; rintro e w' ⟨rfl, rfl⟩)
          | (go_at_call 13; refine (depth_no _ _ n1.out).mono ?_; rintro e w' ⟨rfl, rfl⟩)
          | (go_at_call 14; refine (bottom_no _ _ n1.out).mono ?_; rintro e w' ⟨rfl, rfl⟩)
          | (go_at_call 15; refine (first_no _ _ n1.out).mono ?_; rintro e w' ⟨rfl, rfl⟩))
        go_round
        case rel => exact ⟨2, by omega, rfl⟩
        case measure => simp [intOf]
end Go.Proofs.Ytoomffplaopijaa
