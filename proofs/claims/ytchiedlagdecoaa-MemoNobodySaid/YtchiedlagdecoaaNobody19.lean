/-
  The walk of the statement MemoNobody: a memo that nobody made.
-/
import Derived.Test.YtchiedlagdecoaaAlive19
namespace Go.Proofs.Ytchiedlagdecoaa
open Go.RowKit

/-- nil, or a struct that New did not make. -/
def NoMemo (w : World) (v : Value) : Prop := v = .pointer none ∨ ∃ b, v = .pointer (some ⟨b, 0, none⟩) ∧ w.cell? ⟨b, 0, none⟩ = some (.bool false)

theorem ok_no (v : Value) (w : World) (h : NoMemo w v) : Calls Try.prog 23 #[v] w fun e w' => e = .returned (.bool false) ∧ w = w' := by
  rcases h with rfl | ⟨b, rfl, h⟩
  · exact ok_nil w
  · exact ok_any b false w h
theorem put_no (v : Value) (p : ByteArray) (st u : Int) (w : World) (h : NoMemo w v) : Calls Try.prog 17 #[v, .string p, .int .i64 st, .int .i64 u] w fun e w' => e = .returned (.tuple #[]) ∧ w = w' := by
  have H := Lib.hid h
  clear h
  go_enter Try.func17, Try.ntmps17
  go_wp2_with (go_at_call 23; refine (ok_no _ _ H.out).mono ?_; rintro e w' ⟨rfl, rfl⟩)
  exact bodyPost_ret (results_none rfl _ _ _) rfl ⟨rfl, rfl⟩
theorem get_no (v : Value) (p : ByteArray) (st : Int) (w : World) (h : NoMemo w v) : Calls Try.prog 13 #[v, .string p, .int .i64 st] w fun e w' => e = .returned (.tuple #[.int .i64 0, .bool false]) ∧ w = w' := by
  have H := Lib.hid h
  clear h
  go_enter Try.func13, Try.ntmps13
  go_wp2_with (go_at_call 23; refine (ok_no _ _ H.out).mono ?_; rintro e w' ⟨rfl, rfl⟩)
  go_ret2
  exact ⟨rfl, rfl⟩
theorem clear_no (v : Value) (w : World) (h : NoMemo w v) : Calls Try.prog 18 #[v] w fun e w' => e = .returned (.tuple #[]) ∧ w = w' := by
  have H := Lib.hid h
  clear h
  go_enter Try.func18, Try.ntmps18
  go_wp2_with (go_at_call 23; refine (ok_no _ _ H.out).mono ?_; rintro e w' ⟨rfl, rfl⟩)
  go_end0
  exact ⟨rfl, rfl⟩
theorem drop_no (v : Value) (p : ByteArray) (w : World) (h : NoMemo w v) : Calls Try.prog 19 #[v, .string p] w fun e w' => e = .returned (.bool false) ∧ w = w' := by
  have H := Lib.hid h
  clear h
  go_enter Try.func19, Try.ntmps19
  go_wp2_with (go_at_call 23; refine (ok_no _ _ H.out).mono ?_; rintro e w' ⟨rfl, rfl⟩)
  go_ret
  exact ⟨rfl, rfl⟩
theorem paths_no (v : Value) (w : World) (h : NoMemo w v) : Calls Try.prog 14 #[v] w fun e w' => e = .returned (.slice none 0 0) ∧ w = w' := by
  have H := Lib.hid h
  clear h
  go_enter Try.func14, Try.ntmps14
  go_wp2_with (go_at_call 23; refine (ok_no _ _ H.out).mono ?_; rintro e w' ⟨rfl, rfl⟩)
  go_ret
  exact ⟨rfl, rfl⟩
theorem hits_no (v : Value) (w : World) (h : NoMemo w v) : Calls Try.prog 15 #[v] w fun e w' => e = .returned (.int .i64 0) ∧ w = w' := by
  have H := Lib.hid h
  clear h
  go_enter Try.func15, Try.ntmps15
  go_wp2_with (go_at_call 23; refine (ok_no _ _ H.out).mono ?_; rintro e w' ⟨rfl, rfl⟩)
  go_ret
  exact ⟨rfl, rfl⟩
theorem misses_no (v : Value) (w : World) (h : NoMemo w v) : Calls Try.prog 16 #[v] w fun e w' => e = .returned (.int .i64 0) ∧ w = w' := by
  have H := Lib.hid h
  clear h
  go_enter Try.func16, Try.ntmps16
  go_wp2_with (go_at_call 23; refine (ok_no _ _ H.out).mono ?_; rintro e w' ⟨rfl, rfl⟩)
  go_ret
  exact ⟨rfl, rfl⟩

set_option maxHeartbeats 1600000 in
theorem nobody_any (kind : Int) (p : ByteArray) (st u : Int) (W : World) :
    Calls Try.prog 8 #[.agg #[.int .i64 kind, .string p, .int .i64 st, .int .i64 u]] W (AlivePost W) := by
  go_enter Try.func8, Try.ntmps8
  go_wp2_with fail
  obtain ⟨w3, hw3⟩ : ∃ w3, w3 = ((W.alloc (.cells #[.int .i64 kind, .string p, .int .i64 st, .int .i64 u] 32)).alloc (.cells #[.bool false, .int .i64 0, .slice none 0 0, .int .i64 0, .int .i64 0] 43)).alloc (.cells #[.pointer none, .pointer (some ⟨W.heap.size + 1, 0, none⟩)] 23) := ⟨_, rfl⟩
  have b0 : w3.heap[W.heap.size]? = some (.cells #[.int .i64 kind, .string p, .int .i64 st, .int .i64 u] 32 (0, 0)) := by rw [hw3]; exact alloc_blk (alloc_blk (heap_alloc_new W _) _) _
  have b1 : w3.heap[W.heap.size + 1]? = some (.cells #[.bool false, .int .i64 0, .slice none 0 0, .int .i64 0, .int .i64 0] 43 (0, 0)) := by
    rw [hw3]
    have := heap_alloc_new (W.alloc (.cells #[.int .i64 kind, .string p, .int .i64 st, .int .i64 u] 32)) (.cells #[.bool false, .int .i64 0, .slice none 0 0, .int .i64 0, .int .i64 0] 43)
    rw [show (W.alloc (.cells #[.int .i64 kind, .string p, .int .i64 st, .int .i64 u] 32)).heap.size = W.heap.size + 1 by simp] at this
    exact alloc_blk this _
  have b2 : w3.heap[W.heap.size + 1 + 1]? = some (.cells #[.pointer none, .pointer (some ⟨W.heap.size + 1, 0, none⟩)] 23 (0, 0)) := by
    rw [hw3]
    have := heap_alloc_new ((W.alloc (.cells #[.int .i64 kind, .string p, .int .i64 st, .int .i64 u] 32)).alloc (.cells #[.bool false, .int .i64 0, .slice none 0 0, .int .i64 0, .int .i64 0] 43)) (.cells #[.pointer none, .pointer (some ⟨W.heap.size + 1, 0, none⟩)] 23)
    rw [show ((W.alloc (.cells #[.int .i64 kind, .string p, .int .i64 st, .int .i64 u] 32)).alloc (.cells #[.bool false, .int .i64 0, .slice none 0 0, .int .i64 0, .int .i64 0] 43)).heap.size = W.heap.size + 1 + 1 by simp] at this
    exact this
  have BL : Hid (Below W.heap.size W w3) := by
    show Below _ _ _
    rw [hw3]
    exact (((Below.refl _ W).alloc (by simp) _).alloc (by simp) _).alloc (by simp; omega) _
  rw [← hw3]
  clear hw3
  have c1 := cell_blk b0 1
  have c2 := cell_blk b0 2
  have c3 := cell_blk b0 3
  have e0 := cell_blk b2 0
  have e1 := cell_blk b2 1
  have d0 := cell_blk b1 0
  simp at c1 c2 c3 e0 e1 d0
  have n0 : Hid (NoMemo w3 (.pointer none)) := .inl rfl
  have n1 : Hid (NoMemo w3 (.pointer (some ⟨W.heap.size + 1, 0, none⟩))) := .inr ⟨_, rfl, d0⟩
  clear b0 b1 b2 d0
  go_loop [11] (fun i => ∃ k : Nat, k ≤ 2 ∧ i = .int .i64 k) (fun i => 2 - (intOf i).toNat)
  case atStart => exact ⟨0, by omega, rfl⟩
  case round =>
    obtain ⟨k, hk, rfl⟩ := hrel
    by_cases h2 : k = 2
    · subst h2
      go_wp2_with fail
      refine (alive_any _).mono ?_
      rintro e w4 ⟨rfl, b4⟩
      have B4 := Lib.hid b4
      clear b4
      go_wp2
      go_ret
      exact ⟨rfl, BL.out.trans (B4.out.mono BL.out.size)⟩
    · rcases (show k = 0 ∨ k = 1 by omega) with rfl | rfl
      · go_wp2_with (first
          | (go_at_call 17; refine (put_no _ _ _ _ _ n0.out).mono ?_; rintro e w' ⟨rfl, rfl⟩)
          | (go_at_call 13; refine (get_no _ _ _ _ n0.out).mono ?_; rintro e w' ⟨rfl, rfl⟩)
          | (go_at_call 18; refine (clear_no _ _ n0.out).mono ?_; rintro e w' ⟨rfl, rfl⟩)
          | (go_at_call 19; refine (drop_no _ _ _ n0.out).mono ?_; rintro e w' ⟨rfl, rfl⟩)
          | (go_at_call 14; refine (paths_no _ _ n0.out).mono ?_; rintro e w' ⟨rfl, rfl⟩)
          | (go_at_call 15; refine (hits_no _ _ n0.out).mono ?_; rintro e w' ⟨rfl, rfl⟩)
          | (go_at_call 16; refine (misses_no _ _ n0.out).mono ?_; rintro e w' ⟨rfl, rfl⟩))
        go_round
        case rel => exact ⟨1, by omega, rfl⟩
        case measure => simp [intOf]
      · go_wp2_with (first
          | (go_at_call 17; refine (put_no _ _ _ _ _ n1.out).mono ?_; rintro e w' ⟨rfl, rfl⟩)
          | (go_at_call 13; refine (get_no _ _ _ _ n1.out).mono ?_; rintro e w' ⟨rfl, rfl⟩)
          | (go_at_call 18; refine (clear_no _ _ n1.out).mono ?_; rintro e w' ⟨rfl, rfl⟩)
          | (go_at_call 19; refine (drop_no _ _ _ n1.out).mono ?_; rintro e w' ⟨rfl, rfl⟩)
          | (go_at_call 14; refine (paths_no _ _ n1.out).mono ?_; rintro e w' ⟨rfl, rfl⟩)
          | (go_at_call 15; refine (hits_no _ _ n1.out).mono ?_; rintro e w' ⟨rfl, rfl⟩)
          | (go_at_call 16; refine (misses_no _ _ n1.out).mono ?_; rintro e w' ⟨rfl, rfl⟩))
        go_round
        case rel => exact ⟨2, by omega, rfl⟩
        case measure => simp [intOf]
end Go.Proofs.Ytchiedlagdecoaa
