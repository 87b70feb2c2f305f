/-
  HeadNobody: the walk.
-/
import Derived.Test.YthnhpnmopjbaoaaDoorAlive11
import Derived.Test.YthnhpnmopjbaoaaDoorNob11
namespace Go.Proofs.YthnhpnmopjbaoaaDoor
open Go.RowKit

set_option maxHeartbeats 6400000 in
set_option maxRecDepth 100000 in
theorem hnobody_any (kind n : Int) (s t u : ByteArray) (r : Bool) (w : World) (ht : Tabs w) : Calls Tryd.prog 11 #[.agg #[.int .i64 kind, .string s, .string t, .string u, .bool r, .int .i64 n]] w (BoolPost w true) := by
  have HTS := Lib.hid ht
  obtain ⟨W0, hW0⟩ : ∃ W0, W0 = ((w.alloc (.cells #[.int .i64 kind, .string s, .string t, .string u, .bool r, .int .i64 n] 55)).alloc (.cells #[.bool false, .bool false, .int .i64 0, .slice none 0 0] 71)).alloc (.cells #[.pointer none, .pointer (some ⟨w.heap.size + 1, 0, none⟩)] 48) := ⟨_, rfl⟩
  have FB : Hid (Below w.heap.size w W0 ∧ W0.heap[w.heap.size]? = some (.cells #[.int .i64 kind, .string s, .string t, .string u, .bool r, .int .i64 n] 55 (0, 0)) ∧ W0.heap[w.heap.size + 1]? = some (.cells #[.bool false, .bool false, .int .i64 0, .slice none 0 0] 71 (0, 0)) ∧ W0.heap[w.heap.size + 1 + 1]? = some (.cells #[.pointer none, .pointer (some ⟨w.heap.size + 1, 0, none⟩)] 48 (0, 0))) := Lib.hid (by
    have y0 := heap_alloc_new w (.cells #[.int .i64 kind, .string s, .string t, .string u, .bool r, .int .i64 n] 55)
    have y1 := heap_alloc_new (w.alloc (.cells #[.int .i64 kind, .string s, .string t, .string u, .bool r, .int .i64 n] 55)) (.cells #[.bool false, .bool false, .int .i64 0, .slice none 0 0] 71)
    have y2 := heap_alloc_new ((w.alloc (.cells #[.int .i64 kind, .string s, .string t, .string u, .bool r, .int .i64 n] 55)).alloc (.cells #[.bool false, .bool false, .int .i64 0, .slice none 0 0] 71)) (.cells #[.pointer none, .pointer (some ⟨w.heap.size + 1, 0, none⟩)] 48)
    simp only [World.size_alloc] at y1 y2
    rw [hW0]
    exact ⟨((below_alloc1 w _).alloc (by simp) _).alloc (by simp; omega) _, (Below.heap_alloc _ _ _ (by simp; omega)).trans ((Below.heap_alloc _ _ _ (by simp)).trans y0), (Below.heap_alloc _ _ _ (by simp)).trans y1, y2⟩)
  have PS : Hid (∃ ps : Nat → Option Addr, ∀ k, k < 2 → NobodyH W0 (ps k) ∧ W0.cell? ⟨w.heap.size + 1 + 1, k, none⟩ = some (.pointer (ps k))) := Lib.hid (by
    refine ⟨fun k => if k = 0 then none else some ⟨w.heap.size + 1, 0, none⟩, fun k hk => ?_⟩
    match k, hk with
    | 0, _ => exact ⟨.inl rfl, cell_blk FB.out.2.2.2 0⟩
    | 1, _ => exact ⟨.inr ⟨_, rfl, FB.out.2.2.1⟩, cell_blk FB.out.2.2.2 1⟩)
  have HW0 := Lib.hid hW0
  clear ht hW0
  obtain ⟨ps, hps⟩ := PS.out
  have HPS := Lib.hid hps
  clear hps PS
  have x0 := cell_blk FB.out.2.1 0
  have x1 := cell_blk FB.out.2.1 1
  have x2 := cell_blk FB.out.2.1 2
  have x3 := cell_blk FB.out.2.1 3
  have x4 := cell_blk FB.out.2.1 4
  have x5 := cell_blk FB.out.2.1 5
  go_enter Tryd.func11, Tryd.ntmps11
  go_wp2_with fail
  rw [← HW0.out]
  clear HW0
  go_loopw [4, 9] (fun _ kv wr => ∃ k : Nat, k ≤ 2 ∧ kv = .int .i64 k ∧ W0 = wr) (fun _ kv _ => 2 - (intOf kv).toNat)
  case atStart => exact ⟨0, Nat.zero_le _, rfl, rfl⟩
  case round =>
    obtain ⟨k, hk, rfl, rfl⟩ := hrel
    by_cases hlt : k < 2
    · obtain ⟨hnb, hcell⟩ := HPS.out k hlt
      have hi : (k : Int) < 2 := by omega
      have hw : IntKind.i64.wrap ((k : Int) + 1) = (k : Int) + 1 := by rw [IntKind.wrap_i64]; omega
      have hw' : wrap64 ((k : Int) + 1) = (k : Int) + 1 := wr64 (by omega) (by omega)
      have H1 := line_nob hnb s r n
      have H2 := status_nob hnb n
      have H3 := cookie_nob hnb s t u n
      have H4 := remove_nob hnb s
      have H5 := send_nob hnb
      have H6 := sent_nob hnb
      have H7 := code_nob hnb
      have H8 := lines_nob hnb
      generalize ps k = p at hcell H1 H2 H3 H4 H5 H6 H7 H8
      clear hnb
      go_wp2_with (first
        | (go_at_call 30; refine H1.mono ?_; rintro e w' ⟨rfl, rfl⟩)
        | (go_at_call 33; refine H2.mono ?_; rintro e w' ⟨rfl, rfl⟩)
        | (go_at_call 34; refine H3.mono ?_; rintro e w' ⟨rfl, rfl⟩)
        | (go_at_call 32; refine H4.mono ?_; rintro e w' ⟨rfl, rfl⟩)
        | (go_at_call 25; refine H5.mono ?_; rintro e w' ⟨rfl, rfl⟩)
        | (go_at_call 29; refine H6.mono ?_; rintro e w' ⟨rfl, rfl⟩)
        | (go_at_call 26; refine H7.mono ?_; rintro e w' ⟨rfl, rfl⟩)
        | (go_at_call 27; refine H8.mono ?_; rintro e w' ⟨rfl, rfl⟩))
      go_roundw
      case rel => exact ⟨k + 1, hlt, by go_num, trivial⟩
      case measure => simp [intOf]; omega
    · obtain rfl : k = 2 := by omega
      have HA := halive_any W0 (HTS.out.mono FB.out.1)
      go_wp2_with fail
      refine HA.mono ?_
      rintro e w1 ⟨rfl, hb⟩
      have B2 := Lib.hid (FB.out.1.trans (hb.mono FB.out.1.size))
      clear hb HA
      go_wp2_with fail
      go_ret
      exact ⟨rfl, B2.out⟩
end Go.Proofs.YthnhpnmopjbaoaaDoor
