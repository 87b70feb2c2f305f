/-
  The walk of 'does' at Drop: both memos in whatever order.
-/
import Derived.Test.YtchiedlagdecoaaDoes19
namespace Go.Proofs.Ytchiedlagdecoaa
open Go.RowKit

theorem hasU_eq {p : ByteArray} {us us' : List U} (h : us = us') : (hasU p us == hasU p us') = true := by rw [h]; simp

set_option maxHeartbeats 1600000 in
theorem does_2 (b rb : Nat) (v rv : Value) (B : Nat) (most most' kind : Int) (p : ByteArray) (st u : Int) (s s' : St) (w : World) (i : Both w B b rb v rv most most' s s') (hk : kindOf kind = 2) :
    Calls Try.prog 12 #[.pointer (some ⟨b, 0, none⟩), .pointer (some ⟨rb, 0, none⟩), .agg #[.int .i64 kind, .string p, .int .i64 st, .int .i64 u]] w (DoesPost w B b rb most most' kind p st u s s') := by
  have I := Lib.hid i
  have HK := Lib.hid hk
  have t1 := Int.tmod_lt_of_pos kind (show (0 : Int) < 4 by omega)
  have t2 : -4 < kind.tmod 4 := Int.lt_tmod_of_pos kind (by omega)
  have hw : IntKind.i64.wrap (kind.tmod 4 + 4) = kind.tmod 4 + 4 := wrap_in (by omega) (by omega)
  unfold kindOf at hk
  clear i
  go_enter Try.func12, Try.ntmps12
  go_wp2_with fail
  have i0 := I.out.stay ((Mod.refl _ w).alloc (.cells #[.int .i64 kind, .string p, .int .i64 st, .int .i64 u] 32))
  have hc := heap_alloc_new w (.cells #[.int .i64 kind, .string p, .int .i64 st, .int .i64 u] 32)
  have hwb := I.out.size
  have hbx := lt_of_block I.out.memo.blk
  have hrx := lt_of_block I.out.ref.blk
  have hvx : ∀ k, v.ownBlock = some k → k < w.heap.size := fun k e => I.out.memo.own.lt e
  have BB : Hid (Both (w.alloc (.cells #[.int .i64 kind, .string p, .int .i64 st, .int .i64 u] 32)).drew B b rb v rv most most' s s') := i0.stay (Mod.refl _ _).drew
  have LL : Hid (Below B w (w.alloc (.cells #[.int .i64 kind, .string p, .int .i64 st, .int .i64 u] 32)).drew) := ((Below.refl B w).alloc hwb _).drew
  have CC : Hid ((w.alloc (.cells #[.int .i64 kind, .string p, .int .i64 st, .int .i64 u] 32)).drew.heap[w.heap.size]? = some (.cells #[.int .i64 kind, .string p, .int .i64 st, .int .i64 u] 32 (0, 0))) := hc
  have HV := Lib.hid hvx
  clear hc i0 hvx
  go_region_with (first
    | (go_at_call 19; refine (drop_any _ _ _ _ _ _ p _ BB.out.memo).mono ?_; rintro e w1 ⟨rfl, ⟨v1, m1, a1⟩, d1⟩; obtain ⟨b1, l1⟩ := BB.out.left (t := step most kind p st u s) (by rw [step_2 HK.out]; exact m1) (.inr (.inl a1)) d1; have c1 := d1.blk CC.out (fun h => h.elim (fun h => by omega) (fun h => by have := HV.out _ h; omega)); have x1 := cell_blk c1 1; simp at x1; have l2 := LL.out.trans l1; clear BB LL CC; have BB := Lib.hid b1; have LL := Lib.hid l2; have CC := Lib.hid c1; clear m1 a1 d1 b1 l1 l2 c1)
    | (go_at_call 22; refine (rdrop_any _ _ _ _ _ _ p _ BB.out.ref).mono ?_; rintro e w2 ⟨rfl, ⟨v2, m2, a2⟩, d2⟩; obtain ⟨b2, l1⟩ := BB.out.right (t := step most' kind p st u s') (by rw [step_2 HK.out]; exact m2) (a2.elim (fun h => .inr (.inl (by rw [h.1]))) (fun h => .inr (.inr h.2))) d2; have c1 := d2.blk CC.out (by omega); have x1 := cell_blk c1 1; simp at x1; have l2 := LL.out.trans l1; clear BB LL CC; have BB := Lib.hid b2; have LL := Lib.hid l2; have CC := Lib.hid c1; clear m2 a2 d2 b2 l1 l2 c1))
  all_goals go_wp2
  all_goals go_ret
  all_goals exact ⟨⟨_, rfl, fun h => hasU_eq h⟩, ⟨_, _, BB.out⟩, LL.out⟩

theorem does_any (b rb : Nat) (v rv : Value) (B : Nat) (most most' kind : Int) (p : ByteArray) (st u : Int) (s s' : St) (w : World) (i : Both w B b rb v rv most most' s s')
    (h1 : 0 ≤ s.h ∧ s.h ≤ 4611686018427387904) (h2 : 0 ≤ s.m ∧ s.m ≤ 4611686018427387904) (h3 : 0 ≤ s'.h ∧ s'.h ≤ 4611686018427387904) (h4 : 0 ≤ s'.m ∧ s'.m ≤ 4611686018427387904)
    (h5 : s.us.length < 4398046511103) (h6 : s'.us.length < 4398046511103) :
    Calls Try.prog 12 #[.pointer (some ⟨b, 0, none⟩), .pointer (some ⟨rb, 0, none⟩), .agg #[.int .i64 kind, .string p, .int .i64 st, .int .i64 u]] w (DoesPost w B b rb most most' kind p st u s s') := by
  have hr := kind_range kind
  by_cases k0 : kindOf kind = 0
  · exact does_0 b rb v rv B most most' kind p st u s s' w i h1 h2 h3 h4 k0
  · by_cases k1 : kindOf kind = 1
    · exact does_1 b rb v rv B most most' kind p st u s s' w i h5 h6 k1
    · by_cases k2 : kindOf kind = 2
      · exact does_2 b rb v rv B most most' kind p st u s s' w i k2
      · exact does_3 b rb v rv B most most' kind p st u s s' w i (by omega)
end Go.Proofs.Ytchiedlagdecoaa
