/-
  The walk of 'does': one call of both memos.
-/
import Derived.Test.YtchiedlagdecoaaBoth19
namespace Go.Proofs.Ytchiedlagdecoaa
open Go.RowKit

set_option maxHeartbeats 1600000 in
theorem does_0 (b rb : Nat) (v rv : Value) (B : Nat) (most most' kind : Int) (p : ByteArray) (st u : Int) (s s' : St) (w : World) (i : Both w B b rb v rv most most' s s')
    (h1 : 0 ≤ s.h ∧ s.h ≤ 4611686018427387904) (h2 : 0 ≤ s.m ∧ s.m ≤ 4611686018427387904) (h3 : 0 ≤ s'.h ∧ s'.h ≤ 4611686018427387904) (h4 : 0 ≤ s'.m ∧ s'.m ≤ 4611686018427387904) (hk : kindOf kind = 0) :
    Calls Try.prog 12 #[.pointer (some ⟨b, 0, none⟩), .pointer (some ⟨rb, 0, none⟩), .agg #[.int .i64 kind, .string p, .int .i64 st, .int .i64 u]] w (DoesPost w B b rb most most' kind p st u s s') := by
  have I := Lib.hid i
  have HK := Lib.hid hk
  have t1 := Int.tmod_lt_of_pos kind (show (0 : Int) < 4 by omega)
  have t2 : -4 < kind.tmod 4 := Int.lt_tmod_of_pos kind (by omega)
  have hw : IntKind.i64.wrap (kind.tmod 4 + 4) = kind.tmod 4 + 4 := wrap_in (by omega) (by omega)
  unfold kindOf at hk
  clear i
  go_enter Try.func12, Try.ntmps12
  go_wp2_with fail
  have i0 := I.out.stay ((Mod.refl _ w).alloc (.cells #[.int .i64 kind, .string p, .int .i64 st, .int .i64 u] 32))
  have hc := heap_alloc_new w (.cells #[.int .i64 kind, .string p, .int .i64 st, .int .i64 u] 32)
  have hwb := I.out.size
  have hbx := lt_of_block I.out.memo.blk
  have hrx := lt_of_block I.out.ref.blk
  have hvx : ∀ k, v.ownBlock = some k → k < w.heap.size := fun k e => I.out.memo.own.lt e
  refine (get_any _ _ _ _ _ _ p st _ i0.memo h1 h2).mono ?_
  rintro e w1 ⟨rfl, ⟨v1, m1, a1⟩, d1⟩
  obtain ⟨b1, l1⟩ := i0.left (t := step most kind p st u s) (by rw [step_0 HK.out]; exact m1) (a1.elim (fun h => .inr (.inl h)) (fun h => .inr (.inr h))) d1
  have c1 := d1.blk hc (fun h => h.elim (fun h => by omega) (fun h => by have := hvx _ h; omega))
  have x1 := cell_blk c1 1
  have x2 := cell_blk c1 2
  simp at x1 x2
  have B1 := Lib.hid b1
  have L1 := Lib.hid l1
  clear m1 a1 d1 i0 b1 l1 hc
  go_wp2_with fail
  refine (rget_any _ _ _ _ _ _ p st _ B1.out.ref h3 h4).mono ?_
  rintro e w2 ⟨rfl, ⟨v2, m2, a2⟩, d2⟩
  obtain ⟨b2, l2⟩ := B1.out.right (t := step most' kind p st u s') (by rw [step_0 HK.out]; exact m2) (.inr a2) d2
  have B2 := Lib.hid b2
  have L2 := Lib.hid l2
  clear m2 a2 d2 b2 l2 x1 x2
  have L : Hid (Below B w w2) := (((Below.refl B w).alloc hwb _).trans L1.out).trans L2.out
  by_cases hu : s.us = s'.us
  · have e1 : ((hitU p st s.us).elim 0 U.u == (hitU p st s'.us).elim 0 U.u) = true := by rw [hu]; simp
    have e2 : ((hitU p st s.us).isSome == (hitU p st s'.us).isSome) = true := by rw [hu]; simp
    have HU := Lib.hid hu
    clear hu
    go_wp2
    go_ret
    exact ⟨⟨true, rfl, fun _ => rfl⟩, ⟨_, _, B2.out⟩, L.out⟩
  · have HU := Lib.hid hu
    clear hu
    cases e1 : ((hitU p st s.us).elim 0 U.u == (hitU p st s'.us).elim 0 U.u) with
    | false =>
      go_wp2
      go_ret
      exact ⟨⟨false, rfl, fun h => absurd h HU.out⟩, ⟨_, _, B2.out⟩, L.out⟩
    | true =>
      go_wp2
      go_ret
      exact ⟨⟨_, rfl, fun h => absurd h HU.out⟩, ⟨_, _, B2.out⟩, L.out⟩

set_option maxHeartbeats 1600000 in
theorem does_1 (b rb : Nat) (v rv : Value) (B : Nat) (most most' kind : Int) (p : ByteArray) (st u : Int) (s s' : St) (w : World) (i : Both w B b rb v rv most most' s s')
    (h1 : s.us.length < 4398046511103) (h2 : s'.us.length < 4398046511103) (hk : kindOf kind = 1) :
    Calls Try.prog 12 #[.pointer (some ⟨b, 0, none⟩), .pointer (some ⟨rb, 0, none⟩), .agg #[.int .i64 kind, .string p, .int .i64 st, .int .i64 u]] w (DoesPost w B b rb most most' kind p st u s s') := by
  have I := Lib.hid i
  have HK := Lib.hid hk
  have t1 := Int.tmod_lt_of_pos kind (show (0 : Int) < 4 by omega)
  have t2 : -4 < kind.tmod 4 := Int.lt_tmod_of_pos kind (by omega)
  have hw : IntKind.i64.wrap (kind.tmod 4 + 4) = kind.tmod 4 + 4 := wrap_in (by omega) (by omega)
  unfold kindOf at hk
  clear i
  go_enter Try.func12, Try.ntmps12
  go_wp2_with fail
  have i0 := I.out.stay ((Mod.refl _ w).alloc (.cells #[.int .i64 kind, .string p, .int .i64 st, .int .i64 u] 32))
  have hc := heap_alloc_new w (.cells #[.int .i64 kind, .string p, .int .i64 st, .int .i64 u] 32)
  have hwb := I.out.size
  have hbx := lt_of_block I.out.memo.blk
  have hrx := lt_of_block I.out.ref.blk
  have hvx : ∀ k, v.ownBlock = some k → k < w.heap.size := fun k e => I.out.memo.own.lt e
  refine (put_any _ _ _ _ _ _ p st u _ i0.memo h1).mono ?_
  rintro e w1 ⟨rfl, ⟨v1, m1, a1⟩, d1⟩
  obtain ⟨b1, l1⟩ := i0.left (t := step most kind p st u s) (by rw [step_1 HK.out]; exact m1) a1 d1
  have c1 := d1.blk hc (fun h => h.elim (fun h => by omega) (fun h => by have := hvx _ h; omega))
  have x1 := cell_blk c1 1
  have x2 := cell_blk c1 2
  have x3 := cell_blk c1 3
  simp at x1 x2 x3
  have B1 := Lib.hid b1
  have L1 := Lib.hid l1
  clear m1 a1 d1 i0 b1 l1 hc
  go_wp2_with fail
  refine (rput_any _ _ _ _ _ _ p st u _ B1.out.ref h2).mono ?_
  rintro e w2 ⟨rfl, ⟨v2, m2, a2⟩, d2⟩
  obtain ⟨b2, l2⟩ := B1.out.right (t := step most' kind p st u s') (by rw [step_1 HK.out]; exact m2) a2 d2
  have B2 := Lib.hid b2
  have L2 := Lib.hid l2
  clear m2 a2 d2 b2 l2 x1 x2 x3
  have L : Hid (Below B w w2) := (((Below.refl B w).alloc hwb _).trans L1.out).trans L2.out
  go_wp2
  go_ret
  exact ⟨⟨true, rfl, fun _ => rfl⟩, ⟨_, _, B2.out⟩, L.out⟩

set_option maxHeartbeats 1600000 in
theorem does_3 (b rb : Nat) (v rv : Value) (B : Nat) (most most' kind : Int) (p : ByteArray) (st u : Int) (s s' : St) (w : World) (i : Both w B b rb v rv most most' s s') (hk : kindOf kind = 3) :
    Calls Try.prog 12 #[.pointer (some ⟨b, 0, none⟩), .pointer (some ⟨rb, 0, none⟩), .agg #[.int .i64 kind, .string p, .int .i64 st, .int .i64 u]] w (DoesPost w B b rb most most' kind p st u s s') := by
  by_cases hu : u.tmod 8 = 0
  · have HU := Lib.hid hu
    have hu' : (u.tmod 8 == 0) = true := by simpa using hu
    clear hu
    have I := Lib.hid i
    have HK := Lib.hid hk
    have t1 := Int.tmod_lt_of_pos kind (show (0 : Int) < 4 by omega)
    have t2 : -4 < kind.tmod 4 := Int.lt_tmod_of_pos kind (by omega)
    have hw : IntKind.i64.wrap (kind.tmod 4 + 4) = kind.tmod 4 + 4 := wrap_in (by omega) (by omega)
    unfold kindOf at hk
    clear i
    go_enter Try.func12, Try.ntmps12
    go_wp2_with fail
    have i0 := I.out.stay ((Mod.refl _ w).alloc (.cells #[.int .i64 kind, .string p, .int .i64 st, .int .i64 u] 32))
    have hc := heap_alloc_new w (.cells #[.int .i64 kind, .string p, .int .i64 st, .int .i64 u] 32)
    have hwb := I.out.size
    have hbx := lt_of_block I.out.memo.blk
    have hrx := lt_of_block I.out.ref.blk
    have hvx : ∀ k, v.ownBlock = some k → k < w.heap.size := fun k e => I.out.memo.own.lt e
    refine (clear_any _ _ _ _ _ _ _ i0.memo).mono ?_
    rintro e w1 ⟨rfl, ⟨v1, m1, a1⟩, d1⟩
    obtain ⟨b1, l1⟩ := i0.left (t := step most kind p st u s) (by rw [step_3 HK.out, if_pos HU.out]; exact m1) a1 d1
    have B1 := Lib.hid b1
    have L1 := Lib.hid l1
    have f1 := free_blk B1.out.ref.blk 1
    have y1 := cell_blk B1.out.ref.blk 1
    simp at y1
    clear m1 a1 d1 i0 b1 l1 hc
    go_wp2
    go_ret
    have hR : RefIs (w1.setCell ⟨rb, 1, none⟩ (.slice none 0 0)) rb (.slice none 0 0) most' [] s'.h s'.m :=
      RefIs.set B1.out.ref.blk ⟨none, 0, rfl, by simp, by simp, Lies.nil _ _ _, fun _ => ⟨rfl, rfl⟩, fun _ e => by simp [Value.ownBlock] at e⟩ (by simp [Value.ownBlock]) (by simp) rfl
    obtain ⟨b2, l2⟩ := B1.out.right (t := step most' kind p st u s') (by rw [step_3 HK.out, if_pos HU.out]; exact hR) (.inl rfl) ((Mod.refl _ w1).setCell _ _ (fun _ => rfl))
    exact ⟨⟨true, rfl, fun _ => rfl⟩, ⟨_, _, b2⟩, (((Below.refl B w).alloc hwb _).trans L1.out).trans l2⟩
  · have HU := Lib.hid hu
    have hu' : (u.tmod 8 == 0) = false := by simpa using hu
    clear hu
    have I := Lib.hid i
    have HK := Lib.hid hk
    have t1 := Int.tmod_lt_of_pos kind (show (0 : Int) < 4 by omega)
    have t2 : -4 < kind.tmod 4 := Int.lt_tmod_of_pos kind (by omega)
    have hw : IntKind.i64.wrap (kind.tmod 4 + 4) = kind.tmod 4 + 4 := wrap_in (by omega) (by omega)
    unfold kindOf at hk
    clear i
    go_enter Try.func12, Try.ntmps12
    go_wp2
    have i0 := I.out.stay ((Mod.refl _ w).alloc (.cells #[.int .i64 kind, .string p, .int .i64 st, .int .i64 u] 32))
    have hc := heap_alloc_new w (.cells #[.int .i64 kind, .string p, .int .i64 st, .int .i64 u] 32)
    have hwb := I.out.size
    have hbx := lt_of_block I.out.memo.blk
    have hrx := lt_of_block I.out.ref.blk
    have hvx : ∀ k, v.ownBlock = some k → k < w.heap.size := fun k e => I.out.memo.own.lt e
    go_ret
    refine ⟨⟨true, rfl, fun _ => rfl⟩, ⟨v, rv, ?_⟩, (Below.refl B w).alloc hwb _⟩
    rw [step_3 HK.out, step_3 HK.out, if_neg HU.out, if_neg HU.out]
    exact i0
end Go.Proofs.Ytchiedlagdecoaa
