/-
  A memo and the document's memo, side by side in memory: what a step of the one leaves of the other.
-/
import Derived.Test.YtchiedlagdecoaaStands19
namespace Go.Proofs.Ytchiedlagdecoaa
open Go.RowKit

/-- A memo's plain state. -/
structure St where
  us : List U
  h : Int
  m : Int

structure Both (w : World) (B b rb : Nat) (v rv : Value) (most most' : Int) (s s' : St) : Prop where
  memo : MemoIs w b v most s.us s.h s.m
  ref : RefIs w rb rv most' s'.us s'.h s'.m
  ne : b ≠ rb
  vr : v.ownBlock ≠ some rb
  rn : rv.ownBlock ≠ some b
  vv : ∀ k, v.ownBlock = some k → rv.ownBlock ≠ some k
  base : B ≤ b ∧ B ≤ rb ∧ ∀ k, v.ownBlock = some k → B ≤ k
  size : B ≤ w.heap.size

theorem RefIs.lt {w : World} {b : Nat} {v : Value} {most h m : Int} {us : List U} (i : RefIs w b v most us h m) {k : Nat} (hk : v.ownBlock = some k) : k < w.heap.size := by
  obtain ⟨_, _, _, _, _, _, _, h5⟩ := i.reads
  exact h5 k hk

theorem Both.stay {w w' : World} {B b rb : Nat} {v rv : Value} {most most' : Int} {s s' : St} (i : Both w B b rb v rv most most' s s') (h : Mod (fun _ => False) w w') : Both w' B b rb v rv most most' s s' :=
  ⟨i.memo.mod h (fun x => x) (fun _ _ x => x), i.ref.mod' h, i.ne, i.vr, i.rn, i.vv, i.base, Nat.le_trans i.size h.size⟩

/-- Behind a step of the memo. -/
theorem Both.left {w w' : World} {B b rb : Nat} {v v' rv : Value} {most most' : Int} {s s' t : St} (i : Both w B b rb v rv most most' s s') (hm : MemoIs w' b v' most t.us t.h t.m)
    (ho : v'.ownBlock = none ∨ v'.ownBlock = v.ownBlock ∨ ∃ k, v'.ownBlock = some k ∧ w.heap.size ≤ k) (h : Mod (fun k => k = b ∨ v.ownBlock = some k) w w') :
    Both w' B b rb v' rv most most' t s' ∧ Below B w w' := by
  have hrb := lt_of_block i.ref.blk
  refine ⟨⟨hm, i.ref.mod h (fun e => e.elim (fun e => i.ne e.symm) i.vr) (fun g e f => f.elim (fun f => i.rn (by rw [e, f])) (fun f => i.vv g f e)), i.ne, ?_, i.rn, ?_, ⟨i.base.1, i.base.2.1, ?_⟩, Nat.le_trans i.size h.size⟩,
    h.belowB (fun k hk e => e.elim (fun e => by have := i.base.1; omega) (fun e => by have := i.base.2.2 k e; omega)) i.size⟩
  · rcases ho with e | e | ⟨k, e, hk⟩
    · rw [e]; simp
    · rw [e]; exact i.vr
    · rw [e]; intro x; cases x; omega
  · intro j ej
    rcases ho with e | e | ⟨k, e, hk⟩
    · rw [e] at ej; cases ej
    · exact i.vv j (e.symm.trans ej)
    · rw [e] at ej; cases ej
      intro x
      have := i.ref.lt x
      omega
  · intro j ej
    rcases ho with e | e | ⟨k, e, hk⟩
    · rw [e] at ej; cases ej
    · exact i.base.2.2 j (e.symm.trans ej)
    · rw [e] at ej; cases ej
      exact Nat.le_trans i.size hk

/-- Behind a step of the document's. -/
theorem Both.right {w w' : World} {B b rb : Nat} {v rv rv' : Value} {most most' : Int} {s s' t : St} (i : Both w B b rb v rv most most' s s') (hm : RefIs w' rb rv' most' t.us t.h t.m)
    (ho : rv'.ownBlock = none ∨ rv'.ownBlock = rv.ownBlock ∨ Fresh w rv') (h : Mod (fun k => k = rb) w w') :
    Both w' B b rb v rv' most most' s t ∧ Below B w w' := by
  have hb := lt_of_block i.memo.blk
  refine ⟨⟨i.memo.mod h i.ne (fun g e f => i.vr (by rw [e, f])), hm, i.ne, i.vr, ?_, ?_, i.base, Nat.le_trans i.size h.size⟩, h.belowB (fun k hk e => by have := i.base.2.1; omega) i.size⟩
  · rcases ho with e | e | e
    · rw [e]; simp
    · rw [e]; exact i.rn
    · intro x; have := e b x; omega
  · intro j ej
    rcases ho with e | e | e
    · rw [e]; simp
    · rw [e]; exact i.vv j ej
    · intro x; have := e j x; have := i.memo.own.lt ej; omega

/-- One call, on a plain state. -/
def kindOf (k : Int) : Int := (k.tmod 4 + 4).tmod 4
def stepU (most kind : Int) (p : ByteArray) (st u : Int) (us : List U) : List U :=
  if kindOf kind = 0 then getU p st us else if kindOf kind = 1 then putU most p st u us else if kindOf kind = 2 then dropU p us else if u.tmod 8 = 0 then [] else us
def step (most kind : Int) (p : ByteArray) (st u : Int) (s : St) : St :=
  ⟨stepU most kind p st u s.us, if kindOf kind = 0 then (if (hitU p st s.us).isSome then s.h + 1 else s.h) else s.h, if kindOf kind = 0 then (if (hitU p st s.us).isSome then s.m else s.m + 1) else s.m⟩
theorem step_0 {most kind : Int} {p : ByteArray} {st u : Int} {s : St} (h : kindOf kind = 0) : step most kind p st u s = ⟨getU p st s.us, if (hitU p st s.us).isSome then s.h + 1 else s.h, if (hitU p st s.us).isSome then s.m else s.m + 1⟩ := by
  unfold step stepU; rw [h]; simp
theorem step_1 {most kind : Int} {p : ByteArray} {st u : Int} {s : St} (h : kindOf kind = 1) : step most kind p st u s = ⟨putU most p st u s.us, s.h, s.m⟩ := by
  unfold step stepU; rw [h]; simp
theorem step_2 {most kind : Int} {p : ByteArray} {st u : Int} {s : St} (h : kindOf kind = 2) : step most kind p st u s = ⟨dropU p s.us, s.h, s.m⟩ := by
  unfold step stepU; rw [h]; simp
theorem step_3 {most kind : Int} {p : ByteArray} {st u : Int} {s : St} (h : kindOf kind = 3) : step most kind p st u s = ⟨if u.tmod 8 = 0 then [] else s.us, s.h, s.m⟩ := by
  unfold step stepU; rw [h]; simp

theorem kind_range (k : Int) : 0 ≤ kindOf k ∧ kindOf k ≤ 3 := by
  unfold kindOf
  have h1 := Int.tmod_lt_of_pos k (show (0 : Int) < 4 by omega)
  have h2 : -4 < k.tmod 4 := Int.lt_tmod_of_pos k (by omega)
  rw [Int.tmod_eq_emod_of_nonneg (by omega)]
  omega
theorem stepU_len (most kind : Int) (p : ByteArray) (st u : Int) (us : List U) : (stepU most kind p st u us).length ≤ us.length + 1 := by
  unfold stepU
  split
  · have := get_len p st us; omega
  · split
    · exact put_len most p st u us
    · split
      · have := drop_len p us; omega
      · split
        · simp
        · omega

/-- What 'does' leaves and answers. -/
def DoesPost (w : World) (B b rb : Nat) (most most' kind : Int) (p : ByteArray) (st u : Int) (s s' : St) (e : Ending) (w' : World) : Prop :=
  (∃ ok, e = .returned (.bool ok) ∧ (s.us = s'.us → ok = true)) ∧ (∃ v rv, Both w' B b rb v rv most most' (step most kind p st u s) (step most' kind p st u s')) ∧ Below B w w'
end Go.Proofs.Ytchiedlagdecoaa
