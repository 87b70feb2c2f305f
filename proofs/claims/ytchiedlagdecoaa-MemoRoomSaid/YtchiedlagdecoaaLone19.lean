/-
  A memo alone in memory; and beside a document's memo that has just been made.
-/
import Derived.Test.YtchiedlagdecoaaPlays19
namespace Go.Proofs.Ytchiedlagdecoaa
open Go.RowKit

theorem size_alloc1 (w : World) (o : Obj) : (w.alloc o).heap.size = w.heap.size + 1 := by simp

structure Lone (w : World) (B b : Nat) (v : Value) (most : Int) (s : St) : Prop where
  memo : MemoIs w b v most s.us s.h s.m
  base : B ≤ b ∧ ∀ k, v.ownBlock = some k → B ≤ k
  size : B ≤ w.heap.size

theorem Lone.stay {w w' : World} {B b : Nat} {v : Value} {most : Int} {s : St} (i : Lone w B b v most s) (h : Mod (fun _ => False) w w') : Lone w' B b v most s :=
  ⟨i.memo.mod h (fun x => x) (fun _ _ x => x), i.base, Nat.le_trans i.size h.size⟩
theorem Lone.stayB {w w' : World} {B b : Nat} {v : Value} {most : Int} {s : St} (i : Lone w B b v most s) (h : Below w.heap.size w w') : Lone w' B b v most s :=
  i.stay (Mod.of_below h)
theorem Both.lone {w : World} {B b rb : Nat} {v rv : Value} {most most' : Int} {s s' : St} (i : Both w B b rb v rv most most' s s') : Lone w B b v most s :=
  ⟨i.memo, ⟨i.base.1, i.base.2.2⟩, i.size⟩
theorem Lone.left {w w' : World} {B b : Nat} {v v' : Value} {most : Int} {s t : St} (i : Lone w B b v most s) (hm : MemoIs w' b v' most t.us t.h t.m)
    (ho : v'.ownBlock = none ∨ v'.ownBlock = v.ownBlock ∨ ∃ k, v'.ownBlock = some k ∧ w.heap.size ≤ k) (h : Mod (fun k => k = b ∨ v.ownBlock = some k) w w') :
    Lone w' B b v' most t ∧ Below B w w' := by
  refine ⟨⟨hm, ⟨i.base.1, ?_⟩, Nat.le_trans i.size h.size⟩, h.belowB (fun k hk e => e.elim (fun e => by have := i.base.1; omega) (fun e => by have := i.base.2 k e; omega)) i.size⟩
  intro j ej
  rcases ho with e | e | ⟨k, e, hk⟩
  · rw [e] at ej; cases ej
  · exact i.base.2 j (e.symm.trans ej)
  · rw [e] at ej; cases ej
    exact Nat.le_trans i.size hk
/-- A document's memo made beside it. -/
theorem Lone.both {w : World} {B b : Nat} {v : Value} {most : Int} {s : St} (i : Lone w B b v most s) (most' : Int) :
    Both (w.alloc (.cells #[.int .i64 most', .slice none 0 0, .int .i64 0, .int .i64 0] 27)) B b w.heap.size v (.slice none 0 0) most most' s ⟨[], 0, 0⟩ := by
  have hb := lt_of_block i.memo.blk
  refine ⟨i.memo.mod (F := fun _ => False) ((Mod.refl _ w).alloc _) (fun x => x) (fun _ _ x => x), ⟨heap_alloc_new w _, ⟨none, 0, rfl, by simp, by simp, Lies.nil _ _ _, fun _ => ⟨rfl, rfl⟩, fun _ e => by simp [Value.ownBlock] at e⟩, by simp [Value.ownBlock], by simp⟩,
    by omega, fun e => by have := i.memo.own.lt e; omega, by simp [Value.ownBlock], fun _ _ e => by simp [Value.ownBlock] at e, ⟨i.base.1, i.size, i.base.2⟩, by have := i.size; simp; omega⟩

theorem new_lone {W w1 : World} {mx : Int} (i1 : MemoIs w1 W.heap.size (.slice none 0 0) mx [] 0 0) (b1 : Below W.heap.size W w1) : Lone w1 W.heap.size W.heap.size (.slice none 0 0) mx ⟨[], 0, 0⟩ :=
  ⟨i1, ⟨Nat.le_refl _, fun _ e => by simp [Value.ownBlock] at e⟩, b1.size⟩

/-- The state behind the first calls of a script. -/
def runS (most : Int) : List Cl → St
  | acts => acts.foldl (fun s a => step most a.kind a.path a.stamp a.u s) ⟨[], 0, 0⟩
theorem runS_snoc (most : Int) (acts : List Cl) (a : Cl) : runS most (acts ++ [a]) = step most a.kind a.path a.stamp a.u (runS most acts) := by
  simp [runS]
theorem runS_succ (most : Int) (acts : List Cl) (k : Nat) (hk : k < acts.length) : runS most (acts.take (k + 1)) = step most acts[k].kind acts[k].path acts[k].stamp acts[k].u (runS most (acts.take k)) := by
  rw [List.take_succ_eq_append_getElem hk, runS_snoc]
theorem runS_bd (most : Int) (acts : List Cl) : ∀ k, k ≤ acts.length → Bd k (runS most (acts.take k))
  | 0, _ => by simp [runS]; exact ⟨by simp, by simp, by simp⟩
  | k + 1, h => by rw [runS_succ most acts k (by omega)]; exact (runS_bd most acts k (by omega)).next _ _ _ _ _

/-- What a loop over a script keeps: the memo stands in the state behind k calls. -/
def At (W wr : World) (most : Int) (acts : List Cl) (k : Nat) : Prop :=
  ∃ v, Lone wr W.heap.size W.heap.size v most (runS most (acts.take k)) ∧ Below W.heap.size W wr

/-- Get in the loop. -/
def GetAt (W wr : World) (v : Value) (most : Int) (acts : List Cl) (k : Nat) (a : Cl) (s : St) (e : Ending) (w' : World) : Prop :=
  e = .returned (.tuple #[.int .i64 ((hitU a.path a.stamp s.us).elim 0 U.u), .bool (hitU a.path a.stamp s.us).isSome]) ∧ At W w' most acts (k + 1) ∧ Mod (fun j => j = W.heap.size ∨ v.ownBlock = some j) wr w'

theorem get_at {W wr : World} {most : Int} {acts : List Cl} {k : Nat} {v : Value} (hk : k < acts.length) (hn : acts.length ≤ 4398046511000) (i : Lone wr W.heap.size W.heap.size v most (runS most (acts.take k))) (hb : Below W.heap.size W wr) (h0 : kindOf acts[k].kind = 0) :
    Calls Try.prog 13 #[.pointer (some ⟨W.heap.size, 0, none⟩), .string acts[k].path, .int .i64 acts[k].stamp] wr (GetAt W wr v most acts k acts[k] (runS most (acts.take k))) := by
  have bd := runS_bd most acts k (by omega)
  refine (get_any _ _ _ _ _ _ acts[k].path acts[k].stamp _ i.memo (by have := bd.h; omega) (by have := bd.m; omega)).mono ?_
  rintro e w' ⟨rfl, ⟨v1, m1, a1⟩, d1⟩
  obtain ⟨b1, l1⟩ := i.left (t := runS most (acts.take (k + 1))) (by rw [runS_succ most acts k hk, step_0 h0]; exact m1) (a1.elim (fun h => .inr (.inl h)) (fun h => .inr (.inr h))) d1
  exact ⟨rfl, ⟨v1, b1, hb.trans l1⟩, d1⟩

/-- Any other call in the loop. -/
def DoesAt (W : World) (most : Int) (acts : List Cl) (k : Nat) (e : Ending) (w' : World) : Prop := (∃ ok, e = .returned (.bool ok)) ∧ At W w' most acts (k + 1)

theorem does_at {W wr : World} {most most' : Int} {acts : List Cl} {k rb : Nat} {v rv : Value} (hk : k < acts.length) (hn : acts.length ≤ 4398046511000) (i : Both wr W.heap.size W.heap.size rb v rv most most' (runS most (acts.take k)) ⟨[], 0, 0⟩) (hb : Below W.heap.size W wr) :
    Calls Try.prog 12 #[.pointer (some ⟨W.heap.size, 0, none⟩), .pointer (some ⟨rb, 0, none⟩), .agg #[.int .i64 acts[k].kind, .string acts[k].path, .int .i64 acts[k].stamp, .int .i64 acts[k].u]] wr (DoesAt W most acts k) := by
  have bd := runS_bd most acts k (by omega)
  refine (does_any _ _ _ _ _ _ _ acts[k].kind acts[k].path acts[k].stamp acts[k].u _ _ _ i (by have := bd.h; omega) (by have := bd.m; omega) (by simp) (by simp) (by have := bd.len; omega) (by simp)).mono ?_
  rintro e w' ⟨⟨ok, rfl, _⟩, ⟨v5, rv5, b5⟩, l5⟩
  exact ⟨⟨ok, rfl⟩, v5, by rw [runS_succ most acts k hk]; exact b5.lone, hb.trans l5⟩

theorem kind_facts {kind : Int} : IntKind.i64.wrap (kind.tmod 4 + 4) = kind.tmod 4 + 4 := by
  have t1 := Int.tmod_lt_of_pos kind (show (0 : Int) < 4 by omega)
  have t2 : -4 < kind.tmod 4 := Int.lt_tmod_of_pos kind (by omega)
  exact wrap_in (by omega) (by omega)

end Go.Proofs.Ytchiedlagdecoaa
