/-
  The walk of 'does': one call of both stacks.
-/
import Derived.Test.YtoomffplaopijaaDuo12
import Derived.Test.YtoomffplaopijaaAll12
namespace Go.Proofs.Ytoomffplaopijaa
open Go.RowKit

def Kb (K : Nat → Prop) (n : Nat) (k : Nat) : Prop := K k ∨ k = n
theorem Duo.box {K : Nat → Prop} {w : World} {a b : Nat} {s t : Sk} (l : Duo K w a b s t) (o : Obj) : Duo (Kb K w.heap.size) (w.alloc o) a b s t := by
  obtain ⟨hK, h, v, i, j, p, q, r⟩ := l
  have hb := lt_of_block j.blk
  refine ⟨fun k x => by simp; rcases x with x | x; (have := hK k x; omega); omega, h, v, i.stay ((Mod.refl _ w).alloc o), j.stay ((Mod.refl _ w).alloc o), fun k x => ⟨fun y => ?_, (p k x).2⟩, fun y => y.elim q (fun e => by omega), fun k e y => y.elim (r k e) (fun e' => by have := j.rows.lt e; omega)⟩
  rcases y with y | y
  · exact (p k x).1 y
  · obtain ⟨l, e⟩ := x
    have := i.lt l _ e
    omega
theorem Duo.unbox {K : Nat → Prop} {n : Nat} {w : World} {a b : Nat} {s t : Sk} (l : Duo (Kb K n) w a b s t) : Duo K w a b s t := by
  obtain ⟨hK, h, v, i, j, p, q, r⟩ := l
  exact ⟨fun k x => hK k (.inl x), h, v, i, j, fun k x => ⟨fun y => (p k x).1 (.inl y), (p k x).2⟩, fun y => q (.inl y), fun k e y => r k e (.inl y)⟩
theorem kb_unbox {K : Nat → Prop} {n : Nat} {w w' : World} {o : Obj} (m : Mod (fun k => ¬ Kb K n k) (w.alloc o) w') : Mod (fun k => ¬ K k) w w' :=
  ((Mod.refl (fun k => ¬ K k) w).alloc o).trans (m.mono fun _ _ x y => x (.inl y))
theorem kb_unboxd {K : Nat → Prop} {n : Nat} {w w' : World} {o : Obj} (m : Mod (fun k => ¬ Kb K n k) (w.alloc o).drew w') : Mod (fun k => ¬ K k) w w' :=
  ((Mod.refl (fun k => ¬ K k) w).alloc o).drew.trans (m.mono fun _ _ x y => x (.inl y))
theorem kb_box {K : Nat → Prop} {n : Nat} {w w' : World} {o : Obj} (m : Mod (fun k => ¬ Kb K n k) w w') (h : w.heap[n]? = some o) : w'.heap[n]? = some o := m.blk h (fun y => y (.inr rfl))

/-- What an act makes of a stack. -/
def stepS (kind : Int) (text : Bs) (n : Int) (s : Sk) : Sk :=
  if kindOf kind = 0 then (push true s text).2 else if kindOf kind = 1 then (write s text).2 else if kindOf kind = 2 then clean s else if kindOf kind = 3 then dropS s
  else if kindOf kind = 4 then (flush true s).2 else if kindOf kind = 5 then (pop true s).2 else if kindOf kind = 6 then (endS true s).2 else { s with mark := n }

def DoesPost (K : Nat → Prop) (w : World) (a b : Nat) (s' : Sk) (e : Ending) (w' : World) : Prop := e = .returned (.bool true) ∧ Duo K w' a b s' s' ∧ Mod (fun k => ¬ K k) w w'

theorem int_same (r : Int) : (r == r) = true := by simp

set_option maxRecDepth 100000 in
set_option maxHeartbeats 3200000 in
theorem does_0 {K : Nat → Prop} {a b : Nat} {s : Sk} {w : World} (l : Duo K w a b s s) (kind : Int) (x : ByteArray) (n : Int) (hk : kindOf kind = 0) :
    Calls Try.prog 23 #[.pointer (some ⟨a, 0, none⟩), .pointer (some ⟨b, 0, none⟩), .agg #[.int .i64 kind, .string x, .int .i64 n]] w (DoesPost K w a b (stepS kind x.toList n s)) := by
  have hw := kind_facts (kind := kind)
  have L0 := Lib.hid ((l.box (.cells #[.int .i64 kind, .string x, .int .i64 n] 28)).stay ((Mod.refl _ _).drew))
  have BX : Hid ((w.alloc (.cells #[.int .i64 kind, .string x, .int .i64 n] 28)).drew.heap[w.heap.size]? = some (.cells #[.int .i64 kind, .string x, .int .i64 n] 28 (0, 0))) := heap_alloc_new w (.cells #[.int .i64 kind, .string x, .int .i64 n] 28)
  have HS : Hid (stepS kind x.toList n s = (push true s x.toList).2) := by show _ = _; unfold stepS; rw [if_pos hk]
  obtain ⟨r, hr⟩ : ∃ r, (push true s x.toList).1 = r := ⟨_, rfl⟩
  have HR := Lib.hid hr
  have r0 := int_same r
  unfold kindOf at hk
  clear l hr
  go_enter Try.func23, Try.ntmps23
  go_wp2_with fail
  go_region_with (first
    | (go_at_call 16; refine (d_push L0.out x).mono ?_; rw [HR.out]; rintro e w1 ⟨rfl, l, m⟩; have x1 := cell_blk (kb_box m BX.out) 1; simp at x1; have L1 := Lib.hid l; have M1 := Lib.hid m; clear l m)
    | (go_at_call 32; refine (d_rpush L1.out x).mono ?_; rw [HR.out]; rintro e w2 ⟨rfl, l, m⟩; have L2 := Lib.hid l; have M2 := Lib.hid (M1.out.trans m); clear l m))
  all_goals go_wp2
  all_goals go_ret
  all_goals exact ⟨rfl, by rw [HS.out]; exact L2.out.unbox, kb_unboxd M2.out⟩

set_option maxHeartbeats 3200000 in
theorem does_1 {K : Nat → Prop} {a b : Nat} {s : Sk} {w : World} (l : Duo K w a b s s) (kind : Int) (x : ByteArray) (n : Int) (hx : x.size ≤ 140737488351232) (hk : kindOf kind = 1) :
    Calls Try.prog 23 #[.pointer (some ⟨a, 0, none⟩), .pointer (some ⟨b, 0, none⟩), .agg #[.int .i64 kind, .string x, .int .i64 n]] w (DoesPost K w a b (stepS kind x.toList n s)) := by
  have hw := kind_facts (kind := kind)
  have L0 := Lib.hid ((l.box (.cells #[.int .i64 kind, .string x, .int .i64 n] 28)).stay ((Mod.refl _ _).drew))
  have BX : Hid ((w.alloc (.cells #[.int .i64 kind, .string x, .int .i64 n] 28)).drew.heap[w.heap.size]? = some (.cells #[.int .i64 kind, .string x, .int .i64 n] 28 (0, 0))) := heap_alloc_new w (.cells #[.int .i64 kind, .string x, .int .i64 n] 28)
  have HS : Hid (stepS kind x.toList n s = (write s x.toList).2) := by show _ = _; unfold stepS; rw [if_neg (by omega), if_pos hk]
  have r0 := int_same (write s x.toList).1
  unfold kindOf at hk
  clear l
  go_enter Try.func23, Try.ntmps23
  go_wp2_with fail
  go_region_with (first
    | (go_at_call 17; refine (d_write L0.out x).mono ?_; rintro e w1 ⟨rfl, l, m⟩; have x1 := cell_blk (kb_box m BX.out) 1; simp at x1; have L1 := Lib.hid l; have M1 := Lib.hid m; clear l m)
    | (go_at_call 33; refine (d_rwrite L1.out x hx).mono ?_; rintro e w2 ⟨rfl, l, m⟩; have L2 := Lib.hid l; have M2 := Lib.hid (M1.out.trans m); clear l m))
  all_goals go_wp2
  all_goals go_ret
  all_goals exact ⟨rfl, by rw [HS.out]; exact L2.out.unbox, kb_unboxd M2.out⟩

set_option maxHeartbeats 3200000 in
theorem does_4 {K : Nat → Prop} {a b : Nat} {s : Sk} {w : World} (l : Duo K w a b s s) (kind : Int) (x : ByteArray) (n : Int) (hk : kindOf kind = 4) :
    Calls Try.prog 23 #[.pointer (some ⟨a, 0, none⟩), .pointer (some ⟨b, 0, none⟩), .agg #[.int .i64 kind, .string x, .int .i64 n]] w (DoesPost K w a b (stepS kind x.toList n s)) := by
  have hw := kind_facts (kind := kind)
  have L0 := Lib.hid (l.box (.cells #[.int .i64 kind, .string x, .int .i64 n] 28))
  have HS : Hid (stepS kind x.toList n s = (flush true s).2) := by show _ = _; unfold stepS; rw [if_neg (by omega), if_neg (by omega), if_neg (by omega), if_neg (by omega), if_pos hk]
  have r0 := int_same (flush true s).1
  unfold kindOf at hk
  clear l
  go_enter Try.func23, Try.ntmps23
  go_wp2_with fail
  refine (d_flush L0.out).mono ?_; rintro e w1 ⟨rfl, l, m⟩; have L1 := Lib.hid l; have M1 := Lib.hid m; clear l m
  go_wp2_with fail
  refine (d_rflush L1.out).mono ?_; rintro e w2 ⟨rfl, l, m⟩; have L2 := Lib.hid l; have M2 := Lib.hid (M1.out.trans m); clear l m
  go_wp2_with fail
  go_ret
  exact ⟨rfl, by rw [HS.out]; exact L2.out.unbox, kb_unbox M2.out⟩

set_option maxHeartbeats 3200000 in
theorem does_5 {K : Nat → Prop} {a b : Nat} {s : Sk} {w : World} (l : Duo K w a b s s) (kind : Int) (x : ByteArray) (n : Int) (hk : kindOf kind = 5) :
    Calls Try.prog 23 #[.pointer (some ⟨a, 0, none⟩), .pointer (some ⟨b, 0, none⟩), .agg #[.int .i64 kind, .string x, .int .i64 n]] w (DoesPost K w a b (stepS kind x.toList n s)) := by
  have hw := kind_facts (kind := kind)
  have L0 := Lib.hid (l.box (.cells #[.int .i64 kind, .string x, .int .i64 n] 28))
  have HS : Hid (stepS kind x.toList n s = (pop true s).2) := by show _ = _; unfold stepS; rw [if_neg (by omega), if_neg (by omega), if_neg (by omega), if_neg (by omega), if_neg (by omega), if_pos hk]
  have r0 := int_same (pop true s).1
  unfold kindOf at hk
  clear l
  go_enter Try.func23, Try.ntmps23
  go_wp2_with fail
  refine (d_pop L0.out).mono ?_; rintro e w1 ⟨rfl, l, m⟩; have L1 := Lib.hid l; have M1 := Lib.hid m; clear l m
  go_wp2_with fail
  refine (d_rpop L1.out).mono ?_; rintro e w2 ⟨rfl, l, m⟩; have L2 := Lib.hid l; have M2 := Lib.hid (M1.out.trans m); clear l m
  go_wp2_with fail
  go_ret
  exact ⟨rfl, by rw [HS.out]; exact L2.out.unbox, kb_unbox M2.out⟩

set_option maxHeartbeats 3200000 in
theorem does_6 {K : Nat → Prop} {a b : Nat} {s : Sk} {w : World} (l : Duo K w a b s s) (kind : Int) (x : ByteArray) (n : Int) (hk : kindOf kind = 6) :
    Calls Try.prog 23 #[.pointer (some ⟨a, 0, none⟩), .pointer (some ⟨b, 0, none⟩), .agg #[.int .i64 kind, .string x, .int .i64 n]] w (DoesPost K w a b (stepS kind x.toList n s)) := by
  have hw := kind_facts (kind := kind)
  have L0 := Lib.hid (l.box (.cells #[.int .i64 kind, .string x, .int .i64 n] 28))
  have HS : Hid (stepS kind x.toList n s = (endS true s).2) := by show _ = _; unfold stepS; rw [if_neg (by omega), if_neg (by omega), if_neg (by omega), if_neg (by omega), if_neg (by omega), if_neg (by omega), if_pos hk]
  have r0 := int_same (endS true s).1
  unfold kindOf at hk
  clear l
  go_enter Try.func23, Try.ntmps23
  go_wp2_with fail
  refine (d_end L0.out).mono ?_; rintro e w1 ⟨rfl, l, m⟩; have L1 := Lib.hid l; have M1 := Lib.hid m; clear l m
  go_wp2_with fail
  refine (d_rend L1.out).mono ?_; rintro e w2 ⟨rfl, l, m⟩; have L2 := Lib.hid l; have M2 := Lib.hid (M1.out.trans m); clear l m
  go_wp2_with fail
  go_ret
  exact ⟨rfl, by rw [HS.out]; exact L2.out.unbox, kb_unbox M2.out⟩

/-- The document's stack with another mark. -/
theorem RefIs.mark {w : World} {b : Nat} {v : Value} {s : Sk} (i : RefIs w b v s) (n : Int) : RLeft w b v { s with mark := n } (w.setCell ⟨b, 2, none⟩ (.int .i64 n)) :=
  ⟨v, RefIs.setField (s' := { s with mark := n }) i.blk 2 _ (by exact i.rows) i.ne ⟨i.ok.total, i.ok.deep, i.ok.names⟩ rfl, .inl rfl, (Mod.refl _ w).setCell _ _ (fun _ => .inl rfl)⟩

set_option maxHeartbeats 3200000 in
theorem does_7 {K : Nat → Prop} {a b : Nat} {s : Sk} {w : World} (l : Duo K w a b s s) (kind : Int) (x : ByteArray) (n : Int) (hk : kindOf kind = 7) :
    Calls Try.prog 23 #[.pointer (some ⟨a, 0, none⟩), .pointer (some ⟨b, 0, none⟩), .agg #[.int .i64 kind, .string x, .int .i64 n]] w (DoesPost K w a b (stepS kind x.toList n s)) := by
  have hw := kind_facts (kind := kind)
  have L0 := Lib.hid (l.box (.cells #[.int .i64 kind, .string x, .int .i64 n] 28))
  have BX : Hid ((w.alloc (.cells #[.int .i64 kind, .string x, .int .i64 n] 28)).heap[w.heap.size]? = some (.cells #[.int .i64 kind, .string x, .int .i64 n] 28 (0, 0))) := heap_alloc_new w (.cells #[.int .i64 kind, .string x, .int .i64 n] 28)
  have HS : Hid (stepS kind x.toList n s = { s with mark := n }) := by show _ = _; unfold stepS; rw [if_neg (by omega), if_neg (by omega), if_neg (by omega), if_neg (by omega), if_neg (by omega), if_neg (by omega), if_neg (by omega)]
  unfold kindOf at hk
  clear l
  go_enter Try.func23, Try.ntmps23
  go_wp2_with fail
  refine (d_mark L0.out n).mono ?_; rintro e w1 ⟨rfl, l, m⟩
  have x2 := cell_blk (kb_box m BX.out) 2
  simp at x2
  obtain ⟨ao, cap, hb, -⟩ := l.blk
  have y2 := cell_blk hb 2
  have ff := free_blk hb 2
  simp at y2
  have L1 := Lib.hid l
  have M1 := Lib.hid m
  have R := Lib.hid (l.right (fun _ j => j.mark n))
  clear l m hb
  go_wp2_with fail
  go_ret
  exact ⟨rfl, by rw [HS.out]; exact R.out.1.unbox, kb_unbox (M1.out.trans R.out.2)⟩
end Go.Proofs.Ytoomffplaopijaa
