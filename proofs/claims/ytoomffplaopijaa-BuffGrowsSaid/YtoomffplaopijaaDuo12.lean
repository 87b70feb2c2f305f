/-
  A stack and the document's stack side by side; and the walk of 'stands'.
-/
import Derived.Test.YtoomffplaopijaaRPop12
import Derived.Test.YtoomffplaopijaaLiveK12
namespace Go.Proofs.Ytoomffplaopijaa
open Go.RowKit

/-- What is in K stands, and is neither's. -/
def Duo (K : Nat → Prop) (w : World) (a b : Nat) (s t : Sk) : Prop :=
  (∀ k, K k → k < w.heap.size) ∧ ∃ h v, StackIs w a (.func (.func 10) #[] #[]) true h s ∧ RefIs w b v t ∧ (∀ k, (h.own a).fp k → ¬ K k ∧ k ≠ b ∧ v.ownBlock ≠ some k) ∧ ¬ K b ∧ ∀ k, v.ownBlock = some k → ¬ K k
theorem Duo.stay {K : Nat → Prop} {w w' : World} {a b : Nat} {s t : Sk} (l : Duo K w a b s t) (m : Mod (fun _ => False) w w') : Duo K w' a b s t := by
  obtain ⟨hK, h, v, i, j, p, q, r⟩ := l
  exact ⟨fun k x => Nat.lt_of_lt_of_le (hK k x) m.size, h, v, i.stay m, j.stay m, p, q, r⟩
theorem Duo.drewN {K : Nat → Prop} {w : World} {a b : Nat} {s t : Sk} (l : Duo K w a b s t) (n : Nat) : Duo K (w.drewN n) a b s t := l.stay ((Mod.refl _ w).drewN n)
theorem Duo.ok {K : Nat → Prop} {w : World} {a b : Nat} {s t : Sk} (l : Duo K w a b s t) : Ok true s := by obtain ⟨_, h, v, i, _⟩ := l; exact i.ok

def DuoPost (K : Nat → Prop) (w : World) (a b : Nat) (s t : Sk) (x : Value) (e : Ending) (w' : World) : Prop := e = .returned x ∧ Duo K w' a b s t ∧ Mod (fun k => ¬ K k) w w'

theorem duo_left {K : Nat → Prop} {w : World} {a b : Nat} {s t s' : Sk} {x : Value} {args : Array Value} {F : FuncId} (l : Duo K w a b s t)
    (c : ∀ h, StackIs w a (.func (.func 10) #[] #[]) true h s → Calls Try.prog F args w (GivePost w a (.func (.func 10) #[] #[]) true h s' x)) : Calls Try.prog F args w (DuoPost K w a b s' t x) := by
  obtain ⟨hK, h, v, i, j, p, q, r⟩ := l
  refine (c h i).mono fun e w' ⟨he, h', i', m, f⟩ => ⟨he, ⟨fun k x => Nat.lt_of_lt_of_le (hK k x) m.size, h', v, i', j.mod m (fun x => (p b x).2.1 rfl) (fun g e x => (p g x).2.2 e), fun k x => ?_, q, r⟩, m.mono fun k _ x => (p k x).1⟩
  rcases f k x with y | y
  · exact p k y
  · refine ⟨fun z => by have := hK k z; omega, fun e => by have := lt_of_block j.blk; omega, fun e => by have := j.rows.lt e; omega⟩
theorem duo_right {K : Nat → Prop} {w : World} {a b : Nat} {s t t' : Sk} {x : Value} {args : Array Value} {F : FuncId} (l : Duo K w a b s t)
    (c : ∀ v, RefIs w b v t → Calls Try.prog F args w (RGive w b v t' x)) : Calls Try.prog F args w (DuoPost K w a b s t' x) := by
  obtain ⟨hK, h, v, i, j, p, q, r⟩ := l
  refine (c v j).mono fun e w' ⟨he, v', j', o, m⟩ => ⟨he, ⟨fun k x => Nat.lt_of_lt_of_le (hK k x) m.size, h, v', i.mod m (fun l k e x => x.elim (p k ⟨l, e⟩).2.1 (p k ⟨l, e⟩).2.2), j', fun k x => ⟨(p k x).1, (p k x).2.1, fun e => ?_⟩, q, fun k e z => ?_⟩, m.mono fun k _ x => x.elim (fun e => by rw [e]; exact q) (r k)⟩
  · rcases o with y | y | ⟨j0, y, hj⟩
    · exact (p k x).2.2 (y ▸ e)
    · rw [y] at e; cases e
    · rw [y] at e; cases e
      obtain ⟨l, e'⟩ := x
      have := i.lt l _ e'
      omega
  · rcases o with y | y | ⟨j0, y, hj⟩
    · exact r k (y ▸ e) z
    · rw [y] at e; cases e
    · rw [y] at e; cases e
      have := hK _ z
      omega
/-- The document's stack has turned by hand. -/
theorem Duo.right {K : Nat → Prop} {w w' : World} {a b : Nat} {s t t' : Sk} (l : Duo K w a b s t) (c : ∀ v, RefIs w b v t → RLeft w b v t' w') : Duo K w' a b s t' ∧ Mod (fun k => ¬ K k) w w' := by
  obtain ⟨hK, h, v, i, j, p, q, r⟩ := l
  obtain ⟨v', j', o, m⟩ := c v j
  refine ⟨⟨fun k x => Nat.lt_of_lt_of_le (hK k x) m.size, h, v', i.mod m (fun l k e x => x.elim (p k ⟨l, e⟩).2.1 (p k ⟨l, e⟩).2.2), j', fun k x => ⟨(p k x).1, (p k x).2.1, fun e => ?_⟩, q, fun k e z => ?_⟩, m.mono fun k _ x => x.elim (fun e => by rw [e]; exact q) (r k)⟩
  · rcases o with y | y | ⟨j0, y, hj⟩
    · exact (p k x).2.2 (y ▸ e)
    · rw [y] at e; cases e
    · rw [y] at e; cases e
      obtain ⟨l, e'⟩ := x
      have := i.lt l _ e'
      omega
  · rcases o with y | y | ⟨j0, y, hj⟩
    · exact r k (y ▸ e) z
    · rw [y] at e; cases e
    · rw [y] at e; cases e
      have := hK _ z
      omega

section
variable {K : Nat → Prop} {a b : Nat} {s t : Sk} {w : World} (l : Duo K w a b s t)
include l
theorem d_push (x : ByteArray) : Calls Try.prog 16 #[.pointer (some ⟨a, 0, none⟩), .string x] w (DuoPost K w a b (push true s x.toList).2 t (.int .i64 (push true s x.toList).1)) := duo_left l fun _ i => push_any i x
theorem d_write (x : ByteArray) : Calls Try.prog 17 #[.pointer (some ⟨a, 0, none⟩), .string x] w (DuoPost K w a b (write s x.toList).2 t (.int .i64 (write s x.toList).1)) := duo_left l fun _ i => write_any i x
theorem d_flush : Calls Try.prog 18 #[.pointer (some ⟨a, 0, none⟩)] w (DuoPost K w a b (flush true s).2 t (.int .i64 (flush true s).1)) := duo_left l fun _ i => flush_any i
theorem d_pop : Calls Try.prog 19 #[.pointer (some ⟨a, 0, none⟩)] w (DuoPost K w a b (pop true s).2 t (.int .i64 (pop true s).1)) := duo_left l fun _ i => pop_any i
theorem d_end : Calls Try.prog 20 #[.pointer (some ⟨a, 0, none⟩)] w (DuoPost K w a b (endS true s).2 t (.int .i64 (endS true s).1)) := duo_left l fun _ i => end_any i
theorem d_mark (n : Int) : Calls Try.prog 24 #[.pointer (some ⟨a, 0, none⟩), .int .i64 n] w (DuoPost K w a b { s with mark := n } t (.tuple #[])) := duo_left l fun _ i => mark_any i n
theorem d_clean : Calls Try.prog 26 #[.pointer (some ⟨a, 0, none⟩)] w (DuoPost K w a b (clean s) t (.bool (s.bufs[s.bufs.length - 1]?).isSome)) := duo_left l fun _ i => clean_any i
theorem d_drop : Calls Try.prog 25 #[.pointer (some ⟨a, 0, none⟩)] w (DuoPost K w a b (dropS s) t (.tuple #[.string (str ((s.bufs[s.bufs.length - 1]?.map Bf.text).getD [])), .bool (s.bufs[s.bufs.length - 1]?).isSome])) := duo_left l fun _ i => drop_any i
theorem d_get : Calls Try.prog 12 #[.pointer (some ⟨a, 0, none⟩)] w (GetPost w s) := by
  obtain ⟨_, h, v, i, _⟩ := l
  exact get_any i
theorem d_depth : Calls Try.prog 13 #[.pointer (some ⟨a, 0, none⟩)] w fun e w' => e = .returned (.int .i64 (s.bufs.length : Int)) ∧ w = w' := by
  obtain ⟨_, h, v, i, _⟩ := l
  exact depth_any i
theorem d_bottom : Calls Try.prog 14 #[.pointer (some ⟨a, 0, none⟩)] w fun e w' => e = .returned (.string (str s.bottom)) ∧ w = w' := by
  obtain ⟨_, h, v, i, _⟩ := l
  exact bottom_any i
theorem d_first : Calls Try.prog 15 #[.pointer (some ⟨a, 0, none⟩)] w fun e w' => e = .returned (.int .i64 s.first) ∧ w = w' := by
  obtain ⟨_, h, v, i, _⟩ := l
  exact first_any i
theorem d_rpush (x : ByteArray) : Calls Try.prog 32 #[.pointer (some ⟨b, 0, none⟩), .string x] w (DuoPost K w a b s (push true t x.toList).2 (.int .i64 (push true t x.toList).1)) := duo_right l fun _ i => rpush_any i x
theorem d_rwrite (x : ByteArray) (hx : x.size ≤ 140737488351232) : Calls Try.prog 33 #[.pointer (some ⟨b, 0, none⟩), .string x] w (DuoPost K w a b s (write t x.toList).2 (.int .i64 (write t x.toList).1)) := duo_right l fun _ i => rwrite_any i x hx
theorem d_rflush : Calls Try.prog 34 #[.pointer (some ⟨b, 0, none⟩)] w (DuoPost K w a b s (flush true t).2 (.int .i64 (flush true t).1)) := duo_right l fun _ i => rflush_any i
theorem d_rpop : Calls Try.prog 35 #[.pointer (some ⟨b, 0, none⟩)] w (DuoPost K w a b s (pop true t).2 (.int .i64 (pop true t).1)) := duo_right l fun _ i => rpop_any i
theorem d_rend : Calls Try.prog 36 #[.pointer (some ⟨b, 0, none⟩)] w (DuoPost K w a b s (endS true t).2 (.int .i64 (endS true t).1)) := duo_right l fun _ i => rend_any i
theorem d_ltop : Calls Try.prog 31 #[.pointer (some ⟨b, 0, none⟩)] w (GetPost w t) := by
  obtain ⟨_, h, v, i, j, _⟩ := l
  exact ltop_any j
theorem Duo.blk : ∃ ao cap, w.heap[b]? = some (.cells #[.slice ao t.bufs.length cap, .string (str t.bottom), .int .i64 t.mark, .int .i64 t.first] 42 (0, 0)) ∧ t.bufs.length ≤ 32 := by
  obtain ⟨_, h, v, i, j, _⟩ := l
  obtain ⟨ao, cap, hv, -⟩ := j.form
  subst hv
  exact ⟨ao, cap, j.blk, j.ok.deep⟩
end

def StillPost (w : World) (x : Value) (e : Ending) (w' : World) : Prop := e = .returned x ∧ Mod (fun _ => False) w w'

set_option maxHeartbeats 3200000 in
theorem stands_any {K : Nat → Prop} {a b : Nat} {s : Sk} {w : World} (l : Duo K w a b s s) :
    Calls Try.prog 22 #[.pointer (some ⟨a, 0, none⟩), .pointer (some ⟨b, 0, none⟩)] w (StillPost w (.bool true)) := by
  have L := Lib.hid l
  obtain ⟨tx, htx⟩ : ∃ tx, tx = str ((s.bufs[s.bufs.length - 1]?.map Bf.text).getD []) := ⟨_, rfl⟩
  obtain ⟨bo, hbo⟩ : ∃ bo, bo = str s.bottom := ⟨_, rfl⟩
  obtain ⟨is, his⟩ : ∃ is, is = (s.bufs[s.bufs.length - 1]?).isSome := ⟨_, rfl⟩
  have HT := Lib.hid htx
  have HI := Lib.hid his
  have HBO := Lib.hid hbo
  have e1 : (bo.toList == bo.toList) = true := by simp
  have e2 : (tx.toList == tx.toList) = true := by simp
  have e3 : (is == is) = true := by simp
  have e4 : ((s.bufs.length : Int) == (s.bufs.length : Int)) = true := by simp
  have e5 : (s.first == s.first) = true := by simp
  clear l htx his hbo
  go_enter Try.func22, Try.ntmps22
  go_wp2_with fail
  refine (d_get L.out).mono ?_
  rintro e w1 ⟨rfl, n1, hw⟩
  rw [← HT.out, ← HI.out]
  have L1 := Lib.hid (L.out.drewN n1)
  rw [← hw] at L1
  have M1 : Hid (Mod (fun _ => False) w w1) := by rw [hw]; exact (Mod.refl _ w).drewN n1
  clear hw
  go_wp2_with fail
  refine (d_ltop L1.out).mono ?_
  rintro e w2 ⟨rfl, n2, hw⟩
  rw [← HT.out, ← HI.out]
  have L2 := Lib.hid (L1.out.drewN n2)
  rw [← hw] at L2
  have M2 : Hid (Mod (fun _ => False) w w2) := by rw [hw]; exact M1.out.drewN n2
  clear hw
  obtain ⟨ao, cap, hb, hd⟩ := L2.out.blk
  have c0 := cell_blk hb 0
  have c1 := cell_blk hb 1
  have c3 := cell_blk hb 3
  simp at c0 c1 c3
  rw [← HBO.out] at c1
  have hg : ∀ n, Hid (Duo K (w2.drewN n) a b s s) := fun n => L2.out.drewN n
  clear hb
  go_wp2_with fail
  go_quiet ((first
    | (go_at_call 13; exact Calls.quiet_of_same ((d_depth (hg _).out).mono fun _ _ h => ⟨h.1, h.2.symm⟩))
    | (go_at_call 14; exact Calls.quiet_of_same ((d_bottom (hg _).out).mono fun _ _ h => ⟨h.1.trans (by rw [← HBO.out]), h.2.symm⟩))
    | (go_at_call 15; exact Calls.quiet_of_same ((d_first (hg _).out).mono fun _ _ h => ⟨h.1, h.2.symm⟩))))
  go_wp2
  go_ret
  exact ⟨rfl, M2.out.drewN _⟩
end Go.Proofs.Ytoomffplaopijaa
