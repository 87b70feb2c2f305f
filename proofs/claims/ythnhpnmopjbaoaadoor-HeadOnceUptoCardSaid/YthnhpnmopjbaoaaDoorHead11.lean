/-
  Heads in memory; the walks of New, closed, code, Send, Sent, Code, Status, Lines; heads that nobody made.
-/
import Derived.Test.YthnhpnmopjbaoaaDoorClone11
import Derived.Test.YthnhpnmopjbaoaaDoorValued11
namespace Go.Proofs.YthnhpnmopjbaoaaDoor
open Go.RowKit

/-- Heads in memory. -/
structure HeadsIs (w : World) (h : Nat) (sent : Bool) (code : Int) (v : Value) (ls : List ByteArray) : Prop where
  blk : w.heap[h]? = some (.cells #[.bool true, .bool sent, .int .i64 code, v] 71 (0, 0))
  own : Owns w 9 1 v (ls.map sR)
  ne : v.ownBlock ≠ some h
  len : ls.length ≤ 64
  lo : 100 ≤ code
  hi : code ≤ 599
section
variable {w w' : World} {h : Nat} {sent : Bool} {code : Int} {v : Value} {ls : List ByteArray}
theorem HeadsIs.mod {Z : Nat → Prop} (i : HeadsIs w h sent code v ls) (m : Mod Z w w') (h1 : ¬ Z h) (h2 : ∀ g, v.ownBlock = some g → ¬ Z g) : HeadsIs w' h sent code v ls :=
  ⟨m.blk i.blk h1, i.own.mod m h2, i.ne, i.len, i.lo, i.hi⟩
theorem HeadsIs.below (i : HeadsIs w h sent code v ls) (hb : Below w.heap.size w w') : HeadsIs w' h sent code v ls :=
  i.mod (Mod.of_below (F := fun _ => False) hb) (fun x => x) (fun _ _ x => x)
theorem HeadsIs.cells (i : HeadsIs w h sent code v ls) : w.cell? ⟨h, 0, none⟩ = some (.bool true) ∧ w.cell? ⟨h, 1, none⟩ = some (.bool sent) ∧ w.cell? ⟨h, 2, none⟩ = some (.int .i64 code) ∧ w.cell? ⟨h, 3, none⟩ = some v :=
  ⟨cell_blk i.blk 0, cell_blk i.blk 1, cell_blk i.blk 2, cell_blk i.blk 3⟩
theorem HeadsIs.setSent (i : HeadsIs w h sent code v ls) : HeadsIs (w.setCell ⟨h, 1, none⟩ (.bool true)) h true code v ls := by
  have m : Mod (fun k => k = h) w (w.setCell ⟨h, 1, none⟩ (.bool true)) := (Mod.refl _ _).setCell _ _ (fun _ => rfl)
  refine ⟨?_, i.own.mod m (fun g e x => i.ne (by rw [e, x])), i.ne, i.len, i.lo, i.hi⟩
  have := set_blk i.blk 1 (.bool true)
  simpa using this
theorem HeadsIs.setCode (i : HeadsIs w h sent code v ls) {n : Int} (h0 : 100 ≤ n) (h1 : n ≤ 599) : HeadsIs (w.setCell ⟨h, 2, none⟩ (.int .i64 n)) h sent n v ls := by
  have m : Mod (fun k => k = h) w (w.setCell ⟨h, 2, none⟩ (.int .i64 n)) := (Mod.refl _ _).setCell _ _ (fun _ => rfl)
  refine ⟨?_, i.own.mod m (fun g e x => i.ne (by rw [e, x])), i.ne, i.len, h0, h1⟩
  have := set_blk i.blk 2 (.int .i64 n)
  simpa using this
theorem HeadsIs.setLines (i : HeadsIs w h sent code v ls) {v' : Value} {ls' : List ByteArray} (o : Owns w 9 1 v' (ls'.map sR)) (hne : v'.ownBlock ≠ some h) (hl : ls'.length ≤ 64) : HeadsIs (w.setCell ⟨h, 3, none⟩ v') h sent code v' ls' := by
  have m : Mod (fun k => k = h) w (w.setCell ⟨h, 3, none⟩ v') := (Mod.refl _ _).setCell _ _ (fun _ => rfl)
  refine ⟨?_, o.mod m (fun g e x => hne (by rw [e, x])), hne, hl, i.lo, i.hi⟩
  have := set_blk i.blk 3 v'
  simpa using this
theorem hnew_any (w : World) : Calls Tryd.prog 21 #[] w fun e w' => e = .returned (.pointer (some ⟨w.heap.size, 0, none⟩)) ∧ HeadsIs w' w.heap.size false 200 (.slice none 0 0) [] ∧ Below w.heap.size w w' := by
  go_enter Tryd.func21, Tryd.ntmps21
  go_wp2_with fail
  go_ret
  exact ⟨rfl, ⟨heap_alloc_new w _, Owns.empty _ _ _, by simp [Value.ownBlock], by simp, by decide, by decide⟩, below_alloc1 _ _⟩
/-- What closed answers. -/
def closedP (sent : Bool) : Int := if sent then 17 else 0
theorem closed_any (i : HeadsIs w h sent code v ls) : Calls Tryd.prog 46 #[.pointer (some ⟨h, 0, none⟩)] w fun e w' => e = .returned (.int .i64 (closedP sent)) ∧ w = w' := by
  obtain ⟨x0, x1, -, -⟩ := i.cells
  clear i
  unfold closedP
  cases sent
  all_goals
    go_enter Tryd.func46, Tryd.ntmps46
    go_wp2_with fail
    go_ret
    exact ⟨rfl, rfl⟩
theorem code_any (n : Int) (w : World) : Calls Tryd.prog 48 #[.int .i64 n] w fun e w' => e = .returned (.bool (decide (100 ≤ n) && decide (n ≤ 599))) ∧ w = w' := by
  by_cases h1 : 100 ≤ n
  · have d1 : decide (100 ≤ n) = true := by simp [h1]
    rw [d1]
    go_enter Tryd.func48, Tryd.ntmps48
    go_wp2_with fail
    go_ret
    exact ⟨by rw [Bool.true_and]; rfl, rfl⟩
  · have d1 : decide (100 ≤ n) = false := by simp [h1]
    rw [d1]
    go_enter Tryd.func48, Tryd.ntmps48
    go_wp2_with fail
    go_ret
    exact ⟨rfl, rfl⟩
theorem send_any (i : HeadsIs w h sent code v ls) : Calls Tryd.prog 25 #[.pointer (some ⟨h, 0, none⟩)] w fun e w' => e = .returned (.bool (!sent)) ∧ HeadsIs w' h true code v ls ∧ Mod (fun k => k = h) w w' := by
  have HC := closed_any i
  have I := Lib.hid i
  have f1 := free_blk i.blk 1
  have x1 := i.cells.2.1
  unfold closedP at HC
  clear i
  cases sent
  · go_enter Tryd.func25, Tryd.ntmps25
    go_wp2_with fail
    refine HC.mono ?_
    rintro e w1 ⟨rfl, rfl⟩
    clear HC
    go_wp2_with fail
    go_ret
    exact ⟨rfl, I.out.setSent, (Mod.refl _ _).setCell _ _ (fun _ => rfl)⟩
  · go_enter Tryd.func25, Tryd.ntmps25
    go_wp2_with fail
    refine HC.mono ?_
    rintro e w1 ⟨rfl, rfl⟩
    clear HC
    go_wp2_with fail
    go_ret
    exact ⟨rfl, I.out, Mod.refl _ _⟩
theorem sent_any (i : HeadsIs w h sent code v ls) : Calls Tryd.prog 29 #[.pointer (some ⟨h, 0, none⟩)] w fun e w' => e = .returned (.bool sent) ∧ w = w' := by
  have HC := closed_any i
  unfold closedP at HC
  clear i
  cases sent
  all_goals
    go_enter Tryd.func29, Tryd.ntmps29
    go_wp2_with fail
    refine HC.mono ?_
    rintro e w1 ⟨rfl, rfl⟩
    clear HC
    go_wp2_with fail
    go_ret
    exact ⟨rfl, rfl⟩
theorem hcode_any (i : HeadsIs w h sent code v ls) : Calls Tryd.prog 26 #[.pointer (some ⟨h, 0, none⟩)] w fun e w' => e = .returned (.int .i64 code) ∧ w = w' := by
  obtain ⟨-, -, x2, -⟩ := i.cells
  clear i
  go_enter Tryd.func26, Tryd.ntmps26
  go_wp2_with fail
  go_ret
  exact ⟨rfl, rfl⟩
theorem lines_any (i : HeadsIs w h sent code v ls) : Calls Tryd.prog 27 #[.pointer (some ⟨h, 0, none⟩)] w (ClonePost w (ls.map sR)) := by
  have x3 := i.cells.2.2.2
  have HC := clone_list i.own (by have := i.len; omega)
  obtain ⟨ao, cap, hv, -⟩ := i.own.any
  clear i
  generalize (ls.map sR).length = L at hv
  subst hv
  go_enter Tryd.func27, Tryd.ntmps27
  go_wp2_with fail
  refine HC.mono ?_
  rintro e w1 ⟨v', rfl, o, hb, hn⟩
  have HH := Lib.hid (⟨o, hb, hn⟩ : _ ∧ _ ∧ _)
  clear HC o hb hn
  go_wp2_with fail
  go_ret
  exact ⟨v', rfl, HH.out.1, HH.out.2.1, HH.out.2.2⟩
/-- What Status does. -/
def StatusPost (w : World) (h : Nat) (sent : Bool) (code : Int) (v : Value) (ls : List ByteArray) (n : Int) (e : Ending) (w' : World) : Prop :=
  e = .returned (.int .i64 (if sent then 17 else if 100 ≤ n ∧ n ≤ 599 then 0 else 1)) ∧ HeadsIs w' h sent (if sent = false ∧ 100 ≤ n ∧ n ≤ 599 then n else code) v ls ∧ Mod (fun k => k = h) w w'
theorem status_any (i : HeadsIs w h sent code v ls) (n : Int) : Calls Tryd.prog 33 #[.pointer (some ⟨h, 0, none⟩), .int .i64 n] w (StatusPost w h sent code v ls n) := by
  have HC := closed_any i
  have HD := code_any n w
  have I := Lib.hid i
  have f2 := free_blk i.blk 2
  have x2 := i.cells.2.2.1
  unfold closedP at HC
  unfold StatusPost
  clear i
  cases sent
  · by_cases hn : 100 ≤ n ∧ n ≤ 599
    · have d : (decide (100 ≤ n) && decide (n ≤ 599)) = true := by simp [hn]
      rw [d] at HD
      have HN := Lib.hid hn
      rw [if_neg (by simp), if_pos hn, if_pos ⟨rfl, hn⟩]
      clear d hn
      go_enter Tryd.func33, Tryd.ntmps33
      go_wp2_with fail
      refine HC.mono ?_
      rintro e w1 ⟨rfl, rfl⟩
      go_wp2_with fail
      refine HD.mono ?_
      rintro e w1 ⟨rfl, rfl⟩
      clear HC HD
      go_wp2_with fail
      go_ret
      exact ⟨rfl, I.out.setCode HN.out.1 HN.out.2, (Mod.refl _ _).setCell _ _ (fun _ => rfl)⟩
    · have d : (decide (100 ≤ n) && decide (n ≤ 599)) = false := by
        rw [Bool.eq_false_iff]; simp only [ne_eq, Bool.and_eq_true, decide_eq_true_eq]; exact hn
      rw [d] at HD
      rw [if_neg (by simp), if_neg hn, if_neg (fun e => hn e.2)]
      clear d hn
      go_enter Tryd.func33, Tryd.ntmps33
      go_wp2_with fail
      refine HC.mono ?_
      rintro e w1 ⟨rfl, rfl⟩
      go_wp2_with fail
      refine HD.mono ?_
      rintro e w1 ⟨rfl, rfl⟩
      clear HC HD
      go_wp2_with fail
      go_ret
      exact ⟨rfl, I.out, Mod.refl _ _⟩
  · rw [if_pos rfl, if_neg (by simp)]
    go_enter Tryd.func33, Tryd.ntmps33
    go_wp2_with fail
    refine HC.mono ?_
    rintro e w1 ⟨rfl, rfl⟩
    clear HC HD
    go_wp2_with fail
    go_ret
    exact ⟨rfl, I.out, Mod.refl _ _⟩
end
end Go.Proofs.YthnhpnmopjbaoaaDoor
