/-
  The walks of without at no lines, of Line at the first place to go to.
-/
import Derived.Test.YthnhpnmopjbaoaaDoorEnc11
import Derived.Test.YthnhpnmopjbaoaaDoorHead11
import Derived.LoopN
namespace Go.Proofs.YthnhpnmopjbaoaaDoor
open Go.RowKit

theorem indexf_nil (f : Value) (w : World) : Calls Tryd.prog 86 #[.slice none 0 0, f] w fun e w' => e = .returned (.int .i64 (-1)) ∧ w = w' := by
  go_enter Tryd.func86, Tryd.ntmps86
  go_wp2_with fail
  refine wp_loop_rounds 1 ?_
  rw [rounds_succ]
  go_wp2_with fail
  go_ret
  exact ⟨rfl, rfl⟩
theorem deletef_nil (f : Value) (w : World) : Calls Tryd.prog 72 #[.slice none 0 0, f] w fun e w' => e = .returned (.slice none 0 0) ∧ w = w' := by
  have HI := indexf_nil f w
  go_enter Tryd.func72, Tryd.ntmps72
  go_wp2_with fail
  refine HI.mono ?_
  rintro e w1 ⟨rfl, rfl⟩
  clear HI
  go_wp2_with fail
  go_ret
  exact ⟨rfl, rfl⟩
theorem without_nil (x : ByteArray) (w : World) : Calls Tryd.prog 53 #[.slice none 0 0, .string x] w fun e w' => e = .returned (.slice none 0 0) ∧ Below w.heap.size w w' := by
  have B1 := Lib.hid (below_alloc1 w (.cells #[.string x] 9))
  go_enter Tryd.func53, Tryd.ntmps53
  go_wp2_with fail
  generalize w.alloc _ = W1 at B1 ⊢
  refine (clone_nil W1).mono ?_
  rintro e w1 ⟨rfl, rfl⟩
  go_wp2_with fail
  refine (deletef_nil _ W1).mono ?_
  rintro e w1 ⟨rfl, rfl⟩
  go_wp2_with fail
  go_ret
  exact ⟨rfl, B1.out⟩
abbrev loc : ByteArray := ⟨#[76, 111, 99, 97, 116, 105, 111, 110, 58, 32, 47, 97]⟩
abbrev locN : ByteArray := ⟨#[76, 111, 99, 97, 116, 105, 111, 110]⟩
theorem named_loc : Named loc locN := ⟨by kernel_rfl, by decide, by decide, by decide⟩
theorem low_loc : str (locN.toList.map lowC) = ⟨#[108, 111, 99, 97, 116, 105, 111, 110]⟩ := by kernel_rfl
theorem valued_loc : valuedP loc = true := by kernel_rfl
set_option maxHeartbeats 3200000 in
set_option maxRecDepth 100000 in
theorem line_loc {w : World} {h : Nat} (i : HeadsIs w h false 200 (.slice none 0 0) []) : Calls Tryd.prog 30 #[.pointer (some ⟨h, 0, none⟩), .string loc, .bool true, .int .i64 0] w fun e w' =>
    e = .returned (.int .i64 0) ∧ ∃ v, HeadsIs w' h false 302 v [loc] ∧ Mod (fun k => k = h) w w' ∧ ∀ g, v.ownBlock = some g → w.heap.size ≤ g := by
  have HC := closed_any i
  have HP : ∀ w, Calls Tryd.prog 49 #[.string loc, .string ⟨#[72, 84, 84, 80, 47]⟩] w fun e w' => e = .returned (.bool false) ∧ w' = w := fun w => Tryd.strings_HasPrefix loc ⟨#[72, 84, 84, 80, 47]⟩ w
  have HN := name_ok (s := loc) (by decide) named_loc w
  rw [low_loc] at HN
  have HV := fun w => valued_any loc (by decide) w
  simp only [valued_loc] at HV
  have I := Lib.hid i
  have hlt := Lib.hid (lt_of_block i.blk)
  unfold closedP at HC
  clear i
  go_enter Tryd.func30, Tryd.ntmps30
  go_wp2_with fail
  refine HC.mono ?_
  rintro e w1 ⟨rfl, rfl⟩
  clear HC
  go_wp2_with fail
  refine (HP _).mono ?_
  rintro e w1 ⟨rfl, rfl⟩
  clear HP
  go_wp2_with fail
  refine HN.mono ?_
  rintro e w2 ⟨rfl, hb⟩
  have I2 := Lib.hid (I.out.below hb)
  have B2 := Lib.hid hb
  clear hb HN
  go_wp2_with fail
  refine (HV _).mono ?_
  rintro e w3 ⟨rfl, rfl⟩
  clear HV
  obtain ⟨x0, x1, x2, x3⟩ := I2.out.cells
  go_wp2_with fail
  refine (without_nil _ _).mono ?_
  rintro e w3 ⟨rfl, hb⟩
  have I3 := Lib.hid (I2.out.below hb)
  have B3 := Lib.hid (B2.out.trans (hb.mono B2.out.size))
  clear hb x0 x1 x2 x3 I2 B2
  go_wp2_with fail
  refine (clone_nil _).mono ?_
  rintro e w4 ⟨rfl, rfl⟩
  have I4 := Lib.hid (I3.out.below (below_alloc1 w3 (.cells #[.string loc] 9)))
  have hO : Hid (Owns (w3.alloc (.cells #[.string loc] 9)) 9 1 (.slice none 0 0) []) := Lib.hid (Owns.empty _ _ _)
  have hL := Lib.hid (lies_new w3 [.string loc] 9 rfl)
  go_wp2_with (at_builtin; refine wpList_append_rows rfl (.tmp 69) (.tmp 71) 50 rfl 9 _ 1 16 Tryd.underlying50 info9 rfl (by decide) (.slice none 0 0) [] (by rfl) hO.out (some ⟨w3.heap.size, 0, none⟩) 1 1 [[.string loc]] (by rfl) rfl (fun e => by cases e) hL.out (by simp [Value.oneCell']) (by simp) (by decide) (by decide) ?_; intro v5 w5 o5 g5 n5; obtain ⟨a7, c7, hv7, -⟩ := o5.any; generalize (List.length _) = L7 at hv7; subst hv7; have O5 := Lib.hid o5; have I5 := Lib.hid (I4.out.mod ((Mod.refl (fun k => (none : Option Nat) = some k) _).grown g5 (fun k e _ => by simp [Value.ownBlock] at e)) (fun e => by cases e) (fun g e => by simp [Value.ownBlock] at e)); have G5 := Lib.hid (⟨g5, n5⟩ : _ ∧ _); obtain ⟨y0, y1, y2, y3⟩ := I5.out.cells; have f2 := free_blk I5.out.blk 2; have f3 := free_blk I5.out.blk 3; clear o5 g5 n5)
  go_ret
  have hl := hlt.out
  have hs3 := B3.out.size
  have hfr : ∀ g, (Value.slice a7 L7 c7).ownBlock = some g → w3.heap.size ≤ g := fun g e => by
    rcases G5.out.2 with h' | ⟨g', h', hg⟩
    · rw [h'] at e; simp [Value.ownBlock] at e
    · rw [h'] at e; cases e; simp at hg; omega
  have J1 := I5.out.setLines (v' := .slice a7 L7 c7) (ls' := [loc]) O5.out (fun e => by have := hfr _ e; omega) (by decide)
  have J2 := J1.setCode (n := 302) (by decide) (by decide)
  have mA : Mod (fun k => k = h) w1 (w3.alloc (.cells #[.string loc] 9)) := (Mod.of_below B3.out).alloc _
  have mB := mA.grown G5.out.1 (fun k e _ => by simp [Value.ownBlock] at e)
  exact ⟨rfl, _, J2, (mB.setCell _ _ (fun _ => rfl)).setCell _ _ (fun _ => rfl), fun g e => by have := hfr g e; omega⟩
end Go.Proofs.YthnhpnmopjbaoaaDoor
