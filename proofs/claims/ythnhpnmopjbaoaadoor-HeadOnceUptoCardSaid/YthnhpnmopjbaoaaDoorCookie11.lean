/-
  The walk of Cookie at the laws' alive.
-/
import Derived.Test.YthnhpnmopjbaoaaDoorLine11
namespace Go.Proofs.YthnhpnmopjbaoaaDoor
open Go.RowKit

abbrev tA : ByteArray := ⟨#[97]⟩
abbrev tXY : ByteArray := ⟨#[120, 32, 121]⟩
abbrev tSl : ByteArray := ⟨#[47]⟩
theorem itoa5 : Lib.itoa 5 = [53] := by
  have h0 : digitsP 0 = [] := rfl
  have h1 : digitsP 5 = [53] := by rw [digitsP_step (by decide)]; show digitsP 0 ++ _ = _; rw [h0]; rfl
  show Lib.decDigits 5 = _
  rw [← h1]
  rfl
theorem enc_xy : str (tXY.toList.map encC) = ⟨#[120, 43, 121]⟩ := by kernel_rfl
theorem has_a : hasP tA ⟨#[61, 44, 59, 32]⟩ = false := by kernel_rfl
abbrev ckT : ByteArray := ⟨#[83, 101, 116, 45, 67, 111, 111, 107, 105, 101, 58, 32, 97, 61, 120, 43, 121, 59, 32, 77, 97, 120, 45, 65, 103, 101, 61, 53, 59, 32, 80, 97, 116, 104, 61, 47]⟩
theorem has_sl : hasP tSl ⟨#[59]⟩ = false := by kernel_rfl
set_option maxHeartbeats 3200000 in
set_option maxRecDepth 100000 in
theorem cookie_a {w : World} {h : Nat} {v : Value} (i : HeadsIs w h false 302 v [loc]) (ht : Tabs w) : Calls Tryd.prog 34 #[.pointer (some ⟨h, 0, none⟩), .string tA, .string tXY, .string tSl, .int .i64 5] w fun e w' =>
    e = .returned (.int .i64 0) ∧ ∃ v', HeadsIs w' h false 302 v' [loc, ckT] ∧ Mod (fun k => k = h) w w' ∧ ∀ g, v'.ownBlock = some g → w.heap.size ≤ g := by
  have HC := closed_any i
  have HA := fun w => has_any tA ⟨#[61, 44, 59, 32]⟩ (by decide) w
  have HS := fun w => has_any tSl ⟨#[59]⟩ (by decide) w
  simp only [has_a, has_sl] at HA HS
  have HE := enc_plain tXY (by decide) (by decide) w
  rw [enc_xy] at HE
  have HI : ∀ W, Tabs W → Calls Tryd.prog 36 #[.int .i64 5] W (fun e w' => e = .returned (.string ⟨#[53]⟩) ∧ Below W.heap.size W w') := fun W hT => by
    have := itoa_any 5 (by decide) (by decide) W hT
    rw [itoa5] at this
    exact this
  have HTS := Lib.hid ht
  have I := Lib.hid i
  have hlt := Lib.hid (lt_of_block i.blk)
  obtain ⟨x0, x1, x2, x3⟩ := i.cells
  obtain ⟨ao, cap, hv, -⟩ := i.own.any
  simp at hv
  subst hv
  unfold closedP at HC
  clear i ht
  go_enter Tryd.func34, Tryd.ntmps34
  go_wp2_with fail
  refine HC.mono ?_
  rintro e w1 ⟨rfl, rfl⟩
  clear HC
  go_wp2_with fail
  refine (HA _).mono ?_
  rintro e w1 ⟨rfl, rfl⟩
  go_wp2_with fail
  refine (HS _).mono ?_
  rintro e w1 ⟨rfl, rfl⟩
  clear HA HS
  go_wp2_with fail
  refine HE.mono ?_
  rintro e w2 ⟨rfl, hb⟩
  have I2 := Lib.hid (I.out.below hb)
  have B2 := Lib.hid hb
  clear hb HE
  go_wp2_with fail
  refine (HI _ (HTS.out.mono B2.out)).mono ?_
  rintro e w3 ⟨rfl, hb⟩
  have I3 := Lib.hid (I2.out.below hb)
  have B3 := Lib.hid (B2.out.trans (hb.mono B2.out.size))
  clear hb HI I2 B2 x0 x1 x2 x3
  obtain ⟨x0, x1, x2, x3⟩ := I3.out.cells
  have HL := clone_list I3.out.own (by decide)
  go_wp2_with fail
  refine HL.mono ?_
  rintro e w4 ⟨v4, rfl, o4, hb, n4⟩
  generalize hS : (HAppend.hAppend _ (HAppend.hAppend (⟨#[59, 32, 80, 97, 116, 104, 61]⟩ : ByteArray) tSl) : ByteArray) = S
  have HSS : Hid (S = ckT) := Lib.hid (by rw [← hS]; kernel_rfl)
  clear hS
  have I4 := Lib.hid (I3.out.below hb)
  have B4 := Lib.hid (B3.out.trans (hb.mono B3.out.size))
  have I5 := Lib.hid (I4.out.below (below_alloc1 w4 (.cells #[.string S] 9)))
  have hO : Hid (Owns (w4.alloc (.cells #[.string S] 9)) 9 1 v4 [sR loc]) := Lib.hid (Owns.mod o4 (Mod.of_below (F := fun _ => False) (below_alloc1 w4 (.cells #[.string S] 9))) (fun _ _ x => x))
  have hL := Lib.hid (lies_new w4 [.string S] 9 rfl)
  have N4 := Lib.hid (⟨n4, B3.out.size⟩ : _ ∧ _)
  obtain ⟨a8, c8, hv8, -⟩ := o4.any
  simp at hv8
  subst hv8
  clear o4 hb n4 x0 x1 x2 x3 HL
  go_wp2_with (at_builtin; refine wpList_append_rows rfl (.tmp 61) (.tmp 63) 50 rfl 9 _ 1 16 Tryd.underlying50 info9 rfl (by decide) (.slice a8 1 c8) [sR loc] (by rfl) hO.out (some ⟨w4.heap.size, 0, none⟩) 1 1 [[.string S]] (by rfl) rfl (fun e => by cases e) hL.out (by simp [Value.oneCell']) (by simp) (by unfold maxLen; simp) (by simp) ?_; intro v5 w5 o5 g5 n5; obtain ⟨a7, c7, hv7, -⟩ := o5.any; generalize (List.length _) = L7 at hv7; subst hv7; have O5 := Lib.hid o5; have G5 := Lib.hid (⟨g5, n5⟩ : _ ∧ _); have b5 := (g5.block h (lt_of_block I5.out.blk) (fun e => by have h1 := N4.out.1 _ e.symm; have h2 := N4.out.2; have h3 := hlt.out; omega)).trans I5.out.blk; have BB5 := Lib.hid b5; have y3 := cell_blk b5 3; have f3 := free_blk b5 3; clear o5 g5 n5 b5)
  go_ret
  have hl := hlt.out
  have hs4 := B4.out.size
  have hn4 := N4.out
  have hfr : ∀ g, (Value.slice a7 L7 c7).ownBlock = some g → w.heap.size ≤ g := fun g e => by
    rcases G5.out.2 with h' | ⟨g', h', hg⟩
    · rw [h'] at e; have := hn4.1 g e; omega
    · rw [h'] at e; cases e; simp at hg; omega
  have mA : Mod (fun k => (Value.slice a8 1 c8).ownBlock = some k) (w4.alloc (.cells #[.string S] 9)) w5 := (Mod.refl _ _).grown G5.out.1 (fun k e _ => e)
  have mB : Mod (fun k => k = h) w w5 := ((Mod.of_below B4.out).alloc _).grown G5.out.1 (fun k e hk => by have := hn4.1 k e; omega)
  have o5 : Owns w5 9 1 (.slice a7 L7 c7) ([loc, ckT].map sR) := by
    have := O5.out
    rw [HSS.out] at this
    exact this
  have J1 : HeadsIs (w5.setCell ⟨h, 3, none⟩ (.slice a7 L7 c7)) h false 302 (.slice a7 L7 c7) [loc, ckT] := by
    have m : Mod (fun k => k = h) w5 (w5.setCell ⟨h, 3, none⟩ (.slice a7 L7 c7)) := (Mod.refl _ _).setCell _ _ (fun _ => rfl)
    refine ⟨?_, o5.mod m (fun g e x => by have := hfr g e; have x' : g = h := x; omega), fun e => by have := hfr _ e; omega, by decide, by decide, by decide⟩
    have := set_blk BB5.out 3 (.slice a7 L7 c7)
    simpa using this
  exact ⟨rfl, _, J1, mB.setCell _ _ (fun _ => rfl), hfr⟩
end Go.Proofs.YthnhpnmopjbaoaaDoor
