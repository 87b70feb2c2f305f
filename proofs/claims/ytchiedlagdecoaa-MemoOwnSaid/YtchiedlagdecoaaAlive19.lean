/-
  The walk of the probe 'alive': it answers true and turns nothing that was there.
-/
import Derived.Test.YtchiedlagdecoaaRPut19
namespace Go.Proofs.Ytchiedlagdecoaa
open Go.RowKit

abbrev ua : U := ⟨⟨#[97]⟩, 1, 10⟩
abbrev ub : U := ⟨⟨#[98]⟩, 1, 11⟩
abbrev uc : U := ⟨⟨#[99]⟩, 1, 12⟩
theorem put1 : putU 2 ⟨#[97]⟩ 1 10 [] = [ua] := by kernel_rfl
theorem put2 : putU 2 ⟨#[98]⟩ 1 11 [ua] = [ua, ub] := by kernel_rfl
theorem get3 : getU ⟨#[97]⟩ 1 [ua, ub] = [ub, ua] := by kernel_rfl
theorem hit3 : hitU ⟨#[97]⟩ 1 [ua, ub] = some ua := by kernel_rfl
theorem put4 : putU 2 ⟨#[99]⟩ 1 12 [ub, ua] = [ua, uc] := by kernel_rfl

def AlivePost (w : World) (e : Ending) (w' : World) : Prop := e = .returned (.bool true) ∧ Below w.heap.size w w'

set_option maxHeartbeats 1600000 in
theorem alive_any (w : World) : Calls Try.prog 11 #[] w (AlivePost w) := by
  go_enter Try.func11, Try.ntmps11
  go_wp2_with fail
  refine (new_any 2 _).mono ?_
  rintro e w1 ⟨rfl, i1, b1⟩
  have I1 : Hid (MemoIs w1 w.heap.size (.slice none 0 0) 2 [] 0 0) := i1
  have B1 := Lib.hid b1
  clear i1 b1
  go_wp2_with fail
  refine (put_any _ _ _ _ _ _ ⟨#[97]⟩ 1 10 _ I1.out (by simp)).mono ?_
  rintro e w2 ⟨rfl, ⟨v2, i2, a2⟩, m2⟩
  rw [put1] at i2
  have I2 := Lib.hid i2
  have M2 := Lib.hid m2
  have A2 := Lib.hid a2
  clear i2 m2 a2
  go_wp2_with fail
  refine (put_any _ _ _ _ _ _ ⟨#[98]⟩ 1 11 _ I2.out (by simp)).mono ?_
  rintro e w3 ⟨rfl, ⟨v3, i3, a3⟩, m3⟩
  rw [put2] at i3
  have I3 := Lib.hid i3
  have M3 := Lib.hid m3
  have A3 := Lib.hid a3
  clear i3 m3 a3
  go_wp2_with fail
  refine (get_any _ _ _ _ _ _ ⟨#[97]⟩ 1 _ I3.out (by omega) (by omega)).mono ?_
  rintro e w4 ⟨rfl, ⟨v4, i4, a4⟩, m4⟩
  rw [get3, hit3] at i4
  rw [hit3]
  have I4 : Hid (MemoIs w4 w.heap.size v4 2 [ub, ua] 1 0) := i4
  have M4 := Lib.hid m4
  have A4 := Lib.hid a4
  clear i4 m4 a4
  go_wp2_with fail
  refine (put_any _ _ _ _ _ _ ⟨#[99]⟩ 1 12 _ I4.out (by simp)).mono ?_
  rintro e w5 ⟨rfl, ⟨v5, i5, a5⟩, m5⟩
  rw [put4] at i5
  have I5 := Lib.hid i5
  have M5 := Lib.hid m5
  have A5 := Lib.hid a5
  clear i5 m5 a5
  go_wp2_with fail
  refine (paths_any _ _ _ _ _ _ _ I5.out).mono ?_
  rintro e w6 ⟨v6, rfl, o6, f6, b6⟩
  have I6 := Lib.hid (I5.out.mod (F := fun _ => False) (Mod.of_below b6) (fun x => x) (fun _ _ x => x))
  obtain ⟨g, cap, rfl, hcap, -, hg⟩ := o6.addr (by simp [pathRows])
  obtain ⟨ao, cap', hv, -, -, hl, -⟩ := o6.any
  cases hv
  have c0 : w6.cell? ⟨g, 0, none⟩ = some (.string ⟨#[97]⟩) := by
    obtain ⟨g', off, e, -, -, hc⟩ := hl 0 _ rfl
    cases e; have := hc 0 _ rfl; simpa using this
  have c1 : w6.cell? ⟨g, 1, none⟩ = some (.string ⟨#[99]⟩) := by
    obtain ⟨g', off, e, -, -, hc⟩ := hl 1 _ rfl
    cases e; have := hc 0 _ rfl; simpa using this
  have B6 := Lib.hid b6
  rw [show (pathRows [ua, uc]).length = 2 from rfl]
  clear o6 f6 b6 hl hg hcap
  go_wp2_with (first
    | (go_at_call 15; refine (hits_any _ _ _ _ _ _ _ I6.out).mono ?_; rintro e w' ⟨rfl, rfl⟩)
    | (go_at_call 16; refine (misses_any _ _ _ _ _ _ _ I6.out).mono ?_; rintro e w' ⟨rfl, rfl⟩))
  go_ret
  have s1 := B1.out.size
  have x2 : Fresh w v2 := fun k e => by
    rcases A2.out with h | h | ⟨j, h, hj⟩
    · rw [h] at e; cases e
    · rw [h] at e; cases e
    · rw [h] at e; cases e; omega
  have y2 := M2.out.belowB (B := w.heap.size) (fun k hk hF => by exact hF.elim (fun h => by omega) (fun h => by cases h)) s1
  have s2 := Nat.le_trans s1 y2.size
  have x3 : Fresh w v3 := fun k e => by
    rcases A3.out with h | h | ⟨j, h, hj⟩
    · rw [h] at e; cases e
    · exact x2 k (h.symm.trans e)
    · rw [h] at e; cases e; omega
  have y3 := M3.out.belowB (B := w.heap.size) (fun k hk hF => by exact hF.elim (fun h => by omega) (fun h => by have := x2 k h; omega)) s2
  have s3 := Nat.le_trans s2 y3.size
  have x4 : Fresh w v4 := fun k e => by
    rcases A4.out with h | ⟨j, h, hj⟩
    · exact x3 k (h.symm.trans e)
    · rw [h] at e; cases e; omega
  have y4 := M4.out.belowB (B := w.heap.size) (fun k hk hF => by exact hF.elim (fun h => by omega) (fun h => by have := x3 k h; omega)) s3
  have s4 := Nat.le_trans s3 y4.size
  have y5 := M5.out.belowB (B := w.heap.size) (fun k hk hF => by exact hF.elim (fun h => by omega) (fun h => by have := x4 k h; omega)) s4
  have s5 := Nat.le_trans s4 y5.size
  exact ⟨rfl, ((((B1.out.trans y2).trans y3).trans y4).trans y5).trans (B6.out.mono s5)⟩
end Go.Proofs.Ytchiedlagdecoaa
