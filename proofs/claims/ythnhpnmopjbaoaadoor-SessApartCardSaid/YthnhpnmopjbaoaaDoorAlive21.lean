/-
  The walk of the laws' alive of sessions.
-/
import Derived.Test.YthnhpnmopjbaoaaDoorSess21
namespace Go.Proofs.YthnhpnmopjbaoaaDoor
open Go.RowKit

theorem itoa12 : Lib.itoa 12 = [49, 50] := by
  have h0 : digitsP 0 = [] := rfl
  have h1 : digitsP 1 = [49] := by rw [digitsP_step (by decide)]; show digitsP 0 ++ _ = _; rw [h0]; rfl
  have h2 : digitsP 12 = [49, 50] := by rw [digitsP_step (by decide)]; show digitsP 1 ++ _ = _; rw [h1]; rfl
  show Lib.decDigits 12 = _
  rw [← h2]
  rfl
theorem nth12 : str (nthP 12) = ⟨#[115, 49, 50]⟩ := by
  have : nthP 12 = [115, 49, 50] := by show 115 :: Lib.itoa 12 = _; rw [itoa12]
  rw [this]
  rfl
abbrev a1 : ByteArray := ⟨#[97, 49]⟩
theorem right_a1 : Right a1 := ⟨by decide, by decide, by decide⟩
/-- A disk of the call's own. -/
structure MineD (w W : World) (d fb gb : Nat) (F : ByteArray → Option Fl) (n : Nat) (wr rd : Int) : Prop where
  dsk : DiskIs W d fb gb F n wr rd
  below : Below w.heap.size w W
  d0 : w.heap.size ≤ d
  f0 : w.heap.size ≤ fb
section
variable {w W W' : World} {d fb gb : Nat} {F G : ByteArray → Option Fl} {n n' : Nat} {wr rd wr' rd' : Int}
theorem MineD.turned (h : MineD w W d fb gb F n wr rd) (k : DiskIs W' d fb gb G n' wr' rd') (m : Mod (fun k => k = d ∨ k = fb) W W') : MineD w W' d fb gb G n' wr' rd' :=
  ⟨k, h.below.trans (m.belowB (fun x hx e => by have := h.d0; have := h.f0; rcases e with e | e <;> omega) h.below.size), h.d0, h.f0⟩
theorem MineD.mono (h : MineD w W d fb gb F n wr rd) (hb : Below W.heap.size W W') : MineD w W' d fb gb F n wr rd :=
  ⟨h.dsk.below hb, h.below.trans (hb.mono h.below.size), h.d0, h.f0⟩
end
set_option maxHeartbeats 3200000 in
set_option maxRecDepth 100000 in
theorem salive_any (w : World) (ht : Tabs w) : Calls Tryd.prog 16 #[] w (BoolPost w true) := by
  have HTS := Lib.hid ht
  clear ht
  have hc := choose_none
  have HC : ∀ (d : Value) W, Tabs W → Calls Tryd.prog 20 #[d, VN, .int .i64 12] W fun e w' => e = .returned (.tuple #[.string ⟨#[115, 49, 50]⟩, .string ⟨#[]⟩, .bool true]) ∧ Below W.heap.size W w' := fun d W hT => by
    rw [← nth12]; exact choose_none d 12 (by decide) W hT
  clear hc
  have HD := dnew_any w
  go_enter Tryd.func16, Tryd.ntmps16
  go_wp2_with fail
  refine HD.mono ?_
  rintro e w1 ⟨d, fb, gb, rfl, i1, h1, h2, h3, hb⟩
  have M1 : Hid (MineD w w1 d fb gb (fun _ => none) 0 0 0) := ⟨i1, hb, h1, h2⟩
  clear i1 h1 h2 h3 hb HD
  have HS := save_right M1.out.dsk (by decide) (by decide) (by decide) right_a1 (HTS.out.mono M1.out.below) ⟨#[120]⟩ (by decide)
  go_wp2_with fail
  refine HS.mono ?_
  intro e w2 hw
  rcases hw with ⟨hb, -⟩ | ⟨-, rfl, h3, h4⟩
  · exact absurd hb (by decide)
  have M2 := Lib.hid (M1.out.turned h4 h3)
  clear h3 h4 HS M1
  have HL := load_right M2.out.dsk (by decide) (by decide) right_a1 (HTS.out.mono M2.out.below)
  simp only [if_true] at HL
  go_wp2_with fail
  refine HL.mono ?_
  rintro e w3 ⟨rfl, h3, h4⟩
  have M3 := Lib.hid (M2.out.turned h4 (h3.mono (fun _ _ e => .inl e)))
  clear h3 h4 HL M2
  unfold loadV
  go_wp2_with fail
  refine (HC _ _ (HTS.out.mono M3.out.below)).mono ?_
  rintro e w4 ⟨rfl, hb⟩
  have M4 := Lib.hid (M3.out.mono hb)
  clear hb HC M3
  go_wp2_with fail
  go_ret
  exact ⟨rfl, M4.out.below⟩
end Go.Proofs.YthnhpnmopjbaoaaDoor
