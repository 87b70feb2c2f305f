/-
  The walks of a reader's text and key.
-/
import Derived.Test.YtnaefnojmiolbaaGreatDoorNumZ
namespace Go.Proofs.YtnaefnojmiolbaaGreatDoor
open Go.RowKit

attribute [local go_sem] yld_undef
/-- A text at a place: what it is, and the place behind it. -/
def textP (s : ByteArray) (cls : Bool) (p : Nat) : Except (Int × Nat) (ByteArray × Nat) :=
  match numberP s false 65536 p with
  | .error e => .error e
  | .ok (n, p1) => match mustP s [58, 34] p1 with
    | .error e => .error e
    | .ok p2 => if (s.size : Int) - p2 < n then .error (10, s.size)
      else if (cls && !nameP (s.extract p2 (p2 + n.toNat)).toList) = true then .error (7, p2)
      else match mustP s [34] (p2 + n.toNat) with
        | .error e => .error e
        | .ok p3 => .ok (s.extract p2 (p2 + n.toNat), p3)
theorem itoa_neg {n : Int} (h : n < 0) : ∃ l, Lib.itoa n = 45 :: l := by
  rw [itoa_form, if_pos (by simp [h])]
  exact ⟨_, rfl⟩
/-- A number without a sign is none below 0, and at most so large. -/
theorem numberP_lim {s : ByteArray} {most n : Int} {p q : Nat} (h : numberP s false most p = .ok (n, q)) : 0 ≤ n ∧ n ≤ most := by
  unfold numberP at h
  have hb : begP s false p = p := by unfold begP; simp
  rw [hb] at h
  split at h
  · rename_i hd
    have hp := dig_now_lt hd
    split at h
    · rename_i k hk
      split at h
      · cases h
      · rename_i hle
        cases h
        simp only [not_and, true_implies, Int.not_lt] at hle
        refine ⟨?_, hle⟩
        rcases Int.lt_or_le n 0 with hn | hn
        · exfalso
          obtain ⟨-, hi⟩ := canonP_some hk
          obtain ⟨l, hl⟩ := itoa_neg hn
          rw [hl] at hi
          have h2 : 0 < ((s.toList.take (endP s p)).drop p).length := by rw [← hi]; simp
          have h1 : ((s.toList.take (endP s p)).drop p)[0]? = some 45 := by rw [← hi]; rfl
          rw [List.getElem?_drop, List.getElem?_take] at h1
          simp only [Nat.add_zero] at h1
          split at h1
          · rw [List.getElem?_eq_getElem (by rw [size_toList]; exact hp), toList_at hp] at h1
            rw [nowP_lt hp] at hd
            rw [Option.some.inj h1] at hd
            exact absurd hd (by decide)
          · cases h1
        · exact hn
    · cases h
  · cases h
/-- The place behind a number lies behind it. -/
theorem numberP_at {s : ByteArray} {sign : Bool} {most n : Int} {p q : Nat} (h : numberP s sign most p = .ok (n, q)) : p < q ∧ q ≤ s.size := by
  unfold numberP at h
  split at h
  · rename_i hd
    have hp := dig_now_lt hd
    have hq : endP s (begP s sign p) = q := by
      split at h
      · split at h
        · cases h
        · cases h; rfl
      · cases h
    have h1 := endP_step hp (by rw [← nowP_lt hp]; exact hd)
    have h2 := endP_le (s := s) (p := begP s sign p + 1) (by omega)
    have h3 : p ≤ begP s sign p := by unfold begP; split <;> omega
    omega
  · cases h
theorem must_lit (a : Array UInt8) (ha : a.size ≤ 1000) {w : World} {r : Nat} {s : ByteArray} {p m : Nat} {tv : Value} {ths : List Th} (h : Rd w r s p m tv ths) :
    Calls Tryz.prog 114 #[.pointer (some ⟨r, 0, none⟩), .string ⟨a⟩] w (RPost w r tv (mustP s a.toList p) fun q e w' => e = .returned (.tuple #[]) ∧ Rd w' r s q m tv ths) := by
  have := must_any ⟨a⟩ ha h
  rw [ByteArray.toList_eq] at this
  exact this
set_option maxHeartbeats 6400000 in
set_option maxRecDepth 100000 in
theorem text_any (cls : Bool) {w : World} {r : Nat} {s : ByteArray} {p m : Nat} {tv : Value} {ths : List Th} (h : Rd w r s p m tv ths) :
    Calls Tryz.prog 116 #[.pointer (some ⟨r, 0, none⟩), .bool cls] w (RPost w r tv (textP s cls p) fun x e w' => e = .returned (.string x.1) ∧ Rd w' r s x.2 m tv ths) := by
  obtain ⟨x, hx⟩ : ∃ x, x = textP s cls p := ⟨_, rfl⟩
  rw [← hx]
  obtain ⟨x1, hx1⟩ : ∃ x, x = numberP s false 65536 p := ⟨_, rfl⟩
  have HN := number_any false 65536 h
  rw [← hx1] at HN
  have hsz := h.hs
  unfold textP at hx
  rw [← hx1] at hx
  rcases x1 with ⟨c, a⟩ | ⟨n, p1⟩
  · have hxe : x = .error (c, a) := hx
    subst hxe
    clear hx hx1 h
    go_enter Tryz.func116, Tryz.ntmps116
    go_wp2_with fail
    refine HN.mono ?_
    rintro e w1 ⟨rfl, hm⟩
    go_wp2_with fail
    exact ⟨rfl, rfl, hm⟩
  obtain ⟨hn0, hn1⟩ := numberP_lim hx1.symm
  obtain ⟨k, rfl⟩ : ∃ k : Nat, n = k := ⟨n.toNat, by omega⟩
  obtain ⟨x2, hx2⟩ : ∃ x, x = mustP s [58, 34] p1 := ⟨_, rfl⟩
  dsimp only at hx
  rw [← hx2] at hx
  have HX := Lib.hid hx
  have HX2 := Lib.hid hx2
  clear hx hx2 hx1 h
  go_enter Tryz.func116, Tryz.ntmps116
  go_wp2_with fail
  refine HN.mono ?_
  rintro e w1 ⟨⟨rfl, hd⟩, hm⟩
  have HD := Lib.hid hd
  have HM := Lib.hid hm
  have HU := must_lit #[58, 34] (by decide) HD.out
  rw [show (#[58, 34] : Array UInt8).toList = [58, 34] from rfl, ← HX2.out] at HU
  clear hd hm HN
  rcases x2 with ⟨c, a⟩ | p2
  · have hxe : x = .error (c, a) := HX.out
    subst hxe
    go_wp2_with fail
    refine HU.mono ?_
    rintro e w2 ⟨rfl, hm⟩
    go_wp2_with fail
    exact ⟨rfl, rfl, HM.out.trans hm⟩
  go_wp2_with fail
  refine HU.mono ?_
  rintro e w2 ⟨⟨rfl, hd⟩, hm⟩
  have HD2 := Lib.hid hd
  have HM2 := Lib.hid (HM.out.trans hm)
  obtain ⟨c0, c1, c2, c3⟩ := HD2.out.cells
  have hp2 := HD2.out.hp
  have hs0 : ((s.size : Int) - (p2 : Int)) = ((s.size - p2 : Nat) : Int) := by omega
  obtain ⟨hw, hww⟩ := wr_sm (x := (s.size : Int) - (p2 : Int)) (by omega) (by omega)
  clear hd hm HU HD HM
  go_wp2_with fail
  by_cases hlt : (s.size : Int) - (p2 : Int) < (k : Int)
  · have hxe : x = .error (10, s.size) := by rw [HX.out, if_pos hlt]
    subst hxe
    go_quiet (fail)
    go_wp2_with fail
    refine (fail_any 10 s.size _).mono ?_
    rintro _ w3 ⟨rfl, rfl⟩
    go_wp2_with fail
    exact ⟨rfl, rfl, HM2.out.trans (Mod.of_below (belowN (Below.refl _ _) _))⟩
  have hlf : decide ((s.size : Int) - (p2 : Int) < (k : Int)) = false := decide_eq_false hlt
  have hle : p2 + k ≤ s.size := by omega
  obtain ⟨q, hq⟩ : ∃ q, q = p2 + k := ⟨_, rfl⟩
  have hxe := HX.out
  rw [if_neg hlt, show p2 + (k : Int).toNat = q by omega] at hxe
  obtain ⟨t, ht⟩ : ∃ t, t = s.extract p2 q := ⟨_, rfl⟩
  rw [← ht] at hxe
  have HXE := Lib.hid hxe
  obtain ⟨hv, hvw⟩ := wr_sm (x := (p2 : Int) + (k : Int)) (by omega) (by omega)
  have hqc : (p2 : Int) + (k : Int) = (q : Int) := by omega
  have b1 : (0 : Int) ≤ (p2 : Int) := by omega
  have b2 : (p2 : Int) ≤ (q : Int) := by omega
  have b3 : (q : Int) ≤ (s.size : Int) := by omega
  have HLE := Lib.hid hle
  have HQ := Lib.hid hq
  clear hxe hle hlt HX hq
  rw [hqc] at hv hvw
  go_quiet (fail)
  go_wp2_with fail
  go_quiet (fail)
  rw [← ht]
  obtain ⟨x3, hx3⟩ : ∃ x, x = mustP s [34] q := ⟨_, rfl⟩
  have HX3 := Lib.hid hx3
  rw [← hx3] at HXE
  clear hx3 ht
  have HD4 : ∀ n, Rd (w2.drewN n) r s p2 m tv ths := fun n => HD2.out.under (belowN (Below.refl _ _) n)
  have HM4 : ∀ n, Mod (RF r tv) w (w2.drewN n) := fun n => HM2.out.trans (Mod.of_below (F := RF r tv) (belowN (Below.refl _ _) n))
  cases cls
  · have ff := free_blk HD2.out.blk 1
    have HU : ∀ W, Rd W r s q m tv ths → Calls Tryz.prog 114 #[.pointer (some ⟨r, 0, none⟩), .string ⟨#[34]⟩] W (RPost W r tv x3 fun q e w' => e = .returned (.tuple #[]) ∧ Rd w' r s q m tv ths) := fun W hd => by
      rw [HX3.out]; exact must_lit #[34] (by decide) hd
    rcases x3 with ⟨c, a⟩ | p3
    · have hxe : x = .error (c, a) := HXE.out
      subst hxe
      go_wp2_with fail
      refine (HU _ (Rd.setAt (HD4 _) (q := q) (by have := HLE.out; have := HQ.out; omega) rfl)).mono ?_
      rintro e w5 ⟨rfl, hm⟩
      go_wp2_with fail
      exact ⟨rfl, rfl, ((HM4 _).trans (set_mod _ r 1 (.int .i64 (q : Int)) tv)).trans hm⟩
    have hxe : x = .ok (t, p3) := HXE.out
    subst hxe
    go_wp2_with fail
    refine (HU _ (Rd.setAt (HD4 _) (q := q) (by have := HLE.out; have := HQ.out; omega) rfl)).mono ?_
    rintro e w5 ⟨⟨rfl, hd⟩, hm⟩
    go_wp2_with fail
    go_ret
    exact ⟨⟨rfl, hd⟩, ((HM4 _).trans (set_mod _ r 1 (.int .i64 (q : Int)) tv)).trans hm⟩
  · obtain ⟨e, he⟩ : ∃ e, e = nameP t.toList := ⟨_, rfl⟩
    have HN : ∀ W, Tabs W → Calls Tryz.prog 14 #[.string t] W (BoolPost W e) := fun W h => by rw [he]; exact name_any t W h
    rw [← he] at HXE
    clear he
    go_wp2_with fail
    refine (HN _ (HD4 _).tab).mono ?_
    rintro _ w3 ⟨rfl, hb⟩
    have HD3 := Lib.hid ((HD4 _).under hb)
    have HM3 := Lib.hid ((HM4 _).trans (Mod.of_below (F := RF r tv) hb))
    clear hb HN c0 c1 c2 c3
    cases e
    · have hxe : x = .error (7, p2) := HXE.out
      subst hxe
      obtain ⟨c0, c1, c2, c3⟩ := HD3.out.cells
      go_wp2_with fail
      refine (fail_any 7 p2 _).mono ?_
      rintro _ w4 ⟨rfl, rfl⟩
      go_wp2_with fail
      exact ⟨rfl, rfl, HM3.out⟩
    · obtain ⟨c0, c1, c2, c3⟩ := HD3.out.cells
      have ff := free_blk HD3.out.blk 1
      have HU : ∀ W, Rd W r s q m tv ths → Calls Tryz.prog 114 #[.pointer (some ⟨r, 0, none⟩), .string ⟨#[34]⟩] W (RPost W r tv x3 fun q e w' => e = .returned (.tuple #[]) ∧ Rd w' r s q m tv ths) := fun W hd => by
        rw [HX3.out]; exact must_lit #[34] (by decide) hd
      rcases x3 with ⟨c, a⟩ | p3
      · have hxe : x = .error (c, a) := HXE.out
        subst hxe
        go_wp2_with fail
        refine (HU _ (Rd.setAt (HD3.out) (q := q) (by have := HLE.out; have := HQ.out; omega) rfl)).mono ?_
        rintro e w5 ⟨rfl, hm⟩
        go_wp2_with fail
        exact ⟨rfl, rfl, ((HM3.out).trans (set_mod _ r 1 (.int .i64 (q : Int)) tv)).trans hm⟩
      have hxe : x = .ok (t, p3) := HXE.out
      subst hxe
      go_wp2_with fail
      refine (HU _ (Rd.setAt (HD3.out) (q := q) (by have := HLE.out; have := HQ.out; omega) rfl)).mono ?_
      rintro e w5 ⟨⟨rfl, hd⟩, hm⟩
      go_wp2_with fail
      go_ret
      exact ⟨⟨rfl, hd⟩, ((HM3.out).trans (set_mod _ r 1 (.int .i64 (q : Int)) tv)).trans hm⟩
end Go.Proofs.YtnaefnojmiolbaaGreatDoor
