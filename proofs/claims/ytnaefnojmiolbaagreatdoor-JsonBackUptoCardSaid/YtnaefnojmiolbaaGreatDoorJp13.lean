/-
  The walks of a reader's text and key.
  The walk of a reader's key.
  What a reader reads, in plain words; what a reader's calls leave.
  What a text reads as, whole.
  JSON: what a text reads as, in plain words.
-/
import Derived.Test.YtnaefnojmiolbaaGreatDoorJp12
import Derived.Lib.ValidLaws
import Derived.Lib.RuneBytes
namespace Go.Proofs.YtnaefnojmiolbaaGreatDoor
open Go.RowKit

attribute [local go_sem] yld_undef
/-- A text at a place: what it is, and the place behind it. -/
def textP (s : ByteArray) (cls : Bool) (p : Nat) : Except (Int × Nat) (ByteArray × Nat) :=
  match numberP s false 65536 p with
  | .error e => .error e
  | .ok (n, p1) => match mustP s [58, 34] p1 with
    | .error e => .error e
    | .ok p2 => if (s.size : Int) - p2 < n then .error (10, s.size)
      else if (cls && !nameP (s.extract p2 (p2 + n.toNat)).toList) = true then .error (7, p2)
      else match mustP s [34] (p2 + n.toNat) with
        | .error e => .error e
        | .ok p3 => .ok (s.extract p2 (p2 + n.toNat), p3)
theorem itoa_neg {n : Int} (h : n < 0) : ∃ l, Lib.itoa n = 45 :: l := by
  rw [itoa_form, if_pos (by simp [h])]
  exact ⟨_, rfl⟩
/-- A number without a sign is none below 0, and at most so large. -/
theorem numberP_lim {s : ByteArray} {most n : Int} {p q : Nat} (h : numberP s false most p = .ok (n, q)) : 0 ≤ n ∧ n ≤ most := by
  unfold numberP at h
  have hb : begP s false p = p := by unfold begP; simp
  rw [hb] at h
  split at h
  · rename_i hd
    have hp := dig_now_lt hd
    split at h
    · rename_i k hk
      split at h
      · cases h
      · rename_i hle
        cases h
        simp only [not_and, true_implies, Int.not_lt] at hle
        refine ⟨?_, hle⟩
        rcases Int.lt_or_le n 0 with hn | hn
        · exfalso
          obtain ⟨-, hi⟩ := canonP_some hk
          obtain ⟨l, hl⟩ := itoa_neg hn
          rw [hl] at hi
          have h2 : 0 < ((s.toList.take (endP s p)).drop p).length := by rw [← hi]; simp
          have h1 : ((s.toList.take (endP s p)).drop p)[0]? = some 45 := by rw [← hi]; rfl
          rw [List.getElem?_drop, List.getElem?_take] at h1
          simp only [Nat.add_zero] at h1
          split at h1
          · rw [List.getElem?_eq_getElem (by rw [size_toList]; exact hp), toList_at hp] at h1
            rw [nowP_lt hp] at hd
            rw [Option.some.inj h1] at hd
            exact absurd hd (by decide)
          · cases h1
        · exact hn
    · cases h
  · cases h
/-- The place behind a number lies behind it. -/
theorem numberP_at {s : ByteArray} {sign : Bool} {most n : Int} {p q : Nat} (h : numberP s sign most p = .ok (n, q)) : p < q ∧ q ≤ s.size := by
  unfold numberP at h
  split at h
  · rename_i hd
    have hp := dig_now_lt hd
    have hq : endP s (begP s sign p) = q := by
      split at h
      · split at h
        · cases h
        · cases h; rfl
      · cases h
    have h1 := endP_step hp (by rw [← nowP_lt hp]; exact hd)
    have h2 := endP_le (s := s) (p := begP s sign p + 1) (by omega)
    have h3 : p ≤ begP s sign p := by unfold begP; split <;> omega
    omega
  · cases h
theorem must_lit (a : Array UInt8) (ha : a.size ≤ 1000) {w : World} {r : Nat} {s : ByteArray} {p m : Nat} {tv : Value} {ths : List Th} (h : Rd w r s p m tv ths) :
    Calls Tryz.prog 114 #[.pointer (some ⟨r, 0, none⟩), .string ⟨a⟩] w (RPost w r tv (mustP s a.toList p) fun q e w' => e = .returned (.tuple #[]) ∧ Rd w' r s q m tv ths) := by
  have := must_any ⟨a⟩ ha h
  rw [ByteArray.toList_eq] at this
  exact this
set_option maxHeartbeats 6400000 in
set_option maxRecDepth 100000 in
theorem text_any (cls : Bool) {w : World} {r : Nat} {s : ByteArray} {p m : Nat} {tv : Value} {ths : List Th} (h : Rd w r s p m tv ths) :
    Calls Tryz.prog 116 #[.pointer (some ⟨r, 0, none⟩), .bool cls] w (RPost w r tv (textP s cls p) fun x e w' => e = .returned (.string x.1) ∧ Rd w' r s x.2 m tv ths) := by
  obtain ⟨x, hx⟩ : ∃ x, x = textP s cls p := ⟨_, rfl⟩
  rw [← hx]
  obtain ⟨x1, hx1⟩ : ∃ x, x = numberP s false 65536 p := ⟨_, rfl⟩
  have HN := number_any false 65536 h
  rw [← hx1] at HN
  have hsz := h.hs
  unfold textP at hx
  rw [← hx1] at hx
  rcases x1 with ⟨c, a⟩ | ⟨n, p1⟩
  · have hxe : x = .error (c, a) := hx
    subst hxe
    clear hx hx1 h
    go_enter Tryz.func116, Tryz.ntmps116
    go_wp2_with fail
    refine HN.mono ?_
    rintro e w1 ⟨rfl, hm⟩
    go_wp2_with fail
    exact ⟨rfl, rfl, hm⟩
  obtain ⟨hn0, hn1⟩ := numberP_lim hx1.symm
  obtain ⟨k, rfl⟩ : ∃ k : Nat, n = k := ⟨n.toNat, by omega⟩
  obtain ⟨x2, hx2⟩ : ∃ x, x = mustP s [58, 34] p1 := ⟨_, rfl⟩
  dsimp only at hx
  rw [← hx2] at hx
  have HX := Lib.hid hx
  have HX2 := Lib.hid hx2
  clear hx hx2 hx1 h
  go_enter Tryz.func116, Tryz.ntmps116
  go_wp2_with fail
  refine HN.mono ?_
  rintro e w1 ⟨⟨rfl, hd⟩, hm⟩
  have HD := Lib.hid hd
  have HM := Lib.hid hm
  have HU := must_lit #[58, 34] (by decide) HD.out
  rw [show (#[58, 34] : Array UInt8).toList = [58, 34] from rfl, ← HX2.out] at HU
  clear hd hm HN
  rcases x2 with ⟨c, a⟩ | p2
  · have hxe : x = .error (c, a) := HX.out
    subst hxe
    go_wp2_with fail
    refine HU.mono ?_
    rintro e w2 ⟨rfl, hm⟩
    go_wp2_with fail
    exact ⟨rfl, rfl, HM.out.trans hm⟩
  go_wp2_with fail
  refine HU.mono ?_
  rintro e w2 ⟨⟨rfl, hd⟩, hm⟩
  have HD2 := Lib.hid hd
  have HM2 := Lib.hid (HM.out.trans hm)
  obtain ⟨c0, c1, c2, c3⟩ := HD2.out.cells
  have hp2 := HD2.out.hp
  have hs0 : ((s.size : Int) - (p2 : Int)) = ((s.size - p2 : Nat) : Int) := by omega
  obtain ⟨hw, hww⟩ := wr_sm (x := (s.size : Int) - (p2 : Int)) (by omega) (by omega)
  clear hd hm HU HD HM
  go_wp2_with fail
  by_cases hlt : (s.size : Int) - (p2 : Int) < (k : Int)
  · have hxe : x = .error (10, s.size) := by rw [HX.out, if_pos hlt]
    subst hxe
    go_quiet (fail)
    go_wp2_with fail
    refine (fail_any 10 s.size _).mono ?_
    rintro _ w3 ⟨rfl, rfl⟩
    go_wp2_with fail
    exact ⟨rfl, rfl, HM2.out.trans (Mod.of_below (belowN (Below.refl _ _) _))⟩
  have hlf : decide ((s.size : Int) - (p2 : Int) < (k : Int)) = false := decide_eq_false hlt
  have hle : p2 + k ≤ s.size := by omega
  obtain ⟨q, hq⟩ : ∃ q, q = p2 + k := ⟨_, rfl⟩
  have hxe := HX.out
  rw [if_neg hlt, show p2 + (k : Int).toNat = q by omega] at hxe
  obtain ⟨t, ht⟩ : ∃ t, t = s.extract p2 q := ⟨_, rfl⟩
  rw [← ht] at hxe
  have HXE := Lib.hid hxe
  obtain ⟨hv, hvw⟩ := wr_sm (x := (p2 : Int) + (k : Int)) (by omega) (by omega)
  have hqc : (p2 : Int) + (k : Int) = (q : Int) := by omega
  have b1 : (0 : Int) ≤ (p2 : Int) := by omega
  have b2 : (p2 : Int) ≤ (q : Int) := by omega
  have b3 : (q : Int) ≤ (s.size : Int) := by omega
  have HLE := Lib.hid hle
  have HQ := Lib.hid hq
  clear hxe hle hlt HX hq
  rw [hqc] at hv hvw
  go_quiet (fail)
  go_wp2_with fail
  go_quiet (fail)
  rw [← ht]
  obtain ⟨x3, hx3⟩ : ∃ x, x = mustP s [34] q := ⟨_, rfl⟩
  have HX3 := Lib.hid hx3
  rw [← hx3] at HXE
  clear hx3 ht
  have HD4 : ∀ n, Rd (w2.drewN n) r s p2 m tv ths := fun n => HD2.out.under (belowN (Below.refl _ _) n)
  have HM4 : ∀ n, Mod (RF r tv) w (w2.drewN n) := fun n => HM2.out.trans (Mod.of_below (F := RF r tv) (belowN (Below.refl _ _) n))
  cases cls
  · have ff := free_blk HD2.out.blk 1
    have HU : ∀ W, Rd W r s q m tv ths → Calls Tryz.prog 114 #[.pointer (some ⟨r, 0, none⟩), .string ⟨#[34]⟩] W (RPost W r tv x3 fun q e w' => e = .returned (.tuple #[]) ∧ Rd w' r s q m tv ths) := fun W hd => by
      rw [HX3.out]; exact must_lit #[34] (by decide) hd
    rcases x3 with ⟨c, a⟩ | p3
    · have hxe : x = .error (c, a) := HXE.out
      subst hxe
      go_wp2_with fail
      refine (HU _ (Rd.setAt (HD4 _) (q := q) (by have := HLE.out; have := HQ.out; omega) rfl)).mono ?_
      rintro e w5 ⟨rfl, hm⟩
      go_wp2_with fail
      exact ⟨rfl, rfl, ((HM4 _).trans (set_mod _ r 1 (.int .i64 (q : Int)) tv)).trans hm⟩
    have hxe : x = .ok (t, p3) := HXE.out
    subst hxe
    go_wp2_with fail
    refine (HU _ (Rd.setAt (HD4 _) (q := q) (by have := HLE.out; have := HQ.out; omega) rfl)).mono ?_
    rintro e w5 ⟨⟨rfl, hd⟩, hm⟩
    go_wp2_with fail
    go_ret
    exact ⟨⟨rfl, hd⟩, ((HM4 _).trans (set_mod _ r 1 (.int .i64 (q : Int)) tv)).trans hm⟩
  · obtain ⟨e, he⟩ : ∃ e, e = nameP t.toList := ⟨_, rfl⟩
    have HN : ∀ W, Tabs W → Calls Tryz.prog 14 #[.string t] W (BoolPost W e) := fun W h => by rw [he]; exact name_any t W h
    rw [← he] at HXE
    clear he
    go_wp2_with fail
    refine (HN _ (HD4 _).tab).mono ?_
    rintro _ w3 ⟨rfl, hb⟩
    have HD3 := Lib.hid ((HD4 _).under hb)
    have HM3 := Lib.hid ((HM4 _).trans (Mod.of_below (F := RF r tv) hb))
    clear hb HN c0 c1 c2 c3
    cases e
    · have hxe : x = .error (7, p2) := HXE.out
      subst hxe
      obtain ⟨c0, c1, c2, c3⟩ := HD3.out.cells
      go_wp2_with fail
      refine (fail_any 7 p2 _).mono ?_
      rintro _ w4 ⟨rfl, rfl⟩
      go_wp2_with fail
      exact ⟨rfl, rfl, HM3.out⟩
    · obtain ⟨c0, c1, c2, c3⟩ := HD3.out.cells
      have ff := free_blk HD3.out.blk 1
      have HU : ∀ W, Rd W r s q m tv ths → Calls Tryz.prog 114 #[.pointer (some ⟨r, 0, none⟩), .string ⟨#[34]⟩] W (RPost W r tv x3 fun q e w' => e = .returned (.tuple #[]) ∧ Rd w' r s q m tv ths) := fun W hd => by
        rw [HX3.out]; exact must_lit #[34] (by decide) hd
      rcases x3 with ⟨c, a⟩ | p3
      · have hxe : x = .error (c, a) := HXE.out
        subst hxe
        go_wp2_with fail
        refine (HU _ (Rd.setAt (HD3.out) (q := q) (by have := HLE.out; have := HQ.out; omega) rfl)).mono ?_
        rintro e w5 ⟨rfl, hm⟩
        go_wp2_with fail
        exact ⟨rfl, rfl, ((HM3.out).trans (set_mod _ r 1 (.int .i64 (q : Int)) tv)).trans hm⟩
      have hxe : x = .ok (t, p3) := HXE.out
      subst hxe
      go_wp2_with fail
      refine (HU _ (Rd.setAt (HD3.out) (q := q) (by have := HLE.out; have := HQ.out; omega) rfl)).mono ?_
      rintro e w5 ⟨⟨rfl, hd⟩, hm⟩
      go_wp2_with fail
      go_ret
      exact ⟨⟨rfl, hd⟩, ((HM3.out).trans (set_mod _ r 1 (.int .i64 (q : Int)) tv)).trans hm⟩
end Go.Proofs.YtnaefnojmiolbaaGreatDoor

namespace Go.Proofs.YtnaefnojmiolbaaGreatDoor
open Go.RowKit

attribute [local go_sem] yld_undef
/-- A key at a place. -/
def keyP (s : ByteArray) (props : Bool) (p : Nat) : Except (Int × Nat) (K × Nat) :=
  if (!props && decide (nowP s p = 105)) = true then
    match mustP s [105, 58] p with
    | .error e => .error e
    | .ok p1 => match numberP s true 0 p1 with
      | .error e => .error e
      | .ok (n, p2) => .ok (⟨false, n, ⟨#[]⟩⟩, p2)
  else match mustP s [115, 58] p with
    | .error e => .error e
    | .ok p1 => match textP s false p1 with
      | .error e => .error e
      | .ok (t, p2) => .ok (⟨true, 0, t⟩, p2)
section
variable {w W W' : World} {r : Nat} {s : ByteArray} {p m : Nat} {tv : Value} {ths : List Th}
/-- What was made behind a reader stays under the reader's calls. -/
theorem key_kept (h : Rd w r s p m tv ths) {B : Nat} (hB : w.heap.size ≤ B) (hm : Mod (RF r tv) W W') {o : Obj} (hA : W.heap[B]? = some o) : W'.heap[B]? = some o := by
  rw [hm.block B (lt_of_block hA) ?_, hA]
  rintro (e | e)
  · have := lt_of_block h.blk; omega
  · have := h.own.lt e; omega
theorem Rd.store (h : Rd w r s p m tv ths) {B : Nat} (hB : B ≠ r) (hT : tv.ownBlock ≠ some B) (h64 : ¬ B64 w B) (h6 : 6 ≤ B) {w' : World} (hm : Mod (fun k => k = B) w w') : Rd w' r s p m tv ths :=
  ⟨(hm.block r (lt_of_block h.blk) (fun e => hB e.symm)).trans h.blk, h.own.kept fun g e => hm.block g (h.own.lt e) (fun c => hT (c ▸ e)), h.ne, fun t ht => VT64.mod (h.val t ht) hm (fun g e => by rw [show g = B from e]; exact h64), h.hp, h.hs, h.hm,
    h.tab.mod hm (fun k e => by rw [show k = B from e]; exact h6), h.r6, h.t6⟩
theorem blk_no64 {B : Nat} {cs : Array Value} {ty : TypeId} {fr : Nat × Nat} (h : W.heap[B]? = some (.cells cs ty fr)) (ht : ty ≠ 64) : ¬ B64 W B := by
  rintro ⟨cs', fr', e⟩
  rw [h] at e
  cases e
  exact ht rfl
theorem set3_mod (W : World) (B : Nat) (x y z : Value) : Mod (fun k => k = B) W (((W.setCell ⟨B, 0, none⟩ x).setCell ⟨B, 1, none⟩ y).setCell ⟨B, 2, none⟩ z) :=
  (((Mod.refl (fun k => k = B) W).setCell ⟨B, 0, none⟩ x (fun _ => rfl)).setCell ⟨B, 1, none⟩ y (fun _ => rfl)).setCell ⟨B, 2, none⟩ z (fun _ => rfl)
/-- A store into what was made behind is none of the reader's turnings. -/
theorem mod_new {a : World} {B : Nat} (hB : a.heap.size ≤ B) (m1 : Mod (RF r tv) a W) (m2 : Mod (fun k => k = B) W W') : Mod (RF r tv) a W' := m1.trans' m2 (fun i hi e => by have e : i = B := e; omega)
end
set_option maxHeartbeats 6400000 in
set_option maxRecDepth 100000 in
theorem key_any (props : Bool) {w : World} {r : Nat} {s : ByteArray} {p m : Nat} {tv : Value} {ths : List Th} (h : Rd w r s p m tv ths) :
    Calls Tryz.prog 144 #[.pointer (some ⟨r, 0, none⟩), .bool props] w (RPost w r tv (keyP s props p) fun x e w' => e = .returned x.1.v ∧ Rd w' r s x.2 m tv ths) := by
  obtain ⟨x, hx⟩ : ∃ x, x = keyP s props p := ⟨_, rfl⟩
  rw [← hx]
  unfold keyP at hx
  have HXE := Lib.hid hx
  have h := Lib.hid h
  have HB : Below w.heap.size w (w.alloc (KB false 0 ⟨#[]⟩)) := (Below.refl _ _).alloc (Nat.le_refl _) _
  have HD0 := Lib.hid (h.out.under HB)
  have HM0 := Lib.hid (Mod.of_below (F := RF r tv) HB)
  have HA0 : Hid ((w.alloc (KB false 0 ⟨#[]⟩)).heap[w.heap.size]? = some (KB false 0 ⟨#[]⟩)) := Lib.hid (heap_alloc_new w _)
  clear hx HB
  cases props
  · obtain ⟨b, hb⟩ : ∃ b, b = decide (nowP s p = 105) := ⟨_, rfl⟩
    have hbi : (((nowP s p).toNat : Int) == 105) = b := by
      rw [hb]
      by_cases hc : nowP s p = 105
      · rw [hc]; rfl
      · rw [decide_eq_false hc, beq_eq_false_iff_ne]
        intro e; exact hc (UInt8.toNat_inj.1 (by simpa using (by omega : (nowP s p).toNat = 105)))
    rw [← hb] at HXE
    have HN := now_any HD0.out
    clear hb
    go_enter Tryz.func144, Tryz.ntmps144
    go_wp2_with fail
    refine HN.mono ?_
    rintro e w1 ⟨rfl, hb⟩
    have HD1 := Lib.hid (HD0.out.under hb)
    have HM1 := Lib.hid (HM0.out.trans (Mod.of_below (F := RF r tv) hb))
    have HA1 := Lib.hid ((hb.block _ (lt_of_block HA0.out)).trans HA0.out)
    clear hb HN HD0 HM0 HA0
    cases b
    · replace HXE : Hid (x = _) := Lib.hid (HXE.out.trans (if_neg (by decide)))
      obtain ⟨x4, hx4⟩ : ∃ x, x = mustP s [115, 58] p := ⟨_, rfl⟩
      have HU : ∀ W, Rd W r s p m tv ths → Calls Tryz.prog 114 #[.pointer (some ⟨r, 0, none⟩), .string ⟨#[115, 58]⟩] W (RPost W r tv x4 fun q e w' => e = .returned (.tuple #[]) ∧ Rd w' r s q m tv ths) := fun W hd => by
        rw [hx4]; exact must_lit #[115, 58] (by decide) hd
      rw [← hx4] at HXE
      rcases x4 with ⟨c, a⟩ | p4
      · have hxe : x = .error (c, a) := HXE.out
        subst hxe
        clear hx4
        go_wp2_with fail
        refine (HU _ HD1.out).mono ?_
        rintro e w5 ⟨rfl, hm⟩
        go_wp2_with fail
        exact ⟨rfl, rfl, (HM1.out).trans hm⟩
      clear hx4
      go_wp2_with fail
      refine (HU _ HD1.out).mono ?_
      rintro e w5 ⟨⟨rfl, hd⟩, hm⟩
      have HD5 := Lib.hid hd
      have HM5 := Lib.hid ((HM1.out).trans hm)
      have HA5 := Lib.hid (key_kept h.out (Nat.le_refl _) hm (HA1.out))
      clear hd hm HU
      have HT := text_any false HD5.out
      obtain ⟨x6, hx6⟩ : ∃ x, x = textP s false p4 := ⟨_, rfl⟩
      rw [← hx6] at HT
      have hX := HXE.out
      rw [← hx6] at hX
      rcases x6 with ⟨c, a⟩ | ⟨t, p6⟩
      · have hxe : x = .error (c, a) := hX
        subst hxe
        clear hX HXE hx6
        go_wp2_with fail
        refine HT.mono ?_
        rintro e w6 ⟨rfl, hm⟩
        go_wp2_with fail
        exact ⟨rfl, rfl, HM5.out.trans hm⟩
      have hxe : x = .ok (⟨true, 0, t⟩, p6) := hX
      subst hxe
      clear hX HXE hx6
      go_wp2_with fail
      refine HT.mono ?_
      rintro e w6 ⟨⟨rfl, hd⟩, hm⟩
      have HD6 := Lib.hid hd
      have HM6 := Lib.hid (HM5.out.trans hm)
      have HA6 := Lib.hid (key_kept h.out (Nat.le_refl _) hm HA5.out)
      clear hd hm HT
      obtain ⟨f0, f1, f2⟩ := free3 HA6.out
      obtain ⟨a0, a1, a2⟩ := cells3 HA6.out
      go_wp2_with fail
      obtain ⟨z0, z1, z2⟩ := cells3 (set3 HA6.out true 0 t)
      exact bodyPost_ret (v := K.v ⟨true, 0, t⟩) (by simp [results, Tryz.results144, go_sem, K.v, z0, z1, z2]) rfl ⟨⟨rfl, HD6.out.store (B := w.heap.size) (by have := lt_of_block h.out.blk; omega) (fun e => by have := h.out.own.lt e; omega) (blk_no64 HA6.out (by decide)) (by have := h.out.tab.lt; omega) (set3_mod _ _ _ _ _)⟩, mod_new (Nat.le_refl _) HM6.out (set3_mod _ _ _ _ _)⟩
    · replace HXE : Hid (x = _) := Lib.hid (HXE.out.trans (if_pos (by decide)))
      obtain ⟨x4, hx4⟩ : ∃ x, x = mustP s [105, 58] p := ⟨_, rfl⟩
      have HU : ∀ W, Rd W r s p m tv ths → Calls Tryz.prog 114 #[.pointer (some ⟨r, 0, none⟩), .string ⟨#[105, 58]⟩] W (RPost W r tv x4 fun q e w' => e = .returned (.tuple #[]) ∧ Rd w' r s q m tv ths) := fun W hd => by
        rw [hx4]; exact must_lit #[105, 58] (by decide) hd
      rw [← hx4] at HXE
      rcases x4 with ⟨c, a⟩ | p4
      · have hxe : x = .error (c, a) := HXE.out
        subst hxe
        clear hx4
        go_wp2_with fail
        refine (HU _ HD1.out).mono ?_
        rintro e w5 ⟨rfl, hm⟩
        go_wp2_with fail
        exact ⟨rfl, rfl, HM1.out.trans hm⟩
      clear hx4
      go_wp2_with fail
      refine (HU _ HD1.out).mono ?_
      rintro e w5 ⟨⟨rfl, hd⟩, hm⟩
      have HD5 := Lib.hid hd
      have HM5 := Lib.hid (HM1.out.trans hm)
      have HA5 := Lib.hid (key_kept h.out (Nat.le_refl _) hm HA1.out)
      clear hd hm HU
      have HT := number_any true 0 HD5.out
      obtain ⟨x6, hx6⟩ : ∃ x, x = numberP s true 0 p4 := ⟨_, rfl⟩
      rw [← hx6] at HT
      have hX := HXE.out
      rw [← hx6] at hX
      rcases x6 with ⟨c, a⟩ | ⟨t, p6⟩
      · have hxe : x = .error (c, a) := hX
        subst hxe
        clear hX HXE hx6
        go_wp2_with fail
        refine HT.mono ?_
        rintro e w6 ⟨rfl, hm⟩
        go_wp2_with fail
        exact ⟨rfl, rfl, HM5.out.trans hm⟩
      have hxe : x = .ok (⟨false, t, ⟨#[]⟩⟩, p6) := hX
      subst hxe
      clear hX HXE hx6
      go_wp2_with fail
      refine HT.mono ?_
      rintro e w6 ⟨⟨rfl, hd⟩, hm⟩
      have HD6 := Lib.hid hd
      have HM6 := Lib.hid (HM5.out.trans hm)
      have HA6 := Lib.hid (key_kept h.out (Nat.le_refl _) hm HA5.out)
      clear hd hm HT
      obtain ⟨f0, f1, f2⟩ := free3 HA6.out
      obtain ⟨a0, a1, a2⟩ := cells3 HA6.out
      go_wp2_with fail
      obtain ⟨z0, z1, z2⟩ := cells3 (set3 HA6.out false t ⟨#[]⟩)
      exact bodyPost_ret (v := K.v ⟨false, t, ⟨#[]⟩⟩) (by simp [results, Tryz.results144, go_sem, K.v, z0, z1, z2]) rfl ⟨⟨rfl, HD6.out.store (B := w.heap.size) (by have := lt_of_block h.out.blk; omega) (fun e => by have := h.out.own.lt e; omega) (blk_no64 HA6.out (by decide)) (by have := h.out.tab.lt; omega) (set3_mod _ _ _ _ _)⟩, mod_new (Nat.le_refl _) HM6.out (set3_mod _ _ _ _ _)⟩
  · replace HXE : Hid (x = _) := Lib.hid (HXE.out.trans (if_neg (by simp)))
    go_enter Tryz.func144, Tryz.ntmps144
    obtain ⟨x4, hx4⟩ : ∃ x, x = mustP s [115, 58] p := ⟨_, rfl⟩
    have HU : ∀ W, Rd W r s p m tv ths → Calls Tryz.prog 114 #[.pointer (some ⟨r, 0, none⟩), .string ⟨#[115, 58]⟩] W (RPost W r tv x4 fun q e w' => e = .returned (.tuple #[]) ∧ Rd w' r s q m tv ths) := fun W hd => by
      rw [hx4]; exact must_lit #[115, 58] (by decide) hd
    rw [← hx4] at HXE
    rcases x4 with ⟨c, a⟩ | p4
    · have hxe : x = .error (c, a) := HXE.out
      subst hxe
      clear hx4
      go_wp2_with fail
      refine (HU _ HD0.out).mono ?_
      rintro e w5 ⟨rfl, hm⟩
      go_wp2_with fail
      exact ⟨rfl, rfl, (HM0.out).trans hm⟩
    clear hx4
    go_wp2_with fail
    refine (HU _ HD0.out).mono ?_
    rintro e w5 ⟨⟨rfl, hd⟩, hm⟩
    have HD5 := Lib.hid hd
    have HM5 := Lib.hid ((HM0.out).trans hm)
    have HA5 := Lib.hid (key_kept h.out (Nat.le_refl _) hm (HA0.out))
    clear hd hm HU
    have HT := text_any false HD5.out
    obtain ⟨x6, hx6⟩ : ∃ x, x = textP s false p4 := ⟨_, rfl⟩
    rw [← hx6] at HT
    have hX := HXE.out
    rw [← hx6] at hX
    rcases x6 with ⟨c, a⟩ | ⟨t, p6⟩
    · have hxe : x = .error (c, a) := hX
      subst hxe
      clear hX HXE hx6
      go_wp2_with fail
      refine HT.mono ?_
      rintro e w6 ⟨rfl, hm⟩
      go_wp2_with fail
      exact ⟨rfl, rfl, HM5.out.trans hm⟩
    have hxe : x = .ok (⟨true, 0, t⟩, p6) := hX
    subst hxe
    clear hX HXE hx6
    go_wp2_with fail
    refine HT.mono ?_
    rintro e w6 ⟨⟨rfl, hd⟩, hm⟩
    have HD6 := Lib.hid hd
    have HM6 := Lib.hid (HM5.out.trans hm)
    have HA6 := Lib.hid (key_kept h.out (Nat.le_refl _) hm HA5.out)
    clear hd hm HT
    obtain ⟨f0, f1, f2⟩ := free3 HA6.out
    obtain ⟨a0, a1, a2⟩ := cells3 HA6.out
    go_wp2_with fail
    obtain ⟨z0, z1, z2⟩ := cells3 (set3 HA6.out true 0 t)
    exact bodyPost_ret (v := K.v ⟨true, 0, t⟩) (by simp [results, Tryz.results144, go_sem, K.v, z0, z1, z2]) rfl ⟨⟨rfl, HD6.out.store (B := w.heap.size) (by have := lt_of_block h.out.blk; omega) (fun e => by have := h.out.own.lt e; omega) (blk_no64 HA6.out (by decide)) (by have := h.out.tab.lt; omega) (set3_mod _ _ _ _ _)⟩, mod_new (Nat.le_refl _) HM6.out (set3_mod _ _ _ _ _)⟩
end Go.Proofs.YtnaefnojmiolbaaGreatDoor

namespace Go.Proofs.YtnaefnojmiolbaaGreatDoor
open Go.RowKit

/-- A thing as a reader gathers it: its class, its items. -/
abbrev TP := ByteArray × List It
def Th.tp (t : Th) : TP := (t.cls, t.xs)
abbrev ER := Int × Nat
/-- What is read, the place behind it, how many items so far, the things so far. -/
abbrev RV (α : Type) := Except ER (α × Nat × Nat × List TP)
abbrev ValF := Nat → Nat → List TP → RV VT
/-- So many items, and the brace behind them. -/
def itemsP (s : ByteArray) (props : Bool) (val : ValF) : Nat → LS → Nat → Nat → List TP → RV LS
  | 0, l, p, m, ths => match mustP s [125] p with
    | .error e => .error e
    | .ok q => .ok (l, q, m, ths)
  | n + 1, l, p, m, ths => match keyP s props p with
    | .error e => .error e
    | .ok (k, p1) => match mustP s [59] p1 with
      | .error e => .error e
      | .ok p2 => if K.same k.norm k = false then .error (7, p)
        else if (findK k.norm l.xs).isSome = true then .error (9, p)
        else if 2048 < m + 1 then .error (8, p)
        else match val p2 (m + 1) ths with
          | .error e => .error e
          | .ok (x, p3, m', ths') => itemsP s props val n ⟨l.xs ++ [(k.norm, x)], nextP k.norm l.nx⟩ p3 m' ths'
/-- How many items, and the items in braces. -/
def bracesP (s : ByteArray) (props : Bool) (val : ValF) (p m : Nat) (ths : List TP) : RV LS :=
  match numberP s false 2048 p with
  | .error e => .error e
  | .ok (n, p1) => match mustP s [58, 123] p1 with
    | .error e => .error e
    | .ok p2 => itemsP s props val n.toNat LS.new p2 m ths
def objectP (s : ByteArray) (val : ValF) : ValF := fun p m ths =>
  match mustP s [79, 58] p with
  | .error e => .error e
  | .ok p1 => match textP s true p1 with
    | .error e => .error e
    | .ok (name, p2) => match mustP s [58] p2 with
      | .error e => .error e
      | .ok p3 => match bracesP s true val p3 m (ths ++ [(name, [])]) with
        | .error e => .error e
        | .ok (l, p4, m', ths') => .ok (.mk 5 (ths.length + 1) ⟨#[]⟩ [], p4, m', ths'.modify ths.length fun t => (t.1, l.xs))
def listP (s : ByteArray) (val : ValF) : ValF := fun p m ths =>
  match mustP s [97, 58] p with
  | .error e => .error e
  | .ok p1 => match bracesP s false val p1 m ths with
    | .error e => .error e
    | .ok (l, p2, m', ths') => .ok (.mk 4 l.nx ⟨#[]⟩ l.xs, p2, m', ths')
def nullP (s : ByteArray) : ValF := fun p m ths =>
  match mustP s [78, 59] p with
  | .error e => .error e
  | .ok q => .ok (.mk 0 0 ⟨#[]⟩ [], q, m, ths)
def boolP (s : ByteArray) : ValF := fun p m ths =>
  match mustP s [98, 58] p with
  | .error e => .error e
  | .ok q => if nowP s q = 49 then (match mustP s [49, 59] q with
      | .error e => .error e
      | .ok q' => .ok (.mk 1 1 ⟨#[]⟩ [], q', m, ths))
    else match mustP s [48, 59] q with
      | .error e => .error e
      | .ok q' => .ok (.mk 1 0 ⟨#[]⟩ [], q', m, ths)
def intP (s : ByteArray) : ValF := fun p m ths =>
  match mustP s [105, 58] p with
  | .error e => .error e
  | .ok p1 => match numberP s true 0 p1 with
    | .error e => .error e
    | .ok (n, p2) => match mustP s [59] p2 with
      | .error e => .error e
      | .ok q => .ok (.mk 2 n ⟨#[]⟩ [], q, m, ths)
def strP (s : ByteArray) : ValF := fun p m ths =>
  match mustP s [115, 58] p with
  | .error e => .error e
  | .ok p1 => match textP s false p1 with
    | .error e => .error e
    | .ok (t, p2) => match mustP s [59] p2 with
      | .error e => .error e
      | .ok q => .ok (.mk 3 0 t [], q, m, ths)
def refP (s : ByteArray) : ValF := fun p m ths =>
  match mustP s [114, 58] p with
  | .error e => .error e
  | .ok p1 => match numberP s false 65536 p1 with
    | .error e => .error e
    | .ok (n, p2) => if n < 1 ∨ (ths.length : Int) < n then .error (6, p1) else
      match mustP s [59] p2 with
      | .error e => .error e
      | .ok q => .ok (.mk 5 n ⟨#[]⟩ [], q, m, ths)
/-- One that lies outside of the deepest braces. -/
def deepP (s : ByteArray) (sub : Option ValF) : ValF := fun p m ths =>
  match sub with
  | none => .error (4, p)
  | some val => if nowP s p = 79 then objectP s val p m ths else listP s val p m ths
def graphP (s : ByteArray) (sub : Option ValF) : ValF := fun p m ths =>
  if nowP s p = 78 then nullP s p m ths
  else if nowP s p = 98 then boolP s p m ths
  else if nowP s p = 105 then intP s p m ths
  else if nowP s p = 115 then strP s p m ths
  else if nowP s p = 114 then refP s p m ths
  else if nowP s p = 97 ∨ nowP s p = 79 then deepP s sub p m ths
  else .error (wrongC s p, p)
/-- One, with so many braces left. -/
def gvalP (s : ByteArray) : Nat → ValF
  | 0 => graphP s none
  | d + 1 => graphP s (some (gvalP s d))

/-- A reader's things lie where they lay, or in a block that was made meanwhile. -/
def Fresh (w : World) (tv tv' : Value) : Prop := ∀ g, tv'.ownBlock = some g → tv.ownBlock = some g ∨ w.heap.size ≤ g
theorem Fresh.refl (w : World) (tv : Value) : Fresh w tv tv := fun _ h => .inl h
theorem Fresh.trans {w w1 : World} {a b c : Value} (h : Fresh w a b) (k : Fresh w1 b c) (hs : w.heap.size ≤ w1.heap.size) : Fresh w a c := fun g e => by
  rcases k g e with h1 | h1
  · exact h g h1
  · exact .inr (by omega)
theorem RF.trans {w w1 w2 : World} {r : Nat} {a b : Value} (h : Fresh w a b) (m1 : Mod (RF r a) w w1) (m2 : Mod (RF r b) w1 w2) : Mod (RF r a) w w2 :=
  m1.trans' m2 fun i hi e => by
    rcases e with e | e
    · exact .inl e
    · rcases h i e with h1 | h1
      · exact .inr h1
      · omega
section
variable {w w' : World} {r : Nat} {s : ByteArray} {p m : Nat} {tv : Value} {ths : List Th} {b mb : Nat} {v : Value} {l : LS} {ys : List It2}
theorem Rd.mod {F : Nat → Prop} (h : Rd w r s p m tv ths) (hm : Mod F w w') (h1 : ∀ k, RF r tv k → ¬ F k) (h2 : ∀ k, F k → ¬ B64 w k) (h3 : ∀ k, F k → 6 ≤ k) : Rd w' r s p m tv ths :=
  ⟨(hm.block r (lt_of_block h.blk) (h1 r (.inl rfl))).trans h.blk, h.own.kept fun g e => hm.block g (h.own.lt e) (h1 g (.inr e)), h.ne, fun t ht => VT64.mod (h.val t ht) hm h2, h.hp, h.hs, h.hm, h.tab.mod hm h3, h.r6, h.t6⟩
/-- A reader's blocks are none of a list's. -/
theorem Rd.apart (h : Rd w r s p m tv ths) (i : LIs w b v mb l ys) {k : Nat} (hr : RF r tv k) (hl : LFoot b v mb k) : False := by
  have h1 : w.heap[k]? = some (.cells #[.string s, .int .i64 p, .int .i64 m, tv] 116 (0, 0)) ∨ ∃ cur, w.heap[k]? = some (.cells cur 48 (0, 0)) := by
    rcases hr with rfl | e
    · exact .inl h.blk
    · exact .inr (owns_blk h.own e)
  have h2 : (∃ cs, w.heap[k]? = some (.cells cs 161 (0, 0))) ∨ (∃ cur, w.heap[k]? = some (.cells cur 167 (0, 0))) ∨ ∃ es c, w.heap[k]? = some (.map es c) := by
    rcases hl with rfl | e | rfl
    · exact .inl ⟨_, i.blk⟩
    · exact .inr (.inl (owns_blk i.own e))
    · exact .inr (.inr (map_blk i.map))
  rcases h1 with h1 | ⟨c1, h1⟩ <;> rcases h2 with ⟨c2, h2⟩ | ⟨c2, h2⟩ | ⟨es, c2, h2⟩ <;> rw [h1] at h2 <;> cases h2
theorem Rd.list (h : Rd w r s p m tv ths) (i : LIs w b v mb l ys) (hm : Mod (LFoot b v mb) w w') (h6 : ∀ k, LFoot b v mb k → 6 ≤ k) : Rd w' r s p m tv ths :=
  h.mod hm (fun _ hr hl => h.apart i hr hl) (fun _ hl => i.no64 hl) h6
theorem LIs.read (i : LIs w b v mb l ys) (h : Rd w r s p m tv ths) (hm : Mod (RF r tv) w w') : LIs w' b v mb l ys :=
  i.mod hm (fun _ hl hr => h.apart i hr hl) (fun _ hr => h.no64 hr)
theorem Rd.setMany (h : Rd w r s p m tv ths) {n : Nat} (hn : n ≤ 2049) {v : Int} (hv : v = (n : Int)) : Rd (w.setCell ⟨r, 2, none⟩ (.int .i64 v)) r s p n tv ths :=
  hv ▸ ⟨by have := set_blk h.blk 2 (.int .i64 n); simpa using this, h.own.kept fun g e => Below.heap_setCell _ _ _ _ (fun c => h.ne (by rw [e, c])), h.ne,
    fun t ht => VT64.mod (h.val t ht) ((Mod.refl (fun k => k = r) w).setCell _ _ (fun _ => rfl)) (fun g e => h.no64 (.inl e)), h.hp, h.hs, hn, h.tab.mod ((Mod.refl (fun k => k = r) w).setCell _ _ (fun _ => rfl)) (fun k e => by rw [show k = r from e]; exact h.r6), h.r6, h.t6⟩
end
/-- What a reader's value leaves. -/
def VPost (w : World) (r : Nat) (s : ByteArray) (tv : Value) (x : RV VT) : Ending → World → Prop :=
  RPost w r tv x fun y e w' => ∃ co cm cc tv' ths', e = .returned (y.1.v (.slice co cm cc)) ∧ VT64 w' (.slice co cm cc) y.1.xs ∧ Rd w' r s y.2.1 y.2.2.1 tv' ths' ∧ ths'.map Th.tp = y.2.2.2 ∧ Fresh w tv tv' ∧ ths'.length ≤ y.2.1
/-- What a reader's items leave. -/
def LPost (w : World) (r : Nat) (s : ByteArray) (tv : Value) (x : RV LS) : Ending → World → Prop :=
  RPost w r tv x fun y e w' => ∃ b v mb ys tv' ths', e = .returned (.pointer (some ⟨b, 0, none⟩)) ∧ LIs w' b v mb y.1 ys ∧ (∀ k, LFoot b v mb k → w.heap.size ≤ k) ∧ Rd w' r s y.2.1 y.2.2.1 tv' ths' ∧ ths'.map Th.tp = y.2.2.2 ∧ Fresh w tv tv' ∧ ths'.length ≤ y.2.1
end Go.Proofs.YtnaefnojmiolbaaGreatDoor

namespace Go.Proofs.YtnaefnojmiolbaaGreatDoor
open Go.RowKit

/-- What a text reads as. -/
def readP (s : ByteArray) : Except ER (VT × List TP) :=
  match gvalP s 64 0 0 [] with
  | .error e => .error e
  | .ok (y, p, _, ths) => if p < s.size then .error (wrongC s p, p) else .ok (y, ths)
/-- What Unpack answers. -/
def unpackP (s : ByteArray) : Except ER (VT × List TP) := if 65536 < s.size then .error (2, 0) else readP s
end Go.Proofs.YtnaefnojmiolbaaGreatDoor

namespace Go.Proofs.YtnaefnojmiolbaaGreatDoor
open Go.RowKit

def isBl (c : UInt8) : Bool := c == 32 || c == 9 || c == 10 || c == 13
/-- The place behind the blanks. -/
def blankE (s : ByteArray) (p : Nat) : Nat := p + ((s.toList.drop p).takeWhile isBl).length
theorem blankE_step {s : ByteArray} {p : Nat} (h : p < s.size) (hd : isBl s[p] = true) : blankE s p = blankE s (p + 1) := by
  unfold blankE
  rw [List.drop_eq_getElem_cons (by rw [size_toList]; exact h), toList_at h, List.takeWhile_cons, if_pos hd, List.length_cons]
  omega
theorem blankE_stop {s : ByteArray} {p : Nat} (h : ¬ isBl (nowP s p) = true) : blankE s p = p := by
  unfold blankE
  by_cases hp : p < s.size
  · rw [nowP_lt hp] at h
    rw [List.drop_eq_getElem_cons (by rw [size_toList]; exact hp), toList_at hp, List.takeWhile_cons, if_neg h]
    rfl
  · rw [List.drop_eq_nil_of_le (by rw [size_toList]; omega)]
    rfl
theorem blankE_le {s : ByteArray} {p : Nat} (h : p ≤ s.size) : blankE s p ≤ s.size ∧ p ≤ blankE s p := by
  unfold blankE
  have h1 := (List.takeWhile_sublist (l := s.toList.drop p) isBl).length_le
  rw [List.length_drop, size_toList] at h1
  omega
theorem bl_now_lt {s : ByteArray} {p : Nat} (h : isBl (nowP s p) = true) : p < s.size := by
  by_cases hp : p < s.size
  · exact hp
  · rw [nowP_end hp] at h; exact absurd h (by decide)
/-- Where the digits of a number end: a zero stands alone. -/
def jnumE (s : ByteArray) (q : Nat) : Nat := if nowP s q = 48 then q + 1 else endP s q
def jnumB (s : ByteArray) (p : Nat) : Nat := if nowP s p = 45 then p + 1 else p
def isFr (c : UInt8) : Bool := c == 46 || c == 101 || c == 69
def jnumP (s : ByteArray) (p : Nat) : Except ER (Int × Nat) :=
  if isDig (nowP s (jnumB s p)) = true then
    match Lib.atoiAll (numText s p (jnumE s (jnumB s p))).toList with
    | .ok n => if isFr (nowP s (jnumE s (jnumB s p))) = true then .error (11, p) else .ok (n, jnumE s (jnumB s p))
    | _ => .error (11, p)
  else .error (wrongC s (jnumB s p), jnumB s p)
/-- A hexadecimal digit. -/
def hexV (c : UInt8) : Option Nat :=
  if 48 ≤ c.toNat ∧ c.toNat ≤ 57 then some (c.toNat - 48) else if 97 ≤ c.toNat ∧ c.toNat ≤ 102 then some (c.toNat - 87) else if 65 ≤ c.toNat ∧ c.toNat ≤ 70 then some (c.toNat - 55) else none
def hexP (s : ByteArray) : Nat → Nat → Nat → Except ER (Nat × Nat)
  | 0, n, p => .ok (n, p)
  | k + 1, n, p => match hexV (nowP s p) with
    | none => .error (wrongC s p, p)
    | some d => hexP s k (n * 16 + d) (p + 1)
/-- What stands behind the u of an escape that begins at a place. -/
def unitP (s : ByteArray) (from' p : Nat) : Except ER (Nat × Nat) :=
  match hexP s 4 0 p with
  | .error e => .error e
  | .ok (n, q) =>
    if n < 55296 ∨ 57343 < n then .ok (n, q)
    else if 56320 ≤ n then .error (7, from')
    else if ¬ q < s.size then .error (10, q)
    else if nowP s q ≠ 92 then .error (7, from')
    else if ¬ q + 1 < s.size then .error (10, q + 1)
    else if nowP s (q + 1) ≠ 117 then .error (7, from')
    else match hexP s 4 0 (q + 2) with
      | .error e => .error e
      | .ok (m, q2) => if m < 56320 ∨ 57343 < m then .error (7, from') else .ok (65536 + (n - 55296) * 1024 + (m - 56320), q2)
/-- The byte that an escape of one letter is. -/
def shortR (c : UInt8) : Option UInt8 :=
  if c = 34 then some 34 else if c = 92 then some 92 else if c = 47 then some 47 else if c = 98 then some 8 else if c = 102 then some 12
  else if c = 110 then some 10 else if c = 114 then some 13 else if c = 116 then some 9 else none
def escP (s : ByteArray) (p : Nat) : Except ER (Bs × Nat) :=
  if ¬ p + 1 < s.size then .error (10, p + 1)
  else if nowP s (p + 1) = 117 then (match unitP s p (p + 2) with
    | .error e => .error e
    | .ok (n, q) => .ok (Lib.encodeRune n, q))
  else match shortR (nowP s (p + 1)) with
    | none => .error (7, p + 1)
    | some c => .ok ([c], p + 2)
/-- The rune that begins at a place. -/
abbrev decAt (s : ByteArray) (p : Nat) : Nat × Nat := Lib.decodeL (s.toList.drop p)
def jtextL (s : ByteArray) : Nat → Bs → Nat → Except ER (Bs × Nat)
  | 0, _, p => .error (0, p)
  | k + 1, acc, p =>
    if nowP s p = 34 then .ok (acc, p + 1)
    else if ¬ p < s.size ∨ nowP s p < 32 then .error (wrongC s p, p)
    else if nowP s p = 92 then (match escP s p with
      | .error e => .error e
      | .ok (l, q) => jtextL s k (acc ++ l) q)
    else if (decAt s p).1 = 65533 ∧ (decAt s p).2 = 1 then .error (14, p)
    else jtextL s k (acc ++ Lib.encodeRune (decAt s p).1) (p + (decAt s p).2)
def jtextP (s : ByteArray) (p : Nat) : Except ER (Bs × Nat) :=
  match mustP s [34] p with
  | .error e => .error e
  | .ok q => jtextL s (s.size + 1) [] q
def firstB (c : UInt8) : Bool := [110, 116, 102, 34, 91, 123, 45, 48, 49, 50, 51, 52, 53, 54, 55, 56, 57].contains c
def jbegP (s : ByteArray) (obj : Bool) (p : Nat) : Bool := decide (p < s.size) && (if obj then nowP s p == 34 else firstB (nowP s p))
/-- What is read, the place behind it, how many items so far. -/
abbrev JV (α : Type) := Except ER (α × Nat × Nat)
abbrev JValF := Nat → Nat → JV VT
abbrev endC (obj : Bool) : UInt8 := if obj then 125 else 93
def jitemP (s : ByteArray) (obj : Bool) (val : JValF) (l : LS) (p m : Nat) : JV LS :=
  if obj = true then
    match jtextP s p with
    | .error e => .error e
    | .ok (t, p1) => match mustP s [58] (blankE s p1) with
      | .error e => .error e
      | .ok p2 => match val (blankE s p2) m with
        | .error e => .error e
        | .ok (x, p3, m') => .ok ((setP ⟨true, 0, str t⟩ x l).2, p3, m')
  else match val p m with
    | .error e => .error e
    | .ok (x, p3, m') => .ok ((appendP x l).2, p3, m')
def jroundP (s : ByteArray) (obj : Bool) (val : JValF) (l : LS) (p m : Nat) : JV LS :=
  if 2048 < m + 1 ∧ jbegP s obj p = true then .error (8, p) else
  match jitemP s obj val l p (m + 1) with
  | .error e => .error e
  | .ok (l', p', m') => .ok (l', blankE s p', m')
def jitemsL (s : ByteArray) (obj : Bool) (val : JValF) : Nat → Bool → LS → Nat → Nat → JV LS
  | 0, _, _, p, _ => .error (0, p)
  | k + 1, first, l, p, m =>
    if first = true then
      if nowP s p = endC obj then .ok (l, p, m) else
      match jroundP s obj val l p m with
      | .error e => .error e
      | .ok (l', p', m') => jitemsL s obj val k false l' p' m'
    else if nowP s p = 44 then
      match jroundP s obj val l (blankE s (p + 1)) m with
      | .error e => .error e
      | .ok (l', p', m') => jitemsL s obj val k false l' p' m'
    else .ok (l, p, m)
def jlistP (s : ByteArray) (obj : Bool) (sub : Option JValF) : JValF := fun p m =>
  match sub with
  | none => .error (4, p)
  | some val => match jitemsL s obj val (s.size + 2) true LS.new (blankE s (p + 1)) m with
    | .error e => .error e
    | .ok (l, q, m') => if nowP s q = endC obj ∧ q < s.size then .ok (.mk 4 l.nx ⟨#[]⟩ l.xs, q + 1, m') else .error (wrongC s q, q)
def jwordP (s : ByteArray) (w : Bs) (y : VT) : JValF := fun p m =>
  match mustP s w p with
  | .error e => .error e
  | .ok q => .ok (y, q, m)
def jintP (s : ByteArray) : JValF := fun p m =>
  match jnumP s p with
  | .error e => .error e
  | .ok (n, q) => .ok (.mk 2 n ⟨#[]⟩ [], q, m)
def jstrP (s : ByteArray) : JValF := fun p m =>
  match jtextP s p with
  | .error e => .error e
  | .ok (t, q) => .ok (.mk 3 0 (str t) [], q, m)
def jvalP (s : ByteArray) (sub : Option JValF) : JValF := fun p m =>
  if nowP s p = 45 ∨ isDig (nowP s p) = true then jintP s p m
  else if nowP s p = 110 then jwordP s [110, 117, 108, 108] (.mk 0 0 ⟨#[]⟩ []) p m
  else if nowP s p = 116 then jwordP s [116, 114, 117, 101] (.mk 1 1 ⟨#[]⟩ []) p m
  else if nowP s p = 102 then jwordP s [102, 97, 108, 115, 101] (.mk 1 0 ⟨#[]⟩ []) p m
  else if nowP s p = 91 then jlistP s false sub p m
  else if nowP s p = 123 then jlistP s true sub p m
  else if nowP s p = 34 then jstrP s p m
  else .error (wrongC s p, p)
/-- A value with so many lists left. -/
def jdepth (s : ByteArray) : Nat → JValF
  | 0 => jvalP s none
  | d + 1 => jvalP s (some (jdepth s d))
/-- What Decode answers. -/
def decodeP (s : ByteArray) : Except ER VT :=
  if 65536 < s.size then .error (2, 0) else
  match jdepth s 64 (blankE s 0) 0 with
  | .error e => .error e
  | .ok (y, p, _) => if blankE s p < s.size then .error (7, blankE s p) else .ok y
end Go.Proofs.YtnaefnojmiolbaaGreatDoor
