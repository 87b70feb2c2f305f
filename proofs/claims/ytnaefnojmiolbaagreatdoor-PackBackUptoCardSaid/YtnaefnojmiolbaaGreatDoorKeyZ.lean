/-
  The walk of a reader's key.
-/
import Derived.Test.YtnaefnojmiolbaaGreatDoorTextZ
namespace Go.Proofs.YtnaefnojmiolbaaGreatDoor
open Go.RowKit

attribute [local go_sem] yld_undef
/-- A key at a place. -/
def keyP (s : ByteArray) (props : Bool) (p : Nat) : Except (Int × Nat) (K × Nat) :=
  if (!props && decide (nowP s p = 105)) = true then
    match mustP s [105, 58] p with
    | .error e => .error e
    | .ok p1 => match numberP s true 0 p1 with
      | .error e => .error e
      | .ok (n, p2) => .ok (⟨false, n, ⟨#[]⟩⟩, p2)
  else match mustP s [115, 58] p with
    | .error e => .error e
    | .ok p1 => match textP s false p1 with
      | .error e => .error e
      | .ok (t, p2) => .ok (⟨true, 0, t⟩, p2)
section
variable {w W W' : World} {r : Nat} {s : ByteArray} {p m : Nat} {tv : Value} {ths : List Th}
/-- What was made behind a reader stays under the reader's calls. -/
theorem key_kept (h : Rd w r s p m tv ths) {B : Nat} (hB : w.heap.size ≤ B) (hm : Mod (RF r tv) W W') {o : Obj} (hA : W.heap[B]? = some o) : W'.heap[B]? = some o := by
  rw [hm.block B (lt_of_block hA) ?_, hA]
  rintro (e | e)
  · have := lt_of_block h.blk; omega
  · have := h.own.lt e; omega
theorem Rd.store (h : Rd w r s p m tv ths) {B : Nat} (hB : B ≠ r) (hT : tv.ownBlock ≠ some B) (h64 : ¬ B64 w B) (h6 : 6 ≤ B) {w' : World} (hm : Mod (fun k => k = B) w w') : Rd w' r s p m tv ths :=
  ⟨(hm.block r (lt_of_block h.blk) (fun e => hB e.symm)).trans h.blk, h.own.kept fun g e => hm.block g (h.own.lt e) (fun c => hT (c ▸ e)), h.ne, fun t ht => VT64.mod (h.val t ht) hm (fun g e => by rw [show g = B from e]; exact h64), h.hp, h.hs, h.hm,
    h.tab.mod hm (fun k e => by rw [show k = B from e]; exact h6), h.r6, h.t6⟩
theorem blk_no64 {B : Nat} {cs : Array Value} {ty : TypeId} {fr : Nat × Nat} (h : W.heap[B]? = some (.cells cs ty fr)) (ht : ty ≠ 64) : ¬ B64 W B := by
  rintro ⟨cs', fr', e⟩
  rw [h] at e
  cases e
  exact ht rfl
theorem set3_mod (W : World) (B : Nat) (x y z : Value) : Mod (fun k => k = B) W (((W.setCell ⟨B, 0, none⟩ x).setCell ⟨B, 1, none⟩ y).setCell ⟨B, 2, none⟩ z) :=
  (((Mod.refl (fun k => k = B) W).setCell ⟨B, 0, none⟩ x (fun _ => rfl)).setCell ⟨B, 1, none⟩ y (fun _ => rfl)).setCell ⟨B, 2, none⟩ z (fun _ => rfl)
/-- A store into what was made behind is none of the reader's turnings. -/
theorem mod_new {a : World} {B : Nat} (hB : a.heap.size ≤ B) (m1 : Mod (RF r tv) a W) (m2 : Mod (fun k => k = B) W W') : Mod (RF r tv) a W' := m1.trans' m2 (fun i hi e => by have e : i = B := e; omega)
end
set_option maxHeartbeats 6400000 in
set_option maxRecDepth 100000 in
theorem key_any (props : Bool) {w : World} {r : Nat} {s : ByteArray} {p m : Nat} {tv : Value} {ths : List Th} (h : Rd w r s p m tv ths) :
    Calls Tryz.prog 144 #[.pointer (some ⟨r, 0, none⟩), .bool props] w (RPost w r tv (keyP s props p) fun x e w' => e = .returned x.1.v ∧ Rd w' r s x.2 m tv ths) := by
  obtain ⟨x, hx⟩ : ∃ x, x = keyP s props p := ⟨_, rfl⟩
  rw [← hx]
  unfold keyP at hx
  have HXE := Lib.hid hx
  have h := Lib.hid h
  have HB : Below w.heap.size w (w.alloc (KB false 0 ⟨#[]⟩)) := (Below.refl _ _).alloc (Nat.le_refl _) _
  have HD0 := Lib.hid (h.out.under HB)
  have HM0 := Lib.hid (Mod.of_below (F := RF r tv) HB)
  have HA0 : Hid ((w.alloc (KB false 0 ⟨#[]⟩)).heap[w.heap.size]? = some (KB false 0 ⟨#[]⟩)) := Lib.hid (heap_alloc_new w _)
  clear hx HB
  cases props
  · obtain ⟨b, hb⟩ : ∃ b, b = decide (nowP s p = 105) := ⟨_, rfl⟩
    have hbi : (((nowP s p).toNat : Int) == 105) = b := by
      rw [hb]
      by_cases hc : nowP s p = 105
      · rw [hc]; rfl
      · rw [decide_eq_false hc, beq_eq_false_iff_ne]
        intro e; exact hc (UInt8.toNat_inj.1 (by simpa using (by omega : (nowP s p).toNat = 105)))
    rw [← hb] at HXE
    have HN := now_any HD0.out
    clear hb
    go_enter Tryz.func144, Tryz.ntmps144
    go_wp2_with fail
    refine HN.mono ?_
    rintro e w1 ⟨rfl, hb⟩
    have HD1 := Lib.hid (HD0.out.under hb)
    have HM1 := Lib.hid (HM0.out.trans (Mod.of_below (F := RF r tv) hb))
    have HA1 := Lib.hid ((hb.block _ (lt_of_block HA0.out)).trans HA0.out)
    clear hb HN HD0 HM0 HA0
    cases b
    · replace HXE : Hid (x = _) := Lib.hid (HXE.out.trans (if_neg (by decide)))
      obtain ⟨x4, hx4⟩ : ∃ x, x = mustP s [115, 58] p := ⟨_, rfl⟩
      have HU : ∀ W, Rd W r s p m tv ths → Calls Tryz.prog 114 #[.pointer (some ⟨r, 0, none⟩), .string ⟨#[115, 58]⟩] W (RPost W r tv x4 fun q e w' => e = .returned (.tuple #[]) ∧ Rd w' r s q m tv ths) := fun W hd => by
        rw [hx4]; exact must_lit #[115, 58] (by decide) hd
      rw [← hx4] at HXE
      rcases x4 with ⟨c, a⟩ | p4
      · have hxe : x = .error (c, a) := HXE.out
        subst hxe
        clear hx4
        go_wp2_with fail
        refine (HU _ HD1.out).mono ?_
        rintro e w5 ⟨rfl, hm⟩
        go_wp2_with fail
        exact ⟨rfl, rfl, (HM1.out).trans hm⟩
      clear hx4
      go_wp2_with fail
      refine (HU _ HD1.out).mono ?_
      rintro e w5 ⟨⟨rfl, hd⟩, hm⟩
      have HD5 := Lib.hid hd
      have HM5 := Lib.hid ((HM1.out).trans hm)
      have HA5 := Lib.hid (key_kept h.out (Nat.le_refl _) hm (HA1.out))
      clear hd hm HU
      have HT := text_any false HD5.out
      obtain ⟨x6, hx6⟩ : ∃ x, x = textP s false p4 := ⟨_, rfl⟩
      rw [← hx6] at HT
      have hX := HXE.out
      rw [← hx6] at hX
      rcases x6 with ⟨c, a⟩ | ⟨t, p6⟩
      · have hxe : x = .error (c, a) := hX
        subst hxe
        clear hX HXE hx6
        go_wp2_with fail
        refine HT.mono ?_
        rintro e w6 ⟨rfl, hm⟩
        go_wp2_with fail
        exact ⟨rfl, rfl, HM5.out.trans hm⟩
      have hxe : x = .ok (⟨true, 0, t⟩, p6) := hX
      subst hxe
      clear hX HXE hx6
      go_wp2_with fail
      refine HT.mono ?_
      rintro e w6 ⟨⟨rfl, hd⟩, hm⟩
      have HD6 := Lib.hid hd
      have HM6 := Lib.hid (HM5.out.trans hm)
      have HA6 := Lib.hid (key_kept h.out (Nat.le_refl _) hm HA5.out)
      clear hd hm HT
      obtain ⟨f0, f1, f2⟩ := free3 HA6.out
      obtain ⟨a0, a1, a2⟩ := cells3 HA6.out
      go_wp2_with fail
      obtain ⟨z0, z1, z2⟩ := cells3 (set3 HA6.out true 0 t)
      exact bodyPost_ret (v := K.v ⟨true, 0, t⟩) (by simp [results, Tryz.results144, go_sem, K.v, z0, z1, z2]) rfl ⟨⟨rfl, HD6.out.store (B := w.heap.size) (by have := lt_of_block h.out.blk; omega) (fun e => by have := h.out.own.lt e; omega) (blk_no64 HA6.out (by decide)) (by have := h.out.tab.lt; omega) (set3_mod _ _ _ _ _)⟩, mod_new (Nat.le_refl _) HM6.out (set3_mod _ _ _ _ _)⟩
    · replace HXE : Hid (x = _) := Lib.hid (HXE.out.trans (if_pos (by decide)))
      obtain ⟨x4, hx4⟩ : ∃ x, x = mustP s [105, 58] p := ⟨_, rfl⟩
      have HU : ∀ W, Rd W r s p m tv ths → Calls Tryz.prog 114 #[.pointer (some ⟨r, 0, none⟩), .string ⟨#[105, 58]⟩] W (RPost W r tv x4 fun q e w' => e = .returned (.tuple #[]) ∧ Rd w' r s q m tv ths) := fun W hd => by
        rw [hx4]; exact must_lit #[105, 58] (by decide) hd
      rw [← hx4] at HXE
      rcases x4 with ⟨c, a⟩ | p4
      · have hxe : x = .error (c, a) := HXE.out
        subst hxe
        clear hx4
        go_wp2_with fail
        refine (HU _ HD1.out).mono ?_
        rintro e w5 ⟨rfl, hm⟩
        go_wp2_with fail
        exact ⟨rfl, rfl, HM1.out.trans hm⟩
      clear hx4
      go_wp2_with fail
      refine (HU _ HD1.out).mono ?_
      rintro e w5 ⟨⟨rfl, hd⟩, hm⟩
      have HD5 := Lib.hid hd
      have HM5 := Lib.hid (HM1.out.trans hm)
      have HA5 := Lib.hid (key_kept h.out (Nat.le_refl _) hm HA1.out)
      clear hd hm HU
      have HT := number_any true 0 HD5.out
      obtain ⟨x6, hx6⟩ : ∃ x, x = numberP s true 0 p4 := ⟨_, rfl⟩
      rw [← hx6] at HT
      have hX := HXE.out
      rw [← hx6] at hX
      rcases x6 with ⟨c, a⟩ | ⟨t, p6⟩
      · have hxe : x = .error (c, a) := hX
        subst hxe
        clear hX HXE hx6
        go_wp2_with fail
        refine HT.mono ?_
        rintro e w6 ⟨rfl, hm⟩
        go_wp2_with fail
        exact ⟨rfl, rfl, HM5.out.trans hm⟩
      have hxe : x = .ok (⟨false, t, ⟨#[]⟩⟩, p6) := hX
      subst hxe
      clear hX HXE hx6
      go_wp2_with fail
      refine HT.mono ?_
      rintro e w6 ⟨⟨rfl, hd⟩, hm⟩
      have HD6 := Lib.hid hd
      have HM6 := Lib.hid (HM5.out.trans hm)
      have HA6 := Lib.hid (key_kept h.out (Nat.le_refl _) hm HA5.out)
      clear hd hm HT
      obtain ⟨f0, f1, f2⟩ := free3 HA6.out
      obtain ⟨a0, a1, a2⟩ := cells3 HA6.out
      go_wp2_with fail
      obtain ⟨z0, z1, z2⟩ := cells3 (set3 HA6.out false t ⟨#[]⟩)
      exact bodyPost_ret (v := K.v ⟨false, t, ⟨#[]⟩⟩) (by simp [results, Tryz.results144, go_sem, K.v, z0, z1, z2]) rfl ⟨⟨rfl, HD6.out.store (B := w.heap.size) (by have := lt_of_block h.out.blk; omega) (fun e => by have := h.out.own.lt e; omega) (blk_no64 HA6.out (by decide)) (by have := h.out.tab.lt; omega) (set3_mod _ _ _ _ _)⟩, mod_new (Nat.le_refl _) HM6.out (set3_mod _ _ _ _ _)⟩
  · replace HXE : Hid (x = _) := Lib.hid (HXE.out.trans (if_neg (by simp)))
    go_enter Tryz.func144, Tryz.ntmps144
    obtain ⟨x4, hx4⟩ : ∃ x, x = mustP s [115, 58] p := ⟨_, rfl⟩
    have HU : ∀ W, Rd W r s p m tv ths → Calls Tryz.prog 114 #[.pointer (some ⟨r, 0, none⟩), .string ⟨#[115, 58]⟩] W (RPost W r tv x4 fun q e w' => e = .returned (.tuple #[]) ∧ Rd w' r s q m tv ths) := fun W hd => by
      rw [hx4]; exact must_lit #[115, 58] (by decide) hd
    rw [← hx4] at HXE
    rcases x4 with ⟨c, a⟩ | p4
    · have hxe : x = .error (c, a) := HXE.out
      subst hxe
      clear hx4
      go_wp2_with fail
      refine (HU _ HD0.out).mono ?_
      rintro e w5 ⟨rfl, hm⟩
      go_wp2_with fail
      exact ⟨rfl, rfl, (HM0.out).trans hm⟩
    clear hx4
    go_wp2_with fail
    refine (HU _ HD0.out).mono ?_
    rintro e w5 ⟨⟨rfl, hd⟩, hm⟩
    have HD5 := Lib.hid hd
    have HM5 := Lib.hid ((HM0.out).trans hm)
    have HA5 := Lib.hid (key_kept h.out (Nat.le_refl _) hm (HA0.out))
    clear hd hm HU
    have HT := text_any false HD5.out
    obtain ⟨x6, hx6⟩ : ∃ x, x = textP s false p4 := ⟨_, rfl⟩
    rw [← hx6] at HT
    have hX := HXE.out
    rw [← hx6] at hX
    rcases x6 with ⟨c, a⟩ | ⟨t, p6⟩
    · have hxe : x = .error (c, a) := hX
      subst hxe
      clear hX HXE hx6
      go_wp2_with fail
      refine HT.mono ?_
      rintro e w6 ⟨rfl, hm⟩
      go_wp2_with fail
      exact ⟨rfl, rfl, HM5.out.trans hm⟩
    have hxe : x = .ok (⟨true, 0, t⟩, p6) := hX
    subst hxe
    clear hX HXE hx6
    go_wp2_with fail
    refine HT.mono ?_
    rintro e w6 ⟨⟨rfl, hd⟩, hm⟩
    have HD6 := Lib.hid hd
    have HM6 := Lib.hid (HM5.out.trans hm)
    have HA6 := Lib.hid (key_kept h.out (Nat.le_refl _) hm HA5.out)
    clear hd hm HT
    obtain ⟨f0, f1, f2⟩ := free3 HA6.out
    obtain ⟨a0, a1, a2⟩ := cells3 HA6.out
    go_wp2_with fail
    obtain ⟨z0, z1, z2⟩ := cells3 (set3 HA6.out true 0 t)
    exact bodyPost_ret (v := K.v ⟨true, 0, t⟩) (by simp [results, Tryz.results144, go_sem, K.v, z0, z1, z2]) rfl ⟨⟨rfl, HD6.out.store (B := w.heap.size) (by have := lt_of_block h.out.blk; omega) (fun e => by have := h.out.own.lt e; omega) (blk_no64 HA6.out (by decide)) (by have := h.out.tab.lt; omega) (set3_mod _ _ _ _ _)⟩, mod_new (Nat.le_refl _) HM6.out (set3_mod _ _ _ _ _)⟩
end Go.Proofs.YtnaefnojmiolbaaGreatDoor
