/-
  A reader of JSON in memory; the walks of now, fail, wrong, must, blanks, begins.
-/
import Derived.Test.YtnaefnojmiolbaaGreatDoorJw10
namespace Go.Proofs.YtnaefnojmiolbaaGreatDoor
open Go.RowKit

/-- A reader in memory: its text, its place, how many items so far, its fault. -/
structure Jd (w : World) (r : Nat) (s : ByteArray) (p m : Nat) (fw fa : Int) : Prop where
  blk : w.heap[r]? = some (.cells #[.string s, .int .i64 p, .int .i64 m, .int .i64 fw, .int .i64 fa] 67 (0, 0))
  hp : p ≤ s.size
  hs : s.size ≤ 65536
  hm : m ≤ p
  tab : Tabs w
  r6 : 6 ≤ r
section
variable {w w' : World} {r : Nat} {s : ByteArray} {p m : Nat} {fw fa : Int}
theorem Jd.mod {F : Nat → Prop} (h : Jd w r s p m fw fa) (hm : Mod F w w') (hr : ¬ F r) (h6 : ∀ k, F k → 6 ≤ k) : Jd w' r s p m fw fa :=
  ⟨(hm.block _ (lt_of_block h.blk) hr).trans h.blk, h.hp, h.hs, h.hm, h.tab.mod hm h6, h.r6⟩
theorem Jd.under (h : Jd w r s p m fw fa) (hb : Below w.heap.size w w') : Jd w' r s p m fw fa :=
  ⟨(hb.block _ (lt_of_block h.blk)).trans h.blk, h.hp, h.hs, h.hm, h.tab.mono hb, h.r6⟩
theorem Jd.cells (h : Jd w r s p m fw fa) : w.cell? ⟨r, 0, none⟩ = some (.string s) ∧ w.cell? ⟨r, 1, none⟩ = some (.int .i64 p) ∧ w.cell? ⟨r, 2, none⟩ = some (.int .i64 m) ∧ w.cell? ⟨r, 3, none⟩ = some (.int .i64 fw) ∧ w.cell? ⟨r, 4, none⟩ = some (.int .i64 fa) :=
  ⟨cell_blk h.blk 0, cell_blk h.blk 1, cell_blk h.blk 2, cell_blk h.blk 3, cell_blk h.blk 4⟩
theorem setJ_mod (w : World) (r i : Nat) (v : Value) : Mod (fun k => k = r) w (w.setCell ⟨r, i, none⟩ v) := (Mod.refl _ w).setCell _ _ (fun _ => rfl)
theorem Jd.no64 (h : Jd w r s p m fw fa) {k : Nat} (hk : k = r) : ¬ B64 w k := by
  rintro ⟨cs, fr, hc⟩
  rw [hk, h.blk] at hc; cases hc
theorem Jd.setAt (h : Jd w r s p m fw fa) {q : Nat} (hq : q ≤ s.size) (hm : m ≤ q) {v : Int} (hv : v = (q : Int)) : Jd (w.setCell ⟨r, 1, none⟩ (.int .i64 v)) r s q m fw fa :=
  hv ▸ ⟨by have := set_blk h.blk 1 (.int .i64 q); simpa using this, hq, h.hs, hm, h.tab.mod (setJ_mod w r 1 _) (fun k e => by rw [show k = r from e]; exact h.r6), h.r6⟩
theorem Jd.setMany (h : Jd w r s p m fw fa) {n : Nat} (hn : n ≤ p) {v : Int} (hv : v = (n : Int)) : Jd (w.setCell ⟨r, 2, none⟩ (.int .i64 v)) r s p n fw fa :=
  hv ▸ ⟨by have := set_blk h.blk 2 (.int .i64 n); simpa using this, h.hp, h.hs, hn, h.tab.mod (setJ_mod w r 2 _) (fun k e => by rw [show k = r from e]; exact h.r6), h.r6⟩
theorem Jd.setWhy (h : Jd w r s p m fw fa) (c : Int) : Jd (w.setCell ⟨r, 3, none⟩ (.int .i64 c)) r s p m c fa :=
  ⟨by have := set_blk h.blk 3 (.int .i64 c); simpa using this, h.hp, h.hs, h.hm, h.tab.mod (setJ_mod w r 3 _) (fun k e => by rw [show k = r from e]; exact h.r6), h.r6⟩
theorem Jd.setPlace (h : Jd w r s p m fw fa) (c : Int) : Jd (w.setCell ⟨r, 4, none⟩ (.int .i64 c)) r s p m fw c :=
  ⟨by have := set_blk h.blk 4 (.int .i64 c); simpa using this, h.hp, h.hs, h.hm, h.tab.mod (setJ_mod w r 4 _) (fun k e => by rw [show k = r from e]; exact h.r6), h.r6⟩
end
/-- Only the reader has turned. -/
abbrev JF (r : Nat) (k : Nat) : Prop := k = r
/-- What a reader's call leaves, whatever comes of it. -/
def JPost {α : Type} (F : Nat → Prop) (w : World) (r : Nat) (s : ByteArray) (x : Except ER α) (bad : Value → Prop) (ok : α → Ending → World → Prop) (e : Ending) (w' : World) : Prop :=
  match x with
  | .ok a => ok a e w' ∧ Mod F w w'
  | .error (c, a) => (∃ y, bad y ∧ e = .returned y) ∧ (∃ p m, Jd w' r s p m c a) ∧ Mod F w w'
abbrev isFalse (y : Value) : Prop := y = .bool false
set_option maxRecDepth 100000 in
theorem jnow_any {w : World} {r : Nat} {s : ByteArray} {p m : Nat} {fw fa : Int} (h : Jd w r s p m fw fa) : Calls Tryz.prog 73 #[.pointer (some ⟨r, 0, none⟩)] w fun e w' => e = .returned (.int .u8 (nowP s p).toNat) ∧ Below w.heap.size w w' := by
  obtain ⟨c0, c1, -, -, -⟩ := h.cells
  by_cases hlt : p < s.size
  · rw [nowP_lt hlt]
    have hi : (p : Int) < (s.size : Int) := by omega
    clear h
    go_enter Tryz.func73, Tryz.ntmps73
    go_wp2_with fail
    go_quiet (fail)
    go_wp2_with fail
    go_quiet (fail)
    go_wp2_with fail
    go_ret
    exact ⟨rfl, belowN (belowN (Below.refl _ _) _) _⟩
  · rw [nowP_end hlt]
    have hi : decide ((p : Int) < (s.size : Int)) = false := by simp; omega
    clear h
    go_enter Tryz.func73, Tryz.ntmps73
    go_wp2_with fail
    go_quiet (fail)
    go_wp2_with fail
    go_ret
    exact ⟨rfl, belowN (Below.refl _ _) _⟩
set_option maxRecDepth 100000 in
theorem jfail_any (c a : Int) {w : World} {r : Nat} {s : ByteArray} {p m : Nat} {fw fa : Int} (h : Jd w r s p m fw fa) :
    Calls Tryz.prog 75 #[.pointer (some ⟨r, 0, none⟩), .int .i64 c, .int .i64 a] w fun e w' => e = .returned (.bool false) ∧ Jd w' r s p m c a ∧ Mod (JF r) w w' := by
  have f3 := free_blk h.blk 3
  have f4 := free_blk (h.setWhy c).blk 4
  have c3 := h.cells.2.2.2.1
  have c4 := (h.setWhy c).cells.2.2.2.2
  have H := Lib.hid h
  clear h
  go_enter Tryz.func75, Tryz.ntmps75
  go_wp2_with fail
  go_ret
  exact ⟨rfl, (H.out.setWhy c).setPlace a, (setJ_mod _ _ _ _).trans (setJ_mod _ _ _ _)⟩
set_option maxRecDepth 100000 in
theorem jwrong_any {w : World} {r : Nat} {s : ByteArray} {p m : Nat} {fw fa : Int} (h : Jd w r s p m fw fa) :
    Calls Tryz.prog 35 #[.pointer (some ⟨r, 0, none⟩)] w fun e w' => e = .returned (.bool false) ∧ Jd w' r s p m (wrongC s p) p ∧ Mod (JF r) w w' := by
  obtain ⟨c0, c1, -, -, -⟩ := h.cells
  have hp := h.hp
  have H := Lib.hid h
  unfold wrongC
  by_cases hlt : p < s.size
  · rw [if_pos hlt]
    have hi : decide ((s.size : Int) ≤ (p : Int)) = false := by simp; omega
    clear h
    go_enter Tryz.func35, Tryz.ntmps35
    go_wp2_with fail
    go_quiet (fail)
    go_wp2_with fail
    refine (jfail_any 7 p (H.out.under (belowN (Below.refl _ _) _))).mono ?_
    rintro e w1 ⟨rfl, hj, hm⟩
    go_wp2_with fail
    go_ret
    exact ⟨rfl, hj, (Mod.of_below (belowN (Below.refl _ _) _)).trans hm⟩
  · obtain rfl : p = s.size := by omega
    rw [if_neg hlt]
    have hi : decide ((s.size : Int) ≤ (s.size : Int)) = true := by simp
    clear h
    go_enter Tryz.func35, Tryz.ntmps35
    go_wp2_with fail
    go_quiet (fail)
    go_wp2_with fail
    refine (jfail_any 10 s.size (H.out.under (belowN (Below.refl _ _) _))).mono ?_
    rintro e w1 ⟨rfl, hj, hm⟩
    go_wp2_with fail
    go_ret
    exact ⟨rfl, hj, (Mod.of_below (belowN (Below.refl _ _) _)).trans hm⟩
/-- The reader as a region finds it. -/
def JS (r : Nat) (s : ByteArray) (p m : Nat) (fw fa : Int) (w0 : World) (W : World) : Prop := Hid (Jd W r s p m fw fa ∧ Below w0.heap.size w0 W) ∧ W.cell? ⟨r, 0, none⟩ = some (.string s) ∧ W.cell? ⟨r, 1, none⟩ = some (.int .i64 p)
theorem JS.mk {r : Nat} {s : ByteArray} {p m : Nat} {fw fa : Int} {w0 W : World} (h : Jd w0 r s p m fw fa) (hb : Below w0.heap.size w0 W) : JS r s p m fw fa w0 W := ⟨Lib.hid ⟨h.under hb, hb⟩, (h.under hb).cells.1, (h.under hb).cells.2.1⟩
theorem JS.next {r : Nat} {s : ByteArray} {p m : Nat} {fw fa : Int} {w0 W W' : World} (h : JS r s p m fw fa w0 W) (hb : Below W.heap.size W W') : JS r s p m fw fa w0 W' :=
  have hj := h.1.out.2.trans (hb.mono h.1.out.2.size)
  ⟨Lib.hid ⟨h.1.out.1.under hb, hj⟩, (h.1.out.1.under hb).cells.1, (h.1.out.1.under hb).cells.2.1⟩
theorem bl_idx : ∀ x : Fin 256, decide ((0 : Int) ≤ Lib.indexByte [32, 9, 10, 13] (UInt8.ofNat x.val)) = isBl (UInt8.ofNat x.val) := by decide +kernel
theorem first_idx : ∀ x : Fin 256, decide ((0 : Int) ≤ Lib.indexByte [110, 116, 102, 34, 91, 123, 45, 48, 49, 50, 51, 52, 53, 54, 55, 56, 57] (UInt8.ofNat x.val)) = firstB (UInt8.ofNat x.val) := by decide +kernel
theorem quot_idx : ∀ x : Fin 256, decide ((0 : Int) ≤ Lib.indexByte [34] (UInt8.ofNat x.val)) = (UInt8.ofNat x.val == 34) := by decide +kernel
theorem of_byte {P : UInt8 → Prop} (h : ∀ x : Fin 256, P (UInt8.ofNat x.val)) (c : UInt8) : P c := by
  have := h ⟨c.toNat, c.toNat_lt⟩
  simpa using this
theorem bl_any (c : UInt8) : decide ((0 : Int) ≤ Lib.indexByte [32, 9, 10, 13] c) = isBl c := of_byte (P := fun c => decide ((0 : Int) ≤ Lib.indexByte [32, 9, 10, 13] c) = isBl c) bl_idx c
theorem first_any (c : UInt8) : decide ((0 : Int) ≤ Lib.indexByte [110, 116, 102, 34, 91, 123, 45, 48, 49, 50, 51, 52, 53, 54, 55, 56, 57] c) = firstB c := of_byte (P := fun c => decide ((0 : Int) ≤ Lib.indexByte [110, 116, 102, 34, 91, 123, 45, 48, 49, 50, 51, 52, 53, 54, 55, 56, 57] c) = firstB c) first_idx c
theorem quot_any (c : UInt8) : decide ((0 : Int) ≤ Lib.indexByte [34] c) = (c == 34) := of_byte (P := fun c => decide ((0 : Int) ≤ Lib.indexByte [34] c) = (c == 34)) quot_idx c
/-- A constant text, and which of its bytes is a byte. -/
theorem idx_any (t : ByteArray) (c : UInt8) (w : World) : Calls Tryz.prog 64 #[.string t, .int .u8 (c.toNat : Int)] w fun e w' => e = .returned (.int .i64 (Lib.indexByte t.toList c)) ∧ w' = w := by
  have h := Tryz.strings_IndexByte t (c.toNat : Int) w
  rw [show ((c.toNat : Int)).toNat.toUInt8 = c by simp, ← bl_eq] at h
  exact h
set_option maxHeartbeats 1600000 in
set_option maxRecDepth 100000 in
theorem jmust_any (t : ByteArray) (hz : ∀ c ∈ t.toList, c ≠ 0) (ht : t.size ≤ 1000) {w : World} {r : Nat} {s : ByteArray} {p m : Nat} {fw fa : Int} (h : Jd w r s p m fw fa) :
    Calls Tryz.prog 67 #[.pointer (some ⟨r, 0, none⟩), .string t] w (JPost (JF r) w r s (mustP s t.toList p) isFalse fun q e w' => e = .returned (.bool true) ∧ Jd w' r s q m fw fa) := by
  obtain ⟨x, hx⟩ : ∃ x, x = mustP s t.toList p := ⟨_, rfl⟩
  rw [← hx]
  have HX : Hid (x = mustP s (t.toList.drop 0) (p + 0)) := Lib.hid hx
  have HD : Hid (Jd w r s (p + 0) m fw fa) := Lib.hid h
  have HZ := Lib.hid hz
  have hsz := h.hs
  clear hx h hz
  go_enter Tryz.func67, Tryz.ntmps67
  go_wp2_with fail
  go_loopw [5, 8] (fun _ kv wr => ∃ j : Nat, j ≤ t.size ∧ kv = .int .i64 j ∧ Hid (x = mustP s (t.toList.drop j) (p + j)) ∧ Hid (Jd wr r s (p + j) m fw fa) ∧ Hid (Mod (JF r) w wr)) (fun _ kv _ => t.size - (intOf kv).toNat)
  case atStart => exact ⟨0, Nat.zero_le _, rfl, HX, HD, Lib.hid (Mod.refl _ _)⟩
  case round =>
    obtain ⟨j, hj, rfl, HXj, HR, HM⟩ := hrel
    clear HX HD
    obtain ⟨q, hq⟩ : ∃ q, q = p + j := ⟨_, rfl⟩
    have HQ := Lib.hid hq
    rw [← hq] at HXj HR
    clear hq
    have hpj := HR.out.hp
    have hmq := HR.out.hm
    by_cases hlt : j < t.size
    · have hi : (j : Int) < (t.size : Int) := by omega
      obtain ⟨hw', hw⟩ := wr_sm (x := (j : Int) + 1) (by omega) (by omega)
      obtain ⟨hq', hqw⟩ := wr_sm (x := (q : Int) + 1) (by omega) (by omega)
      have hX2 := HXj.out
      rw [List.drop_eq_getElem_cons (by rw [size_toList]; exact hlt), toList_at hlt, mustP] at hX2
      have htj : t[j] ≠ 0 := HZ.out _ (by rw [← toList_at hlt]; exact List.getElem_mem _)
      have HS0 : Hid (JS r s q m fw fa wr wr.drew) := Lib.hid (JS.mk HR.out (Below.refl wr.heap.size wr).drew)
      have HNW : ∀ W, JS r s q m fw fa wr W → Calls Tryz.prog 73 #[.pointer (some ⟨r, 0, none⟩)] W fun e w' => e = .returned (.int .u8 (nowP s q).toNat) ∧ Below W.heap.size W w' := fun W hS => jnow_any hS.1.out.1
      by_cases hc : nowP s q = t[j]
      · have hps : q < s.size := by
          by_cases hh : q < s.size
          · exact hh
          · rw [nowP_end hh] at hc; exact absurd hc.symm htj
        have hi2 : (q : Int) < (s.size : Int) := by omega
        have hg : decide ((s.size : Int) ≤ (q : Int)) = false := by simp; omega
        have hneq : (((nowP s q).toNat : Int) != (t[j].toNat : Int)) = false := by rw [hc]; simp
        rw [if_pos ⟨hps, hc⟩] at hX2
        have HX2 := Lib.hid hX2
        have HPS := Lib.hid hps
        have HLT := Lib.hid hlt
        clear hX2 hc HXj htj hps
        go_wp2_with fail
        refine wp_region_noPanic ?_
        refine wp_region_held_drew (S := (fun W => Hid (Jd W r s q m fw fa ∧ Below wr.heap.size wr W) ∧ W.cell? ⟨r, 0, none⟩ = some (.string s) ∧ W.cell? ⟨r, 1, none⟩ = some (.int .i64 q))) (by kernel_rfl) (by exact HS0.out) (fun hHeld => ?_)
        refine wpAnyH_take (i := 0) (oi := ?oa0) (v := ?va0) ?hia0 (by kernel_rfl) (by kernel_rfl) (by kernel_rfl) (fun _ _ _ h => h) ?hya0 (by assumption) ?resta0
        case hia0 => simp only [gA, gZ]; rfl
        case hya0 =>
          refine Or.inl ⟨by rfl, ?_⟩
          intro w hSw; (try dsimp only at hSw); go_simp <;> (with_reducible rfl)
        (try simp only [Act.put, pA, pZ, pS])
        refine wpAnyH_take (i := 2) (oi := ?oa2) (v := ?va2) ?hia2 (by kernel_rfl) (by kernel_rfl) (by kernel_rfl) (fun _ _ _ h => h) ?hya2 (by assumption) ?resta2
        case hia2 => simp only [gA, gS, gZ]; rfl
        case hya2 =>
          refine Or.inl ⟨by rfl, ?_⟩
          intro w hSw; (try dsimp only at hSw); go_simp <;> (with_reducible rfl)
        (try simp only [Act.put, pA, pZ, pS])
        refine wpAnyH_take (i := 3) (oi := ?oa3) (v := ?va3) ?hia3 (by kernel_rfl) (by kernel_rfl) (by kernel_rfl) (fun _ _ _ h => h) ?hya3 (by assumption) ?resta3
        case hia3 => simp only [gA, gS, gZ]; rfl
        case hya3 =>
          refine Or.inl ⟨by rfl, ?_⟩
          intro w hSw; (try dsimp only at hSw); go_simp <;> (with_reducible rfl)
        (try simp only [Act.put, pA, pZ, pS])
        refine wpAnyH_take (i := 4) (oi := ?oa4) (v := ?va4) ?hia4 (by kernel_rfl) (by kernel_rfl) (by kernel_rfl) (fun _ _ _ h => h) ?hya4 (by assumption) ?resta4
        case hia4 => simp only [gA, gS, gZ]; rfl
        case hya4 =>
          refine Or.inl ⟨by rfl, ?_⟩
          intro w hSw; (try dsimp only at hSw); go_simp <;> (with_reducible rfl)
        (try simp only [Act.put, pA, pZ, pS])
        refine wpAnyH_ready (rs := [1]) (by kernel_rfl) (by simp) ?_
        refine AllReadyH.cons rfl (fun K hK => ?_) AllReadyH.nil
        go_simp
        refine (HNW _ hHeld).mono ?_; rintro _ w2 ⟨rfl, hb⟩; have HSN : Hid (JS r s q m fw fa wr w2) := Lib.hid (JS.next hHeld hb); clear hb
        refine hK.out _ _ HSN.out (fun hHelda1 => ?_)
        clear hK K
        (try simp only [Act.put, pA, pZ, pS])
        refine wpAnyH_take (i := 5) (oi := ?oa5) (v := ?va5) ?hia5 (by kernel_rfl) (by kernel_rfl) (by kernel_rfl) (fun _ _ _ h => h) ?hya5 (by assumption) ?resta5
        case hia5 => simp only [gA, gS, gZ]; rfl
        case hya5 =>
          refine Or.inl ⟨by rfl, ?_⟩
          intro w hSw; (try dsimp only at hSw); go_simp <;> (with_reducible rfl)
        (try simp only [Act.put, pA, pZ, pS])
        refine wpAnyH_take (i := 6) (oi := ?oa6) (v := ?va6) ?hia6 (by kernel_rfl) (by kernel_rfl) (by kernel_rfl) (fun _ _ _ h => h) ?hya6 (by assumption) ?resta6
        case hia6 => simp only [gA, gS, gZ]; rfl
        case hya6 =>
          refine Or.inl ⟨by rfl, ?_⟩
          intro w hSw; (try dsimp only at hSw); go_simp <;> (with_reducible rfl)
        (try simp only [Act.put, pA, pZ, pS])
        refine wpAnyH_take (i := 7) (oi := ?oa7) (v := ?va7) ?hia7 (by kernel_rfl) (by kernel_rfl) (by kernel_rfl) (fun _ _ _ h => h) ?hya7 (by assumption) ?resta7
        case hia7 => simp only [gA, gS, gZ]; rfl
        case hya7 =>
          refine Or.inl ⟨by rfl, ?_⟩
          intro w hSw; (try dsimp only at hSw); go_simp <;> (with_reducible rfl)
        (try simp only [Act.put, pA, pZ, pS])
        refine wpAnyH_take (i := 8) (oi := ?oa8) (v := ?va8) ?hia8 (by kernel_rfl) (by kernel_rfl) (by kernel_rfl) (fun _ _ _ h => h) ?hya8 (by assumption) ?resta8
        case hia8 => simp only [gA, gS, gZ]; rfl
        case hya8 =>
          refine Or.inl ⟨by rfl, ?_⟩
          intro w hSw; (try dsimp only at hSw); go_simp <;> (with_reducible rfl)
        (try simp only [Act.put, pA, pZ, pS])
        refine wpAnyH_take (i := 9) (oi := ?oa9) (v := ?va9) ?hia9 (by kernel_rfl) (by kernel_rfl) (by kernel_rfl) (fun _ _ _ h => h) ?hya9 (by assumption) ?resta9
        case hia9 => simp only [gA, gS, gZ]; rfl
        case hya9 =>
          refine Or.inl ⟨by rfl, ?_⟩
          intro w hSw; (try dsimp only at hSw); go_simp <;> (with_reducible rfl)
        (try simp only [Act.put, pA, pZ, pS])
        refine wpAnyH_take (i := 10) (oi := ?oa10) (v := ?va10) ?hia10 (by kernel_rfl) (by kernel_rfl) (by kernel_rfl) (fun _ _ _ h => h) ?hya10 (by assumption) ?resta10
        case hia10 => simp only [gA, gS, gZ]; rfl
        case hya10 =>
          refine Or.inl ⟨by rfl, ?_⟩
          intro w hSw; (try dsimp only at hSw); go_simp <;> (with_reducible rfl)
        (try simp only [Act.put, pA, pZ, pS])
        refine wpAnyH_take (i := 11) (oi := ?oa11) (v := ?va11) ?hia11 (by kernel_rfl) (by kernel_rfl) (by kernel_rfl) (fun _ _ _ h => h) ?hya11 (by assumption) ?resta11
        case hia11 => simp only [gA, gS, gZ]; rfl
        case hya11 =>
          refine Or.inl ⟨by rfl, ?_⟩
          intro w hSw; (try dsimp only at hSw); go_simp <;> (with_reducible rfl)
        (try simp only [Act.put, pA, pZ, pS])
        refine wpAnyH_take (i := 12) (oi := ?oa12) (v := ?va12) ?hia12 (by kernel_rfl) (by kernel_rfl) (by kernel_rfl) (fun _ _ _ h => h) ?hya12 (by assumption) ?resta12
        case hia12 => simp only [gA, gS, gZ]; rfl
        case hya12 =>
          refine Or.inl ⟨by rfl, ?_⟩
          intro w hSw; (try dsimp only at hSw); go_simp <;> (with_reducible rfl)
        (try simp only [Act.put, pA, pZ, pS])
        refine wpAnyH_take (i := 13) (oi := ?oa13) (v := ?va13) ?hia13 (by kernel_rfl) (by kernel_rfl) (by kernel_rfl) (fun _ _ _ h => h) ?hya13 (by assumption) ?resta13
        case hia13 => simp only [gA, gS, gZ]; rfl
        case hya13 =>
          refine Or.inl ⟨by rfl, ?_⟩
          intro w hSw; (try dsimp only at hSw); go_simp <;> (with_reducible rfl)
        (try simp only [Act.put, pA, pZ, pS])
        refine wpAnyH_take (i := 14) (oi := ?oa14) (v := ?va14) ?hia14 (by kernel_rfl) (by kernel_rfl) (by kernel_rfl) (fun _ _ _ h => h) ?hya14 (by assumption) ?resta14
        case hia14 => simp only [gA, gS, gZ]; rfl
        case hya14 =>
          refine Or.inl ⟨by rfl, ?_⟩
          intro w hSw; (try dsimp only at hSw); go_simp <;> (with_reducible rfl)
        (try simp only [Act.put, pA, pZ, pS])
        refine wpAnyH_take (i := 15) (oi := ?oa15) (v := ?va15) ?hia15 (by kernel_rfl) (by kernel_rfl) (by kernel_rfl) (fun _ _ _ h => h) ?hya15 (by assumption) ?resta15
        case hia15 => simp only [gA, gS, gZ]; rfl
        case hya15 =>
          refine Or.inl ⟨by rfl, ?_⟩
          intro w hSw; (try dsimp only at hSw); go_simp <;> (with_reducible rfl)
        (try simp only [Act.put, pA, pZ, pS])
        refine wpAnyH_take (i := 16) (oi := ?oa16) (v := ?va16) ?hia16 (by kernel_rfl) (by kernel_rfl) (by kernel_rfl) (fun _ _ _ h => h) ?hya16 (by assumption) ?resta16
        case hia16 => simp only [gA, gS, gZ]; rfl
        case hya16 =>
          refine Or.inl ⟨by rfl, ?_⟩
          intro w hSw; (try dsimp only at hSw); go_simp <;> (with_reducible rfl)
        (try simp only [Act.put, pA, pZ, pS])
        refine wpAnyH_take (i := 17) (oi := ?oa17) (v := ?va17) ?hia17 (by kernel_rfl) (by kernel_rfl) (by kernel_rfl) (fun _ _ _ h => h) ?hya17 (by assumption) ?resta17
        case hia17 => simp only [gA, gS, gZ]; rfl
        case hya17 =>
          refine Or.inl ⟨by rfl, ?_⟩
          intro w hSw; (try dsimp only at hSw); go_simp <;> (with_reducible rfl)
        (try simp only [Act.put, pA, pZ, pS])
        refine wpAnyH_done (by kernel_rfl) ?_ _
        refine NoPanic.normal ?_
        have HW2 := Lib.hid (HSN.out.1.out)
        have ff := free_blk HW2.out.1.blk 1
        obtain ⟨c0, c1, -, -, -⟩ := HW2.out.1.cells
        go_wp2_with fail
        go_roundw
        case rel => exact ⟨j + 1, HLT.out, by go_num, Lib.hid (by rw [HX2.out]; rw [HQ.out]; rfl), Lib.hid (by rw [show p + (j + 1) = q + 1 by have := HQ.out; omega]; exact HW2.out.1.setAt (by have := HPS.out; omega) (by omega) (by omega)), Lib.hid ((HM.out.trans (Mod.of_below HW2.out.2)).trans (setJ_mod _ _ _ _))⟩
        case measure => have := HLT.out; simp [intOf]; omega
      · have hneq : (((nowP s q).toNat : Int) != (t[j].toNat : Int)) = true := by
          rw [bne_iff_ne]; intro e; exact hc (UInt8.toNat_inj.1 (by omega))
        rw [if_neg (fun e => hc e.2)] at hX2
        subst hX2
        have HWW : ∀ W, JS r s q m fw fa wr W → Calls Tryz.prog 35 #[.pointer (some ⟨r, 0, none⟩)] W fun e w' => e = .returned (.bool false) ∧ Jd w' r s q m (wrongC s q) q ∧ Mod (JF r) W w' := fun W hS => jwrong_any hS.1.out.1
        clear hc HXj htj
        go_wp2_with fail
        refine wp_region_noPanic ?_
        refine wp_region_held_drew (S := (fun W => Hid (Jd W r s q m fw fa ∧ Below wr.heap.size wr W) ∧ W.cell? ⟨r, 0, none⟩ = some (.string s) ∧ W.cell? ⟨r, 1, none⟩ = some (.int .i64 q))) (by kernel_rfl) (by exact HS0.out) (fun hHeld => ?_)
        refine wpAnyH_take (i := 0) (oi := ?ob0) (v := ?vb0) ?hib0 (by kernel_rfl) (by kernel_rfl) (by kernel_rfl) (fun _ _ _ h => h) ?hyb0 (by assumption) ?restb0
        case hib0 => simp only [gA, gZ]; rfl
        case hyb0 =>
          refine Or.inl ⟨by rfl, ?_⟩
          intro w hSw; (try dsimp only at hSw); go_simp <;> (with_reducible rfl)
        (try simp only [Act.put, pA, pZ, pS])
        refine wpAnyH_take (i := 2) (oi := ?ob2) (v := ?vb2) ?hib2 (by kernel_rfl) (by kernel_rfl) (by kernel_rfl) (fun _ _ _ h => h) ?hyb2 (by assumption) ?restb2
        case hib2 => simp only [gA, gS, gZ]; rfl
        case hyb2 =>
          refine Or.inl ⟨by rfl, ?_⟩
          intro w hSw; (try dsimp only at hSw); go_simp <;> (with_reducible rfl)
        (try simp only [Act.put, pA, pZ, pS])
        refine wpAnyH_take (i := 3) (oi := ?ob3) (v := ?vb3) ?hib3 (by kernel_rfl) (by kernel_rfl) (by kernel_rfl) (fun _ _ _ h => h) ?hyb3 (by assumption) ?restb3
        case hib3 => simp only [gA, gS, gZ]; rfl
        case hyb3 =>
          refine Or.inl ⟨by rfl, ?_⟩
          intro w hSw; (try dsimp only at hSw); go_simp <;> (with_reducible rfl)
        (try simp only [Act.put, pA, pZ, pS])
        refine wpAnyH_take (i := 4) (oi := ?ob4) (v := ?vb4) ?hib4 (by kernel_rfl) (by kernel_rfl) (by kernel_rfl) (fun _ _ _ h => h) ?hyb4 (by assumption) ?restb4
        case hib4 => simp only [gA, gS, gZ]; rfl
        case hyb4 =>
          refine Or.inl ⟨by rfl, ?_⟩
          intro w hSw; (try dsimp only at hSw); go_simp <;> (with_reducible rfl)
        (try simp only [Act.put, pA, pZ, pS])
        refine wpAnyH_ready (rs := [1]) (by kernel_rfl) (by simp) ?_
        refine AllReadyH.cons rfl (fun K hK => ?_) AllReadyH.nil
        go_simp
        refine (HNW _ hHeld).mono ?_; rintro _ w2 ⟨rfl, hb⟩; have HSN : Hid (JS r s q m fw fa wr w2) := Lib.hid (JS.next hHeld hb); clear hb
        refine hK.out _ _ HSN.out (fun hHeldb1 => ?_)
        clear hK K
        (try simp only [Act.put, pA, pZ, pS])
        refine wpAnyH_take (i := 5) (oi := ?ob5) (v := ?vb5) ?hib5 (by kernel_rfl) (by kernel_rfl) (by kernel_rfl) (fun _ _ _ h => h) ?hyb5 (by assumption) ?restb5
        case hib5 => simp only [gA, gS, gZ]; rfl
        case hyb5 =>
          refine Or.inl ⟨by rfl, ?_⟩
          intro w hSw; (try dsimp only at hSw); go_simp <;> (with_reducible rfl)
        (try simp only [Act.put, pA, pZ, pS])
        refine wpAnyH_take (i := 6) (oi := ?ob6) (v := ?vb6) ?hib6 (by kernel_rfl) (by kernel_rfl) (by kernel_rfl) (fun _ _ _ h => h) ?hyb6 (by assumption) ?restb6
        case hib6 => simp only [gA, gS, gZ]; rfl
        case hyb6 =>
          refine Or.inl ⟨by rfl, ?_⟩
          intro w hSw; (try dsimp only at hSw); go_simp <;> (with_reducible rfl)
        (try simp only [Act.put, pA, pZ, pS])
        refine wpAnyH_take (i := 7) (oi := ?ob7) (v := undef) ?hib7 (by kernel_rfl) (by kernel_rfl) (by kernel_rfl) (fun _ _ _ h => h) ?hyb7 (by assumption) ?restb7
        case hib7 => simp only [gA, gS, gZ]; rfl
        case hyb7 => exact Or.inr ⟨by rfl, rfl⟩
        (try simp only [Act.put, pA, pZ, pS])
        refine wpAnyH_take (i := 8) (oi := ?ob8) (v := undef) ?hib8 (by kernel_rfl) (by kernel_rfl) (by kernel_rfl) (fun _ _ _ h => h) ?hyb8 (by assumption) ?restb8
        case hib8 => simp only [gA, gS, gZ]; rfl
        case hyb8 => exact Or.inr ⟨by rfl, rfl⟩
        (try simp only [Act.put, pA, pZ, pS])
        refine wpAnyH_take (i := 9) (oi := ?ob9) (v := undef) ?hib9 (by kernel_rfl) (by kernel_rfl) (by kernel_rfl) (fun _ _ _ h => h) ?hyb9 (by assumption) ?restb9
        case hib9 => simp only [gA, gS, gZ]; rfl
        case hyb9 => exact Or.inr ⟨by rfl, rfl⟩
        (try simp only [Act.put, pA, pZ, pS])
        refine wpAnyH_take (i := 10) (oi := ?ob10) (v := undef) ?hib10 (by kernel_rfl) (by kernel_rfl) (by kernel_rfl) (fun _ _ _ h => h) ?hyb10 (by assumption) ?restb10
        case hib10 => simp only [gA, gS, gZ]; rfl
        case hyb10 => exact Or.inr ⟨by rfl, rfl⟩
        (try simp only [Act.put, pA, pZ, pS])
        refine wpAnyH_take (i := 11) (oi := ?ob11) (v := undef) ?hib11 (by kernel_rfl) (by kernel_rfl) (by kernel_rfl) (fun _ _ _ h => h) ?hyb11 (by assumption) ?restb11
        case hib11 => simp only [gA, gS, gZ]; rfl
        case hyb11 => exact Or.inr ⟨by rfl, rfl⟩
        (try simp only [Act.put, pA, pZ, pS])
        refine wpAnyH_take (i := 12) (oi := ?ob12) (v := undef) ?hib12 (by kernel_rfl) (by kernel_rfl) (by kernel_rfl) (fun _ _ _ h => h) ?hyb12 (by assumption) ?restb12
        case hib12 => simp only [gA, gS, gZ]; rfl
        case hyb12 => exact Or.inr ⟨by rfl, rfl⟩
        (try simp only [Act.put, pA, pZ, pS])
        refine wpAnyH_take (i := 13) (oi := ?ob13) (v := undef) ?hib13 (by kernel_rfl) (by kernel_rfl) (by kernel_rfl) (fun _ _ _ h => h) ?hyb13 (by assumption) ?restb13
        case hib13 => simp only [gA, gS, gZ]; rfl
        case hyb13 => exact Or.inr ⟨by rfl, rfl⟩
        (try simp only [Act.put, pA, pZ, pS])
        refine wpAnyH_take (i := 14) (oi := ?ob14) (v := undef) ?hib14 (by kernel_rfl) (by kernel_rfl) (by kernel_rfl) (fun _ _ _ h => h) ?hyb14 (by assumption) ?restb14
        case hib14 => simp only [gA, gS, gZ]; rfl
        case hyb14 => exact Or.inr ⟨by rfl, rfl⟩
        (try simp only [Act.put, pA, pZ, pS])
        refine wpAnyH_take (i := 15) (oi := ?ob15) (v := undef) ?hib15 (by kernel_rfl) (by kernel_rfl) (by kernel_rfl) (fun _ _ _ h => h) ?hyb15 (by assumption) ?restb15
        case hib15 => simp only [gA, gS, gZ]; rfl
        case hyb15 => exact Or.inr ⟨by rfl, rfl⟩
        (try simp only [Act.put, pA, pZ, pS])
        refine wpAnyH_take (i := 16) (oi := ?ob16) (v := undef) ?hib16 (by kernel_rfl) (by kernel_rfl) (by kernel_rfl) (fun _ _ _ h => h) ?hyb16 (by assumption) ?restb16
        case hib16 => simp only [gA, gS, gZ]; rfl
        case hyb16 => exact Or.inr ⟨by rfl, rfl⟩
        (try simp only [Act.put, pA, pZ, pS])
        refine wpAnyH_take (i := 17) (oi := ?ob17) (v := ?vb17) ?hib17 (by kernel_rfl) (by kernel_rfl) (by kernel_rfl) (fun _ _ _ h => h) ?hyb17 (by assumption) ?restb17
        case hib17 => simp only [gA, gS, gZ]; rfl
        case hyb17 =>
          refine Or.inl ⟨by rfl, ?_⟩
          intro w hSw; (try dsimp only at hSw); go_simp <;> (with_reducible rfl)
        (try simp only [Act.put, pA, pZ, pS])
        refine wpAnyH_done (by kernel_rfl) ?_ _
        refine NoPanic.normal ?_
        go_wp2_with fail
        refine (HWW _ HSN.out).mono ?_
        rintro e w3 ⟨rfl, hjd, hmd⟩
        go_wp2_with fail
        go_ret
        exact ⟨⟨_, rfl, rfl⟩, ⟨_, _, hjd⟩, (HM.out.trans (Mod.of_below HSN.out.1.out.2)).trans hmd⟩
    · obtain rfl : j = t.size := by omega
      have hX2 := HXj.out
      rw [List.drop_of_length_le (by rw [size_toList]; exact Nat.le_refl _), mustP] at hX2
      subst hX2
      go_wp2_with fail
      go_ret
      exact ⟨⟨rfl, HR.out⟩, HM.out⟩
set_option maxHeartbeats 1600000 in
set_option maxRecDepth 100000 in
theorem blanks_any {w : World} {r : Nat} {s : ByteArray} {p m : Nat} {fw fa : Int} (h : Jd w r s p m fw fa) :
    Calls Tryz.prog 33 #[.pointer (some ⟨r, 0, none⟩)] w fun e w' => e = .returned (.tuple #[]) ∧ Jd w' r s (blankE s p) m fw fa ∧ Mod (JF r) w w' := by
  obtain ⟨e, he⟩ : ∃ e, e = blankE s p := ⟨_, rfl⟩
  rw [← he]
  have HE := Lib.hid he
  have HD : Hid (Jd w r s p m fw fa ∧ Mod (JF r) w w) := Lib.hid ⟨h, Mod.refl _ _⟩
  have hsz := h.hs
  have hp := h.hp
  clear he h
  go_enter Tryz.func33, Tryz.ntmps33
  go_wp2_with fail
  go_loopg [] (s.size - p) (fun g wr => ∃ j : Nat, g = s.size - j ∧ Hid (j ≤ s.size ∧ e = blankE s j) ∧ Hid (Jd wr r s j m fw fa ∧ Mod (JF r) w wr))
  case atStart => exact ⟨p, rfl, Lib.hid ⟨hp, HE.out⟩, HD⟩
  case round =>
    obtain ⟨j, rfl, HJ, HRJ⟩ := hrel
    clear HE HD
    have hmj := HRJ.out.1.hm
    have hjl := HJ.out.1
    have HS0 : Hid (JS r s j m fw fa wr wr.drew) := Lib.hid (JS.mk HRJ.out.1 (Below.refl wr.heap.size wr).drew)
    by_cases hlt : j < s.size
    · have hi : decide ((j : Int) < (s.size : Int)) = true := by simp; omega
      have hi2 : (j : Int) < (s.size : Int) := by omega
      obtain ⟨hj', hjw⟩ := wr_sm (x := (j : Int) + 1) (by omega) (by omega)
      obtain ⟨c, hc⟩ : ∃ c, s[j] = c := ⟨_, rfl⟩
      obtain ⟨x, hx⟩ : ∃ x, Lib.indexByte [32, 9, 10, 13] c = x := ⟨_, rfl⟩
      have hb := bl_any c
      rw [hx] at hb
      have HI : ∀ W, Calls Tryz.prog 64 #[.string ⟨#[32, 9, 10, 13]⟩, .int .u8 (c.toNat : Int)] W fun e w' => e = .returned (.int .i64 x) ∧ w' = W := fun W => by
        have := idx_any ⟨#[32, 9, 10, 13]⟩ c W
        rw [bl_eq, show (⟨#[32, 9, 10, 13]⟩ : ByteArray).data.toList = [32, 9, 10, 13] from rfl, hx] at this
        exact this
      have HLT := Lib.hid hlt
      have HNP := Lib.hid (nowP_lt hlt)
      by_cases hbl : isBl c = true
      · have hxx : decide ((0 : Int) ≤ x) = true := by rw [hb, hbl]
        have HEJ := Lib.hid (HJ.out.2.trans (blankE_step hlt (by rw [hc]; exact hbl)))
        clear hx hb hbl
        go_wp2_with fail
        refine wp_region_noPanic ?_
        refine wp_region_held_drew (S := (fun W => Hid (Jd W r s j m fw fa ∧ Below wr.heap.size wr W) ∧ W.cell? ⟨r, 0, none⟩ = some (.string s) ∧ W.cell? ⟨r, 1, none⟩ = some (.int .i64 j))) (by kernel_rfl) (by exact HS0.out) (fun hHeld => ?_)
        refine wpAnyH_take (i := 0) (oi := ?oc0) (v := ?vc0) ?hic0 (by kernel_rfl) (by kernel_rfl) (by kernel_rfl) (fun _ _ _ h => h) ?hyc0 (by assumption) ?restc0
        case hic0 => simp only [gA, gZ]; rfl
        case hyc0 =>
          refine Or.inl ⟨by rfl, ?_⟩
          intro w hSw; (try dsimp only at hSw); go_simp <;> (with_reducible rfl)
        (try simp only [Act.put, pA, pZ, pS])
        refine wpAnyH_take (i := 1) (oi := ?oc1) (v := ?vc1) ?hic1 (by kernel_rfl) (by kernel_rfl) (by kernel_rfl) (fun _ _ _ h => h) ?hyc1 (by assumption) ?restc1
        case hic1 => simp only [gA, gS, gZ]; rfl
        case hyc1 =>
          refine Or.inl ⟨by rfl, ?_⟩
          intro w hSw; (try dsimp only at hSw); go_simp <;> (with_reducible rfl)
        (try simp only [Act.put, pA, pZ, pS])
        refine wpAnyH_take (i := 2) (oi := ?oc2) (v := ?vc2) ?hic2 (by kernel_rfl) (by kernel_rfl) (by kernel_rfl) (fun _ _ _ h => h) ?hyc2 (by assumption) ?restc2
        case hic2 => simp only [gA, gS, gZ]; rfl
        case hyc2 =>
          refine Or.inl ⟨by rfl, ?_⟩
          intro w hSw; (try dsimp only at hSw); go_simp <;> (with_reducible rfl)
        (try simp only [Act.put, pA, pZ, pS])
        refine wpAnyH_take (i := 3) (oi := ?oc3) (v := ?vc3) ?hic3 (by kernel_rfl) (by kernel_rfl) (by kernel_rfl) (fun _ _ _ h => h) ?hyc3 (by assumption) ?restc3
        case hic3 => simp only [gA, gS, gZ]; rfl
        case hyc3 =>
          refine Or.inl ⟨by rfl, ?_⟩
          intro w hSw; (try dsimp only at hSw); go_simp <;> (with_reducible rfl)
        (try simp only [Act.put, pA, pZ, pS])
        refine wpAnyH_take (i := 4) (oi := ?oc4) (v := ?vc4) ?hic4 (by kernel_rfl) (by kernel_rfl) (by kernel_rfl) (fun _ _ _ h => h) ?hyc4 (by assumption) ?restc4
        case hic4 => simp only [gA, gS, gZ]; rfl
        case hyc4 =>
          refine Or.inl ⟨by rfl, ?_⟩
          intro w hSw; (try dsimp only at hSw); go_simp <;> (with_reducible rfl)
        (try simp only [Act.put, pA, pZ, pS])
        refine wpAnyH_take (i := 5) (oi := ?oc5) (v := ?vc5) ?hic5 (by kernel_rfl) (by kernel_rfl) (by kernel_rfl) (fun _ _ _ h => h) ?hyc5 (by assumption) ?restc5
        case hic5 => simp only [gA, gS, gZ]; rfl
        case hyc5 =>
          refine Or.inl ⟨by rfl, ?_⟩
          intro w hSw; (try dsimp only at hSw); go_simp <;> (with_reducible rfl)
        (try simp only [Act.put, pA, pZ, pS])
        refine wpAnyH_take (i := 6) (oi := ?oc6) (v := ?vc6) ?hic6 (by kernel_rfl) (by kernel_rfl) (by kernel_rfl) (fun _ _ _ h => h) ?hyc6 (by assumption) ?restc6
        case hic6 => simp only [gA, gS, gZ]; rfl
        case hyc6 =>
          refine Or.inl ⟨by rfl, ?_⟩
          intro w hSw; (try dsimp only at hSw); go_simp <;> (with_reducible rfl)
        (try simp only [Act.put, pA, pZ, pS])
        refine wpAnyH_take (i := 7) (oi := ?oc7) (v := ?vc7) ?hic7 (by kernel_rfl) (by kernel_rfl) (by kernel_rfl) (fun _ _ _ h => h) ?hyc7 (by assumption) ?restc7
        case hic7 => simp only [gA, gS, gZ]; rfl
        case hyc7 =>
          refine Or.inl ⟨by rfl, ?_⟩
          intro w hSw; (try dsimp only at hSw); go_simp <;> (with_reducible rfl)
        (try simp only [Act.put, pA, pZ, pS])
        refine wpAnyH_take (i := 8) (oi := ?oc8) (v := ?vc8) ?hic8 (by kernel_rfl) (by kernel_rfl) (by kernel_rfl) (fun _ _ _ h => h) ?hyc8 (by assumption) ?restc8
        case hic8 => simp only [gA, gS, gZ]; rfl
        case hyc8 =>
          refine Or.inl ⟨by rfl, ?_⟩
          intro w hSw; (try dsimp only at hSw); go_simp <;> (with_reducible rfl)
        (try simp only [Act.put, pA, pZ, pS])
        refine wpAnyH_take (i := 9) (oi := ?oc9) (v := ?vc9) ?hic9 (by kernel_rfl) (by kernel_rfl) (by kernel_rfl) (fun _ _ _ h => h) ?hyc9 (by assumption) ?restc9
        case hic9 => simp only [gA, gS, gZ]; rfl
        case hyc9 =>
          refine Or.inl ⟨by rfl, ?_⟩
          intro w hSw; (try dsimp only at hSw); go_simp <;> (with_reducible rfl)
        (try simp only [Act.put, pA, pZ, pS])
        refine wpAnyH_take (i := 10) (oi := ?oc10) (v := ?vc10) ?hic10 (by kernel_rfl) (by kernel_rfl) (by kernel_rfl) (fun _ _ _ h => h) ?hyc10 (by assumption) ?restc10
        case hic10 => simp only [gA, gS, gZ]; rfl
        case hyc10 =>
          refine Or.inl ⟨by rfl, ?_⟩
          intro w hSw; (try dsimp only at hSw); go_simp <;> (with_reducible rfl)
        (try simp only [Act.put, pA, pZ, pS])
        refine wpAnyH_take (i := 11) (oi := ?oc11) (v := ?vc11) ?hic11 (by kernel_rfl) (by kernel_rfl) (by kernel_rfl) (fun _ _ _ h => h) ?hyc11 (by assumption) ?restc11
        case hic11 => simp only [gA, gS, gZ]; rfl
        case hyc11 =>
          refine Or.inl ⟨by rfl, ?_⟩
          intro w hSw; (try dsimp only at hSw); go_simp <;> (with_reducible rfl)
        (try simp only [Act.put, pA, pZ, pS])
        refine wpAnyH_take (i := 12) (oi := ?oc12) (v := ?vc12) ?hic12 (by kernel_rfl) (by kernel_rfl) (by kernel_rfl) (fun _ _ _ h => h) ?hyc12 (by assumption) ?restc12
        case hic12 => simp only [gA, gS, gZ]; rfl
        case hyc12 =>
          refine Or.inl ⟨by rfl, ?_⟩
          intro w hSw; (try dsimp only at hSw); go_simp <;> (with_reducible rfl)
        (try simp only [Act.put, pA, pZ, pS])
        refine wpAnyH_take (i := 13) (oi := ?oc13) (v := ?vc13) ?hic13 (by kernel_rfl) (by kernel_rfl) (by kernel_rfl) (fun _ _ _ h => h) ?hyc13 (by assumption) ?restc13
        case hic13 => simp only [gA, gS, gZ]; rfl
        case hyc13 =>
          refine Or.inl ⟨by rfl, ?_⟩
          intro w hSw; (try dsimp only at hSw); go_simp <;> (with_reducible rfl)
        (try simp only [Act.put, pA, pZ, pS])
        refine wpAnyH_take (i := 14) (oi := ?oc14) (v := ?vc14) ?hic14 (by kernel_rfl) (by kernel_rfl) (by kernel_rfl) (fun _ _ _ h => h) ?hyc14 (by assumption) ?restc14
        case hic14 => simp only [gA, gS, gZ]; rfl
        case hyc14 =>
          refine Or.inl ⟨by rfl, ?_⟩
          intro w hSw; (try dsimp only at hSw); go_simp <;> (with_reducible rfl)
        (try simp only [Act.put, pA, pZ, pS])
        refine wpAnyH_take (i := 15) (oi := ?oc15) (v := ?vc15) ?hic15 (by kernel_rfl) (by kernel_rfl) (by kernel_rfl) (fun _ _ _ h => h) ?hyc15 (by assumption) ?restc15
        case hic15 => simp only [gA, gS, gZ]; rfl
        case hyc15 =>
          refine Or.inl ⟨by rfl, ?_⟩
          intro w hSw; (try dsimp only at hSw); go_simp <;> (with_reducible rfl)
        (try simp only [Act.put, pA, pZ, pS])
        refine wpAnyH_take (i := 16) (oi := ?oc16) (v := ?vc16) ?hic16 (by kernel_rfl) (by kernel_rfl) (by kernel_rfl) (fun _ _ _ h => h) ?hyc16 (by assumption) ?restc16
        case hic16 => simp only [gA, gS, gZ]; rfl
        case hyc16 =>
          refine Or.inl ⟨by rfl, ?_⟩
          intro w hSw; (try dsimp only at hSw); go_simp <;> (with_reducible rfl)
        (try simp only [Act.put, pA, pZ, pS])
        refine wpAnyH_take (i := 17) (oi := ?oc17) (v := ?vc17) ?hic17 (by kernel_rfl) (by kernel_rfl) (by kernel_rfl) (fun _ _ _ h => h) ?hyc17 (by assumption) ?restc17
        case hic17 => simp only [gA, gS, gZ]; rfl
        case hyc17 =>
          refine Or.inl ⟨by rfl, ?_⟩
          intro w hSw; (try dsimp only at hSw); go_simp <;> (with_reducible rfl)
        (try simp only [Act.put, pA, pZ, pS])
        refine wpAnyH_take (i := 18) (oi := ?oc18) (v := ?vc18) ?hic18 (by kernel_rfl) (by kernel_rfl) (by kernel_rfl) (fun _ _ _ h => h) ?hyc18 (by assumption) ?restc18
        case hic18 => simp only [gA, gS, gZ]; rfl
        case hyc18 =>
          refine Or.inl ⟨by rfl, ?_⟩
          intro w hSw; (try dsimp only at hSw); go_simp <;> (with_reducible rfl)
        (try simp only [Act.put, pA, pZ, pS])
        refine wpAnyH_take (i := 19) (oi := ?oc19) (v := ?vc19) ?hic19 (by kernel_rfl) (by kernel_rfl) (by kernel_rfl) (fun _ _ _ h => h) ?hyc19 (by assumption) ?restc19
        case hic19 => simp only [gA, gS, gZ]; rfl
        case hyc19 =>
          refine Or.inl ⟨by rfl, ?_⟩
          intro w hSw; (try dsimp only at hSw); go_simp <;> (with_reducible rfl)
        (try simp only [Act.put, pA, pZ, pS])
        refine wpAnyH_ready (rs := [20]) (by kernel_rfl) (by simp) ?_
        refine AllReadyH.cons rfl (fun K hK => ?_) AllReadyH.nil
        go_simp
        refine (HI _).mono ?_; rintro _ _ ⟨rfl, rfl⟩
        refine hK.out _ _ hHeld (fun hHeldc20 => ?_)
        clear hK K
        (try simp only [Act.put, pA, pZ, pS])
        refine wpAnyH_take (i := 21) (oi := ?oc21) (v := ?vc21) ?hic21 (by kernel_rfl) (by kernel_rfl) (by kernel_rfl) (fun _ _ _ h => h) ?hyc21 (by assumption) ?restc21
        case hic21 => simp only [gA, gS, gZ]; rfl
        case hyc21 =>
          refine Or.inl ⟨by rfl, ?_⟩
          intro w hSw; (try dsimp only at hSw); go_simp <;> (with_reducible rfl)
        (try simp only [Act.put, pA, pZ, pS])
        refine wpAnyH_take (i := 22) (oi := ?oc22) (v := ?vc22) ?hic22 (by kernel_rfl) (by kernel_rfl) (by kernel_rfl) (fun _ _ _ h => h) ?hyc22 (by assumption) ?restc22
        case hic22 => simp only [gA, gS, gZ]; rfl
        case hyc22 =>
          refine Or.inl ⟨by rfl, ?_⟩
          intro w hSw; (try dsimp only at hSw); go_simp <;> (with_reducible rfl)
        (try simp only [Act.put, pA, pZ, pS])
        refine wpAnyH_done (by kernel_rfl) ?_ _
        refine NoPanic.normal ?_
        have HW2 := Lib.hid (hHeldc20.1.out)
        have ff := free_blk HW2.out.1.blk 1
        obtain ⟨c0, c1, -, -, -⟩ := HW2.out.1.cells
        go_wp2_with fail
        go_roundg (s.size - (j + 1))
        case measure => have := HLT.out; omega
        case rel => exact ⟨j + 1, rfl, Lib.hid ⟨HLT.out, HEJ.out⟩, Lib.hid ⟨HW2.out.1.setAt HLT.out (by omega) (by omega), (HRJ.out.2.trans (Mod.of_below HW2.out.2)).trans (setJ_mod _ _ _ _)⟩⟩
      · have hxx : decide ((0 : Int) ≤ x) = false := by rw [hb]; simpa using hbl
        have hej : e = j := by rw [HJ.out.2, blankE_stop (by rw [HNP.out, hc]; exact hbl)]
        subst hej
        clear hx hb hbl
        go_wp2_with fail
        refine wp_region_noPanic ?_
        refine wp_region_held_drew (S := (fun W => Hid (Jd W r s e m fw fa ∧ Below wr.heap.size wr W) ∧ W.cell? ⟨r, 0, none⟩ = some (.string s) ∧ W.cell? ⟨r, 1, none⟩ = some (.int .i64 e))) (by kernel_rfl) (by exact HS0.out) (fun hHeld => ?_)
        refine wpAnyH_take (i := 0) (oi := ?od0) (v := ?vd0) ?hid0 (by kernel_rfl) (by kernel_rfl) (by kernel_rfl) (fun _ _ _ h => h) ?hyd0 (by assumption) ?restd0
        case hid0 => simp only [gA, gZ]; rfl
        case hyd0 =>
          refine Or.inl ⟨by rfl, ?_⟩
          intro w hSw; (try dsimp only at hSw); go_simp <;> (with_reducible rfl)
        (try simp only [Act.put, pA, pZ, pS])
        refine wpAnyH_take (i := 1) (oi := ?od1) (v := ?vd1) ?hid1 (by kernel_rfl) (by kernel_rfl) (by kernel_rfl) (fun _ _ _ h => h) ?hyd1 (by assumption) ?restd1
        case hid1 => simp only [gA, gS, gZ]; rfl
        case hyd1 =>
          refine Or.inl ⟨by rfl, ?_⟩
          intro w hSw; (try dsimp only at hSw); go_simp <;> (with_reducible rfl)
        (try simp only [Act.put, pA, pZ, pS])
        refine wpAnyH_take (i := 2) (oi := ?od2) (v := ?vd2) ?hid2 (by kernel_rfl) (by kernel_rfl) (by kernel_rfl) (fun _ _ _ h => h) ?hyd2 (by assumption) ?restd2
        case hid2 => simp only [gA, gS, gZ]; rfl
        case hyd2 =>
          refine Or.inl ⟨by rfl, ?_⟩
          intro w hSw; (try dsimp only at hSw); go_simp <;> (with_reducible rfl)
        (try simp only [Act.put, pA, pZ, pS])
        refine wpAnyH_take (i := 3) (oi := ?od3) (v := ?vd3) ?hid3 (by kernel_rfl) (by kernel_rfl) (by kernel_rfl) (fun _ _ _ h => h) ?hyd3 (by assumption) ?restd3
        case hid3 => simp only [gA, gS, gZ]; rfl
        case hyd3 =>
          refine Or.inl ⟨by rfl, ?_⟩
          intro w hSw; (try dsimp only at hSw); go_simp <;> (with_reducible rfl)
        (try simp only [Act.put, pA, pZ, pS])
        refine wpAnyH_take (i := 4) (oi := ?od4) (v := ?vd4) ?hid4 (by kernel_rfl) (by kernel_rfl) (by kernel_rfl) (fun _ _ _ h => h) ?hyd4 (by assumption) ?restd4
        case hid4 => simp only [gA, gS, gZ]; rfl
        case hyd4 =>
          refine Or.inl ⟨by rfl, ?_⟩
          intro w hSw; (try dsimp only at hSw); go_simp <;> (with_reducible rfl)
        (try simp only [Act.put, pA, pZ, pS])
        refine wpAnyH_take (i := 5) (oi := ?od5) (v := ?vd5) ?hid5 (by kernel_rfl) (by kernel_rfl) (by kernel_rfl) (fun _ _ _ h => h) ?hyd5 (by assumption) ?restd5
        case hid5 => simp only [gA, gS, gZ]; rfl
        case hyd5 =>
          refine Or.inl ⟨by rfl, ?_⟩
          intro w hSw; (try dsimp only at hSw); go_simp <;> (with_reducible rfl)
        (try simp only [Act.put, pA, pZ, pS])
        refine wpAnyH_take (i := 6) (oi := ?od6) (v := ?vd6) ?hid6 (by kernel_rfl) (by kernel_rfl) (by kernel_rfl) (fun _ _ _ h => h) ?hyd6 (by assumption) ?restd6
        case hid6 => simp only [gA, gS, gZ]; rfl
        case hyd6 =>
          refine Or.inl ⟨by rfl, ?_⟩
          intro w hSw; (try dsimp only at hSw); go_simp <;> (with_reducible rfl)
        (try simp only [Act.put, pA, pZ, pS])
        refine wpAnyH_take (i := 7) (oi := ?od7) (v := ?vd7) ?hid7 (by kernel_rfl) (by kernel_rfl) (by kernel_rfl) (fun _ _ _ h => h) ?hyd7 (by assumption) ?restd7
        case hid7 => simp only [gA, gS, gZ]; rfl
        case hyd7 =>
          refine Or.inl ⟨by rfl, ?_⟩
          intro w hSw; (try dsimp only at hSw); go_simp <;> (with_reducible rfl)
        (try simp only [Act.put, pA, pZ, pS])
        refine wpAnyH_take (i := 8) (oi := ?od8) (v := ?vd8) ?hid8 (by kernel_rfl) (by kernel_rfl) (by kernel_rfl) (fun _ _ _ h => h) ?hyd8 (by assumption) ?restd8
        case hid8 => simp only [gA, gS, gZ]; rfl
        case hyd8 =>
          refine Or.inl ⟨by rfl, ?_⟩
          intro w hSw; (try dsimp only at hSw); go_simp <;> (with_reducible rfl)
        (try simp only [Act.put, pA, pZ, pS])
        refine wpAnyH_take (i := 9) (oi := ?od9) (v := ?vd9) ?hid9 (by kernel_rfl) (by kernel_rfl) (by kernel_rfl) (fun _ _ _ h => h) ?hyd9 (by assumption) ?restd9
        case hid9 => simp only [gA, gS, gZ]; rfl
        case hyd9 =>
          refine Or.inl ⟨by rfl, ?_⟩
          intro w hSw; (try dsimp only at hSw); go_simp <;> (with_reducible rfl)
        (try simp only [Act.put, pA, pZ, pS])
        refine wpAnyH_take (i := 10) (oi := ?od10) (v := ?vd10) ?hid10 (by kernel_rfl) (by kernel_rfl) (by kernel_rfl) (fun _ _ _ h => h) ?hyd10 (by assumption) ?restd10
        case hid10 => simp only [gA, gS, gZ]; rfl
        case hyd10 =>
          refine Or.inl ⟨by rfl, ?_⟩
          intro w hSw; (try dsimp only at hSw); go_simp <;> (with_reducible rfl)
        (try simp only [Act.put, pA, pZ, pS])
        refine wpAnyH_take (i := 11) (oi := ?od11) (v := ?vd11) ?hid11 (by kernel_rfl) (by kernel_rfl) (by kernel_rfl) (fun _ _ _ h => h) ?hyd11 (by assumption) ?restd11
        case hid11 => simp only [gA, gS, gZ]; rfl
        case hyd11 =>
          refine Or.inl ⟨by rfl, ?_⟩
          intro w hSw; (try dsimp only at hSw); go_simp <;> (with_reducible rfl)
        (try simp only [Act.put, pA, pZ, pS])
        refine wpAnyH_take (i := 12) (oi := ?od12) (v := ?vd12) ?hid12 (by kernel_rfl) (by kernel_rfl) (by kernel_rfl) (fun _ _ _ h => h) ?hyd12 (by assumption) ?restd12
        case hid12 => simp only [gA, gS, gZ]; rfl
        case hyd12 =>
          refine Or.inl ⟨by rfl, ?_⟩
          intro w hSw; (try dsimp only at hSw); go_simp <;> (with_reducible rfl)
        (try simp only [Act.put, pA, pZ, pS])
        refine wpAnyH_take (i := 13) (oi := ?od13) (v := ?vd13) ?hid13 (by kernel_rfl) (by kernel_rfl) (by kernel_rfl) (fun _ _ _ h => h) ?hyd13 (by assumption) ?restd13
        case hid13 => simp only [gA, gS, gZ]; rfl
        case hyd13 =>
          refine Or.inl ⟨by rfl, ?_⟩
          intro w hSw; (try dsimp only at hSw); go_simp <;> (with_reducible rfl)
        (try simp only [Act.put, pA, pZ, pS])
        refine wpAnyH_take (i := 14) (oi := ?od14) (v := ?vd14) ?hid14 (by kernel_rfl) (by kernel_rfl) (by kernel_rfl) (fun _ _ _ h => h) ?hyd14 (by assumption) ?restd14
        case hid14 => simp only [gA, gS, gZ]; rfl
        case hyd14 =>
          refine Or.inl ⟨by rfl, ?_⟩
          intro w hSw; (try dsimp only at hSw); go_simp <;> (with_reducible rfl)
        (try simp only [Act.put, pA, pZ, pS])
        refine wpAnyH_take (i := 15) (oi := ?od15) (v := ?vd15) ?hid15 (by kernel_rfl) (by kernel_rfl) (by kernel_rfl) (fun _ _ _ h => h) ?hyd15 (by assumption) ?restd15
        case hid15 => simp only [gA, gS, gZ]; rfl
        case hyd15 =>
          refine Or.inl ⟨by rfl, ?_⟩
          intro w hSw; (try dsimp only at hSw); go_simp <;> (with_reducible rfl)
        (try simp only [Act.put, pA, pZ, pS])
        refine wpAnyH_take (i := 16) (oi := ?od16) (v := ?vd16) ?hid16 (by kernel_rfl) (by kernel_rfl) (by kernel_rfl) (fun _ _ _ h => h) ?hyd16 (by assumption) ?restd16
        case hid16 => simp only [gA, gS, gZ]; rfl
        case hyd16 =>
          refine Or.inl ⟨by rfl, ?_⟩
          intro w hSw; (try dsimp only at hSw); go_simp <;> (with_reducible rfl)
        (try simp only [Act.put, pA, pZ, pS])
        refine wpAnyH_take (i := 17) (oi := ?od17) (v := ?vd17) ?hid17 (by kernel_rfl) (by kernel_rfl) (by kernel_rfl) (fun _ _ _ h => h) ?hyd17 (by assumption) ?restd17
        case hid17 => simp only [gA, gS, gZ]; rfl
        case hyd17 =>
          refine Or.inl ⟨by rfl, ?_⟩
          intro w hSw; (try dsimp only at hSw); go_simp <;> (with_reducible rfl)
        (try simp only [Act.put, pA, pZ, pS])
        refine wpAnyH_take (i := 18) (oi := ?od18) (v := ?vd18) ?hid18 (by kernel_rfl) (by kernel_rfl) (by kernel_rfl) (fun _ _ _ h => h) ?hyd18 (by assumption) ?restd18
        case hid18 => simp only [gA, gS, gZ]; rfl
        case hyd18 =>
          refine Or.inl ⟨by rfl, ?_⟩
          intro w hSw; (try dsimp only at hSw); go_simp <;> (with_reducible rfl)
        (try simp only [Act.put, pA, pZ, pS])
        refine wpAnyH_take (i := 19) (oi := ?od19) (v := ?vd19) ?hid19 (by kernel_rfl) (by kernel_rfl) (by kernel_rfl) (fun _ _ _ h => h) ?hyd19 (by assumption) ?restd19
        case hid19 => simp only [gA, gS, gZ]; rfl
        case hyd19 =>
          refine Or.inl ⟨by rfl, ?_⟩
          intro w hSw; (try dsimp only at hSw); go_simp <;> (with_reducible rfl)
        (try simp only [Act.put, pA, pZ, pS])
        refine wpAnyH_ready (rs := [20]) (by kernel_rfl) (by simp) ?_
        refine AllReadyH.cons rfl (fun K hK => ?_) AllReadyH.nil
        go_simp
        refine (HI _).mono ?_; rintro _ _ ⟨rfl, rfl⟩
        refine hK.out _ _ hHeld (fun hHeldd20 => ?_)
        clear hK K
        (try simp only [Act.put, pA, pZ, pS])
        refine wpAnyH_take (i := 21) (oi := ?od21) (v := ?vd21) ?hid21 (by kernel_rfl) (by kernel_rfl) (by kernel_rfl) (fun _ _ _ h => h) ?hyd21 (by assumption) ?restd21
        case hid21 => simp only [gA, gS, gZ]; rfl
        case hyd21 =>
          refine Or.inl ⟨by rfl, ?_⟩
          intro w hSw; (try dsimp only at hSw); go_simp <;> (with_reducible rfl)
        (try simp only [Act.put, pA, pZ, pS])
        refine wpAnyH_take (i := 22) (oi := ?od22) (v := ?vd22) ?hid22 (by kernel_rfl) (by kernel_rfl) (by kernel_rfl) (fun _ _ _ h => h) ?hyd22 (by assumption) ?restd22
        case hid22 => simp only [gA, gS, gZ]; rfl
        case hyd22 =>
          refine Or.inl ⟨by rfl, ?_⟩
          intro w hSw; (try dsimp only at hSw); go_simp <;> (with_reducible rfl)
        (try simp only [Act.put, pA, pZ, pS])
        refine wpAnyH_done (by kernel_rfl) ?_ _
        refine NoPanic.normal ?_
        have HW2 := Lib.hid (hHeldd20.1.out)
        go_wp2_with fail
        first | go_end0 | (refine bodyPost_ret (results_none rfl _ _ _) rfl ?_)
        exact ⟨rfl, HW2.out.1, HRJ.out.2.trans (Mod.of_below HW2.out.2)⟩
    · have hi : decide ((j : Int) < (s.size : Int)) = false := by simp; omega
      have hi2 : ¬ ((j : Int) < (s.size : Int)) := by omega
      have hej : e = j := by rw [HJ.out.2, blankE_stop (by rw [nowP_end hlt]; decide)]
      subst hej
      go_wp2_with fail
      refine wp_region_noPanic ?_
      refine wp_region_held_drew (S := (fun W => Hid (Jd W r s e m fw fa ∧ Below wr.heap.size wr W) ∧ W.cell? ⟨r, 0, none⟩ = some (.string s) ∧ W.cell? ⟨r, 1, none⟩ = some (.int .i64 e))) (by kernel_rfl) (by exact HS0.out) (fun hHeld => ?_)
      refine wpAnyH_take (i := 0) (oi := ?oe0) (v := ?ve0) ?hie0 (by kernel_rfl) (by kernel_rfl) (by kernel_rfl) (fun _ _ _ h => h) ?hye0 (by assumption) ?reste0
      case hie0 => simp only [gA, gZ]; rfl
      case hye0 =>
        refine Or.inl ⟨by rfl, ?_⟩
        intro w hSw; (try dsimp only at hSw); go_simp <;> (with_reducible rfl)
      (try simp only [Act.put, pA, pZ, pS])
      refine wpAnyH_take (i := 1) (oi := ?oe1) (v := ?ve1) ?hie1 (by kernel_rfl) (by kernel_rfl) (by kernel_rfl) (fun _ _ _ h => h) ?hye1 (by assumption) ?reste1
      case hie1 => simp only [gA, gS, gZ]; rfl
      case hye1 =>
        refine Or.inl ⟨by rfl, ?_⟩
        intro w hSw; (try dsimp only at hSw); go_simp <;> (with_reducible rfl)
      (try simp only [Act.put, pA, pZ, pS])
      refine wpAnyH_take (i := 2) (oi := ?oe2) (v := ?ve2) ?hie2 (by kernel_rfl) (by kernel_rfl) (by kernel_rfl) (fun _ _ _ h => h) ?hye2 (by assumption) ?reste2
      case hie2 => simp only [gA, gS, gZ]; rfl
      case hye2 =>
        refine Or.inl ⟨by rfl, ?_⟩
        intro w hSw; (try dsimp only at hSw); go_simp <;> (with_reducible rfl)
      (try simp only [Act.put, pA, pZ, pS])
      refine wpAnyH_take (i := 3) (oi := ?oe3) (v := ?ve3) ?hie3 (by kernel_rfl) (by kernel_rfl) (by kernel_rfl) (fun _ _ _ h => h) ?hye3 (by assumption) ?reste3
      case hie3 => simp only [gA, gS, gZ]; rfl
      case hye3 =>
        refine Or.inl ⟨by rfl, ?_⟩
        intro w hSw; (try dsimp only at hSw); go_simp <;> (with_reducible rfl)
      (try simp only [Act.put, pA, pZ, pS])
      refine wpAnyH_take (i := 4) (oi := ?oe4) (v := ?ve4) ?hie4 (by kernel_rfl) (by kernel_rfl) (by kernel_rfl) (fun _ _ _ h => h) ?hye4 (by assumption) ?reste4
      case hie4 => simp only [gA, gS, gZ]; rfl
      case hye4 =>
        refine Or.inl ⟨by rfl, ?_⟩
        intro w hSw; (try dsimp only at hSw); go_simp <;> (with_reducible rfl)
      (try simp only [Act.put, pA, pZ, pS])
      refine wpAnyH_take (i := 5) (oi := ?oe5) (v := ?ve5) ?hie5 (by kernel_rfl) (by kernel_rfl) (by kernel_rfl) (fun _ _ _ h => h) ?hye5 (by assumption) ?reste5
      case hie5 => simp only [gA, gS, gZ]; rfl
      case hye5 =>
        refine Or.inl ⟨by rfl, ?_⟩
        intro w hSw; (try dsimp only at hSw); go_simp <;> (with_reducible rfl)
      (try simp only [Act.put, pA, pZ, pS])
      refine wpAnyH_take (i := 6) (oi := ?oe6) (v := ?ve6) ?hie6 (by kernel_rfl) (by kernel_rfl) (by kernel_rfl) (fun _ _ _ h => h) ?hye6 (by assumption) ?reste6
      case hie6 => simp only [gA, gS, gZ]; rfl
      case hye6 =>
        refine Or.inl ⟨by rfl, ?_⟩
        intro w hSw; (try dsimp only at hSw); go_simp <;> (with_reducible rfl)
      (try simp only [Act.put, pA, pZ, pS])
      refine wpAnyH_take (i := 7) (oi := ?oe7) (v := ?ve7) ?hie7 (by kernel_rfl) (by kernel_rfl) (by kernel_rfl) (fun _ _ _ h => h) ?hye7 (by assumption) ?reste7
      case hie7 => simp only [gA, gS, gZ]; rfl
      case hye7 =>
        refine Or.inl ⟨by rfl, ?_⟩
        intro w hSw; (try dsimp only at hSw); go_simp <;> (with_reducible rfl)
      (try simp only [Act.put, pA, pZ, pS])
      refine wpAnyH_take (i := 8) (oi := ?oe8) (v := ?ve8) ?hie8 (by kernel_rfl) (by kernel_rfl) (by kernel_rfl) (fun _ _ _ h => h) ?hye8 (by assumption) ?reste8
      case hie8 => simp only [gA, gS, gZ]; rfl
      case hye8 =>
        refine Or.inl ⟨by rfl, ?_⟩
        intro w hSw; (try dsimp only at hSw); go_simp <;> (with_reducible rfl)
      (try simp only [Act.put, pA, pZ, pS])
      refine wpAnyH_take (i := 9) (oi := ?oe9) (v := ?ve9) ?hie9 (by kernel_rfl) (by kernel_rfl) (by kernel_rfl) (fun _ _ _ h => h) ?hye9 (by assumption) ?reste9
      case hie9 => simp only [gA, gS, gZ]; rfl
      case hye9 =>
        refine Or.inl ⟨by rfl, ?_⟩
        intro w hSw; (try dsimp only at hSw); go_simp <;> (with_reducible rfl)
      (try simp only [Act.put, pA, pZ, pS])
      refine wpAnyH_take (i := 10) (oi := ?oe10) (v := ?ve10) ?hie10 (by kernel_rfl) (by kernel_rfl) (by kernel_rfl) (fun _ _ _ h => h) ?hye10 (by assumption) ?reste10
      case hie10 => simp only [gA, gS, gZ]; rfl
      case hye10 =>
        refine Or.inl ⟨by rfl, ?_⟩
        intro w hSw; (try dsimp only at hSw); go_simp <;> (with_reducible rfl)
      (try simp only [Act.put, pA, pZ, pS])
      refine wpAnyH_take (i := 11) (oi := ?oe11) (v := undef) ?hie11 (by kernel_rfl) (by kernel_rfl) (by kernel_rfl) (fun _ _ _ h => h) ?hye11 (by assumption) ?reste11
      case hie11 => simp only [gA, gS, gZ]; rfl
      case hye11 => exact Or.inr ⟨by rfl, rfl⟩
      (try simp only [Act.put, pA, pZ, pS])
      refine wpAnyH_take (i := 12) (oi := ?oe12) (v := undef) ?hie12 (by kernel_rfl) (by kernel_rfl) (by kernel_rfl) (fun _ _ _ h => h) ?hye12 (by assumption) ?reste12
      case hie12 => simp only [gA, gS, gZ]; rfl
      case hye12 => exact Or.inr ⟨by rfl, rfl⟩
      (try simp only [Act.put, pA, pZ, pS])
      refine wpAnyH_take (i := 13) (oi := ?oe13) (v := undef) ?hie13 (by kernel_rfl) (by kernel_rfl) (by kernel_rfl) (fun _ _ _ h => h) ?hye13 (by assumption) ?reste13
      case hie13 => simp only [gA, gS, gZ]; rfl
      case hye13 => exact Or.inr ⟨by rfl, rfl⟩
      (try simp only [Act.put, pA, pZ, pS])
      refine wpAnyH_take (i := 14) (oi := ?oe14) (v := undef) ?hie14 (by kernel_rfl) (by kernel_rfl) (by kernel_rfl) (fun _ _ _ h => h) ?hye14 (by assumption) ?reste14
      case hie14 => simp only [gA, gS, gZ]; rfl
      case hye14 => exact Or.inr ⟨by rfl, rfl⟩
      (try simp only [Act.put, pA, pZ, pS])
      refine wpAnyH_take (i := 15) (oi := ?oe15) (v := undef) ?hie15 (by kernel_rfl) (by kernel_rfl) (by kernel_rfl) (fun _ _ _ h => h) ?hye15 (by assumption) ?reste15
      case hie15 => simp only [gA, gS, gZ]; rfl
      case hye15 => exact Or.inr ⟨by rfl, rfl⟩
      (try simp only [Act.put, pA, pZ, pS])
      refine wpAnyH_take (i := 16) (oi := ?oe16) (v := undef) ?hie16 (by kernel_rfl) (by kernel_rfl) (by kernel_rfl) (fun _ _ _ h => h) ?hye16 (by assumption) ?reste16
      case hie16 => simp only [gA, gS, gZ]; rfl
      case hye16 => exact Or.inr ⟨by rfl, rfl⟩
      (try simp only [Act.put, pA, pZ, pS])
      refine wpAnyH_take (i := 17) (oi := ?oe17) (v := undef) ?hie17 (by kernel_rfl) (by kernel_rfl) (by kernel_rfl) (fun _ _ _ h => h) ?hye17 (by assumption) ?reste17
      case hie17 => simp only [gA, gS, gZ]; rfl
      case hye17 => exact Or.inr ⟨by rfl, rfl⟩
      (try simp only [Act.put, pA, pZ, pS])
      refine wpAnyH_take (i := 18) (oi := ?oe18) (v := undef) ?hie18 (by kernel_rfl) (by kernel_rfl) (by kernel_rfl) (fun _ _ _ h => h) ?hye18 (by assumption) ?reste18
      case hie18 => simp only [gA, gS, gZ]; rfl
      case hye18 => exact Or.inr ⟨by rfl, rfl⟩
      (try simp only [Act.put, pA, pZ, pS])
      refine wpAnyH_take (i := 19) (oi := ?oe19) (v := undef) ?hie19 (by kernel_rfl) (by kernel_rfl) (by kernel_rfl) (fun _ _ _ h => h) ?hye19 (by assumption) ?reste19
      case hie19 => simp only [gA, gS, gZ]; rfl
      case hye19 => exact Or.inr ⟨by rfl, rfl⟩
      (try simp only [Act.put, pA, pZ, pS])
      refine wpAnyH_take (i := 20) (oi := ?oe20) (v := undef) ?hie20 (by kernel_rfl) (by kernel_rfl) (by kernel_rfl) (fun _ _ _ h => h) ?hye20 (by assumption) ?reste20
      case hie20 => simp only [gA, gS, gZ]; rfl
      case hye20 => exact Or.inr ⟨by rfl, rfl⟩
      (try simp only [Act.put, pA, pZ, pS])
      refine wpAnyH_take (i := 21) (oi := ?oe21) (v := undef) ?hie21 (by kernel_rfl) (by kernel_rfl) (by kernel_rfl) (fun _ _ _ h => h) ?hye21 (by assumption) ?reste21
      case hie21 => simp only [gA, gS, gZ]; rfl
      case hye21 => exact Or.inr ⟨by rfl, rfl⟩
      (try simp only [Act.put, pA, pZ, pS])
      refine wpAnyH_take (i := 22) (oi := ?oe22) (v := ?ve22) ?hie22 (by kernel_rfl) (by kernel_rfl) (by kernel_rfl) (fun _ _ _ h => h) ?hye22 (by assumption) ?reste22
      case hie22 => simp only [gA, gS, gZ]; rfl
      case hye22 =>
        refine Or.inl ⟨by rfl, ?_⟩
        intro w hSw; (try dsimp only at hSw); go_simp <;> (with_reducible rfl)
      (try simp only [Act.put, pA, pZ, pS])
      refine wpAnyH_done (by kernel_rfl) ?_ _
      refine NoPanic.normal ?_
      have HW2 := Lib.hid (hHeld.1.out)
      go_wp2_with fail
      first | go_end0 | (refine bodyPost_ret (results_none rfl _ _ _) rfl ?_)
      exact ⟨rfl, HW2.out.1, HRJ.out.2.trans (Mod.of_below HW2.out.2)⟩
set_option maxHeartbeats 1600000 in
set_option maxRecDepth 100000 in
theorem begins_obj {w : World} {r : Nat} {s : ByteArray} {p m : Nat} {fw fa : Int} (h : Jd w r s p m fw fa) :
    Calls Tryz.prog 97 #[.pointer (some ⟨r, 0, none⟩), .int .u8 125] w fun e w' => e = .returned (.bool (jbegP s true p)) ∧ Jd w' r s p m fw fa ∧ Below w.heap.size w w' := by
  have HS0 : Hid (JS r s p m fw fa w w.drew) := Lib.hid (JS.mk h (Below.refl w.heap.size w).drew)
  have HNW : ∀ W, JS r s p m fw fa w W → Calls Tryz.prog 73 #[.pointer (some ⟨r, 0, none⟩)] W fun e w' => e = .returned (.int .u8 (nowP s p).toNat) ∧ Below W.heap.size W w' := fun W hS => jnow_any hS.1.out.1
  by_cases hlt : p < s.size
  · have hi2 : (p : Int) < (s.size : Int) := by omega
    obtain ⟨c, hc⟩ : ∃ c, nowP s p = c := ⟨_, rfl⟩
    obtain ⟨x, hx⟩ : ∃ x, Lib.indexByte [34] c = x := ⟨_, rfl⟩
    have hb := quot_any c
    rw [hx] at hb
    have hans : jbegP s true p = decide ((0 : Int) ≤ x) := by
      rw [hb]; unfold jbegP; rw [hc, decide_eq_true hlt]; simp
    rw [hc] at HNW
    have HI : ∀ W, Calls Tryz.prog 64 #[.string ⟨#[34]⟩, .int .u8 (c.toNat : Int)] W fun e w' => e = .returned (.int .i64 x) ∧ w' = W := fun W => by
      have := idx_any ⟨#[34]⟩ c W
      rw [bl_eq, show (⟨#[34]⟩ : ByteArray).data.toList = [34] from rfl, hx] at this
      exact this
    rw [hans]
    clear hx hb hc hans h
    go_enter Tryz.func97, Tryz.ntmps97
    go_wp2_with fail
    refine wp_region_noPanic ?_
    refine wp_region_held_drew (S := (fun W => Hid (Jd W r s p m fw fa ∧ Below w.heap.size w W) ∧ W.cell? ⟨r, 0, none⟩ = some (.string s) ∧ W.cell? ⟨r, 1, none⟩ = some (.int .i64 p))) (by kernel_rfl) (by exact HS0.out) (fun hHeld => ?_)
    refine wpAnyH_take (i := 0) (oi := ?of0) (v := ?vf0) ?hif0 (by kernel_rfl) (by kernel_rfl) (by kernel_rfl) (fun _ _ _ h => h) ?hyf0 (by assumption) ?restf0
    case hif0 => simp only [gA, gZ]; rfl
    case hyf0 =>
      refine Or.inl ⟨by rfl, ?_⟩
      intro w hSw; (try dsimp only at hSw); go_simp <;> (with_reducible rfl)
    (try simp only [Act.put, pA, pZ, pS])
    refine wpAnyH_take (i := 1) (oi := ?of1) (v := ?vf1) ?hif1 (by kernel_rfl) (by kernel_rfl) (by kernel_rfl) (fun _ _ _ h => h) ?hyf1 (by assumption) ?restf1
    case hif1 => simp only [gA, gS, gZ]; rfl
    case hyf1 =>
      refine Or.inl ⟨by rfl, ?_⟩
      intro w hSw; (try dsimp only at hSw); go_simp <;> (with_reducible rfl)
    (try simp only [Act.put, pA, pZ, pS])
    refine wpAnyH_take (i := 2) (oi := ?of2) (v := ?vf2) ?hif2 (by kernel_rfl) (by kernel_rfl) (by kernel_rfl) (fun _ _ _ h => h) ?hyf2 (by assumption) ?restf2
    case hif2 => simp only [gA, gS, gZ]; rfl
    case hyf2 =>
      refine Or.inl ⟨by rfl, ?_⟩
      intro w hSw; (try dsimp only at hSw); go_simp <;> (with_reducible rfl)
    (try simp only [Act.put, pA, pZ, pS])
    refine wpAnyH_take (i := 3) (oi := ?of3) (v := ?vf3) ?hif3 (by kernel_rfl) (by kernel_rfl) (by kernel_rfl) (fun _ _ _ h => h) ?hyf3 (by assumption) ?restf3
    case hif3 => simp only [gA, gS, gZ]; rfl
    case hyf3 =>
      refine Or.inl ⟨by rfl, ?_⟩
      intro w hSw; (try dsimp only at hSw); go_simp <;> (with_reducible rfl)
    (try simp only [Act.put, pA, pZ, pS])
    refine wpAnyH_take (i := 4) (oi := ?of4) (v := ?vf4) ?hif4 (by kernel_rfl) (by kernel_rfl) (by kernel_rfl) (fun _ _ _ h => h) ?hyf4 (by assumption) ?restf4
    case hif4 => simp only [gA, gS, gZ]; rfl
    case hyf4 =>
      refine Or.inl ⟨by rfl, ?_⟩
      intro w hSw; (try dsimp only at hSw); go_simp <;> (with_reducible rfl)
    (try simp only [Act.put, pA, pZ, pS])
    refine wpAnyH_take (i := 5) (oi := ?of5) (v := ?vf5) ?hif5 (by kernel_rfl) (by kernel_rfl) (by kernel_rfl) (fun _ _ _ h => h) ?hyf5 (by assumption) ?restf5
    case hif5 => simp only [gA, gS, gZ]; rfl
    case hyf5 =>
      refine Or.inl ⟨by rfl, ?_⟩
      intro w hSw; (try dsimp only at hSw); go_simp <;> (with_reducible rfl)
    (try simp only [Act.put, pA, pZ, pS])
    refine wpAnyH_take (i := 6) (oi := ?of6) (v := ?vf6) ?hif6 (by kernel_rfl) (by kernel_rfl) (by kernel_rfl) (fun _ _ _ h => h) ?hyf6 (by assumption) ?restf6
    case hif6 => simp only [gA, gS, gZ]; rfl
    case hyf6 =>
      refine Or.inl ⟨by rfl, ?_⟩
      intro w hSw; (try dsimp only at hSw); go_simp <;> (with_reducible rfl)
    (try simp only [Act.put, pA, pZ, pS])
    refine wpAnyH_take (i := 7) (oi := ?of7) (v := ?vf7) ?hif7 (by kernel_rfl) (by kernel_rfl) (by kernel_rfl) (fun _ _ _ h => h) ?hyf7 (by assumption) ?restf7
    case hif7 => simp only [gA, gS, gZ]; rfl
    case hyf7 =>
      refine Or.inl ⟨by rfl, ?_⟩
      intro w hSw; (try dsimp only at hSw); go_simp <;> (with_reducible rfl)
    (try simp only [Act.put, pA, pZ, pS])
    refine wpAnyH_take (i := 8) (oi := ?of8) (v := ?vf8) ?hif8 (by kernel_rfl) (by kernel_rfl) (by kernel_rfl) (fun _ _ _ h => h) ?hyf8 (by assumption) ?restf8
    case hif8 => simp only [gA, gS, gZ]; rfl
    case hyf8 =>
      refine Or.inl ⟨by rfl, ?_⟩
      intro w hSw; (try dsimp only at hSw); go_simp <;> (with_reducible rfl)
    (try simp only [Act.put, pA, pZ, pS])
    refine wpAnyH_take (i := 9) (oi := ?of9) (v := ?vf9) ?hif9 (by kernel_rfl) (by kernel_rfl) (by kernel_rfl) (fun _ _ _ h => h) ?hyf9 (by assumption) ?restf9
    case hif9 => simp only [gA, gS, gZ]; rfl
    case hyf9 =>
      refine Or.inl ⟨by rfl, ?_⟩
      intro w hSw; (try dsimp only at hSw); go_simp <;> (with_reducible rfl)
    (try simp only [Act.put, pA, pZ, pS])
    refine wpAnyH_take (i := 10) (oi := ?of10) (v := ?vf10) ?hif10 (by kernel_rfl) (by kernel_rfl) (by kernel_rfl) (fun _ _ _ h => h) ?hyf10 (by assumption) ?restf10
    case hif10 => simp only [gA, gS, gZ]; rfl
    case hyf10 =>
      refine Or.inl ⟨by rfl, ?_⟩
      intro w hSw; (try dsimp only at hSw); go_simp <;> (with_reducible rfl)
    (try simp only [Act.put, pA, pZ, pS])
    refine wpAnyH_take (i := 11) (oi := ?of11) (v := ?vf11) ?hif11 (by kernel_rfl) (by kernel_rfl) (by kernel_rfl) (fun _ _ _ h => h) ?hyf11 (by assumption) ?restf11
    case hif11 => simp only [gA, gS, gZ]; rfl
    case hyf11 =>
      refine Or.inl ⟨by rfl, ?_⟩
      intro w hSw; (try dsimp only at hSw); go_simp <;> (with_reducible rfl)
    (try simp only [Act.put, pA, pZ, pS])
    refine wpAnyH_take (i := 12) (oi := ?of12) (v := ?vf12) ?hif12 (by kernel_rfl) (by kernel_rfl) (by kernel_rfl) (fun _ _ _ h => h) ?hyf12 (by assumption) ?restf12
    case hif12 => simp only [gA, gS, gZ]; rfl
    case hyf12 =>
      refine Or.inl ⟨by rfl, ?_⟩
      intro w hSw; (try dsimp only at hSw); go_simp <;> (with_reducible rfl)
    (try simp only [Act.put, pA, pZ, pS])
    refine wpAnyH_ready (rs := [13]) (by kernel_rfl) (by simp) ?_
    refine AllReadyH.cons rfl (fun K hK => ?_) AllReadyH.nil
    go_simp
    refine (HNW _ hHeld).mono ?_; rintro _ w2 ⟨rfl, hb⟩; have HSN : Hid (JS r s p m fw fa w w2) := Lib.hid (JS.next hHeld hb); clear hb
    refine hK.out _ _ HSN.out (fun hHeldf13 => ?_)
    clear hK K
    (try simp only [Act.put, pA, pZ, pS])
    refine wpAnyH_ready (rs := [14]) (by kernel_rfl) (by simp) ?_
    refine AllReadyH.cons rfl (fun K hK => ?_) AllReadyH.nil
    go_simp
    refine (HI _).mono ?_; rintro _ _ ⟨rfl, rfl⟩
    refine hK.out _ _ HSN.out (fun hHeldf14 => ?_)
    clear hK K
    (try simp only [Act.put, pA, pZ, pS])
    refine wpAnyH_take (i := 15) (oi := ?of15) (v := ?vf15) ?hif15 (by kernel_rfl) (by kernel_rfl) (by kernel_rfl) (fun _ _ _ h => h) ?hyf15 (by assumption) ?restf15
    case hif15 => simp only [gA, gS, gZ]; rfl
    case hyf15 =>
      refine Or.inl ⟨by rfl, ?_⟩
      intro w hSw; (try dsimp only at hSw); go_simp <;> (with_reducible rfl)
    (try simp only [Act.put, pA, pZ, pS])
    refine wpAnyH_take (i := 16) (oi := ?of16) (v := ?vf16) ?hif16 (by kernel_rfl) (by kernel_rfl) (by kernel_rfl) (fun _ _ _ h => h) ?hyf16 (by assumption) ?restf16
    case hif16 => simp only [gA, gS, gZ]; rfl
    case hyf16 =>
      refine Or.inl ⟨by rfl, ?_⟩
      intro w hSw; (try dsimp only at hSw); go_simp <;> (with_reducible rfl)
    (try simp only [Act.put, pA, pZ, pS])
    refine wpAnyH_take (i := 17) (oi := ?of17) (v := ?vf17) ?hif17 (by kernel_rfl) (by kernel_rfl) (by kernel_rfl) (fun _ _ _ h => h) ?hyf17 (by assumption) ?restf17
    case hif17 => simp only [gA, gS, gZ]; rfl
    case hyf17 =>
      refine Or.inl ⟨by rfl, ?_⟩
      intro w hSw; (try dsimp only at hSw); go_simp <;> (with_reducible rfl)
    (try simp only [Act.put, pA, pZ, pS])
    refine wpAnyH_done (by kernel_rfl) ?_ _
    refine NoPanic.normal ?_
    have HW2 := Lib.hid (HSN.out.1.out)
    go_wp2_with fail
    go_ret
    exact ⟨rfl, HW2.out.1, HW2.out.2⟩
  · have hans : jbegP s true p = false := by unfold jbegP; rw [decide_eq_false hlt]; rfl
    rw [hans]
    have hi2 : ¬ ((p : Int) < (s.size : Int)) := by omega
    clear hans h
    go_enter Tryz.func97, Tryz.ntmps97
    go_wp2_with fail
    refine wp_region_noPanic ?_
    refine wp_region_held_drew (S := (fun W => Hid (Jd W r s p m fw fa ∧ Below w.heap.size w W) ∧ W.cell? ⟨r, 0, none⟩ = some (.string s) ∧ W.cell? ⟨r, 1, none⟩ = some (.int .i64 p))) (by kernel_rfl) (by exact HS0.out) (fun hHeld => ?_)
    refine wpAnyH_take (i := 0) (oi := ?og0) (v := ?vg0) ?hig0 (by kernel_rfl) (by kernel_rfl) (by kernel_rfl) (fun _ _ _ h => h) ?hyg0 (by assumption) ?restg0
    case hig0 => simp only [gA, gZ]; rfl
    case hyg0 =>
      refine Or.inl ⟨by rfl, ?_⟩
      intro w hSw; (try dsimp only at hSw); go_simp <;> (with_reducible rfl)
    (try simp only [Act.put, pA, pZ, pS])
    refine wpAnyH_take (i := 1) (oi := ?og1) (v := ?vg1) ?hig1 (by kernel_rfl) (by kernel_rfl) (by kernel_rfl) (fun _ _ _ h => h) ?hyg1 (by assumption) ?restg1
    case hig1 => simp only [gA, gS, gZ]; rfl
    case hyg1 =>
      refine Or.inl ⟨by rfl, ?_⟩
      intro w hSw; (try dsimp only at hSw); go_simp <;> (with_reducible rfl)
    (try simp only [Act.put, pA, pZ, pS])
    refine wpAnyH_take (i := 2) (oi := ?og2) (v := ?vg2) ?hig2 (by kernel_rfl) (by kernel_rfl) (by kernel_rfl) (fun _ _ _ h => h) ?hyg2 (by assumption) ?restg2
    case hig2 => simp only [gA, gS, gZ]; rfl
    case hyg2 =>
      refine Or.inl ⟨by rfl, ?_⟩
      intro w hSw; (try dsimp only at hSw); go_simp <;> (with_reducible rfl)
    (try simp only [Act.put, pA, pZ, pS])
    refine wpAnyH_take (i := 3) (oi := ?og3) (v := ?vg3) ?hig3 (by kernel_rfl) (by kernel_rfl) (by kernel_rfl) (fun _ _ _ h => h) ?hyg3 (by assumption) ?restg3
    case hig3 => simp only [gA, gS, gZ]; rfl
    case hyg3 =>
      refine Or.inl ⟨by rfl, ?_⟩
      intro w hSw; (try dsimp only at hSw); go_simp <;> (with_reducible rfl)
    (try simp only [Act.put, pA, pZ, pS])
    refine wpAnyH_take (i := 4) (oi := ?og4) (v := ?vg4) ?hig4 (by kernel_rfl) (by kernel_rfl) (by kernel_rfl) (fun _ _ _ h => h) ?hyg4 (by assumption) ?restg4
    case hig4 => simp only [gA, gS, gZ]; rfl
    case hyg4 =>
      refine Or.inl ⟨by rfl, ?_⟩
      intro w hSw; (try dsimp only at hSw); go_simp <;> (with_reducible rfl)
    (try simp only [Act.put, pA, pZ, pS])
    refine wpAnyH_take (i := 5) (oi := ?og5) (v := ?vg5) ?hig5 (by kernel_rfl) (by kernel_rfl) (by kernel_rfl) (fun _ _ _ h => h) ?hyg5 (by assumption) ?restg5
    case hig5 => simp only [gA, gS, gZ]; rfl
    case hyg5 =>
      refine Or.inl ⟨by rfl, ?_⟩
      intro w hSw; (try dsimp only at hSw); go_simp <;> (with_reducible rfl)
    (try simp only [Act.put, pA, pZ, pS])
    refine wpAnyH_take (i := 6) (oi := ?og6) (v := ?vg6) ?hig6 (by kernel_rfl) (by kernel_rfl) (by kernel_rfl) (fun _ _ _ h => h) ?hyg6 (by assumption) ?restg6
    case hig6 => simp only [gA, gS, gZ]; rfl
    case hyg6 =>
      refine Or.inl ⟨by rfl, ?_⟩
      intro w hSw; (try dsimp only at hSw); go_simp <;> (with_reducible rfl)
    (try simp only [Act.put, pA, pZ, pS])
    refine wpAnyH_take (i := 7) (oi := ?og7) (v := ?vg7) ?hig7 (by kernel_rfl) (by kernel_rfl) (by kernel_rfl) (fun _ _ _ h => h) ?hyg7 (by assumption) ?restg7
    case hig7 => simp only [gA, gS, gZ]; rfl
    case hyg7 =>
      refine Or.inl ⟨by rfl, ?_⟩
      intro w hSw; (try dsimp only at hSw); go_simp <;> (with_reducible rfl)
    (try simp only [Act.put, pA, pZ, pS])
    refine wpAnyH_take (i := 8) (oi := ?og8) (v := ?vg8) ?hig8 (by kernel_rfl) (by kernel_rfl) (by kernel_rfl) (fun _ _ _ h => h) ?hyg8 (by assumption) ?restg8
    case hig8 => simp only [gA, gS, gZ]; rfl
    case hyg8 =>
      refine Or.inl ⟨by rfl, ?_⟩
      intro w hSw; (try dsimp only at hSw); go_simp <;> (with_reducible rfl)
    (try simp only [Act.put, pA, pZ, pS])
    refine wpAnyH_take (i := 9) (oi := ?og9) (v := ?vg9) ?hig9 (by kernel_rfl) (by kernel_rfl) (by kernel_rfl) (fun _ _ _ h => h) ?hyg9 (by assumption) ?restg9
    case hig9 => simp only [gA, gS, gZ]; rfl
    case hyg9 =>
      refine Or.inl ⟨by rfl, ?_⟩
      intro w hSw; (try dsimp only at hSw); go_simp <;> (with_reducible rfl)
    (try simp only [Act.put, pA, pZ, pS])
    refine wpAnyH_take (i := 10) (oi := ?og10) (v := ?vg10) ?hig10 (by kernel_rfl) (by kernel_rfl) (by kernel_rfl) (fun _ _ _ h => h) ?hyg10 (by assumption) ?restg10
    case hig10 => simp only [gA, gS, gZ]; rfl
    case hyg10 =>
      refine Or.inl ⟨by rfl, ?_⟩
      intro w hSw; (try dsimp only at hSw); go_simp <;> (with_reducible rfl)
    (try simp only [Act.put, pA, pZ, pS])
    refine wpAnyH_take (i := 11) (oi := ?og11) (v := undef) ?hig11 (by kernel_rfl) (by kernel_rfl) (by kernel_rfl) (fun _ _ _ h => h) ?hyg11 (by assumption) ?restg11
    case hig11 => simp only [gA, gS, gZ]; rfl
    case hyg11 => exact Or.inr ⟨by rfl, rfl⟩
    (try simp only [Act.put, pA, pZ, pS])
    refine wpAnyH_take (i := 12) (oi := ?og12) (v := undef) ?hig12 (by kernel_rfl) (by kernel_rfl) (by kernel_rfl) (fun _ _ _ h => h) ?hyg12 (by assumption) ?restg12
    case hig12 => simp only [gA, gS, gZ]; rfl
    case hyg12 => exact Or.inr ⟨by rfl, rfl⟩
    (try simp only [Act.put, pA, pZ, pS])
    refine wpAnyH_take (i := 13) (oi := ?og13) (v := undef) ?hig13 (by kernel_rfl) (by kernel_rfl) (by kernel_rfl) (fun _ _ _ h => h) ?hyg13 (by assumption) ?restg13
    case hig13 => simp only [gA, gS, gZ]; rfl
    case hyg13 => exact Or.inr ⟨by rfl, rfl⟩
    (try simp only [Act.put, pA, pZ, pS])
    refine wpAnyH_take (i := 14) (oi := ?og14) (v := undef) ?hig14 (by kernel_rfl) (by kernel_rfl) (by kernel_rfl) (fun _ _ _ h => h) ?hyg14 (by assumption) ?restg14
    case hig14 => simp only [gA, gS, gZ]; rfl
    case hyg14 => exact Or.inr ⟨by rfl, rfl⟩
    (try simp only [Act.put, pA, pZ, pS])
    refine wpAnyH_take (i := 15) (oi := ?og15) (v := undef) ?hig15 (by kernel_rfl) (by kernel_rfl) (by kernel_rfl) (fun _ _ _ h => h) ?hyg15 (by assumption) ?restg15
    case hig15 => simp only [gA, gS, gZ]; rfl
    case hyg15 => exact Or.inr ⟨by rfl, rfl⟩
    (try simp only [Act.put, pA, pZ, pS])
    refine wpAnyH_take (i := 16) (oi := ?og16) (v := ?vg16) ?hig16 (by kernel_rfl) (by kernel_rfl) (by kernel_rfl) (fun _ _ _ h => h) ?hyg16 (by assumption) ?restg16
    case hig16 => simp only [gA, gS, gZ]; rfl
    case hyg16 =>
      refine Or.inl ⟨by rfl, ?_⟩
      intro w hSw; (try dsimp only at hSw); go_simp <;> (with_reducible rfl)
    (try simp only [Act.put, pA, pZ, pS])
    refine wpAnyH_take (i := 17) (oi := ?og17) (v := ?vg17) ?hig17 (by kernel_rfl) (by kernel_rfl) (by kernel_rfl) (fun _ _ _ h => h) ?hyg17 (by assumption) ?restg17
    case hig17 => simp only [gA, gS, gZ]; rfl
    case hyg17 =>
      refine Or.inl ⟨by rfl, ?_⟩
      intro w hSw; (try dsimp only at hSw); go_simp <;> (with_reducible rfl)
    (try simp only [Act.put, pA, pZ, pS])
    refine wpAnyH_done (by kernel_rfl) ?_ _
    refine NoPanic.normal ?_
    have HW2 := Lib.hid (hHeld.1.out)
    go_wp2_with fail
    go_ret
    exact ⟨rfl, HW2.out.1, HW2.out.2⟩
set_option maxHeartbeats 1600000 in
set_option maxRecDepth 100000 in
theorem begins_arr {w : World} {r : Nat} {s : ByteArray} {p m : Nat} {fw fa : Int} (h : Jd w r s p m fw fa) :
    Calls Tryz.prog 97 #[.pointer (some ⟨r, 0, none⟩), .int .u8 93] w fun e w' => e = .returned (.bool (jbegP s false p)) ∧ Jd w' r s p m fw fa ∧ Below w.heap.size w w' := by
  have HS0 : Hid (JS r s p m fw fa w w.drew) := Lib.hid (JS.mk h (Below.refl w.heap.size w).drew)
  have HNW : ∀ W, JS r s p m fw fa w W → Calls Tryz.prog 73 #[.pointer (some ⟨r, 0, none⟩)] W fun e w' => e = .returned (.int .u8 (nowP s p).toNat) ∧ Below W.heap.size W w' := fun W hS => jnow_any hS.1.out.1
  by_cases hlt : p < s.size
  · have hi2 : (p : Int) < (s.size : Int) := by omega
    obtain ⟨c, hc⟩ : ∃ c, nowP s p = c := ⟨_, rfl⟩
    obtain ⟨x, hx⟩ : ∃ x, Lib.indexByte [110, 116, 102, 34, 91, 123, 45, 48, 49, 50, 51, 52, 53, 54, 55, 56, 57] c = x := ⟨_, rfl⟩
    have hb := first_any c
    rw [hx] at hb
    have hans : jbegP s false p = decide ((0 : Int) ≤ x) := by
      rw [hb]; unfold jbegP; rw [hc, decide_eq_true hlt]; simp
    rw [hc] at HNW
    have HI : ∀ W, Calls Tryz.prog 64 #[.string ⟨#[110, 116, 102, 34, 91, 123, 45, 48, 49, 50, 51, 52, 53, 54, 55, 56, 57]⟩, .int .u8 (c.toNat : Int)] W fun e w' => e = .returned (.int .i64 x) ∧ w' = W := fun W => by
      have := idx_any ⟨#[110, 116, 102, 34, 91, 123, 45, 48, 49, 50, 51, 52, 53, 54, 55, 56, 57]⟩ c W
      rw [bl_eq, show (⟨#[110, 116, 102, 34, 91, 123, 45, 48, 49, 50, 51, 52, 53, 54, 55, 56, 57]⟩ : ByteArray).data.toList = [110, 116, 102, 34, 91, 123, 45, 48, 49, 50, 51, 52, 53, 54, 55, 56, 57] from rfl, hx] at this
      exact this
    rw [hans]
    clear hx hb hc hans h
    go_enter Tryz.func97, Tryz.ntmps97
    go_wp2_with fail
    refine wp_region_noPanic ?_
    refine wp_region_held_drew (S := (fun W => Hid (Jd W r s p m fw fa ∧ Below w.heap.size w W) ∧ W.cell? ⟨r, 0, none⟩ = some (.string s) ∧ W.cell? ⟨r, 1, none⟩ = some (.int .i64 p))) (by kernel_rfl) (by exact HS0.out) (fun hHeld => ?_)
    refine wpAnyH_take (i := 0) (oi := ?oh0) (v := ?vh0) ?hih0 (by kernel_rfl) (by kernel_rfl) (by kernel_rfl) (fun _ _ _ h => h) ?hyh0 (by assumption) ?resth0
    case hih0 => simp only [gA, gZ]; rfl
    case hyh0 =>
      refine Or.inl ⟨by rfl, ?_⟩
      intro w hSw; (try dsimp only at hSw); go_simp <;> (with_reducible rfl)
    (try simp only [Act.put, pA, pZ, pS])
    refine wpAnyH_take (i := 1) (oi := ?oh1) (v := ?vh1) ?hih1 (by kernel_rfl) (by kernel_rfl) (by kernel_rfl) (fun _ _ _ h => h) ?hyh1 (by assumption) ?resth1
    case hih1 => simp only [gA, gS, gZ]; rfl
    case hyh1 =>
      refine Or.inl ⟨by rfl, ?_⟩
      intro w hSw; (try dsimp only at hSw); go_simp <;> (with_reducible rfl)
    (try simp only [Act.put, pA, pZ, pS])
    refine wpAnyH_take (i := 2) (oi := ?oh2) (v := ?vh2) ?hih2 (by kernel_rfl) (by kernel_rfl) (by kernel_rfl) (fun _ _ _ h => h) ?hyh2 (by assumption) ?resth2
    case hih2 => simp only [gA, gS, gZ]; rfl
    case hyh2 =>
      refine Or.inl ⟨by rfl, ?_⟩
      intro w hSw; (try dsimp only at hSw); go_simp <;> (with_reducible rfl)
    (try simp only [Act.put, pA, pZ, pS])
    refine wpAnyH_take (i := 3) (oi := ?oh3) (v := ?vh3) ?hih3 (by kernel_rfl) (by kernel_rfl) (by kernel_rfl) (fun _ _ _ h => h) ?hyh3 (by assumption) ?resth3
    case hih3 => simp only [gA, gS, gZ]; rfl
    case hyh3 =>
      refine Or.inl ⟨by rfl, ?_⟩
      intro w hSw; (try dsimp only at hSw); go_simp <;> (with_reducible rfl)
    (try simp only [Act.put, pA, pZ, pS])
    refine wpAnyH_take (i := 4) (oi := ?oh4) (v := ?vh4) ?hih4 (by kernel_rfl) (by kernel_rfl) (by kernel_rfl) (fun _ _ _ h => h) ?hyh4 (by assumption) ?resth4
    case hih4 => simp only [gA, gS, gZ]; rfl
    case hyh4 =>
      refine Or.inl ⟨by rfl, ?_⟩
      intro w hSw; (try dsimp only at hSw); go_simp <;> (with_reducible rfl)
    (try simp only [Act.put, pA, pZ, pS])
    refine wpAnyH_take (i := 5) (oi := ?oh5) (v := ?vh5) ?hih5 (by kernel_rfl) (by kernel_rfl) (by kernel_rfl) (fun _ _ _ h => h) ?hyh5 (by assumption) ?resth5
    case hih5 => simp only [gA, gS, gZ]; rfl
    case hyh5 =>
      refine Or.inl ⟨by rfl, ?_⟩
      intro w hSw; (try dsimp only at hSw); go_simp <;> (with_reducible rfl)
    (try simp only [Act.put, pA, pZ, pS])
    refine wpAnyH_take (i := 6) (oi := ?oh6) (v := ?vh6) ?hih6 (by kernel_rfl) (by kernel_rfl) (by kernel_rfl) (fun _ _ _ h => h) ?hyh6 (by assumption) ?resth6
    case hih6 => simp only [gA, gS, gZ]; rfl
    case hyh6 =>
      refine Or.inl ⟨by rfl, ?_⟩
      intro w hSw; (try dsimp only at hSw); go_simp <;> (with_reducible rfl)
    (try simp only [Act.put, pA, pZ, pS])
    refine wpAnyH_take (i := 7) (oi := ?oh7) (v := ?vh7) ?hih7 (by kernel_rfl) (by kernel_rfl) (by kernel_rfl) (fun _ _ _ h => h) ?hyh7 (by assumption) ?resth7
    case hih7 => simp only [gA, gS, gZ]; rfl
    case hyh7 =>
      refine Or.inl ⟨by rfl, ?_⟩
      intro w hSw; (try dsimp only at hSw); go_simp <;> (with_reducible rfl)
    (try simp only [Act.put, pA, pZ, pS])
    refine wpAnyH_take (i := 8) (oi := ?oh8) (v := ?vh8) ?hih8 (by kernel_rfl) (by kernel_rfl) (by kernel_rfl) (fun _ _ _ h => h) ?hyh8 (by assumption) ?resth8
    case hih8 => simp only [gA, gS, gZ]; rfl
    case hyh8 =>
      refine Or.inl ⟨by rfl, ?_⟩
      intro w hSw; (try dsimp only at hSw); go_simp <;> (with_reducible rfl)
    (try simp only [Act.put, pA, pZ, pS])
    refine wpAnyH_take (i := 9) (oi := ?oh9) (v := ?vh9) ?hih9 (by kernel_rfl) (by kernel_rfl) (by kernel_rfl) (fun _ _ _ h => h) ?hyh9 (by assumption) ?resth9
    case hih9 => simp only [gA, gS, gZ]; rfl
    case hyh9 =>
      refine Or.inl ⟨by rfl, ?_⟩
      intro w hSw; (try dsimp only at hSw); go_simp <;> (with_reducible rfl)
    (try simp only [Act.put, pA, pZ, pS])
    refine wpAnyH_take (i := 10) (oi := ?oh10) (v := ?vh10) ?hih10 (by kernel_rfl) (by kernel_rfl) (by kernel_rfl) (fun _ _ _ h => h) ?hyh10 (by assumption) ?resth10
    case hih10 => simp only [gA, gS, gZ]; rfl
    case hyh10 =>
      refine Or.inl ⟨by rfl, ?_⟩
      intro w hSw; (try dsimp only at hSw); go_simp <;> (with_reducible rfl)
    (try simp only [Act.put, pA, pZ, pS])
    refine wpAnyH_take (i := 11) (oi := ?oh11) (v := ?vh11) ?hih11 (by kernel_rfl) (by kernel_rfl) (by kernel_rfl) (fun _ _ _ h => h) ?hyh11 (by assumption) ?resth11
    case hih11 => simp only [gA, gS, gZ]; rfl
    case hyh11 =>
      refine Or.inl ⟨by rfl, ?_⟩
      intro w hSw; (try dsimp only at hSw); go_simp <;> (with_reducible rfl)
    (try simp only [Act.put, pA, pZ, pS])
    refine wpAnyH_take (i := 12) (oi := ?oh12) (v := ?vh12) ?hih12 (by kernel_rfl) (by kernel_rfl) (by kernel_rfl) (fun _ _ _ h => h) ?hyh12 (by assumption) ?resth12
    case hih12 => simp only [gA, gS, gZ]; rfl
    case hyh12 =>
      refine Or.inl ⟨by rfl, ?_⟩
      intro w hSw; (try dsimp only at hSw); go_simp <;> (with_reducible rfl)
    (try simp only [Act.put, pA, pZ, pS])
    refine wpAnyH_ready (rs := [13]) (by kernel_rfl) (by simp) ?_
    refine AllReadyH.cons rfl (fun K hK => ?_) AllReadyH.nil
    go_simp
    refine (HNW _ hHeld).mono ?_; rintro _ w2 ⟨rfl, hb⟩; have HSN : Hid (JS r s p m fw fa w w2) := Lib.hid (JS.next hHeld hb); clear hb
    refine hK.out _ _ HSN.out (fun hHeldh13 => ?_)
    clear hK K
    (try simp only [Act.put, pA, pZ, pS])
    refine wpAnyH_ready (rs := [14]) (by kernel_rfl) (by simp) ?_
    refine AllReadyH.cons rfl (fun K hK => ?_) AllReadyH.nil
    go_simp
    refine (HI _).mono ?_; rintro _ _ ⟨rfl, rfl⟩
    refine hK.out _ _ HSN.out (fun hHeldh14 => ?_)
    clear hK K
    (try simp only [Act.put, pA, pZ, pS])
    refine wpAnyH_take (i := 15) (oi := ?oh15) (v := ?vh15) ?hih15 (by kernel_rfl) (by kernel_rfl) (by kernel_rfl) (fun _ _ _ h => h) ?hyh15 (by assumption) ?resth15
    case hih15 => simp only [gA, gS, gZ]; rfl
    case hyh15 =>
      refine Or.inl ⟨by rfl, ?_⟩
      intro w hSw; (try dsimp only at hSw); go_simp <;> (with_reducible rfl)
    (try simp only [Act.put, pA, pZ, pS])
    refine wpAnyH_take (i := 16) (oi := ?oh16) (v := ?vh16) ?hih16 (by kernel_rfl) (by kernel_rfl) (by kernel_rfl) (fun _ _ _ h => h) ?hyh16 (by assumption) ?resth16
    case hih16 => simp only [gA, gS, gZ]; rfl
    case hyh16 =>
      refine Or.inl ⟨by rfl, ?_⟩
      intro w hSw; (try dsimp only at hSw); go_simp <;> (with_reducible rfl)
    (try simp only [Act.put, pA, pZ, pS])
    refine wpAnyH_take (i := 17) (oi := ?oh17) (v := ?vh17) ?hih17 (by kernel_rfl) (by kernel_rfl) (by kernel_rfl) (fun _ _ _ h => h) ?hyh17 (by assumption) ?resth17
    case hih17 => simp only [gA, gS, gZ]; rfl
    case hyh17 =>
      refine Or.inl ⟨by rfl, ?_⟩
      intro w hSw; (try dsimp only at hSw); go_simp <;> (with_reducible rfl)
    (try simp only [Act.put, pA, pZ, pS])
    refine wpAnyH_done (by kernel_rfl) ?_ _
    refine NoPanic.normal ?_
    have HW2 := Lib.hid (HSN.out.1.out)
    go_wp2_with fail
    go_ret
    exact ⟨rfl, HW2.out.1, HW2.out.2⟩
  · have hans : jbegP s false p = false := by unfold jbegP; rw [decide_eq_false hlt]; rfl
    rw [hans]
    have hi2 : ¬ ((p : Int) < (s.size : Int)) := by omega
    clear hans h
    go_enter Tryz.func97, Tryz.ntmps97
    go_wp2_with fail
    refine wp_region_noPanic ?_
    refine wp_region_held_drew (S := (fun W => Hid (Jd W r s p m fw fa ∧ Below w.heap.size w W) ∧ W.cell? ⟨r, 0, none⟩ = some (.string s) ∧ W.cell? ⟨r, 1, none⟩ = some (.int .i64 p))) (by kernel_rfl) (by exact HS0.out) (fun hHeld => ?_)
    refine wpAnyH_take (i := 0) (oi := ?ok0) (v := ?vk0) ?hik0 (by kernel_rfl) (by kernel_rfl) (by kernel_rfl) (fun _ _ _ h => h) ?hyk0 (by assumption) ?restk0
    case hik0 => simp only [gA, gZ]; rfl
    case hyk0 =>
      refine Or.inl ⟨by rfl, ?_⟩
      intro w hSw; (try dsimp only at hSw); go_simp <;> (with_reducible rfl)
    (try simp only [Act.put, pA, pZ, pS])
    refine wpAnyH_take (i := 1) (oi := ?ok1) (v := ?vk1) ?hik1 (by kernel_rfl) (by kernel_rfl) (by kernel_rfl) (fun _ _ _ h => h) ?hyk1 (by assumption) ?restk1
    case hik1 => simp only [gA, gS, gZ]; rfl
    case hyk1 =>
      refine Or.inl ⟨by rfl, ?_⟩
      intro w hSw; (try dsimp only at hSw); go_simp <;> (with_reducible rfl)
    (try simp only [Act.put, pA, pZ, pS])
    refine wpAnyH_take (i := 2) (oi := ?ok2) (v := ?vk2) ?hik2 (by kernel_rfl) (by kernel_rfl) (by kernel_rfl) (fun _ _ _ h => h) ?hyk2 (by assumption) ?restk2
    case hik2 => simp only [gA, gS, gZ]; rfl
    case hyk2 =>
      refine Or.inl ⟨by rfl, ?_⟩
      intro w hSw; (try dsimp only at hSw); go_simp <;> (with_reducible rfl)
    (try simp only [Act.put, pA, pZ, pS])
    refine wpAnyH_take (i := 3) (oi := ?ok3) (v := ?vk3) ?hik3 (by kernel_rfl) (by kernel_rfl) (by kernel_rfl) (fun _ _ _ h => h) ?hyk3 (by assumption) ?restk3
    case hik3 => simp only [gA, gS, gZ]; rfl
    case hyk3 =>
      refine Or.inl ⟨by rfl, ?_⟩
      intro w hSw; (try dsimp only at hSw); go_simp <;> (with_reducible rfl)
    (try simp only [Act.put, pA, pZ, pS])
    refine wpAnyH_take (i := 4) (oi := ?ok4) (v := ?vk4) ?hik4 (by kernel_rfl) (by kernel_rfl) (by kernel_rfl) (fun _ _ _ h => h) ?hyk4 (by assumption) ?restk4
    case hik4 => simp only [gA, gS, gZ]; rfl
    case hyk4 =>
      refine Or.inl ⟨by rfl, ?_⟩
      intro w hSw; (try dsimp only at hSw); go_simp <;> (with_reducible rfl)
    (try simp only [Act.put, pA, pZ, pS])
    refine wpAnyH_take (i := 5) (oi := ?ok5) (v := ?vk5) ?hik5 (by kernel_rfl) (by kernel_rfl) (by kernel_rfl) (fun _ _ _ h => h) ?hyk5 (by assumption) ?restk5
    case hik5 => simp only [gA, gS, gZ]; rfl
    case hyk5 =>
      refine Or.inl ⟨by rfl, ?_⟩
      intro w hSw; (try dsimp only at hSw); go_simp <;> (with_reducible rfl)
    (try simp only [Act.put, pA, pZ, pS])
    refine wpAnyH_take (i := 6) (oi := ?ok6) (v := ?vk6) ?hik6 (by kernel_rfl) (by kernel_rfl) (by kernel_rfl) (fun _ _ _ h => h) ?hyk6 (by assumption) ?restk6
    case hik6 => simp only [gA, gS, gZ]; rfl
    case hyk6 =>
      refine Or.inl ⟨by rfl, ?_⟩
      intro w hSw; (try dsimp only at hSw); go_simp <;> (with_reducible rfl)
    (try simp only [Act.put, pA, pZ, pS])
    refine wpAnyH_take (i := 7) (oi := ?ok7) (v := ?vk7) ?hik7 (by kernel_rfl) (by kernel_rfl) (by kernel_rfl) (fun _ _ _ h => h) ?hyk7 (by assumption) ?restk7
    case hik7 => simp only [gA, gS, gZ]; rfl
    case hyk7 =>
      refine Or.inl ⟨by rfl, ?_⟩
      intro w hSw; (try dsimp only at hSw); go_simp <;> (with_reducible rfl)
    (try simp only [Act.put, pA, pZ, pS])
    refine wpAnyH_take (i := 8) (oi := ?ok8) (v := ?vk8) ?hik8 (by kernel_rfl) (by kernel_rfl) (by kernel_rfl) (fun _ _ _ h => h) ?hyk8 (by assumption) ?restk8
    case hik8 => simp only [gA, gS, gZ]; rfl
    case hyk8 =>
      refine Or.inl ⟨by rfl, ?_⟩
      intro w hSw; (try dsimp only at hSw); go_simp <;> (with_reducible rfl)
    (try simp only [Act.put, pA, pZ, pS])
    refine wpAnyH_take (i := 9) (oi := ?ok9) (v := ?vk9) ?hik9 (by kernel_rfl) (by kernel_rfl) (by kernel_rfl) (fun _ _ _ h => h) ?hyk9 (by assumption) ?restk9
    case hik9 => simp only [gA, gS, gZ]; rfl
    case hyk9 =>
      refine Or.inl ⟨by rfl, ?_⟩
      intro w hSw; (try dsimp only at hSw); go_simp <;> (with_reducible rfl)
    (try simp only [Act.put, pA, pZ, pS])
    refine wpAnyH_take (i := 10) (oi := ?ok10) (v := ?vk10) ?hik10 (by kernel_rfl) (by kernel_rfl) (by kernel_rfl) (fun _ _ _ h => h) ?hyk10 (by assumption) ?restk10
    case hik10 => simp only [gA, gS, gZ]; rfl
    case hyk10 =>
      refine Or.inl ⟨by rfl, ?_⟩
      intro w hSw; (try dsimp only at hSw); go_simp <;> (with_reducible rfl)
    (try simp only [Act.put, pA, pZ, pS])
    refine wpAnyH_take (i := 11) (oi := ?ok11) (v := undef) ?hik11 (by kernel_rfl) (by kernel_rfl) (by kernel_rfl) (fun _ _ _ h => h) ?hyk11 (by assumption) ?restk11
    case hik11 => simp only [gA, gS, gZ]; rfl
    case hyk11 => exact Or.inr ⟨by rfl, rfl⟩
    (try simp only [Act.put, pA, pZ, pS])
    refine wpAnyH_take (i := 12) (oi := ?ok12) (v := undef) ?hik12 (by kernel_rfl) (by kernel_rfl) (by kernel_rfl) (fun _ _ _ h => h) ?hyk12 (by assumption) ?restk12
    case hik12 => simp only [gA, gS, gZ]; rfl
    case hyk12 => exact Or.inr ⟨by rfl, rfl⟩
    (try simp only [Act.put, pA, pZ, pS])
    refine wpAnyH_take (i := 13) (oi := ?ok13) (v := undef) ?hik13 (by kernel_rfl) (by kernel_rfl) (by kernel_rfl) (fun _ _ _ h => h) ?hyk13 (by assumption) ?restk13
    case hik13 => simp only [gA, gS, gZ]; rfl
    case hyk13 => exact Or.inr ⟨by rfl, rfl⟩
    (try simp only [Act.put, pA, pZ, pS])
    refine wpAnyH_take (i := 14) (oi := ?ok14) (v := undef) ?hik14 (by kernel_rfl) (by kernel_rfl) (by kernel_rfl) (fun _ _ _ h => h) ?hyk14 (by assumption) ?restk14
    case hik14 => simp only [gA, gS, gZ]; rfl
    case hyk14 => exact Or.inr ⟨by rfl, rfl⟩
    (try simp only [Act.put, pA, pZ, pS])
    refine wpAnyH_take (i := 15) (oi := ?ok15) (v := undef) ?hik15 (by kernel_rfl) (by kernel_rfl) (by kernel_rfl) (fun _ _ _ h => h) ?hyk15 (by assumption) ?restk15
    case hik15 => simp only [gA, gS, gZ]; rfl
    case hyk15 => exact Or.inr ⟨by rfl, rfl⟩
    (try simp only [Act.put, pA, pZ, pS])
    refine wpAnyH_take (i := 16) (oi := ?ok16) (v := ?vk16) ?hik16 (by kernel_rfl) (by kernel_rfl) (by kernel_rfl) (fun _ _ _ h => h) ?hyk16 (by assumption) ?restk16
    case hik16 => simp only [gA, gS, gZ]; rfl
    case hyk16 =>
      refine Or.inl ⟨by rfl, ?_⟩
      intro w hSw; (try dsimp only at hSw); go_simp <;> (with_reducible rfl)
    (try simp only [Act.put, pA, pZ, pS])
    refine wpAnyH_take (i := 17) (oi := ?ok17) (v := ?vk17) ?hik17 (by kernel_rfl) (by kernel_rfl) (by kernel_rfl) (fun _ _ _ h => h) ?hyk17 (by assumption) ?restk17
    case hik17 => simp only [gA, gS, gZ]; rfl
    case hyk17 =>
      refine Or.inl ⟨by rfl, ?_⟩
      intro w hSw; (try dsimp only at hSw); go_simp <;> (with_reducible rfl)
    (try simp only [Act.put, pA, pZ, pS])
    refine wpAnyH_done (by kernel_rfl) ?_ _
    refine NoPanic.normal ?_
    have HW2 := Lib.hid (hHeld.1.out)
    go_wp2_with fail
    go_ret
    exact ⟨rfl, HW2.out.1, HW2.out.2⟩
theorem begins_any (obj : Bool) {w : World} {r : Nat} {s : ByteArray} {p m : Nat} {fw fa : Int} (h : Jd w r s p m fw fa) :
    Calls Tryz.prog 97 #[.pointer (some ⟨r, 0, none⟩), .int .u8 ((endC obj).toNat : Int)] w fun e w' => e = .returned (.bool (jbegP s obj p)) ∧ Jd w' r s p m fw fa ∧ Below w.heap.size w w' := by
  cases obj
  · exact begins_arr h
  · exact begins_obj h
end Go.Proofs.YtnaefnojmiolbaaGreatDoor
