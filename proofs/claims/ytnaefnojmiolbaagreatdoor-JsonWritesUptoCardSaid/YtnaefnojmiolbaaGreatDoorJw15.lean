/-
  JSON: the walk of hex.
-/
import Derived.Test.YtnaefnojmiolbaaGreatDoorJw10
import Derived.Test.YtnaefnojmiolbaaGreatDoorJw14
import Derived.Lib.EndianBits
namespace Go.Proofs.YtnaefnojmiolbaaGreatDoor
open Go.RowKit

attribute [local go_sem] yld_undef
abbrev hexAbc : Bs := [48, 49, 50, 51, 52, 53, 54, 55, 56, 57, 97, 98, 99, 100, 101, 102, 48, 49, 50, 51, 52, 53, 54, 55, 56, 57, 65, 66, 67, 68, 69, 70]
theorem hex_none_all : ∀ x : Fin 256, decide (Lib.indexByte hexAbc (UInt8.ofNat x.val) < (0 : Int)) = (hexV (UInt8.ofNat x.val)).isNone := by decide +kernel
theorem hex_some_all : ∀ x : Fin 256, (hexV (UInt8.ofNat x.val)).isNone = true ∨ bits .and .i64 (Lib.indexByte hexAbc (UInt8.ofNat x.val)) 15 = (((hexV (UInt8.ofNat x.val)).getD 0 : Nat) : Int) := by decide +kernel
theorem hex_none (c : UInt8) : decide (Lib.indexByte hexAbc c < (0 : Int)) = (hexV c).isNone := of_byte (P := fun c => decide (Lib.indexByte hexAbc c < (0 : Int)) = (hexV c).isNone) hex_none_all c
theorem hex_some {c : UInt8} {d : Nat} (h : hexV c = some d) : bits .and .i64 (Lib.indexByte hexAbc c) 15 = (d : Int) := by
  have := of_byte (P := fun c => (hexV c).isNone = true ∨ bits .and .i64 (Lib.indexByte hexAbc c) 15 = (((hexV c).getD 0 : Nat) : Int)) hex_some_all c
  rw [h] at this
  simpa using this
theorem wr32_sm {x : Int} (h0 : -2147483648 ≤ x) (h1 : x ≤ 2147483647) : IntKind.i32.wrap x = x := by
  unfold IntKind.wrap
  simp [IntKind.bits, IntKind.signed]
  omega
theorem or16 {a d : Nat} (ha : a < 65536) (hd : d < 16) : bits .or .i32 ((a : Int) * 16) (d : Int) = ((a * 16 + d : Nat) : Int) := by
  rw [bits_join .i32 31 (by decide) (fun n h0 h1 => wr32_sm (by omega) (by omega)) 4 ((a : Int) * 16) d (by omega) (by omega) (by omega) (by omega) (by omega) (by omega)]
  omega
set_option maxHeartbeats 3200000 in
set_option maxRecDepth 100000 in
theorem jhex_any {w : World} {r : Nat} {s : ByteArray} {p m : Nat} {fw fa : Int} (h : Jd w r s p m fw fa) :
    Calls Tryz.prog 152 #[.pointer (some ⟨r, 0, none⟩)] w (JPost (JF r) w r s (hexP s 4 0 p) (fun y => y = .tuple #[.int .i32 0, .bool false]) fun a e w' => e = .returned (.tuple #[.int .i32 (a.1 : Int), .bool true]) ∧ Jd w' r s a.2 m fw fa) := by
  obtain ⟨x, hx⟩ : ∃ x, x = hexP s 4 0 p := ⟨_, rfl⟩
  rw [← hx]
  have HX : Hid (0 < 16 ^ 0 ∧ x = hexP s (4 - 0) 0 (p + 0)) := Lib.hid ⟨by decide, hx⟩
  have HD : Hid (Jd w r s (p + 0) m fw fa) := Lib.hid h
  have hsz := h.hs
  clear hx h
  go_enter Tryz.func152, Tryz.ntmps152
  go_wp2_with fail
  go_loopw [4, 5, 6] (fun nv _ kv wr => ∃ j n : Nat, j ≤ 4 ∧ nv = .int .i32 n ∧ kv = .int .i64 j ∧ Hid (n < 16 ^ j ∧ x = hexP s (4 - j) n (p + j)) ∧ Hid (Jd wr r s (p + j) m fw fa) ∧ Hid (Mod (JF r) w wr)) (fun _ _ kv _ => 4 - (intOf kv).toNat)
  case atStart => exact ⟨0, 0, by omega, rfl, rfl, HX, HD, Lib.hid (Mod.refl _ _)⟩
  case round =>
    obtain ⟨j, n, hj, rfl, rfl, HXj, HR, HM⟩ := hrel
    clear HX HD
    obtain ⟨q, hq⟩ : ∃ q, q = p + j := ⟨_, rfl⟩
    have HQ := Lib.hid hq
    rw [← hq] at HXj HR
    clear hq
    have hqs := HR.out.hp
    have hmq := HR.out.hm
    by_cases hlt : j < 4
    · have hi : (j : Int) < 4 := by omega
      obtain ⟨hw', hw⟩ := wr_sm (x := (j : Int) + 1) (by omega) (by omega)
      obtain ⟨hq', hqw⟩ := wr_sm (x := (q : Int) + 1) (by omega) (by omega)
      have hX2 := HXj.out.2
      rw [show 4 - j = (4 - (j + 1)) + 1 by omega, hexP] at hX2
      have hn16 : n < 65536 := Nat.lt_of_lt_of_le HXj.out.1 (by
        have : (16 : Nat) ^ j ≤ 16 ^ 4 := Nat.pow_le_pow_right (by decide) hj
        simpa using this)
      have HNW := jnow_any HR.out
      obtain ⟨c, hc⟩ : ∃ c, nowP s q = c := ⟨_, rfl⟩
      rw [hc] at HNW hX2
      obtain ⟨y, hy⟩ : ∃ y, Lib.indexByte hexAbc c = y := ⟨_, rfl⟩
      have hnone := hex_none c
      rw [hy] at hnone
      have HI : ∀ W, Calls Tryz.prog 64 #[.string ⟨#[48, 49, 50, 51, 52, 53, 54, 55, 56, 57, 97, 98, 99, 100, 101, 102, 48, 49, 50, 51, 52, 53, 54, 55, 56, 57, 65, 66, 67, 68, 69, 70]⟩, .int .u8 (c.toNat : Int)] W fun e w' => e = .returned (.int .i64 y) ∧ w' = W := fun W => by
        have := idx_any ⟨#[48, 49, 50, 51, 52, 53, 54, 55, 56, 57, 97, 98, 99, 100, 101, 102, 48, 49, 50, 51, 52, 53, 54, 55, 56, 57, 65, 66, 67, 68, 69, 70]⟩ c W
        rw [bl_eq, show (⟨#[48, 49, 50, 51, 52, 53, 54, 55, 56, 57, 97, 98, 99, 100, 101, 102, 48, 49, 50, 51, 52, 53, 54, 55, 56, 57, 65, 66, 67, 68, 69, 70]⟩ : ByteArray).data.toList = hexAbc from rfl, hy] at this
        exact this
      cases hv : hexV c with
      | none =>
        rw [hv] at hX2 hnone
        simp only at hX2
        subst hX2
        have hyy : decide (y < 0) = true := hnone
        clear hnone hv hy hc HXj
        go_wp2_with fail
        refine HNW.mono ?_
        rintro _ w2 ⟨rfl, hb⟩
        have HB2 := Lib.hid hb
        have HS0 : Hid (JS r s q m fw fa w2 w2.drew) := Lib.hid (JS.mk (HR.out.under hb) (Below.refl w2.heap.size w2).drew)
        clear hb HNW
        go_wp2_with fail
        refine (HI _).mono ?_
        rintro _ w9 ⟨rfl, e9⟩
        have e9 := e9.symm
        subst e9
        by_cases hps : q < s.size
        · have hg : decide ((s.size : Int) ≤ (q : Int)) = false := by simp; omega
          have hg2 : ¬ s.size ≤ q := by omega
          go_wp2_with fail
          refine wp_region_noPanic ?_
          refine wp_region_held_drew (S := (fun W => Hid (Jd W r s q m fw fa ∧ Below w2.heap.size w2 W) ∧ W.cell? ⟨r, 0, none⟩ = some (.string s) ∧ W.cell? ⟨r, 1, none⟩ = some (.int .i64 q))) (by kernel_rfl) (by exact HS0.out) (fun hHeld => ?_)
          refine wpAnyH_take (i := 0) (oi := ?oa0) (v := ?va0) ?hia0 (by kernel_rfl) (by kernel_rfl) (by kernel_rfl) (fun _ _ _ h => h) ?hya0 (by assumption) ?resta0
          case hia0 => simp only [gA, gZ]; rfl
          case hya0 =>
            refine Or.inl ⟨by rfl, ?_⟩
            intro w hSw; (try dsimp only at hSw); go_simp <;> (with_reducible rfl)
          (try simp only [Act.put, pA, pZ, pS])
          refine wpAnyH_take (i := 1) (oi := ?oa1) (v := ?va1) ?hia1 (by kernel_rfl) (by kernel_rfl) (by kernel_rfl) (fun _ _ _ h => h) ?hya1 (by assumption) ?resta1
          case hia1 => simp only [gA, gS, gZ]; rfl
          case hya1 =>
            refine Or.inl ⟨by rfl, ?_⟩
            intro w hSw; (try dsimp only at hSw); go_simp <;> (with_reducible rfl)
          (try simp only [Act.put, pA, pZ, pS])
          refine wpAnyH_take (i := 2) (oi := ?oa2) (v := ?va2) ?hia2 (by kernel_rfl) (by kernel_rfl) (by kernel_rfl) (fun _ _ _ h => h) ?hya2 (by assumption) ?resta2
          case hia2 => simp only [gA, gS, gZ]; rfl
          case hya2 =>
            refine Or.inl ⟨by rfl, ?_⟩
            intro w hSw; (try dsimp only at hSw); go_simp <;> (with_reducible rfl)
          (try simp only [Act.put, pA, pZ, pS])
          refine wpAnyH_take (i := 3) (oi := ?oa3) (v := ?va3) ?hia3 (by kernel_rfl) (by kernel_rfl) (by kernel_rfl) (fun _ _ _ h => h) ?hya3 (by assumption) ?resta3
          case hia3 => simp only [gA, gS, gZ]; rfl
          case hya3 =>
            refine Or.inl ⟨by rfl, ?_⟩
            intro w hSw; (try dsimp only at hSw); go_simp <;> (with_reducible rfl)
          (try simp only [Act.put, pA, pZ, pS])
          refine wpAnyH_take (i := 4) (oi := ?oa4) (v := ?va4) ?hia4 (by kernel_rfl) (by kernel_rfl) (by kernel_rfl) (fun _ _ _ h => h) ?hya4 (by assumption) ?resta4
          case hia4 => simp only [gA, gS, gZ]; rfl
          case hya4 =>
            refine Or.inl ⟨by rfl, ?_⟩
            intro w hSw; (try dsimp only at hSw); go_simp <;> (with_reducible rfl)
          (try simp only [Act.put, pA, pZ, pS])
          refine wpAnyH_take (i := 5) (oi := ?oa5) (v := ?va5) ?hia5 (by kernel_rfl) (by kernel_rfl) (by kernel_rfl) (fun _ _ _ h => h) ?hya5 (by assumption) ?resta5
          case hia5 => simp only [gA, gS, gZ]; rfl
          case hya5 =>
            refine Or.inl ⟨by rfl, ?_⟩
            intro w hSw; (try dsimp only at hSw); go_simp <;> (with_reducible rfl)
          (try simp only [Act.put, pA, pZ, pS])
          refine wpAnyH_take (i := 6) (oi := ?oa6) (v := ?va6) ?hia6 (by kernel_rfl) (by kernel_rfl) (by kernel_rfl) (fun _ _ _ h => h) ?hya6 (by assumption) ?resta6
          case hia6 => simp only [gA, gS, gZ]; rfl
          case hya6 =>
            refine Or.inl ⟨by rfl, ?_⟩
            intro w hSw; (try dsimp only at hSw); go_simp <;> (with_reducible rfl)
          (try simp only [Act.put, pA, pZ, pS])
          refine wpAnyH_take (i := 7) (oi := ?oa7) (v := ?va7) ?hia7 (by kernel_rfl) (by kernel_rfl) (by kernel_rfl) (fun _ _ _ h => h) ?hya7 (by assumption) ?resta7
          case hia7 => simp only [gA, gS, gZ]; rfl
          case hya7 =>
            refine Or.inl ⟨by rfl, ?_⟩
            intro w hSw; (try dsimp only at hSw); go_simp <;> (with_reducible rfl)
          (try simp only [Act.put, pA, pZ, pS])
          refine wpAnyH_take (i := 8) (oi := ?oa8) (v := ?va8) ?hia8 (by kernel_rfl) (by kernel_rfl) (by kernel_rfl) (fun _ _ _ h => h) ?hya8 (by assumption) ?resta8
          case hia8 => simp only [gA, gS, gZ]; rfl
          case hya8 =>
            refine Or.inl ⟨by rfl, ?_⟩
            intro w hSw; (try dsimp only at hSw); go_simp <;> (with_reducible rfl)
          (try simp only [Act.put, pA, pZ, pS])
          refine wpAnyH_take (i := 9) (oi := ?oa9) (v := ?va9) ?hia9 (by kernel_rfl) (by kernel_rfl) (by kernel_rfl) (fun _ _ _ h => h) ?hya9 (by assumption) ?resta9
          case hia9 => simp only [gA, gS, gZ]; rfl
          case hya9 =>
            refine Or.inl ⟨by rfl, ?_⟩
            intro w hSw; (try dsimp only at hSw); go_simp <;> (with_reducible rfl)
          (try simp only [Act.put, pA, pZ, pS])
          refine wpAnyH_take (i := 10) (oi := ?oa10) (v := ?va10) ?hia10 (by kernel_rfl) (by kernel_rfl) (by kernel_rfl) (fun _ _ _ h => h) ?hya10 (by assumption) ?resta10
          case hia10 => simp only [gA, gS, gZ]; rfl
          case hya10 =>
            refine Or.inl ⟨by rfl, ?_⟩
            intro w hSw; (try dsimp only at hSw); go_simp <;> (with_reducible rfl)
          (try simp only [Act.put, pA, pZ, pS])
          refine wpAnyH_take (i := 11) (oi := ?oa11) (v := ?va11) ?hia11 (by kernel_rfl) (by kernel_rfl) (by kernel_rfl) (fun _ _ _ h => h) ?hya11 (by assumption) ?resta11
          case hia11 => simp only [gA, gS, gZ]; rfl
          case hya11 =>
            refine Or.inl ⟨by rfl, ?_⟩
            intro w hSw; (try dsimp only at hSw); go_simp <;> (with_reducible rfl)
          (try simp only [Act.put, pA, pZ, pS])
          refine wpAnyH_take (i := 12) (oi := ?oa12) (v := ?va12) ?hia12 (by kernel_rfl) (by kernel_rfl) (by kernel_rfl) (fun _ _ _ h => h) ?hya12 (by assumption) ?resta12
          case hia12 => simp only [gA, gS, gZ]; rfl
          case hya12 =>
            refine Or.inl ⟨by rfl, ?_⟩
            intro w hSw; (try dsimp only at hSw); go_simp <;> (with_reducible rfl)
          (try simp only [Act.put, pA, pZ, pS])
          refine wpAnyH_take (i := 13) (oi := ?oa13) (v := ?va13) ?hia13 (by kernel_rfl) (by kernel_rfl) (by kernel_rfl) (fun _ _ _ h => h) ?hya13 (by assumption) ?resta13
          case hia13 => simp only [gA, gS, gZ]; rfl
          case hya13 =>
            refine Or.inl ⟨by rfl, ?_⟩
            intro w hSw; (try dsimp only at hSw); go_simp <;> (with_reducible rfl)
          (try simp only [Act.put, pA, pZ, pS])
          refine wpAnyH_done (by kernel_rfl) ?_ _
          refine NoPanic.normal ?_
          go_wp2_with fail
          refine (jwrong_any (Lib.hid hHeld).out.1.out.1).mono ?_
          rintro _ w3 ⟨rfl, hjd, hmd⟩
          go_wp2_with fail
          go_ret2
          exact ⟨⟨_, rfl, rfl⟩, ⟨_, _, hjd⟩, ((HM.out.trans (Mod.of_below HB2.out)).trans (Mod.of_below (Lib.hid hHeld).out.1.out.2)).trans hmd⟩
        · have hg : decide ((s.size : Int) ≤ (q : Int)) = true := by simp; omega
          have hg2 : s.size ≤ q := by omega
          go_wp2_with fail
          refine wp_region_noPanic ?_
          refine wp_region_held_drew (S := (fun W => Hid (Jd W r s q m fw fa ∧ Below w2.heap.size w2 W) ∧ W.cell? ⟨r, 0, none⟩ = some (.string s) ∧ W.cell? ⟨r, 1, none⟩ = some (.int .i64 q))) (by kernel_rfl) (by exact HS0.out) (fun hHeld => ?_)
          refine wpAnyH_take (i := 0) (oi := ?ob0) (v := ?vb0) ?hib0 (by kernel_rfl) (by kernel_rfl) (by kernel_rfl) (fun _ _ _ h => h) ?hyb0 (by assumption) ?restb0
          case hib0 => simp only [gA, gZ]; rfl
          case hyb0 =>
            refine Or.inl ⟨by rfl, ?_⟩
            intro w hSw; (try dsimp only at hSw); go_simp <;> (with_reducible rfl)
          (try simp only [Act.put, pA, pZ, pS])
          refine wpAnyH_take (i := 1) (oi := ?ob1) (v := ?vb1) ?hib1 (by kernel_rfl) (by kernel_rfl) (by kernel_rfl) (fun _ _ _ h => h) ?hyb1 (by assumption) ?restb1
          case hib1 => simp only [gA, gS, gZ]; rfl
          case hyb1 =>
            refine Or.inl ⟨by rfl, ?_⟩
            intro w hSw; (try dsimp only at hSw); go_simp <;> (with_reducible rfl)
          (try simp only [Act.put, pA, pZ, pS])
          refine wpAnyH_take (i := 2) (oi := ?ob2) (v := ?vb2) ?hib2 (by kernel_rfl) (by kernel_rfl) (by kernel_rfl) (fun _ _ _ h => h) ?hyb2 (by assumption) ?restb2
          case hib2 => simp only [gA, gS, gZ]; rfl
          case hyb2 =>
            refine Or.inl ⟨by rfl, ?_⟩
            intro w hSw; (try dsimp only at hSw); go_simp <;> (with_reducible rfl)
          (try simp only [Act.put, pA, pZ, pS])
          refine wpAnyH_take (i := 3) (oi := ?ob3) (v := ?vb3) ?hib3 (by kernel_rfl) (by kernel_rfl) (by kernel_rfl) (fun _ _ _ h => h) ?hyb3 (by assumption) ?restb3
          case hib3 => simp only [gA, gS, gZ]; rfl
          case hyb3 =>
            refine Or.inl ⟨by rfl, ?_⟩
            intro w hSw; (try dsimp only at hSw); go_simp <;> (with_reducible rfl)
          (try simp only [Act.put, pA, pZ, pS])
          refine wpAnyH_take (i := 4) (oi := ?ob4) (v := ?vb4) ?hib4 (by kernel_rfl) (by kernel_rfl) (by kernel_rfl) (fun _ _ _ h => h) ?hyb4 (by assumption) ?restb4
          case hib4 => simp only [gA, gS, gZ]; rfl
          case hyb4 =>
            refine Or.inl ⟨by rfl, ?_⟩
            intro w hSw; (try dsimp only at hSw); go_simp <;> (with_reducible rfl)
          (try simp only [Act.put, pA, pZ, pS])
          refine wpAnyH_take (i := 5) (oi := ?ob5) (v := ?vb5) ?hib5 (by kernel_rfl) (by kernel_rfl) (by kernel_rfl) (fun _ _ _ h => h) ?hyb5 (by assumption) ?restb5
          case hib5 => simp only [gA, gS, gZ]; rfl
          case hyb5 =>
            refine Or.inl ⟨by rfl, ?_⟩
            intro w hSw; (try dsimp only at hSw); go_simp <;> (with_reducible rfl)
          (try simp only [Act.put, pA, pZ, pS])
          refine wpAnyH_take (i := 6) (oi := ?ob6) (v := ?vb6) ?hib6 (by kernel_rfl) (by kernel_rfl) (by kernel_rfl) (fun _ _ _ h => h) ?hyb6 (by assumption) ?restb6
          case hib6 => simp only [gA, gS, gZ]; rfl
          case hyb6 =>
            refine Or.inl ⟨by rfl, ?_⟩
            intro w hSw; (try dsimp only at hSw); go_simp <;> (with_reducible rfl)
          (try simp only [Act.put, pA, pZ, pS])
          refine wpAnyH_take (i := 7) (oi := ?ob7) (v := ?vb7) ?hib7 (by kernel_rfl) (by kernel_rfl) (by kernel_rfl) (fun _ _ _ h => h) ?hyb7 (by assumption) ?restb7
          case hib7 => simp only [gA, gS, gZ]; rfl
          case hyb7 =>
            refine Or.inl ⟨by rfl, ?_⟩
            intro w hSw; (try dsimp only at hSw); go_simp <;> (with_reducible rfl)
          (try simp only [Act.put, pA, pZ, pS])
          refine wpAnyH_take (i := 8) (oi := ?ob8) (v := ?vb8) ?hib8 (by kernel_rfl) (by kernel_rfl) (by kernel_rfl) (fun _ _ _ h => h) ?hyb8 (by assumption) ?restb8
          case hib8 => simp only [gA, gS, gZ]; rfl
          case hyb8 =>
            refine Or.inl ⟨by rfl, ?_⟩
            intro w hSw; (try dsimp only at hSw); go_simp <;> (with_reducible rfl)
          (try simp only [Act.put, pA, pZ, pS])
          refine wpAnyH_take (i := 9) (oi := ?ob9) (v := ?vb9) ?hib9 (by kernel_rfl) (by kernel_rfl) (by kernel_rfl) (fun _ _ _ h => h) ?hyb9 (by assumption) ?restb9
          case hib9 => simp only [gA, gS, gZ]; rfl
          case hyb9 =>
            refine Or.inl ⟨by rfl, ?_⟩
            intro w hSw; (try dsimp only at hSw); go_simp <;> (with_reducible rfl)
          (try simp only [Act.put, pA, pZ, pS])
          refine wpAnyH_take (i := 10) (oi := ?ob10) (v := ?vb10) ?hib10 (by kernel_rfl) (by kernel_rfl) (by kernel_rfl) (fun _ _ _ h => h) ?hyb10 (by assumption) ?restb10
          case hib10 => simp only [gA, gS, gZ]; rfl
          case hyb10 =>
            refine Or.inl ⟨by rfl, ?_⟩
            intro w hSw; (try dsimp only at hSw); go_simp <;> (with_reducible rfl)
          (try simp only [Act.put, pA, pZ, pS])
          refine wpAnyH_take (i := 11) (oi := ?ob11) (v := undef) ?hib11 (by kernel_rfl) (by kernel_rfl) (by kernel_rfl) (fun _ _ _ h => h) ?hyb11 (by assumption) ?restb11
          case hib11 => simp only [gA, gS, gZ]; rfl
          case hyb11 => exact Or.inr ⟨by rfl, rfl⟩
          (try simp only [Act.put, pA, pZ, pS])
          refine wpAnyH_take (i := 12) (oi := ?ob12) (v := undef) ?hib12 (by kernel_rfl) (by kernel_rfl) (by kernel_rfl) (fun _ _ _ h => h) ?hyb12 (by assumption) ?restb12
          case hib12 => simp only [gA, gS, gZ]; rfl
          case hyb12 => exact Or.inr ⟨by rfl, rfl⟩
          (try simp only [Act.put, pA, pZ, pS])
          refine wpAnyH_take (i := 13) (oi := ?ob13) (v := ?vb13) ?hib13 (by kernel_rfl) (by kernel_rfl) (by kernel_rfl) (fun _ _ _ h => h) ?hyb13 (by assumption) ?restb13
          case hib13 => simp only [gA, gS, gZ]; rfl
          case hyb13 =>
            refine Or.inl ⟨by rfl, ?_⟩
            intro w hSw; (try dsimp only at hSw); go_simp <;> (with_reducible rfl)
          (try simp only [Act.put, pA, pZ, pS])
          refine wpAnyH_done (by kernel_rfl) ?_ _
          refine NoPanic.normal ?_
          go_wp2_with fail
          refine (jwrong_any (Lib.hid hHeld).out.1.out.1).mono ?_
          rintro _ w3 ⟨rfl, hjd, hmd⟩
          go_wp2_with fail
          go_ret2
          exact ⟨⟨_, rfl, rfl⟩, ⟨_, _, hjd⟩, ((HM.out.trans (Mod.of_below HB2.out)).trans (Mod.of_below (Lib.hid hHeld).out.1.out.2)).trans hmd⟩
      | some d =>
        rw [hv] at hX2 hnone
        simp only at hX2
        have hyy : decide (y < 0) = false := hnone
        have hps : q < s.size := by
          by_cases hh : q < s.size
          · exact hh
          · rw [nowP_end hh] at hc; subst hc; rw [hexV_zero] at hv; cases hv
        have hand := hex_some hv
        rw [hy] at hand
        have hd16 := hexV_lt' hv
        have hor := or16 hn16 hd16
        have hwn : IntKind.i32.wrap ((n : Int) * 16) = (n : Int) * 16 := wr32_sm (by omega) (by omega)
        have hwd : IntKind.i32.wrap (d : Int) = (d : Int) := wr32_sm (by omega) (by omega)
        have HX2 := Lib.hid hX2
        have HN2 : Hid (n * 16 + d < 16 ^ (j + 1)) := Lib.hid (by have := HXj.out.1; rw [Nat.pow_succ]; omega)
        have hg : decide ((s.size : Int) ≤ (q : Int)) = false := by simp; omega
        have hg2 : ¬ s.size ≤ q := by omega
        have HPS := Lib.hid hps
        have HLT := Lib.hid hlt
        clear hnone hv hy hc HXj hX2 hps
        go_wp2_with fail
        refine HNW.mono ?_
        rintro _ w2 ⟨rfl, hb⟩
        have HB2 := Lib.hid hb
        have HS0 : Hid (JS r s q m fw fa w2 w2.drew) := Lib.hid (JS.mk (HR.out.under hb) (Below.refl w2.heap.size w2).drew)
        clear hb HNW
        go_wp2_with fail
        refine (HI _).mono ?_
        rintro _ w9 ⟨rfl, e9⟩
        have e9 := e9.symm
        subst e9
        go_wp2_with fail
        refine wp_region_noPanic ?_
        refine wp_region_held_drew (S := (fun W => Hid (Jd W r s q m fw fa ∧ Below w2.heap.size w2 W) ∧ W.cell? ⟨r, 0, none⟩ = some (.string s) ∧ W.cell? ⟨r, 1, none⟩ = some (.int .i64 q))) (by kernel_rfl) (by exact HS0.out) (fun hHeld => ?_)
        refine wpAnyH_take (i := 0) (oi := ?oc0) (v := ?vc0) ?hic0 (by kernel_rfl) (by kernel_rfl) (by kernel_rfl) (fun _ _ _ h => h) ?hyc0 (by assumption) ?restc0
        case hic0 => simp only [gA, gZ]; rfl
        case hyc0 =>
          refine Or.inl ⟨by rfl, ?_⟩
          intro w hSw; (try dsimp only at hSw); go_simp <;> (with_reducible rfl)
        (try simp only [Act.put, pA, pZ, pS])
        refine wpAnyH_take (i := 1) (oi := ?oc1) (v := ?vc1) ?hic1 (by kernel_rfl) (by kernel_rfl) (by kernel_rfl) (fun _ _ _ h => h) ?hyc1 (by assumption) ?restc1
        case hic1 => simp only [gA, gS, gZ]; rfl
        case hyc1 =>
          refine Or.inl ⟨by rfl, ?_⟩
          intro w hSw; (try dsimp only at hSw); go_simp <;> (with_reducible rfl)
        (try simp only [Act.put, pA, pZ, pS])
        refine wpAnyH_take (i := 2) (oi := ?oc2) (v := ?vc2) ?hic2 (by kernel_rfl) (by kernel_rfl) (by kernel_rfl) (fun _ _ _ h => h) ?hyc2 (by assumption) ?restc2
        case hic2 => simp only [gA, gS, gZ]; rfl
        case hyc2 =>
          refine Or.inl ⟨by rfl, ?_⟩
          intro w hSw; (try dsimp only at hSw); go_simp <;> (with_reducible rfl)
        (try simp only [Act.put, pA, pZ, pS])
        refine wpAnyH_take (i := 3) (oi := ?oc3) (v := ?vc3) ?hic3 (by kernel_rfl) (by kernel_rfl) (by kernel_rfl) (fun _ _ _ h => h) ?hyc3 (by assumption) ?restc3
        case hic3 => simp only [gA, gS, gZ]; rfl
        case hyc3 =>
          refine Or.inl ⟨by rfl, ?_⟩
          intro w hSw; (try dsimp only at hSw); go_simp <;> (with_reducible rfl)
        (try simp only [Act.put, pA, pZ, pS])
        refine wpAnyH_take (i := 4) (oi := ?oc4) (v := ?vc4) ?hic4 (by kernel_rfl) (by kernel_rfl) (by kernel_rfl) (fun _ _ _ h => h) ?hyc4 (by assumption) ?restc4
        case hic4 => simp only [gA, gS, gZ]; rfl
        case hyc4 =>
          refine Or.inl ⟨by rfl, ?_⟩
          intro w hSw; (try dsimp only at hSw); go_simp <;> (with_reducible rfl)
        (try simp only [Act.put, pA, pZ, pS])
        refine wpAnyH_take (i := 5) (oi := ?oc5) (v := ?vc5) ?hic5 (by kernel_rfl) (by kernel_rfl) (by kernel_rfl) (fun _ _ _ h => h) ?hyc5 (by assumption) ?restc5
        case hic5 => simp only [gA, gS, gZ]; rfl
        case hyc5 =>
          refine Or.inl ⟨by rfl, ?_⟩
          intro w hSw; (try dsimp only at hSw); go_simp <;> (with_reducible rfl)
        (try simp only [Act.put, pA, pZ, pS])
        refine wpAnyH_take (i := 6) (oi := ?oc6) (v := ?vc6) ?hic6 (by kernel_rfl) (by kernel_rfl) (by kernel_rfl) (fun _ _ _ h => h) ?hyc6 (by assumption) ?restc6
        case hic6 => simp only [gA, gS, gZ]; rfl
        case hyc6 =>
          refine Or.inl ⟨by rfl, ?_⟩
          intro w hSw; (try dsimp only at hSw); go_simp <;> (with_reducible rfl)
        (try simp only [Act.put, pA, pZ, pS])
        refine wpAnyH_take (i := 7) (oi := ?oc7) (v := ?vc7) ?hic7 (by kernel_rfl) (by kernel_rfl) (by kernel_rfl) (fun _ _ _ h => h) ?hyc7 (by assumption) ?restc7
        case hic7 => simp only [gA, gS, gZ]; rfl
        case hyc7 =>
          refine Or.inl ⟨by rfl, ?_⟩
          intro w hSw; (try dsimp only at hSw); go_simp <;> (with_reducible rfl)
        (try simp only [Act.put, pA, pZ, pS])
        refine wpAnyH_take (i := 8) (oi := ?oc8) (v := ?vc8) ?hic8 (by kernel_rfl) (by kernel_rfl) (by kernel_rfl) (fun _ _ _ h => h) ?hyc8 (by assumption) ?restc8
        case hic8 => simp only [gA, gS, gZ]; rfl
        case hyc8 =>
          refine Or.inl ⟨by rfl, ?_⟩
          intro w hSw; (try dsimp only at hSw); go_simp <;> (with_reducible rfl)
        (try simp only [Act.put, pA, pZ, pS])
        refine wpAnyH_take (i := 9) (oi := ?oc9) (v := ?vc9) ?hic9 (by kernel_rfl) (by kernel_rfl) (by kernel_rfl) (fun _ _ _ h => h) ?hyc9 (by assumption) ?restc9
        case hic9 => simp only [gA, gS, gZ]; rfl
        case hyc9 =>
          refine Or.inl ⟨by rfl, ?_⟩
          intro w hSw; (try dsimp only at hSw); go_simp <;> (with_reducible rfl)
        (try simp only [Act.put, pA, pZ, pS])
        refine wpAnyH_take (i := 10) (oi := ?oc10) (v := ?vc10) ?hic10 (by kernel_rfl) (by kernel_rfl) (by kernel_rfl) (fun _ _ _ h => h) ?hyc10 (by assumption) ?restc10
        case hic10 => simp only [gA, gS, gZ]; rfl
        case hyc10 =>
          refine Or.inl ⟨by rfl, ?_⟩
          intro w hSw; (try dsimp only at hSw); go_simp <;> (with_reducible rfl)
        (try simp only [Act.put, pA, pZ, pS])
        refine wpAnyH_take (i := 11) (oi := ?oc11) (v := ?vc11) ?hic11 (by kernel_rfl) (by kernel_rfl) (by kernel_rfl) (fun _ _ _ h => h) ?hyc11 (by assumption) ?restc11
        case hic11 => simp only [gA, gS, gZ]; rfl
        case hyc11 =>
          refine Or.inl ⟨by rfl, ?_⟩
          intro w hSw; (try dsimp only at hSw); go_simp <;> (with_reducible rfl)
        (try simp only [Act.put, pA, pZ, pS])
        refine wpAnyH_take (i := 12) (oi := ?oc12) (v := ?vc12) ?hic12 (by kernel_rfl) (by kernel_rfl) (by kernel_rfl) (fun _ _ _ h => h) ?hyc12 (by assumption) ?restc12
        case hic12 => simp only [gA, gS, gZ]; rfl
        case hyc12 =>
          refine Or.inl ⟨by rfl, ?_⟩
          intro w hSw; (try dsimp only at hSw); go_simp <;> (with_reducible rfl)
        (try simp only [Act.put, pA, pZ, pS])
        refine wpAnyH_take (i := 13) (oi := ?oc13) (v := ?vc13) ?hic13 (by kernel_rfl) (by kernel_rfl) (by kernel_rfl) (fun _ _ _ h => h) ?hyc13 (by assumption) ?restc13
        case hic13 => simp only [gA, gS, gZ]; rfl
        case hyc13 =>
          refine Or.inl ⟨by rfl, ?_⟩
          intro w hSw; (try dsimp only at hSw); go_simp <;> (with_reducible rfl)
        (try simp only [Act.put, pA, pZ, pS])
        refine wpAnyH_done (by kernel_rfl) ?_ _
        refine NoPanic.normal ?_
        have HW2 := Lib.hid (hHeld.1.out)
        have ff := free_blk HW2.out.1.blk 1
        obtain ⟨c0, c1, -, -, -⟩ := HW2.out.1.cells
        go_wp2_with fail
        go_roundw
        case rel => exact ⟨j + 1, n * 16 + d, HLT.out, by go_num, by go_num, Lib.hid ⟨HN2.out, by rw [HX2.out]; rw [HQ.out]; rfl⟩, Lib.hid (by rw [show p + (j + 1) = q + 1 by have := HQ.out; omega]; exact HW2.out.1.setAt (by have := HPS.out; omega) (by omega) (by omega)), Lib.hid (((HM.out.trans (Mod.of_below HB2.out)).trans (Mod.of_below HW2.out.2)).trans (setJ_mod _ _ _ _))⟩
        case measure => have := HLT.out; simp [intOf]; omega
    · obtain rfl : j = 4 := by omega
      have hX2 := HXj.out.2
      rw [show 4 - 4 = 0 by omega, hexP] at hX2
      subst hX2
      go_wp2_with fail
      go_ret2
      exact ⟨⟨rfl, HR.out⟩, HM.out⟩
end Go.Proofs.YtnaefnojmiolbaaGreatDoor
