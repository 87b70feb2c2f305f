/-
  JSON: the walk of text.
-/
import Derived.Test.YtnaefnojmiolbaaGreatDoorJw24
namespace Go.Proofs.YtnaefnojmiolbaaGreatDoor
open Go.RowKit

attribute [local go_sem] yld_undef
abbrev noText (y : Value) : Prop := y = .tuple #[.string ⟨#[]⟩, .bool false]
theorem decGo_at {s : ByteArray} {q : Nat} (h : q < s.size) : Lib.decodeGo (s.extract q s.size) = decAt s q := by
  have hsz : (s.extract q s.size).size = s.size - q := by rw [ByteArray.size_extract]; omega
  have hl : (s.extract q s.size).toList = s.toList.drop q := by
    have := numText_list s q s.size
    unfold numText at this
    rw [this, List.take_of_length_le (by rw [size_toList]; exact Nat.le_refl _)]
  unfold Lib.decodeGo decAt Lib.decodeL
  rw [if_neg (by omega), ← hl]
  congr 1
  exact (str_of _).symm
theorem jdec_any {w : World} {r : Nat} {s : ByteArray} {q m : Nat} {fw fa : Int} (h : Jd w r s q m fw fa) (hq : q < s.size) :
    Calls Tryz.prog 102 #[.string (s.extract q s.size)] w fun e w' => e = .returned (.tuple #[.int .i32 ((decAt s q).1 : Int), .int .i64 ((decAt s q).2 : Int)]) ∧ Below w.heap.size w w' := by
  have := Tryz.utf8_DecodeRuneInString (s.extract q s.size) w h.tab.utf
  rw [decGo_at hq] at this
  exact this
theorem dec_facts {s : ByteArray} {j : Nat} (h : j < s.size) : ∃ cr n : Nat, Hid (n ≤ s.size - j ∧ 1 ≤ n ∧ cr ≤ 1114111) ∧ Hid (¬ (cr = 65533 ∧ n = 1) → (Lib.encodeRune cr).length = n) ∧ Hid (decAt s j = (cr, n)) := by
  have hne0 : s.toList.drop j ≠ [] := by
    intro e
    have := congrArg List.length e
    rw [List.length_drop, size_toList] at this
    simp at this
    omega
  have hle := Lib.decodeL_le _ hne0
  rw [List.length_drop, size_toList] at hle
  refine ⟨(decAt s j).1, (decAt s j).2, Lib.hid ⟨hle, Lib.decodeL_width _, Lib.decodeL_rune _⟩, Lib.hid fun hv => ?_, Lib.hid rfl⟩
  have he := Lib.encode_decode _ hne0 hv
  show (Lib.encodeRune ((Lib.decodeL (s.toList.drop j)).1 : Int)).length = (Lib.decodeL (s.toList.drop j)).2
  rw [he, List.length_take, List.length_drop, size_toList]
  omega
theorem below_up {w w1 w2 : World} {r : Nat} {B : Nat} (h : Mod (JF r) w w1) (k : KW B w1 w2) (hB : w.heap.size ≤ B) : Mod (JF r) w w2 := Mod.trans' h k fun i hi e => absurd e.1 (by omega)
theorem jb_up {w w1 w2 : World} {r b : Nat} (h : Mod (JF r) w w1) (k : Mod (JB r b w1) w1 w2) (hB : w.heap.size ≤ b) : Mod (JF r) w w2 := Mod.trans' h k fun i hi e => e.elim id fun y => absurd y.1 (by omega)
set_option maxHeartbeats 3200000 in
set_option maxRecDepth 100000 in
theorem jtext_any {w : World} {r : Nat} {s : ByteArray} {p m : Nat} {fw fa : Int} (h : Jd w r s p m fw fa) :
    Calls Tryz.prog 72 #[.pointer (some ⟨r, 0, none⟩)] w (JPost (JF r) w r s (jtextP s p) noText fun a e w' => e = .returned (.tuple #[.string (str a.1), .bool true]) ∧ Jd w' r s a.2 m fw fa) := by
  obtain ⟨x, hx⟩ : ∃ x, x = jtextP s p := ⟨_, rfl⟩
  rw [← hx]
  unfold jtextP at hx
  have hsz := h.hs
  have hps := h.hp
  have HR6 := Lib.hid (show 6 ≤ w.heap.size from by have := h.r6; have := lt_of_block h.blk; omega)
  have HJ1 : Hid (Jd (w.alloc (.cells #[.pointer none, .slice none 0 0] 56)) r s p m fw fa) := Lib.hid (h.under (below_alloc1 w _))
  have HB1 : Hid (BB (w.alloc (.cells #[.pointer none, .slice none 0 0] 56)) w.heap.size []) := Lib.hid ⟨.pointer none, .slice none 0 0, ⟨heap_alloc_new _ _, Owns.empty _ _ _, by simp [Value.ownBlock], .inl rfl, tb56⟩, by simp [Value.ownBlock], fun _ => rfl⟩
  have HM1 : Hid (Mod (JF r) w (w.alloc (.cells #[.pointer none, .slice none 0 0] 56))) := Lib.hid ((Mod.refl _ w).alloc _)
  have e34 : (⟨#[34]⟩ : ByteArray).toList = [34] := str_toList [34]
  have HC := jmust_any ⟨#[34]⟩ (by rw [e34]; decide) (by decide) HJ1.out
  rw [e34] at HC
  clear h
  cases hm : mustP s [34] p with
  | error er =>
    obtain ⟨c, a⟩ := er
    rw [hm] at hx HC
    simp only at hx
    subst hx
    clear hm
    go_enter Tryz.func72, Tryz.ntmps72
    go_wp2_with fail
    refine HC.mono ?_
    rintro _ w2 ⟨⟨_, rfl, rfl⟩, ⟨p2, m2, hj2⟩, hm2⟩
    go_wp2_with fail
    go_ret2
    exact ⟨⟨_, rfl, rfl⟩, ⟨_, _, hj2⟩, HM1.out.trans hm2⟩
  | ok q =>
    rw [hm] at hx HC
    simp only at hx
    have hq := mustP_ok hm
    simp only [List.length_cons, List.length_nil] at hq
    have hqs := hq.2 hps
    have hqp := hq.1
    have HX : Hid (x = jtextL s (s.size + 1) [] q ∧ s.size + 1 ≤ s.size + 1 + q ∧ ([] : Bs).length ≤ q) := Lib.hid ⟨hx, by omega, by simp⟩
    clear hx hm hq
    go_enter Tryz.func72, Tryz.ntmps72
    go_wp2_with fail
    refine HC.mono ?_
    rintro _ w2 ⟨⟨rfl, hj2⟩, hm2⟩
    have HJ2 := Lib.hid hj2
    have HB2 := Lib.hid (HB1.out.jf HJ1.out hm2)
    have HM2 : Hid (Mod (JF r) w w2) := Lib.hid (HM1.out.trans hm2)
    clear hj2 hm2 HC HJ1 HB1 HM1
    go_wp2_with fail
    go_loopg [5, 6, 13, 31] (s.size - q) (fun g _ _ _ _ wr => ∃ (j k : Nat) (l : Bs), g = s.size - j ∧ Hid (x = jtextL s k l j ∧ s.size + 1 ≤ k + j ∧ l.length ≤ j) ∧ Hid (Jd wr r s j m fw fa) ∧ Hid (BB wr w.heap.size l) ∧ Hid (Mod (JF r) w wr))
    case atStart => exact ⟨q, s.size + 1, [], rfl, HX, HJ2, HB2, HM2⟩
    case round =>
      obtain ⟨j, k, l, rfl, HXj, HJ, HB, HM⟩ := hrel
      clear HX HJ2 HB2 HM2 hqs hqp
      have hjs := HJ.out.hp
      have hmj := HJ.out.hm
      have hlj := HXj.out.2.2
      have hkj := HXj.out.2.1
      obtain ⟨k, rfl⟩ : ∃ k', k = k' + 1 := ⟨k - 1, by omega⟩
      have hX2 := HXj.out.1
      rw [jtextL] at hX2
      have HN1 := jnow_any HJ.out
      obtain ⟨c, hc⟩ : ∃ c, nowP s j = c := ⟨_, rfl⟩
      rw [hc] at HN1 hX2
      have HNC := Lib.hid hc
      obtain ⟨hj', hjw⟩ := wr_sm (x := (j : Int) + 1) (by omega) (by omega)
      by_cases h34 : c = 34
      · have hne : ((c.toNat : Int) != 34) = false := by rw [h34]; rfl
        rw [if_pos h34] at hX2
        subst hX2
        have HJL : Hid (j < s.size) := Lib.hid (by
          by_cases hh : j < s.size
          · exact hh
          · rw [nowP_end hh] at hc; rw [← hc] at h34; exact absurd h34 (by decide))
        clear hc h34
        go_wp2_with fail
        refine HN1.mono ?_
        rintro _ w3 ⟨rfl, hb3⟩
        have HJ3 := Lib.hid (HJ.out.under hb3)
        have HB3 := Lib.hid (HB.out.below hb3)
        have HM3 := Lib.hid (HM.out.trans (Mod.of_below hb3))
        obtain ⟨c0, c1, -, -, -⟩ := HJ3.out.cells
        have ff := free_blk HJ3.out.blk 1
        clear hb3 HN1 HJ HB HM
        go_wp2_with fail
        have HJ4 := Lib.hid (HJ3.out.setAt (q := j + 1) (by have := HJL.out; omega) (by omega) (v := (j : Int) + 1) (by omega))
        have HB4 := Lib.hid (HB3.out.jf HJ3.out (setJ_mod _ _ 1 (.int .i64 ((j : Int) + 1))))
        have HM4 := Lib.hid (HM3.out.trans (setJ_mod w3 r 1 (.int .i64 ((j : Int) + 1))))
        refine (bstringB HB4.out).mono ?_
        rintro _ w5 ⟨rfl, hk5⟩
        have HK5 := Lib.hid hk5
        clear hk5
        go_wp2_with fail
        go_ret2
        exact ⟨⟨rfl, HJ4.out.kw HK5.out (by have := HR6.out; omega)⟩, below_up HM4.out HK5.out (by omega)⟩
      have hne : ((c.toNat : Int) != 34) = true := by
        rw [bne_iff_ne]; intro e; exact h34 (UInt8.toNat_inj.1 (by simpa using (by omega : c.toNat = 34)))
      rw [if_neg h34] at hX2
      obtain ⟨lt, hlt⟩ : ∃ lt, decide ((c.toNat : Int) < 32) = lt := ⟨_, rfl⟩
      have hlt' : decide (c.toNat < 32) = lt := by rw [← hlt]; simp; omega
      obtain ⟨bd, hbd⟩ : ∃ bd : Bool, (bd = true ↔ (¬ j < s.size ∨ c < 32)) := ⟨decide (¬ j < s.size ∨ c < 32), by simp⟩
      have hltc : lt = true ↔ c < 32 := by rw [← hlt']; simp [UInt8.lt_iff_toNat_lt]
      have HBD := Lib.hid hbd
      have HLTC := Lib.hid hltc
      have HX1 := Lib.hid hX2
      have HNW : ∀ w0 W, JS r s j m fw fa w0 W → Calls Tryz.prog 73 #[.pointer (some ⟨r, 0, none⟩)] W fun e w' => e = .returned (.int .u8 c.toNat) ∧ Below W.heap.size W w' := fun w0 W hS => by
        have := jnow_any hS.1.out.1
        rw [HNC.out] at this
        exact this
      clear hc hX2 hbd hltc h34
      go_wp2_with fail
      refine HN1.mono ?_
      rintro _ w3 ⟨rfl, hb3⟩
      have HJ3 := Lib.hid (HJ.out.under hb3)
      have HB3 := Lib.hid (HB.out.below hb3)
      have HM3 := Lib.hid (HM.out.trans (Mod.of_below hb3))
      have HS0 : Hid (JS r s j m fw fa w3 w3.drew) := Lib.hid (JS.mk HJ3.out (Below.refl w3.heap.size w3).drew)
      clear hb3 HN1 HJ HB HM
      go_wp2_with fail
      go_cut [13] from 13 to 28 (fun s13 wx => s13 = .bool bd ∧ Hid (JS r s j m fw fa w3 wx))
      case first =>
        by_cases hin : j < s.size
        · have hi2 : ¬ s.size ≤ j := by omega
          have hi3 : decide ((s.size : Int) ≤ (j : Int)) = false := by simp; omega
          have HBL : Hid (bd = lt) := Lib.hid (by
            rw [Bool.eq_iff_iff, HBD.out, HLTC.out]
            exact ⟨fun h => h.resolve_left (fun x => x hin), .inr⟩)
          refine wp_region_noPanic ?_
          refine wp_region_held_drew (S := (fun W => Hid (Jd W r s j m fw fa ∧ Below w3.heap.size w3 W) ∧ W.cell? ⟨r, 0, none⟩ = some (.string s) ∧ W.cell? ⟨r, 1, none⟩ = some (.int .i64 j))) (by kernel_rfl) (by exact HS0.out) (fun hHeld => ?_)
          refine wpAnyH_take (i := 0) (oi := ?oa0) (v := ?va0) ?hia0 (by kernel_rfl) (by kernel_rfl) (by kernel_rfl) (fun _ _ _ h => h) ?hya0 (by assumption) ?resta0
          case hia0 => simp only [gA, gZ]; rfl
          case hya0 =>
            refine Or.inl ⟨by rfl, ?_⟩
            intro w hSw; (try dsimp only at hSw); go_simp <;> (with_reducible rfl)
          (try simp only [Act.put, pA, pZ, pS])
          refine wpAnyH_take (i := 1) (oi := ?oa1) (v := ?va1) ?hia1 (by kernel_rfl) (by kernel_rfl) (by kernel_rfl) (fun _ _ _ h => h) ?hya1 (by assumption) ?resta1
          case hia1 => simp only [gA, gS, gZ]; rfl
          case hya1 =>
            refine Or.inl ⟨by rfl, ?_⟩
            intro w hSw; (try dsimp only at hSw); go_simp <;> (with_reducible rfl)
          (try simp only [Act.put, pA, pZ, pS])
          refine wpAnyH_take (i := 2) (oi := ?oa2) (v := ?va2) ?hia2 (by kernel_rfl) (by kernel_rfl) (by kernel_rfl) (fun _ _ _ h => h) ?hya2 (by assumption) ?resta2
          case hia2 => simp only [gA, gS, gZ]; rfl
          case hya2 =>
            refine Or.inl ⟨by rfl, ?_⟩
            intro w hSw; (try dsimp only at hSw); go_simp <;> (with_reducible rfl)
          (try simp only [Act.put, pA, pZ, pS])
          refine wpAnyH_take (i := 3) (oi := ?oa3) (v := ?va3) ?hia3 (by kernel_rfl) (by kernel_rfl) (by kernel_rfl) (fun _ _ _ h => h) ?hya3 (by assumption) ?resta3
          case hia3 => simp only [gA, gS, gZ]; rfl
          case hya3 =>
            refine Or.inl ⟨by rfl, ?_⟩
            intro w hSw; (try dsimp only at hSw); go_simp <;> (with_reducible rfl)
          (try simp only [Act.put, pA, pZ, pS])
          refine wpAnyH_take (i := 4) (oi := ?oa4) (v := ?va4) ?hia4 (by kernel_rfl) (by kernel_rfl) (by kernel_rfl) (fun _ _ _ h => h) ?hya4 (by assumption) ?resta4
          case hia4 => simp only [gA, gS, gZ]; rfl
          case hya4 =>
            refine Or.inl ⟨by rfl, ?_⟩
            intro w hSw; (try dsimp only at hSw); go_simp <;> (with_reducible rfl)
          (try simp only [Act.put, pA, pZ, pS])
          refine wpAnyH_take (i := 5) (oi := ?oa5) (v := ?va5) ?hia5 (by kernel_rfl) (by kernel_rfl) (by kernel_rfl) (fun _ _ _ h => h) ?hya5 (by assumption) ?resta5
          case hia5 => simp only [gA, gS, gZ]; rfl
          case hya5 =>
            refine Or.inl ⟨by rfl, ?_⟩
            intro w hSw; (try dsimp only at hSw); go_simp <;> (with_reducible rfl)
          (try simp only [Act.put, pA, pZ, pS])
          refine wpAnyH_take (i := 6) (oi := ?oa6) (v := ?va6) ?hia6 (by kernel_rfl) (by kernel_rfl) (by kernel_rfl) (fun _ _ _ h => h) ?hya6 (by assumption) ?resta6
          case hia6 => simp only [gA, gS, gZ]; rfl
          case hya6 =>
            refine Or.inl ⟨by rfl, ?_⟩
            intro w hSw; (try dsimp only at hSw); go_simp <;> (with_reducible rfl)
          (try simp only [Act.put, pA, pZ, pS])
          refine wpAnyH_take (i := 7) (oi := ?oa7) (v := ?va7) ?hia7 (by kernel_rfl) (by kernel_rfl) (by kernel_rfl) (fun _ _ _ h => h) ?hya7 (by assumption) ?resta7
          case hia7 => simp only [gA, gS, gZ]; rfl
          case hya7 =>
            refine Or.inl ⟨by rfl, ?_⟩
            intro w hSw; (try dsimp only at hSw); go_simp <;> (with_reducible rfl)
          (try simp only [Act.put, pA, pZ, pS])
          refine wpAnyH_take (i := 8) (oi := ?oa8) (v := ?va8) ?hia8 (by kernel_rfl) (by kernel_rfl) (by kernel_rfl) (fun _ _ _ h => h) ?hya8 (by assumption) ?resta8
          case hia8 => simp only [gA, gS, gZ]; rfl
          case hya8 =>
            refine Or.inl ⟨by rfl, ?_⟩
            intro w hSw; (try dsimp only at hSw); go_simp <;> (with_reducible rfl)
          (try simp only [Act.put, pA, pZ, pS])
          refine wpAnyH_take (i := 9) (oi := ?oa9) (v := ?va9) ?hia9 (by kernel_rfl) (by kernel_rfl) (by kernel_rfl) (fun _ _ _ h => h) ?hya9 (by assumption) ?resta9
          case hia9 => simp only [gA, gS, gZ]; rfl
          case hya9 =>
            refine Or.inl ⟨by rfl, ?_⟩
            intro w hSw; (try dsimp only at hSw); go_simp <;> (with_reducible rfl)
          (try simp only [Act.put, pA, pZ, pS])
          refine wpAnyH_take (i := 10) (oi := ?oa10) (v := ?va10) ?hia10 (by kernel_rfl) (by kernel_rfl) (by kernel_rfl) (fun _ _ _ h => h) ?hya10 (by assumption) ?resta10
          case hia10 => simp only [gA, gS, gZ]; rfl
          case hya10 =>
            refine Or.inl ⟨by rfl, ?_⟩
            intro w hSw; (try dsimp only at hSw); go_simp <;> (with_reducible rfl)
          (try simp only [Act.put, pA, pZ, pS])
          refine wpAnyH_take (i := 11) (oi := ?oa11) (v := ?va11) ?hia11 (by kernel_rfl) (by kernel_rfl) (by kernel_rfl) (fun _ _ _ h => h) ?hya11 (by assumption) ?resta11
          case hia11 => simp only [gA, gS, gZ]; rfl
          case hya11 =>
            refine Or.inl ⟨by rfl, ?_⟩
            intro w hSw; (try dsimp only at hSw); go_simp <;> (with_reducible rfl)
          (try simp only [Act.put, pA, pZ, pS])
          refine wpAnyH_ready (rs := [12]) (by kernel_rfl) (by simp) ?_
          refine AllReadyH.cons rfl (fun K hK => ?_) AllReadyH.nil
          go_simp
          refine (HNW _ _ hHeld).mono ?_; rintro _ w7 ⟨rfl, hb⟩; have HS1 : Hid (JS r s j m fw fa w3 w7) := Lib.hid (JS.next hHeld hb); clear hb
          refine hK.out _ _ HS1.out (fun hHelda12 => ?_)
          clear hK K
          (try simp only [Act.put, pA, pZ, pS])
          refine wpAnyH_take (i := 13) (oi := ?oa13) (v := ?va13) ?hia13 (by kernel_rfl) (by kernel_rfl) (by kernel_rfl) (fun _ _ _ h => h) ?hya13 (by assumption) ?resta13
          case hia13 => simp only [gA, gS, gZ]; rfl
          case hya13 =>
            refine Or.inl ⟨by rfl, ?_⟩
            intro w hSw; (try dsimp only at hSw); go_simp <;> (with_reducible rfl)
          (try simp only [Act.put, pA, pZ, pS])
          refine wpAnyH_take (i := 14) (oi := ?oa14) (v := ?va14) ?hia14 (by kernel_rfl) (by kernel_rfl) (by kernel_rfl) (fun _ _ _ h => h) ?hya14 (by assumption) ?resta14
          case hia14 => simp only [gA, gS, gZ]; rfl
          case hya14 =>
            refine Or.inl ⟨by rfl, ?_⟩
            intro w hSw; (try dsimp only at hSw); go_simp <;> (with_reducible rfl)
          (try simp only [Act.put, pA, pZ, pS])
          refine wpAnyH_take (i := 15) (oi := ?oa15) (v := ?va15) ?hia15 (by kernel_rfl) (by kernel_rfl) (by kernel_rfl) (fun _ _ _ h => h) ?hya15 (by assumption) ?resta15
          case hia15 => simp only [gA, gS, gZ]; rfl
          case hya15 =>
            refine Or.inl ⟨by rfl, ?_⟩
            intro w hSw; (try dsimp only at hSw); go_simp <;> (with_reducible rfl)
          (try simp only [Act.put, pA, pZ, pS])
          refine wpAnyH_done (by kernel_rfl) ?_ _
          refine NoPanic.normal ?_
          go_wp2_with fail
          go_meet
          exact ⟨by rw [HBL.out], HS1⟩
        · have hi2 : s.size ≤ j := by omega
          have hi3 : decide ((s.size : Int) ≤ (j : Int)) = true := by simp; omega
          have HBL : Hid (bd = true) := Lib.hid (HBD.out.2 (.inl hin))
          refine wp_region_noPanic ?_
          refine wp_region_held_drew (S := (fun W => Hid (Jd W r s j m fw fa ∧ Below w3.heap.size w3 W) ∧ W.cell? ⟨r, 0, none⟩ = some (.string s) ∧ W.cell? ⟨r, 1, none⟩ = some (.int .i64 j))) (by kernel_rfl) (by exact HS0.out) (fun hHeld => ?_)
          refine wpAnyH_take (i := 0) (oi := ?oe0) (v := ?ve0) ?hie0 (by kernel_rfl) (by kernel_rfl) (by kernel_rfl) (fun _ _ _ h => h) ?hye0 (by assumption) ?reste0
          case hie0 => simp only [gA, gZ]; rfl
          case hye0 =>
            refine Or.inl ⟨by rfl, ?_⟩
            intro w hSw; (try dsimp only at hSw); go_simp <;> (with_reducible rfl)
          (try simp only [Act.put, pA, pZ, pS])
          refine wpAnyH_take (i := 1) (oi := ?oe1) (v := ?ve1) ?hie1 (by kernel_rfl) (by kernel_rfl) (by kernel_rfl) (fun _ _ _ h => h) ?hye1 (by assumption) ?reste1
          case hie1 => simp only [gA, gS, gZ]; rfl
          case hye1 =>
            refine Or.inl ⟨by rfl, ?_⟩
            intro w hSw; (try dsimp only at hSw); go_simp <;> (with_reducible rfl)
          (try simp only [Act.put, pA, pZ, pS])
          refine wpAnyH_take (i := 2) (oi := ?oe2) (v := ?ve2) ?hie2 (by kernel_rfl) (by kernel_rfl) (by kernel_rfl) (fun _ _ _ h => h) ?hye2 (by assumption) ?reste2
          case hie2 => simp only [gA, gS, gZ]; rfl
          case hye2 =>
            refine Or.inl ⟨by rfl, ?_⟩
            intro w hSw; (try dsimp only at hSw); go_simp <;> (with_reducible rfl)
          (try simp only [Act.put, pA, pZ, pS])
          refine wpAnyH_take (i := 3) (oi := ?oe3) (v := ?ve3) ?hie3 (by kernel_rfl) (by kernel_rfl) (by kernel_rfl) (fun _ _ _ h => h) ?hye3 (by assumption) ?reste3
          case hie3 => simp only [gA, gS, gZ]; rfl
          case hye3 =>
            refine Or.inl ⟨by rfl, ?_⟩
            intro w hSw; (try dsimp only at hSw); go_simp <;> (with_reducible rfl)
          (try simp only [Act.put, pA, pZ, pS])
          refine wpAnyH_take (i := 4) (oi := ?oe4) (v := ?ve4) ?hie4 (by kernel_rfl) (by kernel_rfl) (by kernel_rfl) (fun _ _ _ h => h) ?hye4 (by assumption) ?reste4
          case hie4 => simp only [gA, gS, gZ]; rfl
          case hye4 =>
            refine Or.inl ⟨by rfl, ?_⟩
            intro w hSw; (try dsimp only at hSw); go_simp <;> (with_reducible rfl)
          (try simp only [Act.put, pA, pZ, pS])
          refine wpAnyH_take (i := 5) (oi := ?oe5) (v := ?ve5) ?hie5 (by kernel_rfl) (by kernel_rfl) (by kernel_rfl) (fun _ _ _ h => h) ?hye5 (by assumption) ?reste5
          case hie5 => simp only [gA, gS, gZ]; rfl
          case hye5 =>
            refine Or.inl ⟨by rfl, ?_⟩
            intro w hSw; (try dsimp only at hSw); go_simp <;> (with_reducible rfl)
          (try simp only [Act.put, pA, pZ, pS])
          refine wpAnyH_take (i := 6) (oi := ?oe6) (v := ?ve6) ?hie6 (by kernel_rfl) (by kernel_rfl) (by kernel_rfl) (fun _ _ _ h => h) ?hye6 (by assumption) ?reste6
          case hie6 => simp only [gA, gS, gZ]; rfl
          case hye6 =>
            refine Or.inl ⟨by rfl, ?_⟩
            intro w hSw; (try dsimp only at hSw); go_simp <;> (with_reducible rfl)
          (try simp only [Act.put, pA, pZ, pS])
          refine wpAnyH_take (i := 7) (oi := ?oe7) (v := ?ve7) ?hie7 (by kernel_rfl) (by kernel_rfl) (by kernel_rfl) (fun _ _ _ h => h) ?hye7 (by assumption) ?reste7
          case hie7 => simp only [gA, gS, gZ]; rfl
          case hye7 =>
            refine Or.inl ⟨by rfl, ?_⟩
            intro w hSw; (try dsimp only at hSw); go_simp <;> (with_reducible rfl)
          (try simp only [Act.put, pA, pZ, pS])
          refine wpAnyH_take (i := 8) (oi := ?oe8) (v := ?ve8) ?hie8 (by kernel_rfl) (by kernel_rfl) (by kernel_rfl) (fun _ _ _ h => h) ?hye8 (by assumption) ?reste8
          case hie8 => simp only [gA, gS, gZ]; rfl
          case hye8 =>
            refine Or.inl ⟨by rfl, ?_⟩
            intro w hSw; (try dsimp only at hSw); go_simp <;> (with_reducible rfl)
          (try simp only [Act.put, pA, pZ, pS])
          refine wpAnyH_take (i := 9) (oi := ?oe9) (v := ?ve9) ?hie9 (by kernel_rfl) (by kernel_rfl) (by kernel_rfl) (fun _ _ _ h => h) ?hye9 (by assumption) ?reste9
          case hie9 => simp only [gA, gS, gZ]; rfl
          case hye9 =>
            refine Or.inl ⟨by rfl, ?_⟩
            intro w hSw; (try dsimp only at hSw); go_simp <;> (with_reducible rfl)
          (try simp only [Act.put, pA, pZ, pS])
          refine wpAnyH_take (i := 10) (oi := ?oe10) (v := ?ve10) ?hie10 (by kernel_rfl) (by kernel_rfl) (by kernel_rfl) (fun _ _ _ h => h) ?hye10 (by assumption) ?reste10
          case hie10 => simp only [gA, gS, gZ]; rfl
          case hye10 =>
            refine Or.inl ⟨by rfl, ?_⟩
            intro w hSw; (try dsimp only at hSw); go_simp <;> (with_reducible rfl)
          (try simp only [Act.put, pA, pZ, pS])
          refine wpAnyH_take (i := 11) (oi := ?oe11) (v := undef) ?hie11 (by kernel_rfl) (by kernel_rfl) (by kernel_rfl) (fun _ _ _ h => h) ?hye11 (by assumption) ?reste11
          case hie11 => simp only [gA, gS, gZ]; rfl
          case hye11 => exact Or.inr ⟨by rfl, rfl⟩
          (try simp only [Act.put, pA, pZ, pS])
          refine wpAnyH_take (i := 12) (oi := ?oe12) (v := undef) ?hie12 (by kernel_rfl) (by kernel_rfl) (by kernel_rfl) (fun _ _ _ h => h) ?hye12 (by assumption) ?reste12
          case hie12 => simp only [gA, gS, gZ]; rfl
          case hye12 => exact Or.inr ⟨by rfl, rfl⟩
          (try simp only [Act.put, pA, pZ, pS])
          refine wpAnyH_take (i := 13) (oi := ?oe13) (v := undef) ?hie13 (by kernel_rfl) (by kernel_rfl) (by kernel_rfl) (fun _ _ _ h => h) ?hye13 (by assumption) ?reste13
          case hie13 => simp only [gA, gS, gZ]; rfl
          case hye13 => exact Or.inr ⟨by rfl, rfl⟩
          (try simp only [Act.put, pA, pZ, pS])
          refine wpAnyH_take (i := 14) (oi := ?oe14) (v := ?ve14) ?hie14 (by kernel_rfl) (by kernel_rfl) (by kernel_rfl) (fun _ _ _ h => h) ?hye14 (by assumption) ?reste14
          case hie14 => simp only [gA, gS, gZ]; rfl
          case hye14 =>
            refine Or.inl ⟨by rfl, ?_⟩
            intro w hSw; (try dsimp only at hSw); go_simp <;> (with_reducible rfl)
          (try simp only [Act.put, pA, pZ, pS])
          refine wpAnyH_take (i := 15) (oi := ?oe15) (v := ?ve15) ?hie15 (by kernel_rfl) (by kernel_rfl) (by kernel_rfl) (fun _ _ _ h => h) ?hye15 (by assumption) ?reste15
          case hie15 => simp only [gA, gS, gZ]; rfl
          case hye15 =>
            refine Or.inl ⟨by rfl, ?_⟩
            intro w hSw; (try dsimp only at hSw); go_simp <;> (with_reducible rfl)
          (try simp only [Act.put, pA, pZ, pS])
          refine wpAnyH_done (by kernel_rfl) ?_ _
          refine NoPanic.normal ?_
          have HS1 : Hid (JS r s j m fw fa w3 _) := Lib.hid hHeld
          go_wp2_with fail
          go_meet
          exact ⟨by rw [HBL.out], HS1⟩
      case rest =>
        obtain ⟨rfl, HS1⟩ := hcut
        cases bd
        · have hnb : ¬ (¬ j < s.size ∨ c < 32) := fun h => by have := HBD.out.2 h; cases this
          have hin : j < s.size := Classical.byContradiction fun h => hnb (.inl h)
          have HIN := Lib.hid hin
          have hX2 := HX1.out
          rw [if_neg hnb] at hX2
          by_cases h92 : c = 92
          · have heq : ((c.toNat : Int) == 92) = true := by rw [h92]; rfl
            rw [if_pos h92] at hX2
            have HX2 := Lib.hid hX2
            clear h92 hX2 hnb hin HX1
            go_wp2_with fail
            refine (HNW _ _ HS1.out).mono ?_
            rintro _ w8 ⟨rfl, hb8⟩
            have HS2 : Hid (JS r s j m fw fa w3 w8) := Lib.hid (JS.next HS1.out hb8)
            have HB8 := Lib.hid (HB3.out.below HS2.out.1.out.2)
            have HM8 := Lib.hid (HM3.out.trans (Mod.of_below HS2.out.1.out.2))
            have HJ8 := Lib.hid HS2.out.1.out.1
            have HE := jesc_any HJ8.out HB8.out HR6.out HIN.out (by omega)
            clear hb8 HS0 HS1 HS2 HNW HB3 HM3 HJ3
            obtain ⟨u, hu⟩ : ∃ u, u = escP s j := ⟨_, rfl⟩
            have HU := Lib.hid hu
            rw [← hu] at HE
            clear hu
            rcases u with ⟨cc, aa⟩ | ⟨t, q2⟩
            · have hx2 := HX2.out
              rw [← HU.out] at hx2
              simp only at hx2
              subst hx2
              clear HX2
              go_wp2_with fail
              refine HE.mono ?_
              rintro _ w9 ⟨⟨_, rfl, rfl⟩, ⟨p9, m9, hj9⟩, hm9⟩
              go_wp2_with fail
              go_ret2
              exact ⟨⟨_, rfl, rfl⟩, ⟨_, _, hj9⟩, jb_up HM8.out hm9 (Nat.le_refl _)⟩
            · have hx2 := HX2.out
              rw [← HU.out] at hx2
              simp only at hx2
              have HX3 := Lib.hid hx2
              obtain ⟨-, hu2, hu3⟩ := escP_ok HU.out.symm
              simp only at hu2 hu3
              have hlen : t.length ≤ q2 - j := by omega
              have hjq : j < q2 := by
                have := (escP_ok HU.out.symm).1
                obtain ⟨cr, -, he⟩ := this
                have := (rune_len cr).1
                simp only at he
                rw [← he] at this
                omega
              have HQ := Lib.hid (⟨hlen, hjq, hu3⟩ : _ ∧ _ ∧ _)
              clear HX2 hx2 hu2 hu3 hlen hjq
              go_wp2_with fail
              refine HE.mono ?_
              rintro _ w9 ⟨⟨rfl, hj9, hb9⟩, hm9⟩
              have HJ9 := Lib.hid hj9
              have HB9 := Lib.hid hb9
              have HM9 := Lib.hid (jb_up HM8.out hm9 (Nat.le_refl _))
              clear hj9 hb9 hm9 HE
              go_wp2_with fail
              go_roundg (s.size - q2)
              case measure => have := HQ.out; have := HIN.out; omega
              case rel => exact ⟨q2, k, l ++ t, rfl, Lib.hid ⟨HX3.out, by have := HQ.out; omega, by have := HQ.out; rw [List.length_append]; omega⟩, HJ9, HB9, HM9⟩
          · have heq : ((c.toNat : Int) == 92) = false := by
              have := byte_eq c 92
              rw [decide_eq_false h92] at this
              exact this
            rw [if_neg h92] at hX2
            obtain ⟨cr, n, HN, HLEN, HDE⟩ := dec_facts hin
            have HDC : ∀ w0 W, JS r s j m fw fa w0 W → Calls Tryz.prog 102 #[.string (s.extract j s.size)] W fun e w' => e = .returned (.tuple #[.int .i32 (cr : Int), .int .i64 (n : Int)]) ∧ Below W.heap.size W w' := fun w0 W hS => by
              have := jdec_any hS.1.out.1 HIN.out
              rw [HDE.out] at this
              exact this
            rw [HDE.out] at hX2
            simp only at hX2
            obtain ⟨hjn', hjnw⟩ := wr_sm (x := (j : Int) + (n : Int)) (by omega) (by have := HN.out; omega)
            have b1 : (0 : Int) ≤ (j : Int) := by omega
            have b2 : (j : Int) ≤ (s.size : Int) := by omega
            have HX2 := Lib.hid hX2
            clear h92 hX2 hnb hin HX1 HDE
            go_wp2_with fail
            refine (HNW _ _ HS1.out).mono ?_
            rintro _ w8 ⟨rfl, hb8⟩
            have HS2 : Hid (JS r s j m fw fa w3 w8) := Lib.hid (JS.next HS1.out hb8)
            have HS3 : Hid (JS r s j m fw fa w3 w8.drew) := Lib.hid (JS.next HS2.out (Below.refl w8.heap.size w8).drew)
            clear hb8 HS0 HS1 HS2
            go_wp2_with fail
            refine wp_region_noPanic ?_
            refine wp_region_held_drew (S := (fun W => Hid (Jd W r s j m fw fa ∧ Below w3.heap.size w3 W) ∧ W.cell? ⟨r, 0, none⟩ = some (.string s) ∧ W.cell? ⟨r, 1, none⟩ = some (.int .i64 j))) (by kernel_rfl) (by exact HS3.out) (fun hHeld => ?_)
            refine wpAnyH_take (i := 0) (oi := ?od0) (v := ?vd0) ?hid0 (by kernel_rfl) (by kernel_rfl) (by kernel_rfl) (fun _ _ _ h => h) ?hyd0 (by assumption) ?restd0
            case hid0 => simp only [gA, gZ]; rfl
            case hyd0 =>
              refine Or.inl ⟨by rfl, ?_⟩
              intro w hSw; (try dsimp only at hSw); go_simp <;> (with_reducible rfl)
            (try simp only [Act.put, pA, pZ, pS])
            refine wpAnyH_take (i := 1) (oi := ?od1) (v := ?vd1) ?hid1 (by kernel_rfl) (by kernel_rfl) (by kernel_rfl) (fun _ _ _ h => h) ?hyd1 (by assumption) ?restd1
            case hid1 => simp only [gA, gS, gZ]; rfl
            case hyd1 =>
              refine Or.inl ⟨by rfl, ?_⟩
              intro w hSw; (try dsimp only at hSw); go_simp <;> (with_reducible rfl)
            (try simp only [Act.put, pA, pZ, pS])
            refine wpAnyH_take (i := 2) (oi := ?od2) (v := ?vd2) ?hid2 (by kernel_rfl) (by kernel_rfl) (by kernel_rfl) (fun _ _ _ h => h) ?hyd2 (by assumption) ?restd2
            case hid2 => simp only [gA, gS, gZ]; rfl
            case hyd2 =>
              refine Or.inl ⟨by rfl, ?_⟩
              intro w hSw; (try dsimp only at hSw); go_simp <;> (with_reducible rfl)
            (try simp only [Act.put, pA, pZ, pS])
            refine wpAnyH_take (i := 3) (oi := ?od3) (v := ?vd3) ?hid3 (by kernel_rfl) (by kernel_rfl) (by kernel_rfl) (fun _ _ _ h => h) ?hyd3 (by assumption) ?restd3
            case hid3 => simp only [gA, gS, gZ]; rfl
            case hyd3 =>
              refine Or.inl ⟨by rfl, ?_⟩
              intro w hSw; (try dsimp only at hSw); go_simp <;> (with_reducible rfl)
            (try simp only [Act.put, pA, pZ, pS])
            refine wpAnyH_take (i := 4) (oi := ?od4) (v := ?vd4) ?hid4 (by kernel_rfl) (by kernel_rfl) (by kernel_rfl) (fun _ _ _ h => h) ?hyd4 (by assumption) ?restd4
            case hid4 => simp only [gA, gS, gZ]; rfl
            case hyd4 =>
              refine Or.inl ⟨by rfl, ?_⟩
              intro w hSw; (try dsimp only at hSw); go_simp <;> (with_reducible rfl)
            (try simp only [Act.put, pA, pZ, pS])
            refine wpAnyH_take (i := 5) (oi := ?od5) (v := ?vd5) ?hid5 (by kernel_rfl) (by kernel_rfl) (by kernel_rfl) (fun _ _ _ h => h) ?hyd5 (by assumption) ?restd5
            case hid5 => simp only [gA, gS, gZ]; rfl
            case hyd5 =>
              refine Or.inl ⟨by rfl, ?_⟩
              intro w hSw; (try dsimp only at hSw); go_simp <;> (with_reducible rfl)
            (try simp only [Act.put, pA, pZ, pS])
            refine wpAnyH_take (i := 6) (oi := ?od6) (v := ?vd6) ?hid6 (by kernel_rfl) (by kernel_rfl) (by kernel_rfl) (fun _ _ _ h => h) ?hyd6 (by assumption) ?restd6
            case hid6 => simp only [gA, gS, gZ]; rfl
            case hyd6 =>
              refine Or.inl ⟨by rfl, ?_⟩
              intro w hSw; (try dsimp only at hSw); go_simp <;> (with_reducible rfl)
            (try simp only [Act.put, pA, pZ, pS])
            refine wpAnyH_take (i := 7) (oi := ?od7) (v := ?vd7) ?hid7 (by kernel_rfl) (by kernel_rfl) (by kernel_rfl) (fun _ _ _ h => h) ?hyd7 (by assumption) ?restd7
            case hid7 => simp only [gA, gS, gZ]; rfl
            case hyd7 =>
              refine Or.inl ⟨by rfl, ?_⟩
              intro w hSw; (try dsimp only at hSw); go_simp <;> (with_reducible rfl)
            (try simp only [Act.put, pA, pZ, pS])
            refine wpAnyH_take (i := 8) (oi := ?od8) (v := ?vd8) ?hid8 (by kernel_rfl) (by kernel_rfl) (by kernel_rfl) (fun _ _ _ h => h) ?hyd8 (by assumption) ?restd8
            case hid8 => simp only [gA, gS, gZ]; rfl
            case hyd8 =>
              refine Or.inl ⟨by rfl, ?_⟩
              intro w hSw; (try dsimp only at hSw); go_simp <;> (with_reducible rfl)
            (try simp only [Act.put, pA, pZ, pS])
            refine wpAnyH_ready (rs := [9]) (by kernel_rfl) (by simp) ?_
            refine AllReadyH.cons rfl (fun K hK => ?_) AllReadyH.nil
            go_simp
            refine (HDC _ _ hHeld).mono ?_; rintro _ w9 ⟨rfl, hb⟩; have HS4 : Hid (JS r s j m fw fa w3 w9) := Lib.hid (JS.next hHeld hb); clear hb
            refine hK.out _ _ HS4.out (fun hHeldd9 => ?_)
            clear hK K
            (try simp only [Act.put, pA, pZ, pS])
            refine wpAnyH_take (i := 10) (oi := ?od10) (v := ?vd10) ?hid10 (by kernel_rfl) (by kernel_rfl) (by kernel_rfl) (fun _ _ _ h => h) ?hyd10 (by assumption) ?restd10
            case hid10 => simp only [gA, gS, gZ]; rfl
            case hyd10 =>
              refine Or.inl ⟨by rfl, ?_⟩
              intro w hSw; (try dsimp only at hSw); go_simp <;> (with_reducible rfl)
            (try simp only [Act.put, pA, pZ, pS])
            refine wpAnyH_take (i := 11) (oi := ?od11) (v := ?vd11) ?hid11 (by kernel_rfl) (by kernel_rfl) (by kernel_rfl) (fun _ _ _ h => h) ?hyd11 (by assumption) ?restd11
            case hid11 => simp only [gA, gS, gZ]; rfl
            case hyd11 =>
              refine Or.inl ⟨by rfl, ?_⟩
              intro w hSw; (try dsimp only at hSw); go_simp <;> (with_reducible rfl)
            (try simp only [Act.put, pA, pZ, pS])
            refine wpAnyH_take (i := 12) (oi := ?od12) (v := ?vd12) ?hid12 (by kernel_rfl) (by kernel_rfl) (by kernel_rfl) (fun _ _ _ h => h) ?hyd12 (by assumption) ?restd12
            case hid12 => simp only [gA, gS, gZ]; rfl
            case hyd12 =>
              refine Or.inl ⟨by rfl, ?_⟩
              intro w hSw; (try dsimp only at hSw); go_simp <;> (with_reducible rfl)
            (try simp only [Act.put, pA, pZ, pS])
            refine wpAnyH_take (i := 13) (oi := ?od13) (v := ?vd13) ?hid13 (by kernel_rfl) (by kernel_rfl) (by kernel_rfl) (fun _ _ _ h => h) ?hyd13 (by assumption) ?restd13
            case hid13 => simp only [gA, gS, gZ]; rfl
            case hyd13 =>
              refine Or.inl ⟨by rfl, ?_⟩
              intro w hSw; (try dsimp only at hSw); go_simp <;> (with_reducible rfl)
            (try simp only [Act.put, pA, pZ, pS])
            refine wpAnyH_take (i := 14) (oi := ?od14) (v := ?vd14) ?hid14 (by kernel_rfl) (by kernel_rfl) (by kernel_rfl) (fun _ _ _ h => h) ?hyd14 (by assumption) ?restd14
            case hid14 => simp only [gA, gS, gZ]; rfl
            case hyd14 =>
              refine Or.inl ⟨by rfl, ?_⟩
              intro w hSw; (try dsimp only at hSw); go_simp <;> (with_reducible rfl)
            (try simp only [Act.put, pA, pZ, pS])
            refine wpAnyH_done (by kernel_rfl) ?_ _
            refine NoPanic.normal ?_
            have HJ9 := Lib.hid HS4.out.1.out.1
            have HB9 := Lib.hid (HB3.out.below HS4.out.1.out.2)
            have HM9 := Lib.hid (HM3.out.trans (Mod.of_below HS4.out.1.out.2))
            obtain ⟨g0, g1, -, -, -⟩ := HJ9.out.cells
            clear HS3 HS4 HNW HDC HB3 HM3 HJ3
            by_cases hbad : cr = 65533 ∧ n = 1
            · have hx2 := HX2.out
              rw [if_pos hbad] at hx2
              obtain ⟨rfl, rfl⟩ := hbad
              subst hx2
              clear HX2 HLEN
              go_wp2_with fail
              refine (jfail_any 14 j HJ9.out).mono ?_
              rintro _ w4 ⟨rfl, hj4, hm4⟩
              go_wp2_with fail
              go_ret2
              exact ⟨⟨_, rfl, rfl⟩, ⟨_, _, hj4⟩, HM9.out.trans hm4⟩
            · have hx2 := HX2.out
              rw [if_neg hbad] at hx2
              have HX3 := Lib.hid hx2
              have HL2 := Lib.hid (HLEN.out hbad)
              have HWR := wruneB HB9.out cr (by have := HN.out; omega) (by have := HN.out; omega) (by omega)
              have hfin : ∃ b1 b2 : Bool, ((cr : Int) == 65533) = b1 ∧ ((n : Int) == 1) = b2 ∧ (b1 = true → b2 = false) := by
                refine ⟨_, _, rfl, rfl, fun e => ?_⟩
                rw [beq_iff_eq] at e
                rw [beq_eq_false_iff_ne]
                intro e2
                exact hbad ⟨by omega, by omega⟩
              obtain ⟨f1, f2, hf1, hf2, hf3⟩ := hfin
              clear HX2 HLEN hx2 hbad
              cases f1
              · go_wp2_with fail
                refine HWR.mono ?_
                rintro _ w4 ⟨rfl, hb4, hk4⟩
                have HJ4 := Lib.hid (HJ9.out.kw hk4 HR6.out)
                have HB4 := Lib.hid hb4
                have HM4 := Lib.hid (below_up HM9.out hk4 (Nat.le_refl _))
                obtain ⟨i0, i1, -, -, -⟩ := HJ4.out.cells
                have ff := free_blk HJ4.out.blk 1
                clear hb4 hk4 HWR g0 g1
                go_wp2_with fail
                go_roundg (s.size - (j + n))
                case measure => have := HN.out; have := HIN.out; omega
                case rel => exact ⟨j + n, k, l ++ Lib.encodeRune cr, rfl, Lib.hid ⟨HX3.out, by have := HN.out; omega, by have := HL2.out; rw [List.length_append]; omega⟩, Lib.hid (HJ4.out.setAt (by have := HN.out; omega) (by omega) (by omega)), Lib.hid (HB4.out.jf HJ4.out (setJ_mod _ _ _ _)), Lib.hid (HM4.out.trans (setJ_mod _ _ _ _))⟩
              · have hf2' : ((n : Int) == 1) = false := by rw [hf2]; exact hf3 rfl
                clear hf2 hf3
                go_wp2_with fail
                refine HWR.mono ?_
                rintro _ w4 ⟨rfl, hb4, hk4⟩
                have HJ4 := Lib.hid (HJ9.out.kw hk4 HR6.out)
                have HB4 := Lib.hid hb4
                have HM4 := Lib.hid (below_up HM9.out hk4 (Nat.le_refl _))
                obtain ⟨i0, i1, -, -, -⟩ := HJ4.out.cells
                have ff := free_blk HJ4.out.blk 1
                clear hb4 hk4 HWR g0 g1
                go_wp2_with fail
                go_roundg (s.size - (j + n))
                case measure => have := HN.out; have := HIN.out; omega
                case rel => exact ⟨j + n, k, l ++ Lib.encodeRune cr, rfl, Lib.hid ⟨HX3.out, by have := HN.out; omega, by have := HL2.out; rw [List.length_append]; omega⟩, Lib.hid (HJ4.out.setAt (by have := HN.out; omega) (by omega) (by omega)), Lib.hid (HB4.out.jf HJ4.out (setJ_mod _ _ _ _)), Lib.hid (HM4.out.trans (setJ_mod _ _ _ _))⟩
        · have hX2 := HX1.out
          rw [if_pos (HBD.out.1 rfl)] at hX2
          subst hX2
          clear HX1
          go_wp2_with fail
          refine (jwrong_any HS1.out.1.out.1).mono ?_
          rintro _ w4 ⟨rfl, hj4, hm4⟩
          go_wp2_with fail
          go_ret2
          exact ⟨⟨_, rfl, rfl⟩, ⟨_, _, hj4⟩, (HM3.out.trans (Mod.of_below HS1.out.1.out.2)).trans hm4⟩
end Go.Proofs.YtnaefnojmiolbaaGreatDoor
