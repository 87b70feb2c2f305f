/-
  The walk of a reader's number.
-/
import Derived.Test.YtnaefnojmiolbaaGreatDoorJp10
import Derived.Deep.LoopGhost
namespace Go.Proofs.YtnaefnojmiolbaaGreatDoor
open Go.RowKit

attribute [local go_sem] yld_undef
theorem num_any (n : Int) (h0 : -9223372036854775808 ≤ n) (h1 : n ≤ 9223372036854775807) (w : World) (ht : Tabs w) : Calls Tryz.prog 109 #[.int .i64 n] w (TextPost w (Lib.itoa n)) := by
  have HI := itoa_any n h0 h1 w ht
  obtain ⟨t, htt⟩ : ∃ t, t = str (Lib.itoa n) := ⟨_, rfl⟩
  unfold TextPost at HI ⊢
  rw [← htt] at HI ⊢
  clear ht htt
  go_enter Tryz.func109, Tryz.ntmps109
  go_wp2_with fail
  refine HI.mono ?_
  rintro e w1 ⟨rfl, hb⟩
  go_wp2_with fail
  go_ret
  exact ⟨rfl, hb⟩
/-- Where the digits of a number begin, and where they end. -/
def begP (s : ByteArray) (sign : Bool) (p : Nat) : Nat := if sign = true ∧ nowP s p = 45 then p + 1 else p
def endP (s : ByteArray) (p : Nat) : Nat := p + ((s.toList.drop p).takeWhile isDig).length
/-- A number at a place: what it is, and the place behind it. -/
def numberP (s : ByteArray) (sign : Bool) (most : Int) (p : Nat) : Except (Int × Nat) (Int × Nat) :=
  if isDig (nowP s (begP s sign p)) = true then
    match canonP ((s.toList.take (endP s (begP s sign p))).drop p) with
    | some n => if sign = false ∧ most < n then .error (11, p) else .ok (n, endP s (begP s sign p))
    | none => .error (11, p)
  else .error (wrongC s (begP s sign p), begP s sign p)
theorem endP_step {s : ByteArray} {p : Nat} (h : p < s.size) (hd : isDig s[p] = true) : endP s p = endP s (p + 1) := by
  unfold endP
  rw [List.drop_eq_getElem_cons (by rw [size_toList]; exact h), toList_at h, List.takeWhile_cons, if_pos hd, List.length_cons]
  omega
theorem endP_stop {s : ByteArray} {p : Nat} (h : ¬ isDig (nowP s p) = true) : endP s p = p := by
  unfold endP
  by_cases hp : p < s.size
  · rw [nowP_lt hp] at h
    rw [List.drop_eq_getElem_cons (by rw [size_toList]; exact hp), toList_at hp, List.takeWhile_cons, if_neg h]
    rfl
  · rw [List.drop_of_length_le (by rw [size_toList]; omega)]
    rfl
theorem dig_now_lt {s : ByteArray} {p : Nat} (h : isDig (nowP s p) = true) : p < s.size := by
  by_cases hp : p < s.size
  · exact hp
  · rw [nowP_end hp] at h; exact absurd h (by decide)
theorem endP_le {s : ByteArray} {p : Nat} (h : p ≤ s.size) : endP s p ≤ s.size ∧ p ≤ endP s p := by
  unfold endP
  have := (List.takeWhile_sublist (l := s.toList.drop p) isDig).length_le
  rw [List.length_drop, size_toList] at this
  omega
theorem dig_now (c : UInt8) : isDig c = (!decide ((c.toNat : Int) < 48) && !decide (57 < (c.toNat : Int))) := by
  by_cases h : isDig c = true
  · rw [h]; have := (isDig_iff c).1 h
    rw [decide_eq_false (by omega), decide_eq_false (by omega)]; rfl
  · rw [Bool.not_eq_true _ |>.mp h]
    have h2 : ¬ (48 ≤ c.toNat ∧ c.toNat ≤ 57) := fun a => h ((isDig_iff c).2 a)
    by_cases a : (c.toNat : Int) < 48
    · rw [decide_eq_true a]; rfl
    · rw [decide_eq_true (p := 57 < (c.toNat : Int)) (by omega)]; simp
theorem dig_now2 (c : UInt8) : isDig c = (decide ((48 : Int) ≤ (c.toNat : Int)) && decide ((c.toNat : Int) ≤ 57)) := by
  rw [dig_now]
  congr 1
  · by_cases a : (c.toNat : Int) < 48
    · rw [decide_eq_true a, decide_eq_false (by omega)]; rfl
    · rw [decide_eq_false a, decide_eq_true (by omega)]; rfl
  · by_cases a : 57 < (c.toNat : Int)
    · rw [decide_eq_true a, decide_eq_false (by omega)]; rfl
    · rw [decide_eq_false a, decide_eq_true (by omega)]; rfl
/-- Where a reader stands, as its cell tells. -/
def atOf (w : World) (r : Nat) : Nat := match w.cell? ⟨r, 1, none⟩ with
  | some (.int _ n) => n.toNat
  | _ => 0
theorem atOf_rd {w : World} {r : Nat} {s : ByteArray} {p m : Nat} {tv : Value} {ths : List Th} (h : Rd w r s p m tv ths) : atOf w r = p := by
  unfold atOf
  rw [h.cells.2.1]
  simp
def numText (s : ByteArray) (p e : Nat) : ByteArray := s.extract p e
theorem numText_list (s : ByteArray) (p e : Nat) : (numText s p e).toList = (s.toList.take e).drop p := by
  unfold numText
  rw [ByteArray.toList_eq, ByteArray.data_extract, Array.toList_extract, ← ByteArray.toList_eq, List.extract_eq_take_drop, List.drop_take]
set_option maxHeartbeats 6400000 in
set_option maxRecDepth 100000 in
theorem number_any (sign : Bool) (most : Int) {w : World} {r : Nat} {s : ByteArray} {p m : Nat} {tv : Value} {ths : List Th} (h : Rd w r s p m tv ths) :
    Calls Tryz.prog 115 #[.pointer (some ⟨r, 0, none⟩), .bool sign, .int .i64 most] w (RPost w r tv (numberP s sign most p) fun x e w' => e = .returned (.int .i64 x.1) ∧ Rd w' r s x.2 m tv ths) := by
  obtain ⟨x, hx⟩ : ∃ x, x = numberP s sign most p := ⟨_, rfl⟩
  rw [← hx]
  obtain ⟨q, hq⟩ : ∃ q, q = begP s sign p := ⟨_, rfl⟩
  obtain ⟨e45, h45⟩ : ∃ e, (((nowP s p).toNat : Int) == 45) = e := ⟨_, rfl⟩
  have hlt : e45 = true → p < s.size := fun e => by
    by_cases hp : p < s.size
    · exact hp
    · rw [nowP_end hp, e] at h45; exact absurd h45 (by decide)
  obtain ⟨b, hb⟩ : ∃ b, b = (sign && e45) := ⟨_, rfl⟩
  have HB := Lib.hid hb
  have HQ2 : Hid (q = if b = true then p + 1 else p) := Lib.hid (by
    rw [hb, hq, ← h45]; unfold begP
    by_cases hc : nowP s p = 45
    · rw [hc]; cases sign <;> rfl
    · rw [if_neg (fun e => hc e.2), if_neg]
      simp only [Bool.and_eq_true, beq_iff_eq]
      intro e
      exact hc (UInt8.toNat_inj.1 (by simpa using (by omega : (nowP s p).toNat = 45))))
  have HX := Lib.hid hx
  have HQ := Lib.hid hq
  have HD := Lib.hid h
  have hsz := h.hs
  have hpl := h.hp
  obtain ⟨c0, c1, c2, c3⟩ := h.cells
  have HLT := Lib.hid hlt
  have H45 := Lib.hid h45
  clear hx hq h hlt h45 hb
  go_enter Tryz.func115, Tryz.ntmps115
  go_upto_region 2 with fail
  go_cut [7, 19] from 14 to 19 (fun s7 s19 wx => s7 = .int .i64 p ∧ s19 = .bool b ∧ Hid (Rd wx r s p m tv ths ∧ Mod (RF r tv) w wx))
  case first =>
    cases sign
    · go_wp2_with fail
      go_meet
      exact ⟨rfl, by rw [HB.out]; rfl, Lib.hid ⟨HD.out, Mod.refl _ _⟩⟩
    · have HN := now_any HD.out
      have h45 := H45.out
      go_wp2_with fail
      refine HN.mono ?_
      rintro e w1 ⟨rfl, hb⟩
      have D1 := Lib.hid (HD.out.under hb)
      have M1 := Lib.hid (Mod.of_below (F := RF r tv) hb)
      clear hb HN
      go_wp2_with fail
      go_meet
      exact ⟨rfl, by rw [HB.out]; rfl, Lib.hid ⟨D1.out, M1.out⟩⟩
  case rest =>
    obtain ⟨rfl, rfl, HC⟩ := hcut
    clear c0 c1 c2 c3 HD
    go_upto_if 19 with fail
    go_cut [7] from 20 to 26 (fun s7 wx => s7 = .int .i64 p ∧ Hid (Rd wx r s q m tv ths ∧ Mod (RF r tv) w wx))
    case first =>
      obtain ⟨hp', hpw⟩ := wr_sm (x := (p : Int) + 1) (by omega) (by omega)
      obtain ⟨c0, c1, c2, c3⟩ := HC.out.1.cells
      have ff := free_blk HC.out.1.blk 1
      cases b
      · have hqp : q = p := HQ2.out
        subst hqp
        go_wp2_with fail
        go_meet
        exact ⟨rfl, Lib.hid ⟨HC.out.1, HC.out.2⟩⟩
      · have hqp : q = p + 1 := HQ2.out
        subst hqp
        go_wp2_with fail
        go_meet
        exact ⟨rfl, Lib.hid ⟨HC.out.1.setAt (HLT.out (by have := HB.out; simp at this; exact this.2)) (by omega), HC.out.2.trans (set_mod _ r 1 _ tv)⟩⟩
    case rest =>
      obtain ⟨rfl, HC⟩ := hcut
      have HN := now_any HC.out.1
      obtain ⟨e1, h1⟩ : ∃ e, decide (((nowP s q).toNat : Int) < 48) = e := ⟨_, rfl⟩
      obtain ⟨e2, h2⟩ : ∃ e, decide (57 < ((nowP s q).toNat : Int)) = e := ⟨_, rfl⟩
      have HDg : Hid (isDig (nowP s q) = (!e1 && !e2)) := Lib.hid (by
        rw [← h1, ← h2]; exact dig_now _)
      go_upto_region 4 with fail
      go_cut [34] from 27 to 34 (fun s34 wx => s34 = .bool (!isDig (nowP s q)) ∧ Hid (Rd wx r s q m tv ths ∧ Mod (RF r tv) w wx))
      case first =>
        cases e1
        · go_wp2_with fail
          refine HN.mono ?_
          rintro e w1 ⟨rfl, hb⟩
          have D1 := Lib.hid (HC.out.1.under hb)
          have M1 := Lib.hid (HC.out.2.trans (Mod.of_below (F := RF r tv) hb))
          have HN2 := now_any D1.out
          clear hb HN
          go_wp2_with fail
          refine HN2.mono ?_
          rintro e w2 ⟨rfl, hb⟩
          have D2 := Lib.hid (D1.out.under hb)
          have M2 := Lib.hid (M1.out.trans (Mod.of_below (F := RF r tv) hb))
          clear hb HN2
          go_wp2_with fail
          go_meet
          exact ⟨by rw [HDg.out]; cases e2 <;> rfl, Lib.hid ⟨D2.out, M2.out⟩⟩
        · go_wp2_with fail
          refine HN.mono ?_
          rintro e w1 ⟨rfl, hb⟩
          have D1 := Lib.hid (HC.out.1.under hb)
          have M1 := Lib.hid (HC.out.2.trans (Mod.of_below (F := RF r tv) hb))
          clear hb HN
          go_wp2_with fail
          go_meet
          exact ⟨by rw [HDg.out]; rfl, Lib.hid ⟨D1.out, M1.out⟩⟩
      case rest =>
        obtain ⟨rfl, HC4⟩ := hcut
        clear HN h1 h2 HC HDg
        obtain ⟨d, hd⟩ : ∃ d, isDig (nowP s q) = d := ⟨_, rfl⟩
        have HDD := Lib.hid hd
        rw [hd]
        clear hd
        cases d
        · have hxe : x = .error (wrongC s q, q) := by rw [HX.out, numberP, ← HQ.out, if_neg (by rw [HDD.out]; decide)]
          have HW := wrong_any HC4.out.1
          have M4 := Lib.hid HC4.out.2
          clear HX HC4
          subst hxe
          go_wp2_with fail
          refine HW.mono ?_
          rintro e w1 ⟨rfl, hb⟩
          go_wp2_with fail
          exact ⟨rfl, rfl, M4.out.trans (Mod.of_below hb)⟩
        · obtain ⟨e, he⟩ : ∃ e, e = endP s q := ⟨_, rfl⟩
          have HE := Lib.hid he
          have hq9 : q < s.size := dig_now_lt HDD.out
          have hxe : x = match canonP (numText s p e).toList with | some n => if sign = false ∧ most < n then .error (11, p) else .ok (n, e) | none => .error (11, p) := by
            rw [HX.out, numberP, ← HQ.out, if_pos HDD.out, numText_list, he]
          have hpe : p ≤ e := by
            have := (endP_le (s := s) (p := q) (by omega)).2
            have h2 := HQ.out
            unfold begP at h2
            split at h2 <;> omega
          have hes : e ≤ s.size := by rw [he]; exact (endP_le (by omega)).1
          have HX2 := Lib.hid hxe
          have HPE := Lib.hid hpe
          have HES := Lib.hid hes
          have HQ9 := Lib.hid hq9
          clear HX HQ HQ2 HDD he hxe hpe hes hq9 HLT H45
          go_wp2_with fail
          go_loopg [] (s.size - q) (fun g wx => ∃ j : Nat, g = s.size - j ∧ Hid (j ≤ s.size ∧ e = endP s j) ∧ Hid (Rd wx r s j m tv ths ∧ Mod (RF r tv) w wx))
          case atStart => exact ⟨q, rfl, Lib.hid ⟨Nat.le_of_lt HQ9.out, HE.out⟩, HC4⟩
          case round =>
            obtain ⟨j, rfl, HJ, HRJ⟩ := hrel
            clear HE HC4 HQ9
            obtain ⟨e1, h1⟩ : ∃ e, decide ((48 : Int) ≤ ((nowP s j).toNat : Int)) = e := ⟨_, rfl⟩
            obtain ⟨e2, h2⟩ : ∃ e, decide (((nowP s j).toNat : Int) ≤ 57) = e := ⟨_, rfl⟩
            have HDg : Hid (isDig (nowP s j) = (e1 && e2)) := Lib.hid (by
              rw [← h1, ← h2]; exact dig_now2 _)
            have HN := now_any HRJ.out.1
            go_upto_region 6 with fail
            go_cut [44] from 37 to 51 (fun s44 wx => s44 = .bool (isDig (nowP s j)) ∧ Hid (Rd wx r s j m tv ths ∧ Mod (RF r tv) w wx))
            case first =>
              cases e1
              · go_wp2_with fail
                refine HN.mono ?_
                rintro e w1 ⟨rfl, hb⟩
                have D1 := Lib.hid (HRJ.out.1.under hb)
                have M1 := Lib.hid (HRJ.out.2.trans (Mod.of_below (F := RF r tv) hb))
                clear hb HN
                go_wp2_with fail
                go_meet
                exact ⟨by rw [HDg.out]; rfl, Lib.hid ⟨D1.out, M1.out⟩⟩
              · go_wp2_with fail
                refine HN.mono ?_
                rintro e w1 ⟨rfl, hb⟩
                have D1 := Lib.hid (HRJ.out.1.under hb)
                have M1 := Lib.hid (HRJ.out.2.trans (Mod.of_below (F := RF r tv) hb))
                have HN2 := now_any D1.out
                clear hb HN
                go_wp2_with fail
                refine HN2.mono ?_
                rintro e w2 ⟨rfl, hb⟩
                have D2 := Lib.hid (D1.out.under hb)
                have M2 := Lib.hid (M1.out.trans (Mod.of_below (F := RF r tv) hb))
                clear hb HN2
                go_wp2_with fail
                go_meet
                exact ⟨by rw [HDg.out]; cases e2 <;> rfl, Lib.hid ⟨D2.out, M2.out⟩⟩
            case rest =>
              obtain ⟨rfl, HC6⟩ := hcut
              clear HN h1 h2 HRJ HDg
              obtain ⟨d, hd⟩ : ∃ d, isDig (nowP s j) = d := ⟨_, rfl⟩
              have HDD := Lib.hid hd
              rw [hd]
              clear hd
              cases d
              · have hej : e = j := by rw [HJ.out.2, endP_stop (by rw [HDD.out]; decide)]
                subst hej
                clear HJ HDD
                have hpe := HPE.out
                have hes := HES.out
                have hs1 : (0 : Int) ≤ (p : Int) := by omega
                have hs2 : (p : Int) ≤ (e : Int) := by omega
                have hs3 : (e : Int) ≤ (s.size : Int) := by omega
                have hts : (s.extract p e).size ≤ 140737488351232 := by rw [ByteArray.size_extract]; omega
                by_cases hv : ∃ v, Lib.atoiAll (s.extract p e).toList = .ok v
                · obtain ⟨v, hv⟩ := hv
                  have HA := atoi_ok hts hv
                  have hvb := Lib.atoiAll_bounds hv
                  obtain ⟨u, hu⟩ : ∃ u, u = str (Lib.itoa v) := ⟨_, rfl⟩
                  have HN : ∀ w, Tabs w → Calls Tryz.prog 109 #[.int .i64 v] w fun e w' => e = .returned (.string u) ∧ Below w.heap.size w w' := fun w ht => by rw [hu]; exact num_any v hvb.1 hvb.2 w ht
                  obtain ⟨k, hk⟩ : ∃ k, (u.toList == (s.extract p e).toList) = k := ⟨_, rfl⟩
                  have hk2 : (u.toList != (s.extract p e).toList) = !k := by rw [← hk]; rfl
                  have hcan := canon_ok hv
                  have hxe : x = if k = true then (if sign = false ∧ most < v then .error (11, p) else .ok (v, e)) else .error (11, p) := by
                    rw [HX2.out]; unfold numText
                    rw [hcan, ← hk, hu, str_toList]
                    by_cases hc : (Lib.itoa v == (s.extract p e).toList) = true
                    · rw [if_pos hc, if_pos hc]
                    · rw [if_neg hc, if_neg hc]
                  have HXE := Lib.hid hxe
                  clear hv HX2 hcan hu hxe hvb
                  go_wp2_with fail
                  have HCd : Hid (Rd wc.drew r s e m tv ths ∧ Mod (RF r tv) w wc.drew) := Lib.hid ⟨HC6.out.1.under ((Below.refl _ _).drew), HC6.out.2.trans (Mod.of_below (F := RF r tv) ((Below.refl _ _).drew))⟩
                  refine wp_region_noPanic ?_
                  refine wp_region_held_drew (S := (fun V => Hid (Rd V r s e m tv ths ∧ Mod (RF r tv) w V) ∧ V.cell? ⟨r, 0, none⟩ = some (.string s) ∧ V.cell? ⟨r, 1, none⟩ = some (.int .i64 e))) (by kernel_rfl) (by exact ⟨HCd, HCd.out.1.cells.1, HCd.out.1.cells.2.1⟩) (fun hHeld => ?_)
                  refine wpAnyH_take (i := 0) (oi := ?oc0) (v := ?vc0) ?hic0 (by kernel_rfl) (by kernel_rfl) (by kernel_rfl) (fun _ _ _ h => h) ?hyc0 (by assumption) ?restc0
                  case hic0 => simp only [gA, gZ]; rfl
                  case hyc0 =>
                    refine Or.inl ⟨by rfl, ?_⟩
                    intro w hSw; (try dsimp only at hSw); go_simp <;> (with_reducible rfl)
                  (try simp only [Act.put, pA, pZ, pS])
                  refine wpAnyH_take (i := 1) (oi := ?oc1) (v := ?vc1) ?hic1 (by kernel_rfl) (by kernel_rfl) (by kernel_rfl) (fun _ _ _ h => h) ?hyc1 (by assumption) ?restc1
                  case hic1 => simp only [gA, gS, gZ]; rfl
                  case hyc1 =>
                    refine Or.inl ⟨by rfl, ?_⟩
                    intro w hSw; (try dsimp only at hSw); go_simp <;> (with_reducible rfl)
                  (try simp only [Act.put, pA, pZ, pS])
                  refine wpAnyH_take (i := 2) (oi := ?oc2) (v := ?vc2) ?hic2 (by kernel_rfl) (by kernel_rfl) (by kernel_rfl) (fun _ _ _ h => h) ?hyc2 (by assumption) ?restc2
                  case hic2 => simp only [gA, gS, gZ]; rfl
                  case hyc2 =>
                    refine Or.inl ⟨by rfl, ?_⟩
                    intro w hSw; (try dsimp only at hSw); go_simp <;> (with_reducible rfl)
                  (try simp only [Act.put, pA, pZ, pS])
                  refine wpAnyH_take (i := 3) (oi := ?oc3) (v := ?vc3) ?hic3 (by kernel_rfl) (by kernel_rfl) (by kernel_rfl) (fun _ _ _ h => h) ?hyc3 (by assumption) ?restc3
                  case hic3 => simp only [gA, gS, gZ]; rfl
                  case hyc3 =>
                    refine Or.inl ⟨by rfl, ?_⟩
                    intro w hSw; (try dsimp only at hSw); go_simp <;> (with_reducible rfl)
                  (try simp only [Act.put, pA, pZ, pS])
                  refine wpAnyH_take (i := 4) (oi := ?oc4) (v := ?vc4) ?hic4 (by kernel_rfl) (by kernel_rfl) (by kernel_rfl) (fun _ _ _ h => h) ?hyc4 (by assumption) ?restc4
                  case hic4 => simp only [gA, gS, gZ]; rfl
                  case hyc4 =>
                    refine Or.inl ⟨by rfl, ?_⟩
                    intro w hSw; (try dsimp only at hSw); go_simp <;> (with_reducible rfl)
                  (try simp only [Act.put, pA, pZ, pS])
                  refine wpAnyH_take (i := 5) (oi := ?oc5) (v := ?vc5) ?hic5 (by kernel_rfl) (by kernel_rfl) (by kernel_rfl) (fun _ _ _ h => h) ?hyc5 (by assumption) ?restc5
                  case hic5 => simp only [gA, gS, gZ]; rfl
                  case hyc5 =>
                    refine Or.inl ⟨by rfl, ?_⟩
                    intro w hSw; (try dsimp only at hSw); go_simp <;> (with_reducible rfl)
                  (try simp only [Act.put, pA, pZ, pS])
                  refine wpAnyH_take (i := 6) (oi := ?oc6) (v := ?vc6) ?hic6 (by kernel_rfl) (by kernel_rfl) (by kernel_rfl) (fun _ _ _ h => h) ?hyc6 (by assumption) ?restc6
                  case hic6 => simp only [gA, gS, gZ]; rfl
                  case hyc6 =>
                    refine Or.inl ⟨by rfl, ?_⟩
                    intro w hSw; (try dsimp only at hSw); go_simp <;> (with_reducible rfl)
                  (try simp only [Act.put, pA, pZ, pS])
                  refine wpAnyH_take (i := 7) (oi := ?oc7) (v := ?vc7) ?hic7 (by kernel_rfl) (by kernel_rfl) (by kernel_rfl) (fun _ _ _ h => h) ?hyc7 (by assumption) ?restc7
                  case hic7 => simp only [gA, gS, gZ]; rfl
                  case hyc7 =>
                    refine Or.inl ⟨by rfl, ?_⟩
                    intro w hSw; (try dsimp only at hSw); go_simp <;> (with_reducible rfl)
                  (try simp only [Act.put, pA, pZ, pS])
                  refine wpAnyH_take (i := 8) (oi := ?oc8) (v := ?vc8) ?hic8 (by kernel_rfl) (by kernel_rfl) (by kernel_rfl) (fun _ _ _ h => h) ?hyc8 (by assumption) ?restc8
                  case hic8 => simp only [gA, gS, gZ]; rfl
                  case hyc8 =>
                    refine Or.inl ⟨by rfl, ?_⟩
                    intro w hSw; (try dsimp only at hSw); go_simp <;> (with_reducible rfl)
                  (try simp only [Act.put, pA, pZ, pS])
                  refine wpAnyH_take (i := 9) (oi := ?oc9) (v := ?vc9) ?hic9 (by kernel_rfl) (by kernel_rfl) (by kernel_rfl) (fun _ _ _ h => h) ?hyc9 (by assumption) ?restc9
                  case hic9 => simp only [gA, gS, gZ]; rfl
                  case hyc9 =>
                    refine Or.inl ⟨by rfl, ?_⟩
                    intro w hSw; (try dsimp only at hSw); go_simp <;> (with_reducible rfl)
                  (try simp only [Act.put, pA, pZ, pS])
                  refine wpAnyH_ready (rs := [10]) (by kernel_rfl) (by simp) ?_
                  refine AllReadyH.cons rfl (fun K hK => ?_) AllReadyH.nil
                  go_simp
                  have hHX := hHeld; refine (HA _).mono ?_; rintro _ wq1 ⟨rfl, hb⟩; have HD1 : Hid (Rd wq1 r s e m tv ths ∧ Mod (RF r tv) w wq1) := Lib.hid ⟨(Hid.out (And.left hHX)).1.under hb, (Hid.out (And.left hHX)).2.trans (Mod.of_below (F := RF r tv) hb)⟩; clear hb
                  refine hK.out _ _ ⟨HD1, HD1.out.1.cells.1, HD1.out.1.cells.2.1⟩ (fun hHeldc10 => ?_)
                  clear hK K
                  (try simp only [Act.put, pA, pZ, pS])
                  refine wpAnyH_take (i := 11) (oi := ?oc11) (v := ?vc11) ?hic11 (by kernel_rfl) (by kernel_rfl) (by kernel_rfl) (fun _ _ _ h => h) ?hyc11 (by assumption) ?restc11
                  case hic11 => simp only [gA, gS, gZ]; rfl
                  case hyc11 =>
                    refine Or.inl ⟨by rfl, ?_⟩
                    intro w hSw; (try dsimp only at hSw); go_simp <;> (with_reducible rfl)
                  (try simp only [Act.put, pA, pZ, pS])
                  refine wpAnyH_take (i := 12) (oi := ?oc12) (v := ?vc12) ?hic12 (by kernel_rfl) (by kernel_rfl) (by kernel_rfl) (fun _ _ _ h => h) ?hyc12 (by assumption) ?restc12
                  case hic12 => simp only [gA, gS, gZ]; rfl
                  case hyc12 =>
                    refine Or.inl ⟨by rfl, ?_⟩
                    intro w hSw; (try dsimp only at hSw); go_simp <;> (with_reducible rfl)
                  (try simp only [Act.put, pA, pZ, pS])
                  refine wpAnyH_take (i := 13) (oi := ?oc13) (v := ?vc13) ?hic13 (by kernel_rfl) (by kernel_rfl) (by kernel_rfl) (fun _ _ _ h => h) ?hyc13 (by assumption) ?restc13
                  case hic13 => simp only [gA, gS, gZ]; rfl
                  case hyc13 =>
                    refine Or.inl ⟨by rfl, ?_⟩
                    intro w hSw; (try dsimp only at hSw); go_simp <;> (with_reducible rfl)
                  (try simp only [Act.put, pA, pZ, pS])
                  refine wpAnyH_take (i := 14) (oi := ?oc14) (v := ?vc14) ?hic14 (by kernel_rfl) (by kernel_rfl) (by kernel_rfl) (fun _ _ _ h => h) ?hyc14 (by assumption) ?restc14
                  case hic14 => simp only [gA, gS, gZ]; rfl
                  case hyc14 =>
                    refine Or.inl ⟨by rfl, ?_⟩
                    intro w hSw; (try dsimp only at hSw); go_simp <;> (with_reducible rfl)
                  (try simp only [Act.put, pA, pZ, pS])
                  refine wpAnyH_take (i := 15) (oi := ?oc15) (v := ?vc15) ?hic15 (by kernel_rfl) (by kernel_rfl) (by kernel_rfl) (fun _ _ _ h => h) ?hyc15 (by assumption) ?restc15
                  case hic15 => simp only [gA, gS, gZ]; rfl
                  case hyc15 =>
                    refine Or.inl ⟨by rfl, ?_⟩
                    intro w hSw; (try dsimp only at hSw); go_simp <;> (with_reducible rfl)
                  (try simp only [Act.put, pA, pZ, pS])
                  refine wpAnyH_done (by kernel_rfl) ?_ _
                  refine NoPanic.normal ?_
                  go_wp2_with fail
                  have HDd : Hid (Rd wq1.drew r s e m tv ths ∧ Mod (RF r tv) w wq1.drew) := Lib.hid ⟨HD1.out.1.under ((Below.refl _ _).drew), HD1.out.2.trans (Mod.of_below (F := RF r tv) ((Below.refl _ _).drew))⟩
                  have HS1 : Hid (Rd wq1.drew r s e m tv ths ∧ Mod (RF r tv) w wq1.drew) ∧ wq1.drew.cell? ⟨r, 0, none⟩ = some (.string s) ∧ wq1.drew.cell? ⟨r, 1, none⟩ = some (.int .i64 e) := ⟨HDd, HDd.out.1.cells.1, HDd.out.1.cells.2.1⟩
                  have HS := Lib.hid HS1
                  clear HS1
                  cases k
                  · have hxe : x = .error (11, p) := HXE.out
                    subst hxe
                    refine wp_region_noPanic ?_
                    refine wp_region_held_drew (S := (fun V => Hid (Rd V r s e m tv ths ∧ Mod (RF r tv) w V) ∧ V.cell? ⟨r, 0, none⟩ = some (.string s) ∧ V.cell? ⟨r, 1, none⟩ = some (.int .i64 e))) (by kernel_rfl) (by exact HS.out) (fun hHeld => ?_)
                    refine wpAnyH_take (i := 0) (oi := ?od0) (v := ?vd0) ?hid0 (by kernel_rfl) (by kernel_rfl) (by kernel_rfl) (fun _ _ _ h => h) ?hyd0 (by assumption) ?restd0
                    case hid0 => simp only [gA, gZ]; rfl
                    case hyd0 =>
                      refine Or.inl ⟨by rfl, ?_⟩
                      intro w hSw; (try dsimp only at hSw); go_simp <;> (with_reducible rfl)
                    (try simp only [Act.put, pA, pZ, pS])
                    refine wpAnyH_take (i := 1) (oi := ?od1) (v := ?vd1) ?hid1 (by kernel_rfl) (by kernel_rfl) (by kernel_rfl) (fun _ _ _ h => h) ?hyd1 (by assumption) ?restd1
                    case hid1 => simp only [gA, gS, gZ]; rfl
                    case hyd1 =>
                      refine Or.inl ⟨by rfl, ?_⟩
                      intro w hSw; (try dsimp only at hSw); go_simp <;> (with_reducible rfl)
                    (try simp only [Act.put, pA, pZ, pS])
                    refine wpAnyH_take (i := 2) (oi := ?od2) (v := ?vd2) ?hid2 (by kernel_rfl) (by kernel_rfl) (by kernel_rfl) (fun _ _ _ h => h) ?hyd2 (by assumption) ?restd2
                    case hid2 => simp only [gA, gS, gZ]; rfl
                    case hyd2 =>
                      refine Or.inl ⟨by rfl, ?_⟩
                      intro w hSw; (try dsimp only at hSw); go_simp <;> (with_reducible rfl)
                    (try simp only [Act.put, pA, pZ, pS])
                    refine wpAnyH_take (i := 3) (oi := ?od3) (v := ?vd3) ?hid3 (by kernel_rfl) (by kernel_rfl) (by kernel_rfl) (fun _ _ _ h => h) ?hyd3 (by assumption) ?restd3
                    case hid3 => simp only [gA, gS, gZ]; rfl
                    case hyd3 =>
                      refine Or.inl ⟨by rfl, ?_⟩
                      intro w hSw; (try dsimp only at hSw); go_simp <;> (with_reducible rfl)
                    (try simp only [Act.put, pA, pZ, pS])
                    refine wpAnyH_take (i := 5) (oi := ?od5) (v := ?vd5) ?hid5 (by kernel_rfl) (by kernel_rfl) (by kernel_rfl) (fun _ _ _ h => h) ?hyd5 (by assumption) ?restd5
                    case hid5 => simp only [gA, gS, gZ]; rfl
                    case hyd5 =>
                      refine Or.inl ⟨by rfl, ?_⟩
                      intro w hSw; (try dsimp only at hSw); go_simp <;> (with_reducible rfl)
                    (try simp only [Act.put, pA, pZ, pS])
                    refine wpAnyH_take (i := 6) (oi := ?od6) (v := ?vd6) ?hid6 (by kernel_rfl) (by kernel_rfl) (by kernel_rfl) (fun _ _ _ h => h) ?hyd6 (by assumption) ?restd6
                    case hid6 => simp only [gA, gS, gZ]; rfl
                    case hyd6 =>
                      refine Or.inl ⟨by rfl, ?_⟩
                      intro w hSw; (try dsimp only at hSw); go_simp <;> (with_reducible rfl)
                    (try simp only [Act.put, pA, pZ, pS])
                    refine wpAnyH_take (i := 7) (oi := ?od7) (v := ?vd7) ?hid7 (by kernel_rfl) (by kernel_rfl) (by kernel_rfl) (fun _ _ _ h => h) ?hyd7 (by assumption) ?restd7
                    case hid7 => simp only [gA, gS, gZ]; rfl
                    case hyd7 =>
                      refine Or.inl ⟨by rfl, ?_⟩
                      intro w hSw; (try dsimp only at hSw); go_simp <;> (with_reducible rfl)
                    (try simp only [Act.put, pA, pZ, pS])
                    refine wpAnyH_take (i := 8) (oi := ?od8) (v := ?vd8) ?hid8 (by kernel_rfl) (by kernel_rfl) (by kernel_rfl) (fun _ _ _ h => h) ?hyd8 (by assumption) ?restd8
                    case hid8 => simp only [gA, gS, gZ]; rfl
                    case hyd8 =>
                      refine Or.inl ⟨by rfl, ?_⟩
                      intro w hSw; (try dsimp only at hSw); go_simp <;> (with_reducible rfl)
                    (try simp only [Act.put, pA, pZ, pS])
                    refine wpAnyH_take (i := 9) (oi := ?od9) (v := ?vd9) ?hid9 (by kernel_rfl) (by kernel_rfl) (by kernel_rfl) (fun _ _ _ h => h) ?hyd9 (by assumption) ?restd9
                    case hid9 => simp only [gA, gS, gZ]; rfl
                    case hyd9 =>
                      refine Or.inl ⟨by rfl, ?_⟩
                      intro w hSw; (try dsimp only at hSw); go_simp <;> (with_reducible rfl)
                    (try simp only [Act.put, pA, pZ, pS])
                    refine wpAnyH_take (i := 10) (oi := ?od10) (v := ?vd10) ?hid10 (by kernel_rfl) (by kernel_rfl) (by kernel_rfl) (fun _ _ _ h => h) ?hyd10 (by assumption) ?restd10
                    case hid10 => simp only [gA, gS, gZ]; rfl
                    case hyd10 =>
                      refine Or.inl ⟨by rfl, ?_⟩
                      intro w hSw; (try dsimp only at hSw); go_simp <;> (with_reducible rfl)
                    (try simp only [Act.put, pA, pZ, pS])
                    refine wpAnyH_take (i := 11) (oi := ?od11) (v := ?vd11) ?hid11 (by kernel_rfl) (by kernel_rfl) (by kernel_rfl) (fun _ _ _ h => h) ?hyd11 (by assumption) ?restd11
                    case hid11 => simp only [gA, gS, gZ]; rfl
                    case hyd11 =>
                      refine Or.inl ⟨by rfl, ?_⟩
                      intro w hSw; (try dsimp only at hSw); go_simp <;> (with_reducible rfl)
                    (try simp only [Act.put, pA, pZ, pS])
                    refine wpAnyH_take (i := 12) (oi := ?od12) (v := ?vd12) ?hid12 (by kernel_rfl) (by kernel_rfl) (by kernel_rfl) (fun _ _ _ h => h) ?hyd12 (by assumption) ?restd12
                    case hid12 => simp only [gA, gS, gZ]; rfl
                    case hyd12 =>
                      refine Or.inl ⟨by rfl, ?_⟩
                      intro w hSw; (try dsimp only at hSw); go_simp <;> (with_reducible rfl)
                    (try simp only [Act.put, pA, pZ, pS])
                    refine wpAnyH_take (i := 13) (oi := ?od13) (v := ?vd13) ?hid13 (by kernel_rfl) (by kernel_rfl) (by kernel_rfl) (fun _ _ _ h => h) ?hyd13 (by assumption) ?restd13
                    case hid13 => simp only [gA, gS, gZ]; rfl
                    case hyd13 =>
                      refine Or.inl ⟨by rfl, ?_⟩
                      intro w hSw; (try dsimp only at hSw); go_simp <;> (with_reducible rfl)
                    (try simp only [Act.put, pA, pZ, pS])
                    refine wpAnyH_take (i := 14) (oi := ?od14) (v := ?vd14) ?hid14 (by kernel_rfl) (by kernel_rfl) (by kernel_rfl) (fun _ _ _ h => h) ?hyd14 (by assumption) ?restd14
                    case hid14 => simp only [gA, gS, gZ]; rfl
                    case hyd14 =>
                      refine Or.inl ⟨by rfl, ?_⟩
                      intro w hSw; (try dsimp only at hSw); go_simp <;> (with_reducible rfl)
                    (try simp only [Act.put, pA, pZ, pS])
                    refine wpAnyH_ready (rs := [4]) (by kernel_rfl) (by simp) ?_
                    refine AllReadyH.cons rfl (fun K hK => ?_) AllReadyH.nil
                    go_simp
                    have hHX := hHeld; refine (HN _ (Hid.out (And.left hHX)).1.tab).mono ?_; rintro _ wq2 ⟨rfl, hb⟩; have HD2 : Hid (Rd wq2 r s e m tv ths ∧ Mod (RF r tv) w wq2) := Lib.hid ⟨(Hid.out (And.left hHX)).1.under hb, (Hid.out (And.left hHX)).2.trans (Mod.of_below (F := RF r tv) hb)⟩; clear hb
                    refine hK.out _ _ ⟨HD2, HD2.out.1.cells.1, HD2.out.1.cells.2.1⟩ (fun hHeldd4 => ?_)
                    clear hK K
                    (try simp only [Act.put, pA, pZ, pS])
                    refine wpAnyH_take (i := 15) (oi := ?od15) (v := ?vd15) ?hid15 (by kernel_rfl) (by kernel_rfl) (by kernel_rfl) (fun _ _ _ h => h) ?hyd15 (by assumption) ?restd15
                    case hid15 => simp only [gA, gS, gZ]; rfl
                    case hyd15 =>
                      refine Or.inl ⟨by rfl, ?_⟩
                      intro w hSw; (try dsimp only at hSw); go_simp <;> (with_reducible rfl)
                    (try simp only [Act.put, pA, pZ, pS])
                    refine wpAnyH_take (i := 16) (oi := ?od16) (v := ?vd16) ?hid16 (by kernel_rfl) (by kernel_rfl) (by kernel_rfl) (fun _ _ _ h => h) ?hyd16 (by assumption) ?restd16
                    case hid16 => simp only [gA, gS, gZ]; rfl
                    case hyd16 =>
                      refine Or.inl ⟨by rfl, ?_⟩
                      intro w hSw; (try dsimp only at hSw); go_simp <;> (with_reducible rfl)
                    (try simp only [Act.put, pA, pZ, pS])
                    refine wpAnyH_take (i := 17) (oi := ?od17) (v := ?vd17) ?hid17 (by kernel_rfl) (by kernel_rfl) (by kernel_rfl) (fun _ _ _ h => h) ?hyd17 (by assumption) ?restd17
                    case hid17 => simp only [gA, gS, gZ]; rfl
                    case hyd17 =>
                      refine Or.inl ⟨by rfl, ?_⟩
                      intro w hSw; (try dsimp only at hSw); go_simp <;> (with_reducible rfl)
                    (try simp only [Act.put, pA, pZ, pS])
                    refine wpAnyH_take (i := 18) (oi := ?od18) (v := undef) ?hid18 (by kernel_rfl) (by kernel_rfl) (by kernel_rfl) (fun _ _ _ h => h) ?hyd18 (by assumption) ?restd18
                    case hid18 => simp only [gA, gS, gZ]; rfl
                    case hyd18 => exact Or.inr ⟨by rfl, rfl⟩
                    (try simp only [Act.put, pA, pZ, pS])
                    refine wpAnyH_take (i := 19) (oi := ?od19) (v := undef) ?hid19 (by kernel_rfl) (by kernel_rfl) (by kernel_rfl) (fun _ _ _ h => h) ?hyd19 (by assumption) ?restd19
                    case hid19 => simp only [gA, gS, gZ]; rfl
                    case hyd19 => exact Or.inr ⟨by rfl, rfl⟩
                    (try simp only [Act.put, pA, pZ, pS])
                    refine wpAnyH_take (i := 20) (oi := ?od20) (v := undef) ?hid20 (by kernel_rfl) (by kernel_rfl) (by kernel_rfl) (fun _ _ _ h => h) ?hyd20 (by assumption) ?restd20
                    case hid20 => simp only [gA, gS, gZ]; rfl
                    case hyd20 => exact Or.inr ⟨by rfl, rfl⟩
                    (try simp only [Act.put, pA, pZ, pS])
                    refine wpAnyH_take (i := 21) (oi := ?od21) (v := undef) ?hid21 (by kernel_rfl) (by kernel_rfl) (by kernel_rfl) (fun _ _ _ h => h) ?hyd21 (by assumption) ?restd21
                    case hid21 => simp only [gA, gS, gZ]; rfl
                    case hyd21 => exact Or.inr ⟨by rfl, rfl⟩
                    (try simp only [Act.put, pA, pZ, pS])
                    refine wpAnyH_take (i := 22) (oi := ?od22) (v := undef) ?hid22 (by kernel_rfl) (by kernel_rfl) (by kernel_rfl) (fun _ _ _ h => h) ?hyd22 (by assumption) ?restd22
                    case hid22 => simp only [gA, gS, gZ]; rfl
                    case hyd22 => exact Or.inr ⟨by rfl, rfl⟩
                    (try simp only [Act.put, pA, pZ, pS])
                    refine wpAnyH_take (i := 23) (oi := ?od23) (v := undef) ?hid23 (by kernel_rfl) (by kernel_rfl) (by kernel_rfl) (fun _ _ _ h => h) ?hyd23 (by assumption) ?restd23
                    case hid23 => simp only [gA, gS, gZ]; rfl
                    case hyd23 => exact Or.inr ⟨by rfl, rfl⟩
                    (try simp only [Act.put, pA, pZ, pS])
                    refine wpAnyH_take (i := 24) (oi := ?od24) (v := undef) ?hid24 (by kernel_rfl) (by kernel_rfl) (by kernel_rfl) (fun _ _ _ h => h) ?hyd24 (by assumption) ?restd24
                    case hid24 => simp only [gA, gS, gZ]; rfl
                    case hyd24 => exact Or.inr ⟨by rfl, rfl⟩
                    (try simp only [Act.put, pA, pZ, pS])
                    refine wpAnyH_take (i := 25) (oi := ?od25) (v := ?vd25) ?hid25 (by kernel_rfl) (by kernel_rfl) (by kernel_rfl) (fun _ _ _ h => h) ?hyd25 (by assumption) ?restd25
                    case hid25 => simp only [gA, gS, gZ]; rfl
                    case hyd25 =>
                      refine Or.inl ⟨by rfl, ?_⟩
                      intro w hSw; (try dsimp only at hSw); go_simp <;> (with_reducible rfl)
                    (try simp only [Act.put, pA, pZ, pS])
                    refine wpAnyH_done (by kernel_rfl) ?_ _
                    refine NoPanic.normal ?_
                    go_wp2_with fail
                    refine (fail_any 11 p _).mono ?_
                    rintro _ w2 ⟨rfl, rfl⟩
                    go_wp2_with fail
                    exact ⟨rfl, rfl, HD2.out.2⟩
                  · cases sign
                    · obtain ⟨g, hg⟩ : ∃ g, decide (most < v) = g := ⟨_, rfl⟩
                      refine wp_region_noPanic ?_
                      refine wp_region_held_drew (S := (fun V => Hid (Rd V r s e m tv ths ∧ Mod (RF r tv) w V) ∧ V.cell? ⟨r, 0, none⟩ = some (.string s) ∧ V.cell? ⟨r, 1, none⟩ = some (.int .i64 e))) (by kernel_rfl) (by exact HS.out) (fun hHeld => ?_)
                      refine wpAnyH_take (i := 0) (oi := ?oe0) (v := ?ve0) ?hie0 (by kernel_rfl) (by kernel_rfl) (by kernel_rfl) (fun _ _ _ h => h) ?hye0 (by assumption) ?reste0
                      case hie0 => simp only [gA, gZ]; rfl
                      case hye0 =>
                        refine Or.inl ⟨by rfl, ?_⟩
                        intro w hSw; (try dsimp only at hSw); go_simp <;> (with_reducible rfl)
                      (try simp only [Act.put, pA, pZ, pS])
                      refine wpAnyH_take (i := 1) (oi := ?oe1) (v := ?ve1) ?hie1 (by kernel_rfl) (by kernel_rfl) (by kernel_rfl) (fun _ _ _ h => h) ?hye1 (by assumption) ?reste1
                      case hie1 => simp only [gA, gS, gZ]; rfl
                      case hye1 =>
                        refine Or.inl ⟨by rfl, ?_⟩
                        intro w hSw; (try dsimp only at hSw); go_simp <;> (with_reducible rfl)
                      (try simp only [Act.put, pA, pZ, pS])
                      refine wpAnyH_take (i := 2) (oi := ?oe2) (v := ?ve2) ?hie2 (by kernel_rfl) (by kernel_rfl) (by kernel_rfl) (fun _ _ _ h => h) ?hye2 (by assumption) ?reste2
                      case hie2 => simp only [gA, gS, gZ]; rfl
                      case hye2 =>
                        refine Or.inl ⟨by rfl, ?_⟩
                        intro w hSw; (try dsimp only at hSw); go_simp <;> (with_reducible rfl)
                      (try simp only [Act.put, pA, pZ, pS])
                      refine wpAnyH_take (i := 3) (oi := ?oe3) (v := ?ve3) ?hie3 (by kernel_rfl) (by kernel_rfl) (by kernel_rfl) (fun _ _ _ h => h) ?hye3 (by assumption) ?reste3
                      case hie3 => simp only [gA, gS, gZ]; rfl
                      case hye3 =>
                        refine Or.inl ⟨by rfl, ?_⟩
                        intro w hSw; (try dsimp only at hSw); go_simp <;> (with_reducible rfl)
                      (try simp only [Act.put, pA, pZ, pS])
                      refine wpAnyH_take (i := 5) (oi := ?oe5) (v := ?ve5) ?hie5 (by kernel_rfl) (by kernel_rfl) (by kernel_rfl) (fun _ _ _ h => h) ?hye5 (by assumption) ?reste5
                      case hie5 => simp only [gA, gS, gZ]; rfl
                      case hye5 =>
                        refine Or.inl ⟨by rfl, ?_⟩
                        intro w hSw; (try dsimp only at hSw); go_simp <;> (with_reducible rfl)
                      (try simp only [Act.put, pA, pZ, pS])
                      refine wpAnyH_take (i := 6) (oi := ?oe6) (v := ?ve6) ?hie6 (by kernel_rfl) (by kernel_rfl) (by kernel_rfl) (fun _ _ _ h => h) ?hye6 (by assumption) ?reste6
                      case hie6 => simp only [gA, gS, gZ]; rfl
                      case hye6 =>
                        refine Or.inl ⟨by rfl, ?_⟩
                        intro w hSw; (try dsimp only at hSw); go_simp <;> (with_reducible rfl)
                      (try simp only [Act.put, pA, pZ, pS])
                      refine wpAnyH_take (i := 7) (oi := ?oe7) (v := ?ve7) ?hie7 (by kernel_rfl) (by kernel_rfl) (by kernel_rfl) (fun _ _ _ h => h) ?hye7 (by assumption) ?reste7
                      case hie7 => simp only [gA, gS, gZ]; rfl
                      case hye7 =>
                        refine Or.inl ⟨by rfl, ?_⟩
                        intro w hSw; (try dsimp only at hSw); go_simp <;> (with_reducible rfl)
                      (try simp only [Act.put, pA, pZ, pS])
                      refine wpAnyH_take (i := 8) (oi := ?oe8) (v := ?ve8) ?hie8 (by kernel_rfl) (by kernel_rfl) (by kernel_rfl) (fun _ _ _ h => h) ?hye8 (by assumption) ?reste8
                      case hie8 => simp only [gA, gS, gZ]; rfl
                      case hye8 =>
                        refine Or.inl ⟨by rfl, ?_⟩
                        intro w hSw; (try dsimp only at hSw); go_simp <;> (with_reducible rfl)
                      (try simp only [Act.put, pA, pZ, pS])
                      refine wpAnyH_take (i := 9) (oi := ?oe9) (v := ?ve9) ?hie9 (by kernel_rfl) (by kernel_rfl) (by kernel_rfl) (fun _ _ _ h => h) ?hye9 (by assumption) ?reste9
                      case hie9 => simp only [gA, gS, gZ]; rfl
                      case hye9 =>
                        refine Or.inl ⟨by rfl, ?_⟩
                        intro w hSw; (try dsimp only at hSw); go_simp <;> (with_reducible rfl)
                      (try simp only [Act.put, pA, pZ, pS])
                      refine wpAnyH_take (i := 10) (oi := ?oe10) (v := ?ve10) ?hie10 (by kernel_rfl) (by kernel_rfl) (by kernel_rfl) (fun _ _ _ h => h) ?hye10 (by assumption) ?reste10
                      case hie10 => simp only [gA, gS, gZ]; rfl
                      case hye10 =>
                        refine Or.inl ⟨by rfl, ?_⟩
                        intro w hSw; (try dsimp only at hSw); go_simp <;> (with_reducible rfl)
                      (try simp only [Act.put, pA, pZ, pS])
                      refine wpAnyH_take (i := 11) (oi := ?oe11) (v := ?ve11) ?hie11 (by kernel_rfl) (by kernel_rfl) (by kernel_rfl) (fun _ _ _ h => h) ?hye11 (by assumption) ?reste11
                      case hie11 => simp only [gA, gS, gZ]; rfl
                      case hye11 =>
                        refine Or.inl ⟨by rfl, ?_⟩
                        intro w hSw; (try dsimp only at hSw); go_simp <;> (with_reducible rfl)
                      (try simp only [Act.put, pA, pZ, pS])
                      refine wpAnyH_take (i := 12) (oi := ?oe12) (v := ?ve12) ?hie12 (by kernel_rfl) (by kernel_rfl) (by kernel_rfl) (fun _ _ _ h => h) ?hye12 (by assumption) ?reste12
                      case hie12 => simp only [gA, gS, gZ]; rfl
                      case hye12 =>
                        refine Or.inl ⟨by rfl, ?_⟩
                        intro w hSw; (try dsimp only at hSw); go_simp <;> (with_reducible rfl)
                      (try simp only [Act.put, pA, pZ, pS])
                      refine wpAnyH_take (i := 13) (oi := ?oe13) (v := ?ve13) ?hie13 (by kernel_rfl) (by kernel_rfl) (by kernel_rfl) (fun _ _ _ h => h) ?hye13 (by assumption) ?reste13
                      case hie13 => simp only [gA, gS, gZ]; rfl
                      case hye13 =>
                        refine Or.inl ⟨by rfl, ?_⟩
                        intro w hSw; (try dsimp only at hSw); go_simp <;> (with_reducible rfl)
                      (try simp only [Act.put, pA, pZ, pS])
                      refine wpAnyH_take (i := 14) (oi := ?oe14) (v := ?ve14) ?hie14 (by kernel_rfl) (by kernel_rfl) (by kernel_rfl) (fun _ _ _ h => h) ?hye14 (by assumption) ?reste14
                      case hie14 => simp only [gA, gS, gZ]; rfl
                      case hye14 =>
                        refine Or.inl ⟨by rfl, ?_⟩
                        intro w hSw; (try dsimp only at hSw); go_simp <;> (with_reducible rfl)
                      (try simp only [Act.put, pA, pZ, pS])
                      refine wpAnyH_ready (rs := [4]) (by kernel_rfl) (by simp) ?_
                      refine AllReadyH.cons rfl (fun K hK => ?_) AllReadyH.nil
                      go_simp
                      have hHX := hHeld; refine (HN _ (Hid.out (And.left hHX)).1.tab).mono ?_; rintro _ wq2 ⟨rfl, hb⟩; have HD2 : Hid (Rd wq2 r s e m tv ths ∧ Mod (RF r tv) w wq2) := Lib.hid ⟨(Hid.out (And.left hHX)).1.under hb, (Hid.out (And.left hHX)).2.trans (Mod.of_below (F := RF r tv) hb)⟩; clear hb
                      refine hK.out _ _ ⟨HD2, HD2.out.1.cells.1, HD2.out.1.cells.2.1⟩ (fun hHelde4 => ?_)
                      clear hK K
                      (try simp only [Act.put, pA, pZ, pS])
                      refine wpAnyH_take (i := 15) (oi := ?oe15) (v := ?ve15) ?hie15 (by kernel_rfl) (by kernel_rfl) (by kernel_rfl) (fun _ _ _ h => h) ?hye15 (by assumption) ?reste15
                      case hie15 => simp only [gA, gS, gZ]; rfl
                      case hye15 =>
                        refine Or.inl ⟨by rfl, ?_⟩
                        intro w hSw; (try dsimp only at hSw); go_simp <;> (with_reducible rfl)
                      (try simp only [Act.put, pA, pZ, pS])
                      refine wpAnyH_take (i := 16) (oi := ?oe16) (v := ?ve16) ?hie16 (by kernel_rfl) (by kernel_rfl) (by kernel_rfl) (fun _ _ _ h => h) ?hye16 (by assumption) ?reste16
                      case hie16 => simp only [gA, gS, gZ]; rfl
                      case hye16 =>
                        refine Or.inl ⟨by rfl, ?_⟩
                        intro w hSw; (try dsimp only at hSw); go_simp <;> (with_reducible rfl)
                      (try simp only [Act.put, pA, pZ, pS])
                      refine wpAnyH_take (i := 17) (oi := ?oe17) (v := ?ve17) ?hie17 (by kernel_rfl) (by kernel_rfl) (by kernel_rfl) (fun _ _ _ h => h) ?hye17 (by assumption) ?reste17
                      case hie17 => simp only [gA, gS, gZ]; rfl
                      case hye17 =>
                        refine Or.inl ⟨by rfl, ?_⟩
                        intro w hSw; (try dsimp only at hSw); go_simp <;> (with_reducible rfl)
                      (try simp only [Act.put, pA, pZ, pS])
                      refine wpAnyH_take (i := 18) (oi := ?oe18) (v := ?ve18) ?hie18 (by kernel_rfl) (by kernel_rfl) (by kernel_rfl) (fun _ _ _ h => h) ?hye18 (by assumption) ?reste18
                      case hie18 => simp only [gA, gS, gZ]; rfl
                      case hye18 =>
                        refine Or.inl ⟨by rfl, ?_⟩
                        intro w hSw; (try dsimp only at hSw); go_simp <;> (with_reducible rfl)
                      (try simp only [Act.put, pA, pZ, pS])
                      refine wpAnyH_take (i := 19) (oi := ?oe19) (v := ?ve19) ?hie19 (by kernel_rfl) (by kernel_rfl) (by kernel_rfl) (fun _ _ _ h => h) ?hye19 (by assumption) ?reste19
                      case hie19 => simp only [gA, gS, gZ]; rfl
                      case hye19 =>
                        refine Or.inl ⟨by rfl, ?_⟩
                        intro w hSw; (try dsimp only at hSw); go_simp <;> (with_reducible rfl)
                      (try simp only [Act.put, pA, pZ, pS])
                      refine wpAnyH_take (i := 20) (oi := ?oe20) (v := ?ve20) ?hie20 (by kernel_rfl) (by kernel_rfl) (by kernel_rfl) (fun _ _ _ h => h) ?hye20 (by assumption) ?reste20
                      case hie20 => simp only [gA, gS, gZ]; rfl
                      case hye20 =>
                        refine Or.inl ⟨by rfl, ?_⟩
                        intro w hSw; (try dsimp only at hSw); go_simp <;> (with_reducible rfl)
                      (try simp only [Act.put, pA, pZ, pS])
                      refine wpAnyH_take (i := 21) (oi := ?oe21) (v := ?ve21) ?hie21 (by kernel_rfl) (by kernel_rfl) (by kernel_rfl) (fun _ _ _ h => h) ?hye21 (by assumption) ?reste21
                      case hie21 => simp only [gA, gS, gZ]; rfl
                      case hye21 =>
                        refine Or.inl ⟨by rfl, ?_⟩
                        intro w hSw; (try dsimp only at hSw); go_simp <;> (with_reducible rfl)
                      (try simp only [Act.put, pA, pZ, pS])
                      refine wpAnyH_take (i := 22) (oi := ?oe22) (v := ?ve22) ?hie22 (by kernel_rfl) (by kernel_rfl) (by kernel_rfl) (fun _ _ _ h => h) ?hye22 (by assumption) ?reste22
                      case hie22 => simp only [gA, gS, gZ]; rfl
                      case hye22 =>
                        refine Or.inl ⟨by rfl, ?_⟩
                        intro w hSw; (try dsimp only at hSw); go_simp <;> (with_reducible rfl)
                      (try simp only [Act.put, pA, pZ, pS])
                      refine wpAnyH_take (i := 23) (oi := ?oe23) (v := ?ve23) ?hie23 (by kernel_rfl) (by kernel_rfl) (by kernel_rfl) (fun _ _ _ h => h) ?hye23 (by assumption) ?reste23
                      case hie23 => simp only [gA, gS, gZ]; rfl
                      case hye23 =>
                        refine Or.inl ⟨by rfl, ?_⟩
                        intro w hSw; (try dsimp only at hSw); go_simp <;> (with_reducible rfl)
                      (try simp only [Act.put, pA, pZ, pS])
                      refine wpAnyH_take (i := 24) (oi := ?oe24) (v := ?ve24) ?hie24 (by kernel_rfl) (by kernel_rfl) (by kernel_rfl) (fun _ _ _ h => h) ?hye24 (by assumption) ?reste24
                      case hie24 => simp only [gA, gS, gZ]; rfl
                      case hye24 =>
                        refine Or.inl ⟨by rfl, ?_⟩
                        intro w hSw; (try dsimp only at hSw); go_simp <;> (with_reducible rfl)
                      (try simp only [Act.put, pA, pZ, pS])
                      refine wpAnyH_take (i := 25) (oi := ?oe25) (v := ?ve25) ?hie25 (by kernel_rfl) (by kernel_rfl) (by kernel_rfl) (fun _ _ _ h => h) ?hye25 (by assumption) ?reste25
                      case hie25 => simp only [gA, gS, gZ]; rfl
                      case hye25 =>
                        refine Or.inl ⟨by rfl, ?_⟩
                        intro w hSw; (try dsimp only at hSw); go_simp <;> (with_reducible rfl)
                      (try simp only [Act.put, pA, pZ, pS])
                      refine wpAnyH_done (by kernel_rfl) ?_ _
                      refine NoPanic.normal ?_
                      cases g
                      · have hxe : x = .ok (v, e) := by rw [HXE.out, if_pos rfl, if_neg (fun a => by simp [a.2] at hg)]
                        subst hxe
                        go_wp2_with fail
                        go_ret
                        exact ⟨⟨rfl, HD2.out.1⟩, HD2.out.2⟩
                      · have hxe : x = .error (11, p) := by rw [HXE.out, if_pos rfl, if_pos ⟨rfl, by simpa using hg⟩]
                        subst hxe
                        go_wp2_with fail
                        refine (fail_any 11 p _).mono ?_
                        rintro _ w2 ⟨rfl, rfl⟩
                        go_wp2_with fail
                        exact ⟨rfl, rfl, HD2.out.2⟩
                    · have hxe : x = .ok (v, e) := HXE.out
                      subst hxe
                      refine wp_region_noPanic ?_
                      refine wp_region_held_drew (S := (fun V => Hid (Rd V r s e m tv ths ∧ Mod (RF r tv) w V) ∧ V.cell? ⟨r, 0, none⟩ = some (.string s) ∧ V.cell? ⟨r, 1, none⟩ = some (.int .i64 e))) (by kernel_rfl) (by exact HS.out) (fun hHeld => ?_)
                      refine wpAnyH_take (i := 0) (oi := ?of0) (v := ?vf0) ?hif0 (by kernel_rfl) (by kernel_rfl) (by kernel_rfl) (fun _ _ _ h => h) ?hyf0 (by assumption) ?restf0
                      case hif0 => simp only [gA, gZ]; rfl
                      case hyf0 =>
                        refine Or.inl ⟨by rfl, ?_⟩
                        intro w hSw; (try dsimp only at hSw); go_simp <;> (with_reducible rfl)
                      (try simp only [Act.put, pA, pZ, pS])
                      refine wpAnyH_take (i := 1) (oi := ?of1) (v := ?vf1) ?hif1 (by kernel_rfl) (by kernel_rfl) (by kernel_rfl) (fun _ _ _ h => h) ?hyf1 (by assumption) ?restf1
                      case hif1 => simp only [gA, gS, gZ]; rfl
                      case hyf1 =>
                        refine Or.inl ⟨by rfl, ?_⟩
                        intro w hSw; (try dsimp only at hSw); go_simp <;> (with_reducible rfl)
                      (try simp only [Act.put, pA, pZ, pS])
                      refine wpAnyH_take (i := 2) (oi := ?of2) (v := ?vf2) ?hif2 (by kernel_rfl) (by kernel_rfl) (by kernel_rfl) (fun _ _ _ h => h) ?hyf2 (by assumption) ?restf2
                      case hif2 => simp only [gA, gS, gZ]; rfl
                      case hyf2 =>
                        refine Or.inl ⟨by rfl, ?_⟩
                        intro w hSw; (try dsimp only at hSw); go_simp <;> (with_reducible rfl)
                      (try simp only [Act.put, pA, pZ, pS])
                      refine wpAnyH_take (i := 3) (oi := ?of3) (v := ?vf3) ?hif3 (by kernel_rfl) (by kernel_rfl) (by kernel_rfl) (fun _ _ _ h => h) ?hyf3 (by assumption) ?restf3
                      case hif3 => simp only [gA, gS, gZ]; rfl
                      case hyf3 =>
                        refine Or.inl ⟨by rfl, ?_⟩
                        intro w hSw; (try dsimp only at hSw); go_simp <;> (with_reducible rfl)
                      (try simp only [Act.put, pA, pZ, pS])
                      refine wpAnyH_take (i := 5) (oi := ?of5) (v := ?vf5) ?hif5 (by kernel_rfl) (by kernel_rfl) (by kernel_rfl) (fun _ _ _ h => h) ?hyf5 (by assumption) ?restf5
                      case hif5 => simp only [gA, gS, gZ]; rfl
                      case hyf5 =>
                        refine Or.inl ⟨by rfl, ?_⟩
                        intro w hSw; (try dsimp only at hSw); go_simp <;> (with_reducible rfl)
                      (try simp only [Act.put, pA, pZ, pS])
                      refine wpAnyH_take (i := 6) (oi := ?of6) (v := ?vf6) ?hif6 (by kernel_rfl) (by kernel_rfl) (by kernel_rfl) (fun _ _ _ h => h) ?hyf6 (by assumption) ?restf6
                      case hif6 => simp only [gA, gS, gZ]; rfl
                      case hyf6 =>
                        refine Or.inl ⟨by rfl, ?_⟩
                        intro w hSw; (try dsimp only at hSw); go_simp <;> (with_reducible rfl)
                      (try simp only [Act.put, pA, pZ, pS])
                      refine wpAnyH_take (i := 7) (oi := ?of7) (v := ?vf7) ?hif7 (by kernel_rfl) (by kernel_rfl) (by kernel_rfl) (fun _ _ _ h => h) ?hyf7 (by assumption) ?restf7
                      case hif7 => simp only [gA, gS, gZ]; rfl
                      case hyf7 =>
                        refine Or.inl ⟨by rfl, ?_⟩
                        intro w hSw; (try dsimp only at hSw); go_simp <;> (with_reducible rfl)
                      (try simp only [Act.put, pA, pZ, pS])
                      refine wpAnyH_take (i := 8) (oi := ?of8) (v := ?vf8) ?hif8 (by kernel_rfl) (by kernel_rfl) (by kernel_rfl) (fun _ _ _ h => h) ?hyf8 (by assumption) ?restf8
                      case hif8 => simp only [gA, gS, gZ]; rfl
                      case hyf8 =>
                        refine Or.inl ⟨by rfl, ?_⟩
                        intro w hSw; (try dsimp only at hSw); go_simp <;> (with_reducible rfl)
                      (try simp only [Act.put, pA, pZ, pS])
                      refine wpAnyH_take (i := 9) (oi := ?of9) (v := ?vf9) ?hif9 (by kernel_rfl) (by kernel_rfl) (by kernel_rfl) (fun _ _ _ h => h) ?hyf9 (by assumption) ?restf9
                      case hif9 => simp only [gA, gS, gZ]; rfl
                      case hyf9 =>
                        refine Or.inl ⟨by rfl, ?_⟩
                        intro w hSw; (try dsimp only at hSw); go_simp <;> (with_reducible rfl)
                      (try simp only [Act.put, pA, pZ, pS])
                      refine wpAnyH_take (i := 10) (oi := ?of10) (v := ?vf10) ?hif10 (by kernel_rfl) (by kernel_rfl) (by kernel_rfl) (fun _ _ _ h => h) ?hyf10 (by assumption) ?restf10
                      case hif10 => simp only [gA, gS, gZ]; rfl
                      case hyf10 =>
                        refine Or.inl ⟨by rfl, ?_⟩
                        intro w hSw; (try dsimp only at hSw); go_simp <;> (with_reducible rfl)
                      (try simp only [Act.put, pA, pZ, pS])
                      refine wpAnyH_take (i := 11) (oi := ?of11) (v := ?vf11) ?hif11 (by kernel_rfl) (by kernel_rfl) (by kernel_rfl) (fun _ _ _ h => h) ?hyf11 (by assumption) ?restf11
                      case hif11 => simp only [gA, gS, gZ]; rfl
                      case hyf11 =>
                        refine Or.inl ⟨by rfl, ?_⟩
                        intro w hSw; (try dsimp only at hSw); go_simp <;> (with_reducible rfl)
                      (try simp only [Act.put, pA, pZ, pS])
                      refine wpAnyH_take (i := 12) (oi := ?of12) (v := ?vf12) ?hif12 (by kernel_rfl) (by kernel_rfl) (by kernel_rfl) (fun _ _ _ h => h) ?hyf12 (by assumption) ?restf12
                      case hif12 => simp only [gA, gS, gZ]; rfl
                      case hyf12 =>
                        refine Or.inl ⟨by rfl, ?_⟩
                        intro w hSw; (try dsimp only at hSw); go_simp <;> (with_reducible rfl)
                      (try simp only [Act.put, pA, pZ, pS])
                      refine wpAnyH_take (i := 13) (oi := ?of13) (v := ?vf13) ?hif13 (by kernel_rfl) (by kernel_rfl) (by kernel_rfl) (fun _ _ _ h => h) ?hyf13 (by assumption) ?restf13
                      case hif13 => simp only [gA, gS, gZ]; rfl
                      case hyf13 =>
                        refine Or.inl ⟨by rfl, ?_⟩
                        intro w hSw; (try dsimp only at hSw); go_simp <;> (with_reducible rfl)
                      (try simp only [Act.put, pA, pZ, pS])
                      refine wpAnyH_take (i := 14) (oi := ?of14) (v := ?vf14) ?hif14 (by kernel_rfl) (by kernel_rfl) (by kernel_rfl) (fun _ _ _ h => h) ?hyf14 (by assumption) ?restf14
                      case hif14 => simp only [gA, gS, gZ]; rfl
                      case hyf14 =>
                        refine Or.inl ⟨by rfl, ?_⟩
                        intro w hSw; (try dsimp only at hSw); go_simp <;> (with_reducible rfl)
                      (try simp only [Act.put, pA, pZ, pS])
                      refine wpAnyH_ready (rs := [4]) (by kernel_rfl) (by simp) ?_
                      refine AllReadyH.cons rfl (fun K hK => ?_) AllReadyH.nil
                      go_simp
                      have hHX := hHeld; refine (HN _ (Hid.out (And.left hHX)).1.tab).mono ?_; rintro _ wq2 ⟨rfl, hb⟩; have HD2 : Hid (Rd wq2 r s e m tv ths ∧ Mod (RF r tv) w wq2) := Lib.hid ⟨(Hid.out (And.left hHX)).1.under hb, (Hid.out (And.left hHX)).2.trans (Mod.of_below (F := RF r tv) hb)⟩; clear hb
                      refine hK.out _ _ ⟨HD2, HD2.out.1.cells.1, HD2.out.1.cells.2.1⟩ (fun hHeldf4 => ?_)
                      clear hK K
                      (try simp only [Act.put, pA, pZ, pS])
                      refine wpAnyH_take (i := 15) (oi := ?of15) (v := ?vf15) ?hif15 (by kernel_rfl) (by kernel_rfl) (by kernel_rfl) (fun _ _ _ h => h) ?hyf15 (by assumption) ?restf15
                      case hif15 => simp only [gA, gS, gZ]; rfl
                      case hyf15 =>
                        refine Or.inl ⟨by rfl, ?_⟩
                        intro w hSw; (try dsimp only at hSw); go_simp <;> (with_reducible rfl)
                      (try simp only [Act.put, pA, pZ, pS])
                      refine wpAnyH_take (i := 16) (oi := ?of16) (v := ?vf16) ?hif16 (by kernel_rfl) (by kernel_rfl) (by kernel_rfl) (fun _ _ _ h => h) ?hyf16 (by assumption) ?restf16
                      case hif16 => simp only [gA, gS, gZ]; rfl
                      case hyf16 =>
                        refine Or.inl ⟨by rfl, ?_⟩
                        intro w hSw; (try dsimp only at hSw); go_simp <;> (with_reducible rfl)
                      (try simp only [Act.put, pA, pZ, pS])
                      refine wpAnyH_take (i := 17) (oi := ?of17) (v := ?vf17) ?hif17 (by kernel_rfl) (by kernel_rfl) (by kernel_rfl) (fun _ _ _ h => h) ?hyf17 (by assumption) ?restf17
                      case hif17 => simp only [gA, gS, gZ]; rfl
                      case hyf17 =>
                        refine Or.inl ⟨by rfl, ?_⟩
                        intro w hSw; (try dsimp only at hSw); go_simp <;> (with_reducible rfl)
                      (try simp only [Act.put, pA, pZ, pS])
                      refine wpAnyH_take (i := 18) (oi := ?of18) (v := ?vf18) ?hif18 (by kernel_rfl) (by kernel_rfl) (by kernel_rfl) (fun _ _ _ h => h) ?hyf18 (by assumption) ?restf18
                      case hif18 => simp only [gA, gS, gZ]; rfl
                      case hyf18 =>
                        refine Or.inl ⟨by rfl, ?_⟩
                        intro w hSw; (try dsimp only at hSw); go_simp <;> (with_reducible rfl)
                      (try simp only [Act.put, pA, pZ, pS])
                      refine wpAnyH_take (i := 19) (oi := ?of19) (v := ?vf19) ?hif19 (by kernel_rfl) (by kernel_rfl) (by kernel_rfl) (fun _ _ _ h => h) ?hyf19 (by assumption) ?restf19
                      case hif19 => simp only [gA, gS, gZ]; rfl
                      case hyf19 =>
                        refine Or.inl ⟨by rfl, ?_⟩
                        intro w hSw; (try dsimp only at hSw); go_simp <;> (with_reducible rfl)
                      (try simp only [Act.put, pA, pZ, pS])
                      refine wpAnyH_take (i := 20) (oi := ?of20) (v := ?vf20) ?hif20 (by kernel_rfl) (by kernel_rfl) (by kernel_rfl) (fun _ _ _ h => h) ?hyf20 (by assumption) ?restf20
                      case hif20 => simp only [gA, gS, gZ]; rfl
                      case hyf20 =>
                        refine Or.inl ⟨by rfl, ?_⟩
                        intro w hSw; (try dsimp only at hSw); go_simp <;> (with_reducible rfl)
                      (try simp only [Act.put, pA, pZ, pS])
                      refine wpAnyH_take (i := 21) (oi := ?of21) (v := undef) ?hif21 (by kernel_rfl) (by kernel_rfl) (by kernel_rfl) (fun _ _ _ h => h) ?hyf21 (by assumption) ?restf21
                      case hif21 => simp only [gA, gS, gZ]; rfl
                      case hyf21 => exact Or.inr ⟨by rfl, rfl⟩
                      (try simp only [Act.put, pA, pZ, pS])
                      refine wpAnyH_take (i := 22) (oi := ?of22) (v := undef) ?hif22 (by kernel_rfl) (by kernel_rfl) (by kernel_rfl) (fun _ _ _ h => h) ?hyf22 (by assumption) ?restf22
                      case hif22 => simp only [gA, gS, gZ]; rfl
                      case hyf22 => exact Or.inr ⟨by rfl, rfl⟩
                      (try simp only [Act.put, pA, pZ, pS])
                      refine wpAnyH_take (i := 23) (oi := ?of23) (v := undef) ?hif23 (by kernel_rfl) (by kernel_rfl) (by kernel_rfl) (fun _ _ _ h => h) ?hyf23 (by assumption) ?restf23
                      case hif23 => simp only [gA, gS, gZ]; rfl
                      case hyf23 => exact Or.inr ⟨by rfl, rfl⟩
                      (try simp only [Act.put, pA, pZ, pS])
                      refine wpAnyH_take (i := 24) (oi := ?of24) (v := ?vf24) ?hif24 (by kernel_rfl) (by kernel_rfl) (by kernel_rfl) (fun _ _ _ h => h) ?hyf24 (by assumption) ?restf24
                      case hif24 => simp only [gA, gS, gZ]; rfl
                      case hyf24 =>
                        refine Or.inl ⟨by rfl, ?_⟩
                        intro w hSw; (try dsimp only at hSw); go_simp <;> (with_reducible rfl)
                      (try simp only [Act.put, pA, pZ, pS])
                      refine wpAnyH_take (i := 25) (oi := ?of25) (v := ?vf25) ?hif25 (by kernel_rfl) (by kernel_rfl) (by kernel_rfl) (fun _ _ _ h => h) ?hyf25 (by assumption) ?restf25
                      case hif25 => simp only [gA, gS, gZ]; rfl
                      case hyf25 =>
                        refine Or.inl ⟨by rfl, ?_⟩
                        intro w hSw; (try dsimp only at hSw); go_simp <;> (with_reducible rfl)
                      (try simp only [Act.put, pA, pZ, pS])
                      refine wpAnyH_done (by kernel_rfl) ?_ _
                      refine NoPanic.normal ?_
                      go_wp2_with fail
                      go_ret
                      exact ⟨⟨rfl, HD2.out.1⟩, HD2.out.2⟩
                · have hxe : x = .error (11, p) := by
                    rw [HX2.out]; unfold numText
                    rw [canon_bad fun v e => hv ⟨v, e⟩]
                  have HA := atoi_bad hts (fun v e => hv ⟨v, e⟩)
                  subst hxe
                  clear hv HX2
                  go_wp2_with fail
                  have HCd : Hid (Rd wc.drew r s e m tv ths ∧ Mod (RF r tv) w wc.drew) := Lib.hid ⟨HC6.out.1.under ((Below.refl _ _).drew), HC6.out.2.trans (Mod.of_below (F := RF r tv) ((Below.refl _ _).drew))⟩
                  refine wp_region_noPanic ?_
                  refine wp_region_held_drew (S := (fun V => Hid (Rd V r s e m tv ths ∧ Mod (RF r tv) w V) ∧ V.cell? ⟨r, 0, none⟩ = some (.string s) ∧ V.cell? ⟨r, 1, none⟩ = some (.int .i64 e))) (by kernel_rfl) (by exact ⟨HCd, HCd.out.1.cells.1, HCd.out.1.cells.2.1⟩) (fun hHeld => ?_)
                  refine wpAnyH_take (i := 0) (oi := ?o0) (v := ?v0) ?hi0 (by kernel_rfl) (by kernel_rfl) (by kernel_rfl) (fun _ _ _ h => h) ?hy0 (by assumption) ?rest0
                  case hi0 => simp only [gA, gZ]; rfl
                  case hy0 =>
                    refine Or.inl ⟨by rfl, ?_⟩
                    intro w hSw; (try dsimp only at hSw); go_simp <;> (with_reducible rfl)
                  (try simp only [Act.put, pA, pZ, pS])
                  refine wpAnyH_take (i := 1) (oi := ?o1) (v := ?v1) ?hi1 (by kernel_rfl) (by kernel_rfl) (by kernel_rfl) (fun _ _ _ h => h) ?hy1 (by assumption) ?rest1
                  case hi1 => simp only [gA, gS, gZ]; rfl
                  case hy1 =>
                    refine Or.inl ⟨by rfl, ?_⟩
                    intro w hSw; (try dsimp only at hSw); go_simp <;> (with_reducible rfl)
                  (try simp only [Act.put, pA, pZ, pS])
                  refine wpAnyH_take (i := 2) (oi := ?o2) (v := ?v2) ?hi2 (by kernel_rfl) (by kernel_rfl) (by kernel_rfl) (fun _ _ _ h => h) ?hy2 (by assumption) ?rest2
                  case hi2 => simp only [gA, gS, gZ]; rfl
                  case hy2 =>
                    refine Or.inl ⟨by rfl, ?_⟩
                    intro w hSw; (try dsimp only at hSw); go_simp <;> (with_reducible rfl)
                  (try simp only [Act.put, pA, pZ, pS])
                  refine wpAnyH_take (i := 3) (oi := ?o3) (v := ?v3) ?hi3 (by kernel_rfl) (by kernel_rfl) (by kernel_rfl) (fun _ _ _ h => h) ?hy3 (by assumption) ?rest3
                  case hi3 => simp only [gA, gS, gZ]; rfl
                  case hy3 =>
                    refine Or.inl ⟨by rfl, ?_⟩
                    intro w hSw; (try dsimp only at hSw); go_simp <;> (with_reducible rfl)
                  (try simp only [Act.put, pA, pZ, pS])
                  refine wpAnyH_take (i := 4) (oi := ?o4) (v := ?v4) ?hi4 (by kernel_rfl) (by kernel_rfl) (by kernel_rfl) (fun _ _ _ h => h) ?hy4 (by assumption) ?rest4
                  case hi4 => simp only [gA, gS, gZ]; rfl
                  case hy4 =>
                    refine Or.inl ⟨by rfl, ?_⟩
                    intro w hSw; (try dsimp only at hSw); go_simp <;> (with_reducible rfl)
                  (try simp only [Act.put, pA, pZ, pS])
                  refine wpAnyH_take (i := 5) (oi := ?o5) (v := ?v5) ?hi5 (by kernel_rfl) (by kernel_rfl) (by kernel_rfl) (fun _ _ _ h => h) ?hy5 (by assumption) ?rest5
                  case hi5 => simp only [gA, gS, gZ]; rfl
                  case hy5 =>
                    refine Or.inl ⟨by rfl, ?_⟩
                    intro w hSw; (try dsimp only at hSw); go_simp <;> (with_reducible rfl)
                  (try simp only [Act.put, pA, pZ, pS])
                  refine wpAnyH_take (i := 6) (oi := ?o6) (v := ?v6) ?hi6 (by kernel_rfl) (by kernel_rfl) (by kernel_rfl) (fun _ _ _ h => h) ?hy6 (by assumption) ?rest6
                  case hi6 => simp only [gA, gS, gZ]; rfl
                  case hy6 =>
                    refine Or.inl ⟨by rfl, ?_⟩
                    intro w hSw; (try dsimp only at hSw); go_simp <;> (with_reducible rfl)
                  (try simp only [Act.put, pA, pZ, pS])
                  refine wpAnyH_take (i := 7) (oi := ?o7) (v := ?v7) ?hi7 (by kernel_rfl) (by kernel_rfl) (by kernel_rfl) (fun _ _ _ h => h) ?hy7 (by assumption) ?rest7
                  case hi7 => simp only [gA, gS, gZ]; rfl
                  case hy7 =>
                    refine Or.inl ⟨by rfl, ?_⟩
                    intro w hSw; (try dsimp only at hSw); go_simp <;> (with_reducible rfl)
                  (try simp only [Act.put, pA, pZ, pS])
                  refine wpAnyH_take (i := 8) (oi := ?o8) (v := ?v8) ?hi8 (by kernel_rfl) (by kernel_rfl) (by kernel_rfl) (fun _ _ _ h => h) ?hy8 (by assumption) ?rest8
                  case hi8 => simp only [gA, gS, gZ]; rfl
                  case hy8 =>
                    refine Or.inl ⟨by rfl, ?_⟩
                    intro w hSw; (try dsimp only at hSw); go_simp <;> (with_reducible rfl)
                  (try simp only [Act.put, pA, pZ, pS])
                  refine wpAnyH_take (i := 9) (oi := ?o9) (v := ?v9) ?hi9 (by kernel_rfl) (by kernel_rfl) (by kernel_rfl) (fun _ _ _ h => h) ?hy9 (by assumption) ?rest9
                  case hi9 => simp only [gA, gS, gZ]; rfl
                  case hy9 =>
                    refine Or.inl ⟨by rfl, ?_⟩
                    intro w hSw; (try dsimp only at hSw); go_simp <;> (with_reducible rfl)
                  (try simp only [Act.put, pA, pZ, pS])
                  refine wpAnyH_ready (rs := [10]) (by kernel_rfl) (by simp) ?_
                  refine AllReadyH.cons rfl (fun K hK => ?_) AllReadyH.nil
                  go_simp
                  have hHX := hHeld; refine (HA _ (Hid.out (And.left hHX)).1.tab).mono ?_; rintro _ wq1 ⟨y, py, rfl, hb⟩; have HD1 : Hid (Rd wq1 r s e m tv ths ∧ Mod (RF r tv) w wq1) := Lib.hid ⟨(Hid.out (And.left hHX)).1.under hb, (Hid.out (And.left hHX)).2.trans (Mod.of_below (F := RF r tv) hb)⟩; clear hb
                  refine hK.out _ _ ⟨HD1, HD1.out.1.cells.1, HD1.out.1.cells.2.1⟩ (fun hHeld10 => ?_)
                  clear hK K
                  (try simp only [Act.put, pA, pZ, pS])
                  refine wpAnyH_take (i := 11) (oi := ?o11) (v := ?v11) ?hi11 (by kernel_rfl) (by kernel_rfl) (by kernel_rfl) (fun _ _ _ h => h) ?hy11 (by assumption) ?rest11
                  case hi11 => simp only [gA, gS, gZ]; rfl
                  case hy11 =>
                    refine Or.inl ⟨by rfl, ?_⟩
                    intro w hSw; (try dsimp only at hSw); go_simp <;> (with_reducible rfl)
                  (try simp only [Act.put, pA, pZ, pS])
                  refine wpAnyH_take (i := 12) (oi := ?o12) (v := ?v12) ?hi12 (by kernel_rfl) (by kernel_rfl) (by kernel_rfl) (fun _ _ _ h => h) ?hy12 (by assumption) ?rest12
                  case hi12 => simp only [gA, gS, gZ]; rfl
                  case hy12 =>
                    refine Or.inl ⟨by rfl, ?_⟩
                    intro w hSw; (try dsimp only at hSw); go_simp <;> (with_reducible rfl)
                  (try simp only [Act.put, pA, pZ, pS])
                  refine wpAnyH_take (i := 13) (oi := ?o13) (v := ?v13) ?hi13 (by kernel_rfl) (by kernel_rfl) (by kernel_rfl) (fun _ _ _ h => h) ?hy13 (by assumption) ?rest13
                  case hi13 => simp only [gA, gS, gZ]; rfl
                  case hy13 =>
                    refine Or.inl ⟨by rfl, ?_⟩
                    intro w hSw; (try dsimp only at hSw); go_simp <;> (with_reducible rfl)
                  (try simp only [Act.put, pA, pZ, pS])
                  refine wpAnyH_take (i := 14) (oi := ?o14) (v := ?v14) ?hi14 (by kernel_rfl) (by kernel_rfl) (by kernel_rfl) (fun _ _ _ h => h) ?hy14 (by assumption) ?rest14
                  case hi14 => simp only [gA, gS, gZ]; rfl
                  case hy14 =>
                    refine Or.inl ⟨by rfl, ?_⟩
                    intro w hSw; (try dsimp only at hSw); go_simp <;> (with_reducible rfl)
                  (try simp only [Act.put, pA, pZ, pS])
                  refine wpAnyH_take (i := 15) (oi := ?o15) (v := ?v15) ?hi15 (by kernel_rfl) (by kernel_rfl) (by kernel_rfl) (fun _ _ _ h => h) ?hy15 (by assumption) ?rest15
                  case hi15 => simp only [gA, gS, gZ]; rfl
                  case hy15 =>
                    refine Or.inl ⟨by rfl, ?_⟩
                    intro w hSw; (try dsimp only at hSw); go_simp <;> (with_reducible rfl)
                  (try simp only [Act.put, pA, pZ, pS])
                  refine wpAnyH_done (by kernel_rfl) ?_ _
                  refine NoPanic.normal ?_
                  go_wp2_with fail
                  obtain ⟨c0, c1, c2, c3⟩ := HD1.out.1.cells
                  go_quiet (fail)
                  go_wp2_with fail
                  refine (fail_any 11 p _).mono ?_
                  rintro _ w2 ⟨rfl, rfl⟩
                  go_wp2_with fail
                  exact ⟨rfl, rfl, HD1.out.2.trans (Mod.of_below (belowN (Below.refl _ _) _))⟩
              · have hjl : j < s.size := dig_now_lt HDD.out
                have hej : e = endP s (j + 1) := by rw [HJ.out.2, endP_step hjl (by rw [← nowP_lt hjl]; exact HDD.out)]
                obtain ⟨hp', hpw⟩ := wr_sm (x := (j : Int) + 1) (by omega) (by omega)
                obtain ⟨c0, c1, c2, c3⟩ := HC6.out.1.cells
                have ff := free_blk HC6.out.1.blk 1
                have HJL := Lib.hid hjl
                have HEJ := Lib.hid hej
                clear hjl hej HDD
                go_wp2_with fail
                go_roundg (s.size - (j + 1))
                case measure => have := HJL.out; omega
                case rel => exact ⟨j + 1, rfl, Lib.hid ⟨HJL.out, HEJ.out⟩, Lib.hid ⟨HC6.out.1.setAt HJL.out (by omega), HC6.out.2.trans (set_mod _ r 1 _ tv)⟩⟩
end Go.Proofs.YtnaefnojmiolbaaGreatDoor
