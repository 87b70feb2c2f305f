/-
  The walk of a reader's items.
-/
import Derived.Test.YtnaefnojmiolbaaGreatDoorReadZ
import Derived.Test.YtnaefnojmiolbaaGreatDoorItemsZ
namespace Go.Proofs.YtnaefnojmiolbaaGreatDoor
open Go.RowKit

attribute [local go_sem] yld_undef
theorem size_extract_le (s : ByteArray) (a b : Nat) : (s.extract a b).size ≤ s.size := by rw [ByteArray.size_extract]; omega
theorem textP_size {s t : ByteArray} {cls : Bool} {p q : Nat} (h : textP s cls p = .ok (t, q)) : t.size ≤ s.size := by
  unfold textP at h
  split at h
  · cases h
  · split at h
    · cases h
    · split at h
      · cases h
      · split at h
        · cases h
        · split at h
          · cases h
          · cases h; exact size_extract_le _ _ _
theorem numberP_bounds {s : ByteArray} {sign : Bool} {most n : Int} {p q : Nat} (h : numberP s sign most p = .ok (n, q)) : -9223372036854775808 ≤ n ∧ n ≤ 9223372036854775807 := by
  unfold numberP at h
  split at h
  · split at h
    · rename_i k hk
      split at h
      · cases h
      · cases h; exact (canonP_some hk).1
    · cases h
  · cases h
theorem keyP_good {s : ByteArray} {props : Bool} {k : K} {p q : Nat} (hs : s.size ≤ 65536) (h : keyP s props p = .ok (k, q)) : k.Good := by
  unfold keyP at h
  split at h
  · split at h
    · cases h
    · split at h
      · cases h
      · rename_i hn; cases h
        obtain ⟨h1, h2⟩ := numberP_bounds hn
        exact ⟨h1, h2, Nat.zero_le _⟩
  · split at h
    · cases h
    · split at h
      · cases h
      · rename_i ht; cases h
        exact ⟨by simp, by simp, by have := textP_size ht; simp; omega⟩
theorem textP_at {s t : ByteArray} {cls : Bool} {p q : Nat} (h : textP s cls p = .ok (t, q)) : p < q := by
  unfold textP at h
  split at h
  · cases h
  · rename_i hn
    have h1 := (numberP_at hn).1
    split at h
    · cases h
    · rename_i hm
      have h2 := (mustP_le hm).1
      split at h
      · cases h
      · split at h
        · cases h
        · split at h
          · cases h
          · rename_i hm3
            have h3 := (mustP_le hm3).1
            cases h
            simp at h2 h3
            omega
theorem keyP_at {s : ByteArray} {props : Bool} {k : K} {p q : Nat} (h : keyP s props p = .ok (k, q)) : p < q := by
  unfold keyP at h
  split at h
  · split at h
    · cases h
    · rename_i hm
      have h1 := (mustP_le hm).1
      split at h
      · cases h
      · rename_i hn; cases h
        have h2 := (numberP_at hn).1
        simp at h1; omega
  · split at h
    · cases h
    · rename_i hm
      have h1 := (mustP_le hm).1
      split at h
      · cases h
      · rename_i ht; cases h
        have h2 := textP_at ht
        simp at h1; omega
/-- Where a round over items stands. -/
structure IR (w W : World) (r : Nat) (s : ByteArray) (tv : Value) (pp mm : Nat) (tv' : Value) (ths' : List Th) (b : Nat) (v : Value) (mb : Nat) (l : LS) (ys : List It2) (j : Nat) : Prop where
  lst : LIs W b v mb l ys
  far : ∀ k, LFoot b v mb k → w.heap.size ≤ k
  rd : Rd W r s pp mm tv' ths'
  fr : Fresh w tv tv'
  mod : Mod (RF r tv) w W
  len : l.xs.length = j
  th : ths'.length ≤ pp
  big : 6 ≤ w.heap.size
section
variable {w W W' : World} {r : Nat} {s : ByteArray} {tv : Value} {pp mm qq : Nat} {tv' : Value} {ths' : List Th} {b : Nat} {v : Value} {mb : Nat} {l : LS} {ys : List It2} {j : Nat}
/-- A reader's call that lays no thing. -/
theorem IR.step (h : IR w W r s tv pp mm tv' ths' b v mb l ys j) (hd : Rd W' r s qq mm tv' ths') (hm : Mod (RF r tv') W W') (hq : pp ≤ qq) : IR w W' r s tv qq mm tv' ths' b v mb l ys j :=
  ⟨h.lst.read h.rd hm, h.far, hd, h.fr, RF.trans h.fr h.mod hm, h.len, by have := h.th; omega, h.big⟩
theorem IR.under (h : IR w W r s tv pp mm tv' ths' b v mb l ys j) (hb : Below W.heap.size W W') : IR w W' r s tv pp mm tv' ths' b v mb l ys j :=
  ⟨h.lst.under hb, h.far, h.rd.under hb, h.fr, h.mod.trans (Mod.of_below hb), h.len, h.th, h.big⟩
/-- The reader's value between. -/
theorem IR.val {tv2 : Value} {ths2 : List Th} {m2 : Nat} (h : IR w W r s tv pp mm tv' ths' b v mb l ys j) (hd : Rd W' r s qq m2 tv2 ths2) (hm : Mod (RF r tv') W W') (hf : Fresh W tv' tv2) (ht : ths2.length ≤ qq) : IR w W' r s tv qq m2 tv2 ths2 b v mb l ys j :=
  ⟨h.lst.read h.rd hm, h.far, hd, h.fr.trans hf h.mod.size, RF.trans h.fr h.mod hm, h.len, ht, h.big⟩
/-- One more counted. -/
theorem IR.many (h : IR w W r s tv pp mm tv' ths' b v mb l ys j) (hn : mm + 1 ≤ 2048) : IR w (W.setCell ⟨r, 2, none⟩ (.int .i64 ((mm : Int) + 1))) r s tv pp (mm + 1) tv' ths' b v mb l ys j :=
  have m := set_mod W r 2 (.int .i64 ((mm : Int) + 1)) tv'
  ⟨h.lst.read h.rd m, h.far, h.rd.setMany (by omega) (by omega), h.fr, RF.trans h.fr h.mod m, h.len, h.th, h.big⟩
/-- One more item. -/
theorem IR.put {v2 : Value} {l2 : LS} {ys2 : List It2} (h : IR w W r s tv pp mm tv' ths' b v mb l ys j) (hi : LIs W' b v2 mb l2 ys2) (hm : Mod (LFoot b v mb) W W') (ho : v2.ownBlock = v.ownBlock ∨ ∃ g, v2.ownBlock = some g ∧ W.heap.size ≤ g) (hl : l2.xs.length = j + 1) : IR w W' r s tv pp mm tv' ths' b v2 mb l2 ys2 (j + 1) :=
  ⟨hi, fun k e => by
      rcases e with e | e | e
      · exact h.far k (.inl e)
      · rcases ho with ho | ⟨g, ho, hg⟩
        · exact h.far k (.inr (.inl (ho ▸ e)))
        · rw [ho] at e; cases e; exact Nat.le_trans h.mod.size hg
      · exact h.far k (.inr (.inr e)),
    h.rd.list h.lst hm (fun k e => by have := h.far k e; have := h.big; omega), h.fr, h.mod.trans' hm (fun i hi e => by have := h.far i e; omega), hl, h.th, h.big⟩
end
set_option maxHeartbeats 12800000 in
set_option maxRecDepth 100000 in
theorem itemsR_any (props : Bool) (d : Int) (hd0 : 0 ≤ d) (hd1 : d ≤ 64) (val : ValF) {r : Nat} {s : ByteArray}
    (HV : ∀ {W : World} {p m : Nat} {tv : Value} {ths : List Th}, Rd W r s p m tv ths → ths.length ≤ p → Calls Tryz.prog 84 #[.pointer (some ⟨r, 0, none⟩), .int .i64 (d + 1)] W (VPost W r s tv (val p m (ths.map Th.tp))))
    {w : World} {p m : Nat} {tv : Value} {ths : List Th} (h : Rd w r s p m tv ths) (hl : ths.length ≤ p) :
    Calls Tryz.prog 119 #[.pointer (some ⟨r, 0, none⟩), .bool props, .int .i64 d] w (LPost w r s tv (bracesP s props val p m (ths.map Th.tp))) := by
  have HVH := @Lib.hid _ @HV
  obtain ⟨x, hx⟩ : ∃ x, x = bracesP s props val p m (ths.map Th.tp) := ⟨_, rfl⟩
  rw [← hx]
  unfold bracesP at hx
  obtain ⟨x1, hx1⟩ : ∃ x, x = numberP s false 2048 p := ⟨_, rfl⟩
  have HN := number_any false 2048 h
  rw [← hx1] at HN hx
  have hsz := h.hs
  have h := Lib.hid h
  clear HV
  rcases x1 with ⟨c, a⟩ | ⟨n, p1⟩
  · have hxe : x = .error (c, a) := hx
    subst hxe
    clear hx hx1
    go_enter Tryz.func119, Tryz.ntmps119
    go_wp2_with fail
    refine HN.mono ?_
    rintro e w1 ⟨rfl, hm⟩
    go_wp2_with fail
    exact ⟨rfl, rfl, hm⟩
  obtain ⟨hn0, hn1⟩ := numberP_lim hx1.symm
  have hp1 := numberP_at hx1.symm
  obtain ⟨k, rfl⟩ : ∃ k : Nat, n = k := ⟨n.toNat, by omega⟩
  obtain ⟨x2, hx2⟩ : ∃ x, x = mustP s [58, 123] p1 := ⟨_, rfl⟩
  dsimp only at hx
  rw [← hx2] at hx
  have HX := Lib.hid hx
  have HX2 := Lib.hid hx2
  have HP := Lib.hid (⟨hp1.1, hl⟩ : _ ∧ _)
  clear hx hx2 hx1 hp1 hl
  go_enter Tryz.func119, Tryz.ntmps119
  go_wp2_with fail
  refine HN.mono ?_
  rintro e w1 ⟨⟨rfl, hd⟩, hm⟩
  have HD := Lib.hid hd
  have HM := Lib.hid hm
  have HU := must_lit #[58, 123] (by decide) HD.out
  rw [show (#[58, 123] : Array UInt8).toList = [58, 123] from rfl, ← HX2.out] at HU
  clear hd hm HN
  rcases x2 with ⟨c, a⟩ | p2
  · have hxe : x = .error (c, a) := HX.out
    subst hxe
    go_wp2_with fail
    refine HU.mono ?_
    rintro e w2 ⟨rfl, hm⟩
    go_wp2_with fail
    exact ⟨rfl, rfl, HM.out.trans hm⟩
  go_wp2_with fail
  refine HU.mono ?_
  rintro e w2 ⟨⟨rfl, hd⟩, hm⟩
  have HD2 := Lib.hid hd
  have HM2 := Lib.hid (HM.out.trans hm)
  have HP2 : Hid (p ≤ p2) := Lib.hid (by have := (mustP_le HX2.out.symm).1; have := HP.out.1; simp at *; omega)
  have HXL : Hid (x = itemsP s props val k LS.new p2 m (ths.map Th.tp)) := HX
  clear hd hm HU HD HM HX HX2
  go_wp2_with fail
  refine (lnew_any _).mono ?_
  rintro e w3 ⟨b, mb, rfl, hli, hb1, hb2, hbl⟩
  have HI : Hid (IR w w3 r s tv p2 m tv ths b (.slice none 0 0) mb LS.new [] 0) := Lib.hid
    ⟨hli, fun g e => by
        have := HM2.out.size
        rcases e with e | e | e
        · omega
        · simp [Value.ownBlock] at e
        · omega, HD2.out.under hbl, Fresh.refl _ _, HM2.out.trans (Mod.of_below hbl), rfl, by have := HP.out.2; have := HP2.out; omega, h.out.tab.lt⟩
  clear hli hb1 hb2 hbl HD2 HM2
  go_wp2_with fail
  go_loopw [19] (fun cv wr => ∃ (j : Nat) (l : LS) (pp mm : Nat) (tv' : Value) (ths' : List Th) (v : Value) (ys : List It2), j ≤ k ∧ cv = .int .i64 j ∧ Hid (x = itemsP s props val (k - j) l pp mm (ths'.map Th.tp)) ∧ Hid (IR w wr r s tv pp mm tv' ths' b v mb l ys j)) (fun cv _ => k - (intOf cv).toNat)
  case atStart => exact ⟨0, LS.new, p2, m, tv, ths, .slice none 0 0, [], Nat.zero_le _, rfl, HXL, HI⟩
  case round =>
    obtain ⟨j, l, pp, mm, tv', ths', v, ys, hj, rfl, HXj, HR⟩ := hrel
    clear HXL HI
    by_cases hlt : j < k
    · have hi : (j : Int) < (k : Int) := by omega
      obtain ⟨hwj, hwj2⟩ := wr_sm (x := (j : Int) + 1) (by omega) (by omega)
      have hX2 := HXj.out
      rw [show k - j = (k - (j + 1)) + 1 by omega, itemsP] at hX2
      obtain ⟨x3, hx3⟩ : ∃ x, x = keyP s props pp := ⟨_, rfl⟩
      have HK := key_any props HR.out.rd
      rw [← hx3] at HK hX2
      obtain ⟨c0, c1, c2, c3⟩ := HR.out.rd.cells
      have HJK := Lib.hid hlt
      rcases x3 with ⟨c, a⟩ | ⟨q, p3⟩
      · have hxe : x = .error (c, a) := hX2
        subst hxe
        clear hX2 hx3 HXj
        go_wp2_with fail
        refine HK.mono ?_
        rintro e w4 ⟨rfl, hm⟩
        go_wp2_with fail
        exact ⟨rfl, rfl, RF.trans HR.out.fr HR.out.mod hm⟩
      have HQ := Lib.hid (keyP_good HR.out.rd.hs hx3.symm)
      have HP3 := Lib.hid (keyP_at hx3.symm)
      have HK' : Calls Tryz.prog 144 #[.pointer (some ⟨r, 0, none⟩), .bool props] wr (fun e w' => (e = .returned (.agg #[.bool q.b, .int .i64 q.n, .string q.t]) ∧ Rd w' r s p3 mm tv' ths') ∧ Mod (RF r tv') wr w') := HK
      obtain ⟨x4, hx4⟩ : ∃ x, x = mustP s [59] p3 := ⟨_, rfl⟩
      dsimp only at hX2
      rw [← hx4] at hX2
      have HX2 := Lib.hid hX2
      have HX4 := Lib.hid hx4
      clear hX2 hx4 hx3 HK HXj hlt
      go_wp2_with fail
      refine HK'.mono ?_
      rintro e w4 ⟨⟨rfl, hd⟩, hm⟩
      have HR4 := Lib.hid (HR.out.step hd hm (Nat.le_of_lt HP3.out))
      have HLB : Hid (∀ g, LFoot b v mb g → g < w4.heap.size) := Lib.hid (fun g e => HR4.out.lst.lt e)
      have HR5 := Lib.hid (HR4.out.under (below_alloc1 w4 (KB q.b q.n q.t)))
      have HA5 : Hid ((w4.alloc (KB q.b q.n q.t)).heap[w4.heap.size]? = some (KB q.b q.n q.t)) := Lib.hid (heap_alloc_new w4 _)
      have HU := must_lit #[59] (by decide) HR5.out.rd
      rw [show (#[59] : Array UInt8).toList = [59] from rfl, ← HX4.out] at HU
      clear hd hm HK' c0 c1 c2 c3 HR
      rcases x4 with ⟨c, a⟩ | p4
      · have hxe : x = .error (c, a) := HX2.out
        subst hxe
        go_wp2_with fail
        refine HU.mono ?_
        rintro e w5 ⟨rfl, hm⟩
        go_wp2_with fail
        exact ⟨rfl, rfl, RF.trans HR5.out.fr HR5.out.mod hm⟩
      go_wp2_with fail
      refine HU.mono ?_
      rintro e w5 ⟨⟨rfl, hd⟩, hm⟩
      have HP4 : Hid (pp < p4) := Lib.hid (by have := (mustP_le HX4.out.symm).1; have := HP3.out; omega)
      have HR6 := Lib.hid (HR5.out.step hd hm (by have := (mustP_le HX4.out.symm).1; omega))
      have HA6 := Lib.hid (key_kept HR4.out.rd (Nat.le_refl _) hm HA5.out)
      obtain ⟨f1, hf1⟩ : ∃ f1, K.same q.norm q = f1 := ⟨_, rfl⟩
      have hN : ∀ w, (binOp .neq 62 (.agg #[.bool q.norm.b, .int .i64 q.norm.n, .string q.norm.t]) (.agg #[.bool q.b, .int .i64 q.n, .string q.t])).run Tryz.prog w = .ok (.bool (!f1)) w := fun w => by rw [← hf1]; exact key_neq q.norm q w
      obtain ⟨q1, hq1⟩ : ∃ q1, q1 = q.norm := ⟨_, rfl⟩
      have HN : ∀ w, Tabs w → Calls Tryz.prog 80 #[.agg #[.bool q.b, .int .i64 q.n, .string q.t]] w fun e w' => e = .returned (.agg #[.bool q1.b, .int .i64 q1.n, .string q1.t]) ∧ Below w.heap.size w w' := fun w ht => by
        rw [hq1]; exact norm_any q HQ.out w ht
      rw [← hq1] at hN
      have HQ1 := Lib.hid hq1
      have HF1 := Lib.hid hf1
      have hX3 := HX2.out
      rw [hf1] at hX3
      have HX3 := Lib.hid hX3
      clear hd hm HU HR5 HA5 hq1 hf1 hX3 HX2
      go_wp2_with fail
      have HSd : Hid (IR w w5.drew r s tv p4 mm tv' ths' b v mb l ys j ∧ w5.drew.heap[w4.heap.size]? = some (KB q.b q.n q.t)) := Lib.hid ⟨HR6.out.under (Below.refl _ _).drew, HA6.out⟩
      have HS0 := Lib.hid (⟨HSd, cells3 HSd.out.2⟩ : _ ∧ _)
      clear HSd HR6 HA6
      refine wp_region_noPanic ?_
      refine wp_region_held_drew (S := (fun V => Hid (IR w V r s tv p4 mm tv' ths' b v mb l ys j ∧ V.heap[w4.heap.size]? = some (KB q.b q.n q.t)) ∧ V.cell? ⟨w4.heap.size, 0, none⟩ = some (.bool q.b) ∧ V.cell? ⟨w4.heap.size, 1, none⟩ = some (.int .i64 q.n) ∧ V.cell? ⟨w4.heap.size, 2, none⟩ = some (.string q.t))) (by kernel_rfl) (by exact HS0.out) (fun hHeld => ?_)
      refine wpAnyH_take (i := 0) (oi := ?o0) (v := ?v0) ?hi0 (by kernel_rfl) (by kernel_rfl) (by kernel_rfl) ?hq0 ?hy0 (by assumption) ?rest0
      case hi0 => simp only [gA, gZ]; rfl
      case hq0 => exact fun _ _ _ h => h
      case hy0 =>
        refine Or.inl ⟨by rfl, ?_⟩
        intro w hSw; (try dsimp only at hSw); go_simp <;> (with_reducible rfl)
      (try simp only [Act.put, pA, pZ, pS])
      refine wpAnyH_take (i := 2) (oi := ?o2) (v := ?v2) ?hi2 (by kernel_rfl) (by kernel_rfl) (by kernel_rfl) ?hq2 ?hy2 (by assumption) ?rest2
      case hi2 => simp only [gA, gS, gZ]; rfl
      case hq2 => exact fun _ _ _ h => h
      case hy2 =>
        refine Or.inl ⟨by rfl, ?_⟩
        intro w hSw; (try dsimp only at hSw); go_simp <;> (with_reducible rfl)
      (try simp only [Act.put, pA, pZ, pS])
      refine wpAnyH_ready (rs := [1]) (by kernel_rfl) (by simp) ?_
      refine AllReadyH.cons rfl (fun K hK => ?_) AllReadyH.nil
      go_simp
      have hHX := hHeld; refine (HN _ (Hid.out (And.left hHX)).1.rd.tab).mono ?_; rintro _ w6 ⟨rfl, hb⟩; have HR7 : Hid (IR w w6 r s tv p4 mm tv' ths' b v mb l ys j ∧ w6.heap[w4.heap.size]? = some (KB q.b q.n q.t)) := Lib.hid ⟨(Hid.out (And.left hHX)).1.under hb, (hb.block _ (lt_of_block (Hid.out (And.left hHX)).2)).trans (Hid.out (And.left hHX)).2⟩; clear hb
      refine hK.out _ _ ⟨HR7, cells3 HR7.out.2⟩ (fun hHeld1 => ?_)
      clear hK K
      (try simp only [Act.put, pA, pZ, pS])
      refine wpAnyH_take (i := 3) (oi := ?o3) (v := ?v3) ?hi3 (by kernel_rfl) (by kernel_rfl) (by kernel_rfl) ?hq3 ?hy3 (by assumption) ?rest3
      case hi3 => simp only [gA, gS, gZ]; rfl
      case hq3 => exact fun _ _ _ h => h
      case hy3 =>
        refine Or.inl ⟨by rfl, ?_⟩
        intro w hSw; (try dsimp only at hSw); go_simp <;> (with_reducible rfl)
      (try simp only [Act.put, pA, pZ, pS])
      refine wpAnyH_done (by kernel_rfl) ?_ _
      refine NoPanic.normal ?_
      cases f1
      · have hxe : x = .error (7, pp) := HX3.out
        subst hxe
        go_wp2_with fail
        refine (fail_any 7 pp _).mono ?_
        rintro _ w7 ⟨rfl, rfl⟩
        go_wp2_with fail
        exact ⟨rfl, rfl, HR7.out.1.mod⟩
      have hqn : q.norm = q := K.same_iff.1 HF1.out
      obtain ⟨f2, hf2⟩ : ∃ f2, f2 = (findK q.norm l.xs).isSome := ⟨_, rfl⟩
      have HG : Calls Tryz.prog 145 #[.pointer (some ⟨b, 0, none⟩), .agg #[.bool q.b, .int .i64 q.n, .string q.t]] w6 (GetPost w6 f2) := by
        rw [hf2]; exact get_any HQ.out w6 HR7.out.1.rd.tab HR7.out.1.lst
      have hX4 := HX3.out
      rw [← hf2] at hX4
      have HX5 := Lib.hid hX4
      have HF2 := Lib.hid hf2
      have HQN := Lib.hid hqn
      obtain ⟨a0, a1, a2⟩ := cells3 HR7.out.2
      clear hf2 hX4 HX3 hqn hN HF1 HQ1
      go_wp2_with fail
      refine HG.mono ?_
      rintro _ w8 ⟨x1, x2, x3, ao, mc, cap, rfl, hb⟩
      have HR8 : Hid (IR w (w8.alloc (.cells #[.int .i64 x1, .int .i64 x2, .string x3, .slice ao mc cap] 24)) r s tv p4 mm tv' ths' b v mb l ys j) := Lib.hid ((HR7.out.1.under hb).under (below_alloc1 _ _))
      have HA8 : Hid ((w8.alloc (.cells #[.int .i64 x1, .int .i64 x2, .string x3, .slice ao mc cap] 24)).heap[w4.heap.size]? = some (KB q.b q.n q.t)) := Lib.hid (alloc_blk ((hb.block _ (lt_of_block HR7.out.2)).trans HR7.out.2) _)
      clear hb HG a0 a1 a2 HR7 HS0
      cases f2
      · obtain ⟨c0, c1, c2, c3⟩ := HR8.out.rd.cells
        have ff := free_blk HR8.out.rd.blk 2
        have hmm := HR8.out.rd.hm
        obtain ⟨hwm, hwm2⟩ := wr_sm (x := (mm : Int) + 1) (by omega) (by omega)
        by_cases hfull : 2048 < mm + 1
        · have hg : decide (2048 < (mm : Int) + 1) = true := decide_eq_true (by omega)
          have hxe : x = .error (8, pp) := HX5.out.trans ((if_neg (by decide)).trans (if_pos hfull))
          subst hxe
          clear hfull
          go_wp2_with fail
          refine (fail_any 8 pp _).mono ?_
          rintro _ w9 ⟨rfl, rfl⟩
          go_wp2_with fail
          exact ⟨rfl, rfl, RF.trans HR8.out.fr HR8.out.mod (set_mod _ r 2 _ tv')⟩
        · have hg : decide (2048 < (mm : Int) + 1) = false := decide_eq_false (by omega)
          have HX6 : Hid (x = _) := Lib.hid (HX5.out.trans ((if_neg (by decide)).trans (if_neg hfull)))
          have HR9 := Lib.hid (HR8.out.many (by omega))
          have HA9 := Lib.hid (key_kept HR4.out.rd (Nat.le_refl _) (set_mod _ r 2 (.int .i64 ((mm : Int) + 1)) tv') HA8.out)
          obtain ⟨x9, hx9⟩ : ∃ x, x = val p4 (mm + 1) (ths'.map Th.tp) := ⟨_, rfl⟩
          have hX7 := HX6.out
          rw [← hx9] at hX7
          have HX7 := Lib.hid hX7
          have HVV : ∀ {W : World}, Rd W r s p4 (mm + 1) tv' ths' → Calls Tryz.prog 84 #[.pointer (some ⟨r, 0, none⟩), .int .i64 (d + 1)] W (VPost W r s tv' x9) := fun h => by
            rw [hx9]; exact HVH.out h HR8.out.th
          obtain ⟨hwd, hwd2⟩ := wr_sm (x := d + 1) (by omega) (by omega)
          have W9 : ∃ W9, W9 = ((w8.alloc (.cells #[.int .i64 x1, .int .i64 x2, .string x3, .slice ao mc cap] 24)).setCell ⟨r, 2, none⟩ (.int .i64 ((mm : Int) + 1))) := ⟨_, rfl⟩
          have HRd := Lib.hid (HR9.out.under (Below.refl _ _).drew)
          have HAd : Hid ((((w8.alloc (.cells #[.int .i64 x1, .int .i64 x2, .string x3, .slice ao mc cap] 24)).setCell ⟨r, 2, none⟩ (.int .i64 ((mm : Int) + 1)))).drew.heap[w4.heap.size]? = some (KB q.b q.n q.t)) := Lib.hid HA9.out
          clear hX7 hx9 HX5 HX6 hfull hmm
          go_wp2_with fail
          clear c0 c1 c2 c3 ff hg hwm hwm2
          rcases x9 with ⟨c, a⟩ | ⟨y, p9, m9, tp9⟩
          · have hxe : x = .error (c, a) := HX7.out
            subst hxe
            refine wp_region_held_drew (S := (fun V => V.cell? ⟨w4.heap.size, 0, none⟩ = some (.bool q.b) ∧ V.cell? ⟨w4.heap.size, 1, none⟩ = some (.int .i64 q.n) ∧ V.cell? ⟨w4.heap.size, 2, none⟩ = some (.string q.t))) (by kernel_rfl) (by exact cells3 HAd.out) (fun hHeld => ?_)
            refine wpAnyH_take (i := 0) (oi := ?oe0) (v := ?ve0) ?hie0 (by kernel_rfl) (by kernel_rfl) (by kernel_rfl) ?hqe0 ?hye0 (by assumption) ?reste0
            case hie0 => simp only [gA, gZ]; rfl
            case hqe0 => exact fun _ _ _ h => h
            case hye0 =>
              refine Or.inl ⟨by rfl, ?_⟩
              intro w hSw; (try dsimp only at hSw); go_simp <;> (with_reducible rfl)
            (try simp only [Act.put, pA, pZ, pS])
            refine wpAnyH_take (i := 1) (oi := ?oe1) (v := ?ve1) ?hie1 (by kernel_rfl) (by kernel_rfl) (by kernel_rfl) ?hqe1 ?hye1 (by assumption) ?reste1
            case hie1 => simp only [gA, gS, gZ]; rfl
            case hqe1 => exact fun _ _ _ h => h
            case hye1 =>
              refine Or.inl ⟨by rfl, ?_⟩
              intro w hSw; (try dsimp only at hSw); go_simp <;> (with_reducible rfl)
            (try simp only [Act.put, pA, pZ, pS])
            refine wpAnyH_take (i := 2) (oi := ?oe2) (v := ?ve2) ?hie2 (by kernel_rfl) (by kernel_rfl) (by kernel_rfl) ?hqe2 ?hye2 (by assumption) ?reste2
            case hie2 => simp only [gA, gS, gZ]; rfl
            case hqe2 => exact fun _ _ _ h => h
            case hye2 =>
              refine Or.inl ⟨by rfl, ?_⟩
              intro w hSw; (try dsimp only at hSw); go_simp <;> (with_reducible rfl)
            (try simp only [Act.put, pA, pZ, pS])
            refine wpAnyH_take (i := 3) (oi := ?oe3) (v := ?ve3) ?hie3 (by kernel_rfl) (by kernel_rfl) (by kernel_rfl) ?hqe3 ?hye3 (by assumption) ?reste3
            case hie3 => simp only [gA, gS, gZ]; rfl
            case hqe3 => exact fun _ _ _ h => h
            case hye3 =>
              refine Or.inl ⟨by rfl, ?_⟩
              intro w hSw; (try dsimp only at hSw); go_simp <;> (with_reducible rfl)
            (try simp only [Act.put, pA, pZ, pS])
            refine wpAnyH_take (i := 4) (oi := ?oe4) (v := ?ve4) ?hie4 (by kernel_rfl) (by kernel_rfl) (by kernel_rfl) ?hqe4 ?hye4 (by assumption) ?reste4
            case hie4 => simp only [gA, gS, gZ]; rfl
            case hqe4 => exact fun _ _ _ h => h
            case hye4 =>
              refine Or.inl ⟨by rfl, ?_⟩
              intro w hSw; (try dsimp only at hSw); go_simp <;> (with_reducible rfl)
            (try simp only [Act.put, pA, pZ, pS])
            refine wpAnyH_ready (rs := [5]) (by kernel_rfl) (by simp) ?_
            refine AllReadyH.cons rfl (fun K hK => ?_) AllReadyH.nil
            go_simp
            refine (HVV HRd.out.rd).mono ?_; rintro _ w9 ⟨rfl, hm⟩; go_wp2_with fail; exact ⟨rfl, rfl, RF.trans HRd.out.fr HRd.out.mod hm⟩
          · have HVW : ∀ {W : World}, Rd W r s p4 (mm + 1) tv' ths' → Calls Tryz.prog 84 #[.pointer (some ⟨r, 0, none⟩), .int .i64 (d + 1)] W (fun e w' => (∃ co cm cc tv2 ths2, e = .returned (.agg #[.int .i64 y.k, .int .i64 y.n, .string y.t, .slice co cm cc]) ∧ VT64 w' (.slice co cm cc) y.xs ∧ Rd w' r s p9 m9 tv2 ths2 ∧ ths2.map Th.tp = tp9 ∧ Fresh W tv' tv2 ∧ ths2.length ≤ p9) ∧ Mod (RF r tv') W w') := fun h => HVV h
            have HNX : Hid (x = itemsP s props val (k - (j + 1)) ⟨l.xs ++ [(q.norm, y)], nextP q.norm l.nx⟩ p9 m9 tp9) := Lib.hid HX7.out
            have hll : l.xs.length < 2048 := by have := HR8.out.len; have := HJK.out; omega
            have hfn : findK q.norm l.xs = none := by have := HF2.out; cases hff : findK q.norm l.xs with
              | none => rfl
              | some i => rw [hff] at this; cases this
            have HST : ∀ {W : World} {co : Option Addr} {cm cc : Nat}, Tabs W → LIs W b v mb l ys → VT64 W (.slice co cm cc) y.xs → Calls Tryz.prog 126 #[.pointer (some ⟨b, 0, none⟩), .agg #[.bool q.b, .int .i64 q.n, .string q.t], .agg #[.int .i64 y.k, .int .i64 y.n, .string y.t, .slice co cm cc]] W (PutPost W b v mb (.int .i64 0) ⟨l.xs ++ [(q.norm, y)], nextP q.norm l.nx⟩ (ys ++ [((q.norm, y), .slice co cm cc)])) := fun ht hi hx => set_new HQ.out hfn hll _ ht hi hx
            clear HVV hll hfn HX7
            refine wp_region_noPanic ?_
            refine wp_region_held_drew (S := (fun V => V.cell? ⟨w4.heap.size, 0, none⟩ = some (.bool q.b) ∧ V.cell? ⟨w4.heap.size, 1, none⟩ = some (.int .i64 q.n) ∧ V.cell? ⟨w4.heap.size, 2, none⟩ = some (.string q.t))) (by kernel_rfl) (by exact cells3 HAd.out) (fun hHeld => ?_)
            refine wpAnyH_take (i := 0) (oi := ?of0) (v := ?vf0) ?hif0 (by kernel_rfl) (by kernel_rfl) (by kernel_rfl) ?hqf0 ?hyf0 (by assumption) ?restf0
            case hif0 => simp only [gA, gZ]; rfl
            case hqf0 => exact fun _ _ _ h => h
            case hyf0 =>
              refine Or.inl ⟨by rfl, ?_⟩
              intro w hSw; (try dsimp only at hSw); go_simp <;> (with_reducible rfl)
            (try simp only [Act.put, pA, pZ, pS])
            refine wpAnyH_take (i := 1) (oi := ?of1) (v := ?vf1) ?hif1 (by kernel_rfl) (by kernel_rfl) (by kernel_rfl) ?hqf1 ?hyf1 (by assumption) ?restf1
            case hif1 => simp only [gA, gS, gZ]; rfl
            case hqf1 => exact fun _ _ _ h => h
            case hyf1 =>
              refine Or.inl ⟨by rfl, ?_⟩
              intro w hSw; (try dsimp only at hSw); go_simp <;> (with_reducible rfl)
            (try simp only [Act.put, pA, pZ, pS])
            refine wpAnyH_take (i := 2) (oi := ?of2) (v := ?vf2) ?hif2 (by kernel_rfl) (by kernel_rfl) (by kernel_rfl) ?hqf2 ?hyf2 (by assumption) ?restf2
            case hif2 => simp only [gA, gS, gZ]; rfl
            case hqf2 => exact fun _ _ _ h => h
            case hyf2 =>
              refine Or.inl ⟨by rfl, ?_⟩
              intro w hSw; (try dsimp only at hSw); go_simp <;> (with_reducible rfl)
            (try simp only [Act.put, pA, pZ, pS])
            refine wpAnyH_take (i := 3) (oi := ?of3) (v := ?vf3) ?hif3 (by kernel_rfl) (by kernel_rfl) (by kernel_rfl) ?hqf3 ?hyf3 (by assumption) ?restf3
            case hif3 => simp only [gA, gS, gZ]; rfl
            case hqf3 => exact fun _ _ _ h => h
            case hyf3 =>
              refine Or.inl ⟨by rfl, ?_⟩
              intro w hSw; (try dsimp only at hSw); go_simp <;> (with_reducible rfl)
            (try simp only [Act.put, pA, pZ, pS])
            refine wpAnyH_take (i := 4) (oi := ?of4) (v := ?vf4) ?hif4 (by kernel_rfl) (by kernel_rfl) (by kernel_rfl) ?hqf4 ?hyf4 (by assumption) ?restf4
            case hif4 => simp only [gA, gS, gZ]; rfl
            case hqf4 => exact fun _ _ _ h => h
            case hyf4 =>
              refine Or.inl ⟨by rfl, ?_⟩
              intro w hSw; (try dsimp only at hSw); go_simp <;> (with_reducible rfl)
            (try simp only [Act.put, pA, pZ, pS])
            refine wpAnyH_ready (rs := [5]) (by kernel_rfl) (by simp) ?_
            refine AllReadyH.cons rfl (fun K hK => ?_) AllReadyH.nil
            go_simp
            refine (HVW HRd.out.rd).mono ?_; rintro _ w9 ⟨⟨co, cm, cc, tv2, ths2, rfl, hvt, hrd, htp, hfr, hth⟩, hm⟩; have HRv := Lib.hid (HRd.out.val hrd hm hfr hth); have HAv := Lib.hid (key_kept HR4.out.rd (Nat.le_refl _) hm HAd.out); have HVT := Lib.hid hvt; have HTP := Lib.hid htp; clear hvt hrd htp hfr hth hm
            refine hK.out _ _ (cells3 HAv.out) (fun hHeldf5 => ?_)
            clear hK K
            (try simp only [Act.put, pA, pZ, pS])
            refine wpAnyH_ready (rs := [6]) (by kernel_rfl) (by simp) ?_
            refine AllReadyH.cons rfl (fun K hK => ?_) AllReadyH.nil
            go_simp
            refine (HST HRv.out.rd.tab HRv.out.lst HVT.out).mono ?_; rintro _ w10 ⟨rfl, v2, hli, hm, ho⟩; have HAs : Hid (w10.heap[w4.heap.size]? = some (KB q.b q.n q.t)) := Lib.hid ((hm.block _ (lt_of_block HAv.out) (fun e => by have := HLB.out _ e; omega)).trans HAv.out); have HRs := Lib.hid (HRv.out.put hli hm ho (by simp [HRv.out.len])); clear hli hm ho
            refine hK.out _ _ (cells3 HAs.out) (fun hHeldf6 => ?_)
            clear hK K
            (try simp only [Act.put, pA, pZ, pS])
            refine wpAnyH_done (by kernel_rfl) ?_ _
            refine NoPanic.normal ?_
            go_wp2_with fail
            go_roundw
            case rel => exact ⟨j + 1, _, p9, m9, tv2, ths2, v2, _, HJK.out, by go_num, Lib.hid (by rw [HTP.out]; exact HNX.out), HRs⟩
            case measure => have := HJK.out; simp [intOf]; omega
      · have hxe : x = .error (9, pp) := HX5.out
        subst hxe
        go_wp2_with fail
        refine (fail_any 9 pp _).mono ?_
        rintro _ w9 ⟨rfl, rfl⟩
        go_wp2_with fail
        exact ⟨rfl, rfl, HR8.out.mod⟩
    · obtain rfl : j = k := by omega
      have hX2 := HXj.out
      rw [Nat.sub_self, itemsP] at hX2
      obtain ⟨x3, hx3⟩ : ∃ x, x = mustP s [125] pp := ⟨_, rfl⟩
      rw [← hx3] at hX2
      have HU := must_lit #[125] (by decide) HR.out.rd
      rw [show (#[125] : Array UInt8).toList = [125] from rfl, ← hx3] at HU
      rcases x3 with ⟨c, a⟩ | p4
      · have hxe : x = .error (c, a) := hX2
        subst hxe
        clear hX2 hx3
        go_wp2_with fail
        refine HU.mono ?_
        rintro e w5 ⟨rfl, hm⟩
        go_wp2_with fail
        exact ⟨rfl, rfl, RF.trans HR.out.fr HR.out.mod hm⟩
      · have hxe : x = .ok (l, p4, mm, ths'.map Th.tp) := hX2
        subst hxe
        have hpq := (mustP_le hx3.symm).1
        have HPQ := Lib.hid hpq
        clear hX2 hx3 hpq
        go_wp2_with fail
        refine HU.mono ?_
        rintro e w5 ⟨⟨rfl, hd⟩, hm⟩
        have HR5 := Lib.hid (HR.out.step hd hm (by have := HPQ.out; omega))
        clear hd hm
        go_wp2_with fail
        first | go_ret | (refine bodyPost_ret (results_one rfl _ _ _) rfl ?_)
        exact ⟨⟨b, v, mb, ys, tv', ths', rfl, HR5.out.lst, HR5.out.far, HR5.out.rd, rfl, HR5.out.fr, HR5.out.th⟩, HR5.out.mod⟩
end Go.Proofs.YtnaefnojmiolbaaGreatDoor
