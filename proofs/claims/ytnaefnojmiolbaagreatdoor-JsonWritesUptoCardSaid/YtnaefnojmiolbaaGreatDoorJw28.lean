/-
  JSON: the walk of item.
  JSON: what stands while a list's items are put into a value.
-/
import Derived.Test.YtnaefnojmiolbaaGreatDoorJw27
import Derived.Test.YtnaefnojmiolbaaGreatDoorJw8
namespace Go.Proofs.YtnaefnojmiolbaaGreatDoor
open Go.RowKit Go.Shelf Go.Maps

attribute [local go_sem] yld_undef
/-- Values are read so, at a depth. -/
def JVal (r : Nat) (s : ByteArray) (fw fa : Int) (n : Int) (val : JValF) : Prop :=
  ∀ (W : World) (vb p m : Nat), Jd W r s p m fw fa → VBlk W vb → vb ≠ r → 6 ≤ vb →
    Calls Tryz.prog 34 #[.pointer (some ⟨r, 0, none⟩), .pointer (some ⟨vb, 0, none⟩), .int .i64 n] W (JPost (JV2 r vb) W r s (val p m) isFalse (JVOk r vb s fw fa))
/-- A reader and a list. -/
abbrev JL (r b : Nat) (v : Value) (mb : Nat) (k : Nat) : Prop := k = r ∨ LFoot b v mb k
/-- What a call that reads an item leaves. -/
def JIOk (w : World) (r b : Nat) (v : Value) (mb : Nat) (s : ByteArray) (fw fa : Int) (a : LS × Nat × Nat) (e : Ending) (w' : World) : Prop :=
  e = .returned (.bool true) ∧ Jd w' r s a.2.1 a.2.2 fw fa ∧ ∃ v' ys', LIs w' b v' mb a.1 ys' ∧ (v'.ownBlock = v.ownBlock ∨ ∃ g, v'.ownBlock = some g ∧ w.heap.size ≤ g)
theorem LIs.r_foot {w : World} {b : Nat} {v : Value} {mb : Nat} {l : LS} {ys : List It2} {r : Nat} {s : ByteArray} {p m : Nat} {fw fa : Int} (i : LIs w b v mb l ys) (h : Jd w r s p m fw fa) : ¬ LFoot b v mb r := by
  rintro (e | e | e)
  · have := h.blk; rw [e, i.blk] at this; cases this
  · obtain ⟨cur, hc⟩ := owns_blk i.own e; have := h.blk; rw [hc] at this; cases this
  · obtain ⟨es, c, hc⟩ := map_blk i.map; have := h.blk; rw [e, hc] at this; cases this
theorem key_true (t : ByteArray) (h : t.size ≤ 65536) : (K.mk true 0 t).Good := ⟨by show (-9223372036854775808 : Int) ≤ 0; decide, by show (0 : Int) ≤ 9223372036854775807; decide, by show t.size ≤ _; omega⟩
theorem appendP_set {x : VT} {l : LS} (h : 0 ≤ l.nx) : (appendP x l).2 = (setP ⟨false, l.nx, ⟨#[]⟩⟩ x l).2 := by
  unfold appendP
  rw [if_neg (by omega)]
  split <;> rfl
abbrev VB0 : Obj := .cells #[.int .i64 0, .int .i64 0, .string ⟨#[]⟩, .slice none 0 0] 24 (0, 0)
set_option maxHeartbeats 3200000 in
set_option maxRecDepth 100000 in
theorem jitem_arr {val : JValF} {n : Int} (hn0 : 0 ≤ n) (hn1 : n ≤ 64) {w : World} {r b mb : Nat} {v : Value} {l : LS} {ys : List It2} {s : ByteArray} {p m : Nat} {fw fa : Int} (h : Jd w r s p m fw fa) (i : LIs w b v mb l ys) (h6 : 6 ≤ b) (h6m : 6 ≤ mb) (h6v : ∀ g, v.ownBlock = some g → 6 ≤ g)
    (HV : JVal r s fw fa (n + 1) val) (hnx : 0 ≤ l.nx) (hl : ∀ a, val p m = .ok a → l.xs.length < 2048) :
    Calls Tryz.prog 98 #[.pointer (some ⟨r, 0, none⟩), .pointer (some ⟨b, 0, none⟩), .int .i64 n, .int .u8 93] w (JPost (JL r b v mb) w r s (jitemP s false val l p m) isFalse (JIOk w r b v mb s fw fa)) := by
  obtain ⟨x, hx⟩ : ∃ x, x = val p m := ⟨_, rfl⟩
  unfold jitemP
  simp only [Bool.false_eq_true, if_false]
  rw [← hx] at hl ⊢
  have hb2 : Below w.heap.size w ((w.alloc (KB true 0 ⟨#[]⟩)).alloc VB0) := (below_alloc1 w _).alloc (by simp) _
  have hv0 : ((w.alloc (KB true 0 ⟨#[]⟩)).alloc VB0).heap[w.heap.size + 1]? = some VB0 := by
    have := heap_alloc_new (w.alloc (KB true 0 ⟨#[]⟩)) VB0
    simpa using this
  have hrlt := lt_of_block h.blk
  have hr6 := h.r6
  have HC := HV _ (w.heap.size + 1) p m (h.under hb2) ⟨_, _, _, _, hv0⟩ (by omega) (by omega)
  rw [← hx] at HC
  have H0 := Lib.hid (⟨h, i, hb2, hrlt, hnx, h6, h6m, h6v⟩ : _ ∧ _ ∧ _ ∧ _ ∧ _ ∧ _ ∧ _ ∧ _)
  have HL := Lib.hid hl
  obtain ⟨hw', hw⟩ := wr_sm (x := n + 1) (by omega) (by omega)
  clear h i hb2 hv0 hrlt hx hnx h6 h6m h6v hl
  go_enter Tryz.func98, Tryz.ntmps98
  go_wp2_with fail
  refine HC.mono ?_
  rintro e w2 hp
  obtain ⟨h, i, hb2, hrlt, hnx, h6, h6m, h6v⟩ := H0.out
  have hM : ∀ {W : World}, Mod (JV2 r (w.heap.size + 1)) ((w.alloc (KB true 0 ⟨#[]⟩)).alloc VB0) W → Mod (JL r b v mb) w W := fun hm => (Mod.of_below hb2).trans' hm (fun k hk e => by
    rcases e with e | e
    · exact .inl e
    · omega)
  rcases x with ⟨c, a⟩ | ⟨y, q, m'⟩
  · obtain ⟨⟨_, rfl, rfl⟩, ⟨p2, m2, hj2⟩, hm2⟩ := hp
    have HE := Lib.hid (⟨hj2, hM hm2⟩ : _ ∧ _)
    clear h i hb2 hrlt hnx h6 h6m h6v hM hj2 hm2
    go_wp2_with fail
    go_ret
    exact ⟨⟨_, rfl, rfl⟩, ⟨_, _, HE.out.1⟩, HE.out.2⟩
  · obtain ⟨⟨rfl, hj2, co, cc, hvb, hvt⟩, hm2⟩ := hp
    obtain ⟨v0, v1, v2, v3⟩ := vb_cells hvb
    have i1 := i.under hb2
    have hv0 : ((w.alloc (KB true 0 ⟨#[]⟩)).alloc VB0).heap[w.heap.size + 1]? = some VB0 := by
      have := heap_alloc_new (w.alloc (KB true 0 ⟨#[]⟩)) VB0
      simpa using this
    have i2 := i1.mod hm2 (fun k hk e => by
      rcases e with e | e
      · exact i.r_foot h (e ▸ hk)
      · have := i.lt hk; omega) (fun k e => by
      rcases e with e | e
      · exact (h.under hb2).no64 e
      · exact no64_vb ⟨_, _, _, _, hv0⟩ e)
    have HA := lappend_any hnx (HL.out _ rfl) w2 hj2.tab i2 hvt
    rw [← appendP_set hnx] at HA
    have HE := Lib.hid (⟨hj2, hM hm2, i2⟩ : _ ∧ _ ∧ _)
    clear h i hb2 hrlt hnx h6 h6m h6v hM hj2 hm2 hvb hvt i1 i2 hv0
    go_wp2_with fail
    refine HA.mono ?_
    rintro e w3 ⟨rfl, v', i3, m3, g3⟩
    have HF := Lib.hid (⟨i3, m3, g3⟩ : _ ∧ _ ∧ _)
    clear i3 m3 g3
    go_wp2_with fail
    go_ret
    obtain ⟨hj2, hm2, i2⟩ := HE.out
    obtain ⟨i3, m3, g3⟩ := HF.out
    obtain ⟨h, i, hb2, hrlt, hnx, h6, h6m, h6v⟩ := H0.out
    refine ⟨⟨rfl, hj2.mod m3 (fun e => i2.r_foot hj2 e) (fun k e => ?_), v', _, i3, ?_⟩, hm2.trans' m3 (fun k hk e => .inr e)⟩
    · rcases e with rfl | e | rfl
      · exact h6
      · exact h6v k e
      · exact h6m
    · rcases g3 with g | ⟨g, e, hg⟩
      · exact .inl g
      · exact .inr ⟨g, e, Nat.le_trans hm2.size hg⟩
set_option maxHeartbeats 3200000 in
set_option maxRecDepth 100000 in
theorem jitem_obj {val : JValF} {n : Int} (hn0 : 0 ≤ n) (hn1 : n ≤ 64) {w : World} {r b mb : Nat} {v : Value} {l : LS} {ys : List It2} {s : ByteArray} {p m : Nat} {fw fa : Int} (h : Jd w r s p m fw fa) (i : LIs w b v mb l ys) (h6 : 6 ≤ b) (h6m : 6 ≤ mb) (h6v : ∀ g, v.ownBlock = some g → 6 ≤ g)
    (HV : JVal r s fw fa (n + 1) val) (hl : jbegP s true p = true → l.xs.length < 2048) :
    Calls Tryz.prog 98 #[.pointer (some ⟨r, 0, none⟩), .pointer (some ⟨b, 0, none⟩), .int .i64 n, .int .u8 125] w (JPost (JL r b v mb) w r s (jitemP s true val l p m) isFalse (JIOk w r b v mb s fw fa)) := by
  obtain ⟨x, hx⟩ : ∃ x, x = jitemP s true val l p m := ⟨_, rfl⟩
  rw [← hx]
  unfold jitemP at hx
  simp only [if_true] at hx
  have hb1 : Below w.heap.size w (w.alloc (KB true 0 ⟨#[]⟩)) := below_alloc1 w _
  have hk0 : (w.alloc (KB true 0 ⟨#[]⟩)).heap[w.heap.size]? = some (KB true 0 ⟨#[]⟩) := heap_alloc_new _ _
  have hrlt := lt_of_block h.blk
  have hr6 := h.r6
  have hps := h.hp
  have hsz := h.hs
  have HC := jtext_any (h.under hb1)
  have H0 := Lib.hid (⟨h, i, hb1, hk0, hrlt, h6, h6m, h6v⟩ : _ ∧ _ ∧ _ ∧ _ ∧ _ ∧ _ ∧ _ ∧ _)
  have HL := Lib.hid hl
  obtain ⟨hw', hw⟩ := wr_sm (x := n + 1) (by omega) (by omega)
  obtain ⟨u, hu⟩ : ∃ u, u = jtextP s p := ⟨_, rfl⟩
  rw [← hu] at HC hx
  have HX := Lib.hid hx
  clear hx h i hb1 hk0 h6 h6m h6v hl
  go_enter Tryz.func98, Tryz.ntmps98
  go_wp2_with fail
  refine HC.mono ?_
  rintro e w1 hp
  rcases u with ⟨c, a⟩ | ⟨t, q⟩
  · have hx := HX.out
    (try simp only at hx)
    subst hx
    clear HX
    obtain ⟨⟨_, rfl, rfl⟩, ⟨p2, m2, hj2⟩, hm2⟩ := hp
    obtain ⟨h, i, hb1, hk0, -, h6, h6m, h6v⟩ := H0.out
    have hk1 := hm2.blk hk0 (fun e => by have e : w.heap.size = r := e; omega)
    obtain ⟨a0, a1, a2⟩ := cells3 hk1
    obtain ⟨f0, f1, f2⟩ := free3 hk1
    have hm3 : Mod (fun k => k = w.heap.size) w1 (w1.setCell ⟨w.heap.size, 2, none⟩ (.string ⟨#[]⟩)) := (Mod.refl _ _).setCell _ _ (fun _ => rfl)
    have hj3 := hj2.mod hm3 (fun e => by omega) (fun k e => by have e : k = w.heap.size := e; omega)
    have HB := blanks_any hj3
    have HM : Hid (Mod (JF r) w (w1.setCell ⟨w.heap.size, 2, none⟩ (.string ⟨#[]⟩))) := Lib.hid (((Mod.of_below hb1).trans hm2).trans' hm3 (fun k hk e => by have e : k = w.heap.size := e; omega))
    clear h i hb1 hk0 h6 h6m h6v hk1 hm3 hj3 hj2 hm2 HC
    go_wp2_with fail
    refine HB.mono ?_
    rintro _ w4 ⟨rfl, hj4, hm4⟩
    have HE := Lib.hid (⟨hj4, HM.out.trans hm4⟩ : _ ∧ _)
    clear hj4 hm4 HB
    go_wp2_with fail
    go_ret
    exact ⟨⟨_, rfl, rfl⟩, ⟨_, _, HE.out.1⟩, HE.out.2.mono (fun _ _ e => .inl e)⟩
  · obtain ⟨⟨rfl, hj2⟩, hm2⟩ := hp
    obtain ⟨h, i, hb1, hk0, -, h6, h6m, h6v⟩ := H0.out
    have hk1 := hm2.blk hk0 (fun e => by have e : w.heap.size = r := e; omega)
    obtain ⟨a0, a1, a2⟩ := cells3 hk1
    obtain ⟨f0, f1, f2⟩ := free3 hk1
    have hm3 : Mod (fun k => k = w.heap.size) w1 (w1.setCell ⟨w.heap.size, 2, none⟩ (.string (str t))) := (Mod.refl _ _).setCell _ _ (fun _ => rfl)
    have hj3 := hj2.mod hm3 (fun e => by omega) (fun k e => by have e : k = w.heap.size := e; omega)
    have hk3 : (w1.setCell ⟨w.heap.size, 2, none⟩ (.string (str t))).heap[w.heap.size]? = some (KB true 0 (str t)) := by
      have := set_blk hk1 2 (.string (str t))
      simpa using this
    have HB := blanks_any hj3
    have HM : Hid (Mod (JF r) w (w1.setCell ⟨w.heap.size, 2, none⟩ (.string (str t)))) := Lib.hid (((Mod.of_below hb1).trans hm2).trans' hm3 (fun k hk e => by have e : k = w.heap.size := e; omega))
    have HT := Lib.hid (jtextP_ok hu.symm hps)
    have HBG : Hid (jbegP s true p = true) := Lib.hid (by
      have h1 : ∃ q0, mustP s [34] p = .ok q0 := by
        have hu2 := hu
        unfold jtextP at hu2
        cases hmm : mustP s [34] p with
        | error er => rw [hmm] at hu2; simp only at hu2; cases hu2
        | ok q0 => exact ⟨q0, rfl⟩
      obtain ⟨q0, h1⟩ := h1
      rw [mustP] at h1
      split at h1
      · rename_i hc
        unfold jbegP
        simp [hc.1, hc.2]
      · cases h1)
    have HK3 := Lib.hid hk3
    have HI1 := Lib.hid (i.under hb1)
    clear h i hb1 hk0 h6 h6m h6v hk1 hm3 hj3 hj2 hm2 HC hk3 hu
    go_wp2_with fail
    refine HB.mono ?_
    rintro _ w4 ⟨rfl, hj4, hm4⟩
    have HK4 := Lib.hid (hm4.blk HK3.out (fun e => by have e : w.heap.size = r := e; omega))
    have HM4 := Lib.hid (HM.out.trans hm4)
    have e58 : (⟨#[58]⟩ : ByteArray).toList = [58] := str_toList [58]
    have HC5 := jmust_any ⟨#[58]⟩ (by rw [e58]; decide) (by decide) hj4
    rw [e58] at HC5
    clear e58
    clear hj4 hm4 HB HM HK3
    obtain ⟨u2, hu2⟩ : ∃ u2, u2 = mustP s [58] (blankE s q) := ⟨_, rfl⟩
    have hx := HX.out
    (try simp only at hx)
    rw [← hu2] at HC5 hx
    have HX2 := Lib.hid hx
    clear hx HX
    go_wp2_with fail
    refine HC5.mono ?_
    rintro e w5 hp
    rcases u2 with ⟨c, a⟩ | q2
    · have hx := HX2.out
      (try simp only at hx)
      subst hx
      clear HX2
      obtain ⟨⟨_, rfl, rfl⟩, ⟨p2, m2, hj5⟩, hm5⟩ := hp
      have HE := Lib.hid (⟨hj5, HM4.out.trans hm5⟩ : _ ∧ _)
      clear hj5 hm5 HC5
      go_wp2_with fail
      go_ret
      exact ⟨⟨_, rfl, rfl⟩, ⟨_, _, HE.out.1⟩, HE.out.2.mono (fun _ _ e => .inl e)⟩
    · obtain ⟨⟨rfl, hj5⟩, hm5⟩ := hp
      have HB6 := blanks_any hj5
      have HK5 := Lib.hid (hm5.blk HK4.out (fun e => by have e : w.heap.size = r := e; omega))
      have HM5 := Lib.hid (HM4.out.trans hm5)
      clear hj5 hm5 HC5 HM4 HK4 hu2
      go_wp2_with fail
      refine HB6.mono ?_
      rintro _ w6 ⟨rfl, hj6, hm6⟩
      have hM6 := HM5.out.trans hm6
      have hK6 := hm6.blk HK5.out (fun e => by have e : w.heap.size = r := e; omega)
      have hlt6 := hM6.size
      have hlk6 := lt_of_block hK6
      obtain ⟨h, i, hb1, -, -, h6, h6m, h6v⟩ := H0.out
      have i6 := i.mod hM6 (fun k hk e => i.r_foot h (e ▸ hk)) (fun k e => h.no64 e)
      have hb7 : Below w6.heap.size w6 (w6.alloc VB0) := below_alloc1 w6 _
      have hv0 : (w6.alloc VB0).heap[w6.heap.size]? = some VB0 := heap_alloc_new _ _
      have HC7 := HV _ w6.heap.size (blankE s q2) m (hj6.under hb7) ⟨_, _, _, _, hv0⟩ (by omega) (by omega)
      have HI6 := Lib.hid (⟨i6, hb7, hv0, hK6, hM6, hj6, hlk6⟩ : _ ∧ _ ∧ _ ∧ _ ∧ _ ∧ _ ∧ _)
      obtain ⟨u3, hu3⟩ : ∃ u3, u3 = val (blankE s q2) m := ⟨_, rfl⟩
      have hx := HX2.out
      (try simp only at hx)
      rw [← hu3] at HC7 hx
      have HX3 := Lib.hid hx
      clear hx HX2
      clear h i hb1 h6 h6m h6v hj6 hm6 hM6 hK6 hlt6 hlk6 i6 hb7 hv0 HB6 HM5 HK5 hu3
      go_wp2_with fail
      refine HC7.mono ?_
      rintro e w8 hp
      obtain ⟨i6, hb7, hv0, hK6, hM6, hj6, hlk6⟩ := HI6.out
      have hne : w.heap.size ≠ w6.heap.size := by omega
      have hM : Mod (JV2 r w6.heap.size) (w6.alloc VB0) w8 → Mod (JF r) w w8 := fun hm => (hM6.trans (Mod.of_below hb7)).trans' hm (fun k hk e => by
        rcases e with e | e
        · exact e
        · have := hM6.size; omega)
      rcases u3 with ⟨c, a⟩ | ⟨y, q3, m'⟩
      · have hx := HX3.out
        (try simp only at hx)
        subst hx
        clear HX3
        obtain ⟨⟨_, rfl, rfl⟩, ⟨p2, m2, hj8⟩, hm8⟩ := hp
        have HE := Lib.hid (⟨hj8, hM hm8⟩ : _ ∧ _)
        clear i6 hb7 hv0 hK6 hM6 hj6 hlk6 hne hM hj8 hm8 HC7
        go_wp2_with fail
        go_ret
        exact ⟨⟨_, rfl, rfl⟩, ⟨_, _, HE.out.1⟩, HE.out.2.mono (fun _ _ e => .inl e)⟩
      · have hx := HX3.out
        (try simp only at hx)
        subst hx
        clear HX3
        obtain ⟨⟨rfl, hj8, co, cc, hvb, hvt⟩, hm8⟩ := hp
        obtain ⟨v0, v1, v2, v3⟩ := vb_cells hvb
        have hK8 := hm8.blk (alloc_blk hK6 VB0) (fun e => by
          rcases e with e | e
          · omega
          · exact hne e)
        obtain ⟨d0, d1, d2⟩ := cells3 hK8
        have i8 := (i6.under hb7).mod hm8 (fun k hk e => by
          rcases e with e | e
          · exact i6.r_foot hj6 (e ▸ hk)
          · have := i6.lt hk; omega) (fun k e => by
          rcases e with e | e
          · exact (hj6.under hb7).no64 e
          · exact no64_vb ⟨_, _, _, _, hv0⟩ e)
        have htl : (str t).size ≤ 65536 := by
          have t2 : p + t.length + 2 ≤ q := HT.out.2.1
          have t3 : q ≤ s.size := HT.out.2.2
          rw [str_size]
          omega
        have HA := set_any (key_true (str t) htl) (HL.out HBG.out) w8 hj8.tab i8 hvt
        have HE := Lib.hid (⟨hj8, hM hm8, i8⟩ : _ ∧ _ ∧ _)
        clear i6 hb7 hv0 hK6 hM6 hj6 hlk6 hne hM hj8 hm8 hvb hvt i8 htl HC7 hK8
        go_wp2_with fail
        refine HA.mono ?_
        rintro e w9 ⟨rfl, v', i9, m9, g9⟩
        have HF := Lib.hid (⟨i9, m9, g9⟩ : _ ∧ _ ∧ _)
        clear i9 m9 g9 HA
        go_wp2_with fail
        go_ret
        obtain ⟨hj8, hm8, i8⟩ := HE.out
        obtain ⟨i9, m9, g9⟩ := HF.out
        obtain ⟨h, i, hb1, -, -, h6, h6m, h6v⟩ := H0.out
        refine ⟨⟨rfl, hj8.mod m9 (fun e => i8.r_foot hj8 e) (fun k e => ?_), v', _, i9, ?_⟩, (hm8.mono (fun _ _ e => .inl e)).trans' m9 (fun k hk e => .inr e)⟩
        · rcases e with rfl | e | rfl
          · exact h6
          · exact h6v k e
          · exact h6m
        · rcases g9 with g | ⟨g, e, hg⟩
          · exact .inl g
          · exact .inr ⟨g, e, Nat.le_trans hm8.size hg⟩
end Go.Proofs.YtnaefnojmiolbaaGreatDoor

namespace Go.Proofs.YtnaefnojmiolbaaGreatDoor
open Go.RowKit Go.Shelf

abbrev VL (nx : Int) (vo : Value) : Obj := .cells #[.int .i64 4, .int .i64 nx, .string ⟨#[]⟩, vo] 24 (0, 0)
/-- While a list is gone over: what the value holds so far. -/
structure JA (W6 W : World) (b vb : Nat) (nx : Int) (ys : List It2) (j : Nat) (vo : Value) : Prop where
  out : W.heap[vb]? = some (VL nx vo)
  own : Owns W 64 7 vo (rows2 (ys.take j))
  fresh : ∀ g, vo.ownBlock = some g → W6.heap.size ≤ g
  mod : Mod (fun k => k = b ∨ k = vb) W6 W
theorem JA.loop {W6 W W' : World} {b vb : Nat} {nx : Int} {ys : List It2} {j : Nat} {vo : Value} (h : JA W6 W b vb nx ys j vo) {row : Option Nat} {B : Nat} (hB : W6.heap.size ≤ B) (hg : W.grownBy W' row) (hr : ∀ r, row = some r → B ≤ r ∧ ∃ o : Loop, W.heap[r]? = some (.loop o)) : JA W6 W' b vb nx ys j vo :=
  ⟨grown_blk h.out (cells_noloop _ _ _) hg hr, h.own.kept fun g e => by
      obtain ⟨cur, hc⟩ := owns_type h.own e
      rw [grown_blk hc (cells_noloop _ _ _) hg hr, hc], h.fresh, h.mod.grown hg (fun k e hk => by have := (hr k e).1; omega)⟩
theorem JA.under {W6 W W' : World} {b vb : Nat} {nx : Int} {ys : List It2} {j : Nat} {vo : Value} (h : JA W6 W b vb nx ys j vo) (hb : Below W.heap.size W W') : JA W6 W' b vb nx ys j vo :=
  ⟨(hb.block _ (lt_of_block h.out)).trans h.out, h.own.kept fun g e => hb.block g (h.own.lt e), h.fresh, h.mod.trans (Mod.of_below hb)⟩
/-- Within a round: the item has come. -/
structure JR (W6 W2 : World) (b vb : Nat) (nx : Int) (ys : List It2) (j : Nat) (vo : Value) (B0 : Nat) (v : Value) : Prop where
  ai : JA W6 W2 b vb nx ys j vo
  hj : j < ys.length
  hB : W6.heap.size ≤ B0
  nb : b < W6.heap.size
  nv : vb < W6.heap.size
  vlt : ∀ g, v.ownBlock = some g → g < W6.heap.size ∧ g ≠ vb
/-- What a round leaves. -/
def JrPost (W6 W2 W : World) (b vb : Nat) (nx : Int) (ys : List It2) (j B0 : Nat) (v : Value) : Prop := KeepsR B0 W2 W ∧ KpL v 0 W2 W ∧ ∃ vo', JA W6 W b vb nx ys (j + 1) vo'
/-- The key, the value and the box stand in their blocks. -/
def SQ3 (B : Nat) (q : K) (x : VT) (c : Value) (vx vb : Nat) (W : World) : Prop := W.heap[B]? = some (KB q.b q.n q.t) ∧ W.heap[B + 1]? = some (VB x c) ∧ W.heap[vx]? = some (.cells #[.pointer (some ⟨vb, 0, none⟩)] 69 (0, 0))
section
variable {W6 W2 W3 w6 : World} {b vb : Nat} {nx : Int} {ys : List It2} {j : Nat} {vo v : Value} {g7 cap6 B0 : Nat} {o : Obj} {y : K} {x : VT} {co : Option Addr} {cc : Nat}
theorem SQ3.grown {B vx : Nat} {q : K} {x : VT} {c : Value} {W W' : World} {o : Option Nat} (h : SQ3 B q x c vx vb W) (g : W.grownBy W' o) (h1 : some B ≠ o) (h2 : some (B + 1) ≠ o) (h3 : some vx ≠ o) : SQ3 B q x c vx vb W' :=
  ⟨(g.block _ (lt_of_block h.1) h1).trans h.1, (g.block _ (lt_of_block h.2.1) h2).trans h.2.1, (g.block _ (lt_of_block h.2.2) h3).trans h.2.2⟩
theorem SQ3.mod {B vx : Nat} {q : K} {x : VT} {c : Value} {W W' : World} {Z : Nat → Prop} (h : SQ3 B q x c vx vb W) (m : Mod Z W W') (h1 : ¬ Z B) (h2 : ¬ Z (B + 1)) (h3 : ¬ Z vx) : SQ3 B q x c vx vb W' := ⟨m.blk h.1 h1, m.blk h.2.1 h2, m.blk h.2.2 h3⟩
theorem SQ3.under {B vx : Nat} {q : K} {x : VT} {c : Value} {W W' : World} (h : SQ3 B q x c vx vb W) (m : Below W.heap.size W W') : SQ3 B q x c vx vb W' := h.mod (Mod.of_below (F := fun _ => False) m) (fun e => e) (fun e => e) (fun e => e)
theorem JR.under (R : JR W6 W2 b vb nx ys j vo B0 v) (hb : Below W2.heap.size W2 W3) : JR W6 W3 b vb nx ys j vo B0 v := ⟨R.ai.under hb, R.hj, R.hB, R.nb, R.nv, R.vlt⟩
theorem jr_from (hb : Below W2.heap.size W2 W3) {W : World} (h : JrPost W6 W3 W b vb nx ys j B0 v) : JrPost W6 W2 W b vb nx ys j B0 v :=
  ⟨(KeepsR.of_below B0 hb).trans h.1, fun k cs t e hc => h.2.1 k cs t e ((hb.block _ (lt_of_block hc)).trans hc), h.2.2⟩
theorem jr_post (R : JR W6 W2 b vb nx ys j vo B0 v) {W : World} {vo' : Value} (m : Mod (fun k => k = vb ∨ vo.ownBlock = some k) W2 W) (h1 : W.heap[vb]? = some (VL nx vo')) (h2 : Owns W 64 7 vo' (rows2 (ys.take (j + 1)))) (h3 : ∀ g, vo'.ownBlock = some g → W6.heap.size ≤ g) : JrPost W6 W2 W b vb nx ys j B0 v := by
  refine ⟨keeps_of_mod _ m (fun k e _ => ?_), fun k cs t e hc => m.blk hc (fun h => ?_), vo', h1, h2, h3, R.ai.mod.trans' m (fun i hi e => ?_)⟩
  · rcases e with rfl | e
    · exact ⟨_, _, _, R.ai.out⟩
    · obtain ⟨cur, hc⟩ := owns_type R.ai.own e
      exact ⟨_, _, _, hc⟩
  · have := R.vlt k e
    rcases h with h | h
    · exact this.2 h
    · have := R.ai.fresh k h; omega
  · rcases e with rfl | e
    · exact .inr rfl
    · have := R.ai.fresh i e; omega
theorem jr_mod (_R : JR W6 W2 b vb nx ys j vo B0 v) (G6 : (W2.drew.alloc o).grownBy w6 vo.ownBlock) : Mod (fun k => k = vb ∨ vo.ownBlock = some k) W2 w6 :=
  ((Mod.refl (fun k => k = vb ∨ vo.ownBlock = some k) W2).drew.alloc o).grown G6 (fun _ e _ => .inr e)
theorem jr_fresh (R : JR W6 W2 b vb nx ys j vo B0 v) (V6 : (Value.slice (some ⟨g7, 0, none⟩) (j + 1) cap6).ownBlock = vo.ownBlock ∨ ∃ k, (Value.slice (some ⟨g7, 0, none⟩) (j + 1) cap6).ownBlock = some k ∧ (W2.drew.alloc o).heap.size ≤ k) : W6.heap.size ≤ g7 := by
  rcases V6 with e | ⟨k, e, hk⟩
  · exact R.ai.fresh g7 e.symm
  · have h3 : g7 = k := Option.some.inj e
    have := R.ai.mod.size
    simp at hk
    omega
theorem jr_doneA (R : JR W6 W2 b vb nx ys j vo B0 v) (B6 : w6.heap[vb]? = some (VL nx vo)) (O6 : Owns w6 64 7 (.slice (some ⟨g7, 0, none⟩) (j + 1) cap6) (rows2 (ys.take j) ++ [zrow])) (hn : (rows2 (ys.take j)).length = j)
    (G6 : (W2.drew.alloc o).grownBy w6 vo.ownBlock) (V6 : (Value.slice (some ⟨g7, 0, none⟩) (j + 1) cap6).ownBlock = vo.ownBlock ∨ ∃ k, (Value.slice (some ⟨g7, 0, none⟩) (j + 1) cap6).ownBlock = some k ∧ (W2.drew.alloc o).heap.size ≤ k) (hbg : vb ≠ g7) (hy : ys[j]? = some ((y, x), .slice co x.xs.length cc)) :
    JrPost W6 W2 (put7 (w6.setCell ⟨vb, 3, none⟩ (.slice (some ⟨g7, 0, none⟩) (j + 1) cap6)) g7 (j * 7) (.bool y.b) (.int .i64 y.n) (.string y.t) (.int .i64 x.k) (.int .i64 x.n) (.string x.t) (.slice co x.xs.length cc)) b vb nx ys j B0 v := by
  have hb7 : (w6.setCell ⟨vb, 3, none⟩ (.slice (some ⟨g7, 0, none⟩) (j + 1) cap6)).heap[vb]? = some (VL nx (.slice (some ⟨g7, 0, none⟩) (j + 1) cap6)) := by have := set_blk B6 3 (.slice (some ⟨g7, 0, none⟩) (j + 1) cap6); simpa using this
  refine jr_post R (vo' := .slice (some ⟨g7, 0, none⟩) (j + 1) cap6) ?_ (put7_mod.blk hb7 hbg) ?_ (fun g e => by have h3 : g7 = g := Option.some.inj e; rw [← h3]; exact jr_fresh R V6)
  · exact ((jr_mod R G6).setCell ⟨vb, 3, none⟩ (.slice (some ⟨g7, 0, none⟩) (j + 1) cap6) (fun _ => .inl rfl)).trans' put7_mod (fun i hi e => .inr (by subst e; exact ar_g V6 hi))
  · rw [take_rows hy]
    have o6 : Owns (w6.setCell ⟨vb, 3, none⟩ (.slice (some ⟨g7, 0, none⟩) (j + 1) cap6)) 64 7 (.slice (some ⟨g7, 0, none⟩) (j + 1) cap6) (rows2 (ys.take j) ++ [zrow]) := O6.kept fun g e => by
      have h3 : g7 = g := Option.some.inj e
      exact Below.heap_setCell _ _ _ _ (fun e2 => hbg (by rw [h3]; exact e2.symm))
    exact owns_put7 o6 hn (.bool y.b) (.int .i64 y.n) (.string y.t) (.int .i64 x.k) (.int .i64 x.n) (.string x.t) (.slice co x.xs.length cc) (by simp [Value.oneCell'])
theorem jr_doneB (R : JR W6 W2 b vb nx ys j vo B0 v) (B6 : w6.heap[vb]? = some (VL nx vo)) (O6 : Owns w6 64 7 (.slice (some ⟨g7, 0, none⟩) (j + 1) cap6) (rows2 (ys.take j) ++ [itCells (y, x) (.slice co x.xs.length cc)]))
    (G6 : (W2.drew.alloc o).grownBy w6 vo.ownBlock) (V6 : (Value.slice (some ⟨g7, 0, none⟩) (j + 1) cap6).ownBlock = vo.ownBlock ∨ ∃ k, (Value.slice (some ⟨g7, 0, none⟩) (j + 1) cap6).ownBlock = some k ∧ (W2.drew.alloc o).heap.size ≤ k) (hbg : vb ≠ g7) (hy : ys[j]? = some ((y, x), .slice co x.xs.length cc)) :
    JrPost W6 W2 (w6.setCell ⟨vb, 3, none⟩ (.slice (some ⟨g7, 0, none⟩) (j + 1) cap6)) b vb nx ys j B0 v := by
  have hb7 : (w6.setCell ⟨vb, 3, none⟩ (.slice (some ⟨g7, 0, none⟩) (j + 1) cap6)).heap[vb]? = some (VL nx (.slice (some ⟨g7, 0, none⟩) (j + 1) cap6)) := by have := set_blk B6 3 (.slice (some ⟨g7, 0, none⟩) (j + 1) cap6); simpa using this
  refine jr_post R (vo' := .slice (some ⟨g7, 0, none⟩) (j + 1) cap6) ?_ hb7 ?_ (fun g e => by have h3 : g7 = g := Option.some.inj e; rw [← h3]; exact jr_fresh R V6)
  · exact (jr_mod R G6).setCell ⟨vb, 3, none⟩ (.slice (some ⟨g7, 0, none⟩) (j + 1) cap6) (fun _ => .inl rfl)
  · rw [take_rows hy]
    exact O6.kept fun g e => by
      have h3 : g7 = g := Option.some.inj e
      exact Below.heap_setCell _ _ _ _ (fun e2 => hbg (by rw [h3]; exact e2.symm))
end
end Go.Proofs.YtnaefnojmiolbaaGreatDoor
