/-
  JSON: the walk of items (printed by genJItemsZ.py).
-/
import Derived.Test.YtnaefnojmiolbaaGreatDoorJw28
import Derived.Test.YtnaefnojmiolbaaGreatDoorJw10
namespace Go.Proofs.YtnaefnojmiolbaaGreatDoor
open Go.RowKit Go.Shelf Go.Maps

attribute [local go_sem] yld_undef Oper.semAt_some
attribute [local irreducible] blankE
theorem jitem_any (obj : Bool) {val : JValF} {n : Int} (hn0 : 0 ≤ n) (hn1 : n ≤ 64) {w : World} {r b mb : Nat} {v : Value} {l : LS} {ys : List It2} {s : ByteArray} {p m : Nat} {fw fa : Int} (h : Jd w r s p m fw fa) (i : LIs w b v mb l ys) (h6 : 6 ≤ b) (h6m : 6 ≤ mb) (h6v : ∀ g, v.ownBlock = some g → 6 ≤ g)
    (HV : JVal r s fw fa (n + 1) val) (hok : JOk s val) (hr : ∃ m0, LRead obj l m0) (hl : jbegP s obj p = true → l.xs.length < 2048) :
    Calls Tryz.prog 98 #[.pointer (some ⟨r, 0, none⟩), .pointer (some ⟨b, 0, none⟩), .int .i64 n, .int .u8 ((endC obj).toNat : Int)] w (JPost (JL r b v mb) w r s (jitemP s obj val l p m) isFalse (JIOk w r b v mb s fw fa)) := by
  cases obj
  · obtain ⟨m0, hr⟩ := hr
    exact jitem_arr hn0 hn1 h i h6 h6m h6v HV (hr.nx rfl).1 (fun a ha => hl (hok _ _ _ h.hp ha).2.2.2)
  · exact jitem_obj hn0 hn1 h i h6 h6m h6v HV hl
/-- What stands behind a list's items. -/
def jendP (s : ByteArray) (obj : Bool) (u : JV LS) : JV VT := match u with
  | .error e => .error e
  | .ok (l, q, m') => if nowP s q = endC obj ∧ q < s.size then .ok (.mk 4 l.nx ⟨#[]⟩ l.xs, q + 1, m') else .error (wrongC s q, q)
theorem jlistP_end {s : ByteArray} {obj : Bool} {val : JValF} {p m : Nat} : jlistP s obj (some val) p m = jendP s obj (jitemsL s obj val (s.size + 2) true LS.new (blankE s (p + 1)) m) := rfl
theorem comma_end (obj : Bool) : (44 : UInt8) ≠ endC obj := by cases obj <;> decide
theorem endC_ne (obj : Bool) : endC obj ≠ 0 := by cases obj <;> decide
theorem comma_ne : (44 : UInt8) ≠ 0 := by decide
/-- What stands behind a round. -/
def jcont (s : ByteArray) (obj : Bool) (val : JValF) (k : Nat) (r : JV LS) : JV LS := match r with
  | .error e => .error e
  | .ok (l', p', m'') => jitemsL s obj val k false l' p' m''
theorem jitemsL_succ {s : ByteArray} {obj : Bool} {val : JValF} {k : Nat} {fst : Bool} {l : LS} {q m : Nat} : jitemsL s obj val (k + 1) fst l q m =
    if fst = true then (if nowP s q = endC obj then .ok (l, q, m) else jcont s obj val k (jroundP s obj val l q m))
    else if nowP s q = 44 then jcont s obj val k (jroundP s obj val l (blankE s (q + 1)) m) else .ok (l, q, m) := by
  rw [jitemsL]
  rfl
theorem jround_err {s : ByteArray} {obj : Bool} {val : JValF} {l : LS} {k q m : Nat} {e : ER} (h : ¬ (2048 < m + 1 ∧ jbegP s obj q = true)) (hi : jitemP s obj val l q (m + 1) = .error e) :
    jcont s obj val k (jroundP s obj val l q m) = .error e := by
  unfold jroundP
  rw [if_neg h, hi]
  rfl
theorem jround_ok {s : ByteArray} {obj : Bool} {val : JValF} {l l' : LS} {k q m p' m' : Nat} (h : ¬ (2048 < m + 1 ∧ jbegP s obj q = true)) (hi : jitemP s obj val l q (m + 1) = .ok (l', p', m')) :
    jcont s obj val k (jroundP s obj val l q m) = jitemsL s obj val k false l' (blankE s p') m' := by
  unfold jroundP
  rw [if_neg h, hi]
  rfl
theorem jround_full {s : ByteArray} {obj : Bool} {val : JValF} {l : LS} {k q m : Nat} (h : 2048 < m + 1 ∧ jbegP s obj q = true) :
    jcont s obj val k (jroundP s obj val l q m) = .error (8, q) := by
  unfold jroundP
  rw [if_pos h]
  rfl
/-- A list is read; what a round finds. -/
structure JI (w1 wr : World) (r b : Nat) (v : Value) (mb : Nat) (s : ByteArray) (obj : Bool) (l : LS) (ys : List It2) (q m : Nat) (fw fa : Int) : Prop where
  jd : Jd wr r s q m fw fa
  li : LIs wr b v mb l ys
  mod : Mod (JF r) w1 wr
  rd : LRead obj l m
  fb : w1.heap.size ≤ b
  fm : w1.heap.size ≤ mb
  fv : ∀ g, v.ownBlock = some g → w1.heap.size ≤ g
theorem JI.turn {w1 wr w2 : World} {r b : Nat} {v : Value} {mb : Nat} {s : ByteArray} {obj : Bool} {l : LS} {ys : List It2} {q q' m m' : Nat} {fw fa : Int} (h : JI w1 wr r b v mb s obj l ys q m fw fa) (hj : Jd w2 r s q' m' fw fa) (hm : Mod (JF r) wr w2) (hmm : m ≤ m') : JI w1 w2 r b v mb s obj l ys q' m' fw fa :=
  ⟨hj, h.li.mod hm (fun k hk e => h.li.r_foot h.jd ((show k = r from e) ▸ hk)) (fun _ e => h.jd.no64 e), h.mod.trans hm, h.rd.mono hmm, h.fb, h.fm, h.fv⟩
theorem JI.step {w1 wr w2 : World} {r b : Nat} {v v' : Value} {mb : Nat} {s : ByteArray} {obj : Bool} {l l' : LS} {ys ys' : List It2} {q q' m m' : Nat} {fw fa : Int} (h : JI w1 wr r b v mb s obj l ys q m fw fa) (hj : Jd w2 r s q' m' fw fa) (hm : Mod (JL r b v mb) wr w2) (i : LIs w2 b v' mb l' ys')
    (hv : v'.ownBlock = v.ownBlock ∨ ∃ g, v'.ownBlock = some g ∧ wr.heap.size ≤ g) (hr : LRead obj l' m') : JI w1 w2 r b v' mb s obj l' ys' q' m' fw fa := by
  refine ⟨hj, i, h.mod.trans' hm (fun k hk e => ?_), hr, h.fb, h.fm, fun g e => ?_⟩
  · rcases e with e | e | e | e
    · exact e
    · have := h.fb; omega
    · have := h.fv k e; omega
    · have := h.fm; omega
  · rcases hv with e2 | ⟨g2, e2, hg⟩
    · exact h.fv g (by rw [← e2]; exact e)
    · rw [e2] at e; cases e; have := h.mod.size; omega
set_option maxRecDepth 100000 in
set_option maxHeartbeats 6400000 in
theorem jitems_any (obj : Bool) {val : JValF} {n : Int} (hn0 : 0 ≤ n) (hn1 : n < 64) {w : World} {r vb : Nat} {s : ByteArray} {p m : Nat} {fw fa : Int} (h : Jd w r s p m fw fa) (hv : VBlk w vb) (hne : vb ≠ r) (h6 : 6 ≤ vb) (hp : p < s.size)
    (HV : JVal r s fw fa (n + 1) val) (hok : JOk s val) :
    Calls Tryz.prog 69 #[.pointer (some ⟨r, 0, none⟩), .pointer (some ⟨vb, 0, none⟩), .int .i64 n, .int .u8 ((endC obj).toNat : Int)] w (JPost (JV2 r vb) w r s (jlistP s obj (some val) p m) isFalse (JVOk r vb s fw fa)) := by
  obtain ⟨x, hx⟩ : ∃ x, x = jlistP s obj (some val) p m := ⟨_, rfl⟩
  rw [← hx]
  rw [jlistP_end] at hx
  have hsz := h.hs
  have hml := h.hm
  have hr6 := h.r6
  have hrlt := lt_of_block h.blk
  obtain ⟨E, hE⟩ : ∃ E : Int, ((endC obj).toNat : Int) = E := ⟨_, rfl⟩
  have HE := Lib.hid hE
  obtain ⟨hp', hpw⟩ := wr_sm (x := (p : Int) + 1) (by omega) (by omega)
  have g64 : decide ((64 : Int) ≤ n) = false := by simp; omega
  obtain ⟨c0, c1, -, -, -⟩ := h.cells
  have ff := free_blk h.blk 1
  have hj0 := h.setAt (q := p + 1) (by omega) (by omega) (v := (p : Int) + 1) (by omega)
  have hj1 := hj0.under (below_alloc1 _ (.cells #[.pointer (some ⟨vb, 0, none⟩)] 69))
  have hX1 := heap_alloc_new (w.setCell ⟨r, 1, none⟩ (.int .i64 ((p : Int) + 1))) (.cells #[.pointer (some ⟨vb, 0, none⟩)] 69)
  rw [World.size_setCell] at hX1
  have hm1 : Mod (JF r) w ((w.setCell ⟨r, 1, none⟩ (.int .i64 ((p : Int) + 1))).alloc (.cells #[.pointer (some ⟨vb, 0, none⟩)] 69)) := (setJ_mod w r 1 _).alloc _
  have hv1 := hv.mod hm1 (fun e => hne e)
  have H0 := Lib.hid (⟨hv1, hne, h6, hm1, hX1, hrlt, hj1⟩ : _ ∧ _ ∧ _ ∧ _ ∧ _ ∧ _ ∧ _)
  have HX := Lib.hid hx
  have HN := Lib.hid (⟨hn0, hn1⟩ : _ ∧ _)
  have HP := Lib.hid hp
  have HNEW := lnew_any ((w.setCell ⟨r, 1, none⟩ (.int .i64 ((p : Int) + 1))).alloc (.cells #[.pointer (some ⟨vb, 0, none⟩)] 69))
  rw [hE]
  clear h hv hne h6 hj0 hj1 hX1 hx hE hn0 hn1 hp hm1 hv1
  refine callsIn_wide.1 (callsIn_of_wp_marks (F := Fence.wide) (n := 5) Tryz.func69 rfl trivial ?_ rfl)
  refine wpIn_wide.2 ?_
  simp only [Tryz.ntmps69, List.size_toArray, List.length_cons, List.length_nil, Nat.reduceAdd, Nat.reduceSub, Array.replicate_succ, Array.replicate_zero, List.push_toArray, List.append_toArray, List.nil_append, List.cons_append]
  go_wp2_with fail
  refine HNEW.mono ?_
  rintro _ w2 ⟨b, mb, rfl, li, hfb, hfm, hbl⟩
  generalize hW1 : ((w.setCell ⟨r, 1, none⟩ (.int .i64 ((p : Int) + 1))).alloc (.cells #[.pointer (some ⟨vb, 0, none⟩)] 69)) = w1 at H0 hfb hfm hbl ⊢
  have HB2 := Lib.hid (⟨li, hfb, hfm, hbl, H0.out.2.2.2.2.2.2.under hbl⟩ : _ ∧ _ ∧ _ ∧ _ ∧ _)
  have HBL := blanks_any (H0.out.2.2.2.2.2.2.under hbl)
  clear li hfb hfm hbl hW1 HNEW c0 c1 ff
  go_wp2_with fail
  refine HBL.mono ?_
  rintro _ w3 ⟨rfl, hj3, hm3⟩
  have HI3 : Hid (JI w1 w3 r b (.slice none 0 0) mb s obj LS.new [] (blankE s (p + 1)) m fw fa) := Lib.hid (by
    obtain ⟨li, hfb, hfm, hbl, hjb⟩ := HB2.out
    exact ⟨hj3, li.mod hm3 (fun k hk e => li.r_foot hjb ((show k = r from e) ▸ hk)) (fun k e => hjb.no64 e), (Mod.of_below hbl).trans hm3, LRead.new obj m, hfb, hfm, fun g e => by simp [Value.ownBlock] at e⟩)
  have hbk := blankE_le (s := s) (p := p + 1) HP.out
  obtain ⟨u, hu⟩ : ∃ u, u = jitemsL s obj val (s.size + 2) true LS.new (blankE s (p + 1)) m := ⟨_, rfl⟩
  have HU := Lib.hid hu
  have HX2 : Hid (x = jendP s obj u) := Lib.hid (by rw [hu]; exact HX.out)
  have HQ0 : Hid (m < blankE s (p + 1) ∧ blankE s (p + 1) ≤ s.size) := Lib.hid (by omega)
  clear hj3 hm3 HBL HB2 HX hu hbk hp' hpw
  go_upto_block 0 with fail
  go_cut [10] from 31 to 83 (fun _ wx => ∃ (q m' : Nat) (l : LS) (v : Value) (ys : List It2), Hid (u = .ok (l, q, m')) ∧ Hid (JI w1 wx r b v mb s obj l ys q m' fw fa))
  case first =>
    go_wp2_with fail
    go_loopg [10] (s.size + 1 - blankE s (p + 1)) (fun g s10 wr => ∃ (q k m' : Nat) (fst : Bool) (l : LS) (v : Value) (ys : List It2), g = s.size + 1 - q ∧ s10 = .bool fst ∧ Hid (u = jitemsL s obj val k fst l q m' ∧ s.size + 2 ≤ k + q ∧ (fst = true → m' < q)) ∧ Hid (JI w1 wr r b v mb s obj l ys q m' fw fa))
    case atStart => exact ⟨blankE s (p + 1), s.size + 2, m, true, LS.new, .slice none 0 0, [], rfl, rfl, Lib.hid ⟨HU.out, by have := HQ0.out; omega, fun _ => HQ0.out.1⟩, HI3⟩
    case round =>
      obtain ⟨q, k, m', fst, l, v, ys, rfl, rfl, HUj, HIJ⟩ := hrel
      clear HI3 HQ0 HU
      have hqs := HIJ.out.jd.hp
      have hmq := HIJ.out.jd.hm
      have hkq := HUj.out.2.1
      obtain ⟨k, rfl⟩ : ∃ k', k = k' + 1 := ⟨k - 1, by omega⟩
      have hu2 := HUj.out.1
      rw [jitemsL_succ] at hu2
      have HN1 := jnow_any HIJ.out.jd
      obtain ⟨c, hc⟩ : ∃ c, nowP s q = c := ⟨_, rfl⟩
      rw [hc] at HN1 hu2
      have HC := Lib.hid hc
      have hEc : c = endC obj ↔ (c.toNat : Int) = E := ⟨fun e => by rw [e]; exact HE.out, fun e => UInt8.toNat_inj.1 (by have := HE.out; omega)⟩
      have HXU := Lib.hid hu2
      clear hu2
      cases fst
      · by_cases h44 : c = 44
        · have hneE : ((c.toNat : Int) != E) = true := by
            rw [bne_iff_ne]
            intro e
            have := hEc.2 e
            exact comma_end obj (h44.symm.trans this)
          clear hEc
          have hne44 : ((c.toNat : Int) != 44) = false := by rw [h44]; rfl
          have hq1 : q < s.size := now_lt (by rw [hc, h44]; exact comma_ne)
          have HBK := Lib.hid (blankE_le (s := s) (p := q + 1) hq1)
          obtain ⟨hq', hqw⟩ := wr_sm (x := (q : Int) + 1) (by omega) (by omega)
          have HUR : Hid (u = jcont s obj val k (jroundP s obj val l (blankE s (q + 1)) m')) := Lib.hid (by
              have := HXU.out
              rw [if_neg (by decide), if_pos h44] at this
              exact this)
          have HQQ : Hid (m' < blankE s (q + 1) ∧ q ≤ blankE s (q + 1)) := Lib.hid ⟨Nat.lt_of_lt_of_le (Nat.lt_succ_of_le hmq) HBK.out.2, Nat.le_of_lt HBK.out.2⟩
          clear HXU hc h44
          go_wp2_with fail
          refine HN1.mono ?_
          rintro _ w4 ⟨rfl, hb4⟩
          have HI4 := Lib.hid (HIJ.out.turn (HIJ.out.jd.under hb4) (Mod.of_below hb4) (Nat.le_refl _))
          have HN2 := jnow_any HI4.out.jd
          rw [HC.out] at HN2
          clear hb4 HN1
          go_wp2_with fail
          refine HN2.mono ?_
          rintro _ w5 ⟨rfl, hb5⟩
          have HI5 := Lib.hid (HI4.out.turn (HI4.out.jd.under hb5) (Mod.of_below hb5) (Nat.le_refl _))
          obtain ⟨c0, c1, -, -, -⟩ := HI5.out.jd.cells
          have ff := free_blk HI5.out.jd.blk 1
          clear hb5 HN2 HI4
          go_wp2_with fail
          have HI6 : Hid (JI w1 (w5.setCell ⟨r, 1, none⟩ (.int .i64 ((q : Int) + 1))) r b v mb s obj l ys (q + 1) m' fw fa) := Lib.hid (HI5.out.turn (HI5.out.jd.setAt (show q + 1 ≤ s.size from hq1) (Nat.le_succ_of_le hmq) (show (q : Int) + 1 = ((q + 1 : Nat) : Int) from rfl)) (setJ_mod _ _ _ _) (Nat.le_refl _))
          clear c0 c1 ff HI5 hq' hqw
          refine (blanks_any HI6.out.jd).mono ?_
          rintro _ w7 ⟨rfl, hj7, hm7⟩
          have HI7 := Lib.hid (HI6.out.turn hj7 hm7 (Nat.le_refl _))
          clear hj7 hm7 HI6 HBK
          obtain ⟨Q, hQ⟩ : ∃ Q, Q = blankE s (q + 1) := ⟨_, rfl⟩
          have HQ2 : Hid (m' < Q ∧ q ≤ Q) := Lib.hid (by rw [hQ]; exact HQQ.out)
          rw [← hQ] at HUR HI7
          clear hQ HQQ
          have hQs := HI7.out.jd.hp
          have hQm := HQ2.out.1
          obtain ⟨d0, d1, d2, -, -⟩ := HI7.out.jd.cells
          have f2 := free_blk HI7.out.jd.blk 2
          obtain ⟨hmw', hmw⟩ := wr_sm (x := (m' : Int) + 1) (by omega) (by omega)
          have HJM : Hid (JI w1 (w7.setCell ⟨r, 2, none⟩ (.int .i64 ((m' : Int) + 1))) r b v mb s obj l ys Q (m' + 1) fw fa) := Lib.hid (HI7.out.turn (HI7.out.jd.setMany (show m' + 1 ≤ Q from hQm) (show (m' : Int) + 1 = ((m' + 1 : Nat) : Int) from rfl)) (setJ_mod _ _ _ _) (Nat.le_succ _))
          obtain ⟨e0, e1, e2', -, -⟩ := HJM.out.jd.cells
          have e2 : (w7.setCell ⟨r, 2, none⟩ (.int .i64 ((m' : Int) + 1))).cell? ⟨r, 2, none⟩ = some (.int .i64 ((m' : Int) + 1)) := by rw [e2']; simp
          clear e2'
          by_cases hbig : 2048 < m' + 1
          · have g1 : decide ((2048 : Int) < (m' : Int) + 1) = true := by simp; omega
            have g2 : 2048 < m' + 1 := hbig
            have g3 : (2048 : Int) < (m' : Int) + 1 := by omega
            obtain ⟨bg, hbg⟩ : ∃ bg, jbegP s obj Q = bg := ⟨_, rfl⟩
            have HBG := begins_any obj HJM.out.jd
            rw [hbg, HE.out] at HBG
            have HBE := Lib.hid hbg
            clear hbg
            go_wp2_with fail
            refine HBG.mono ?_
            rintro _ w8 ⟨rfl, hj8, hb8⟩
            have HI8 := Lib.hid (HJM.out.turn hj8 (Mod.of_below hb8) (Nat.le_refl _))
            clear hj8 hb8 HBG
            cases bg
            · have HNB : Hid (¬ (2048 < m' + 1 ∧ jbegP s obj Q = true)) := Lib.hid (fun e => by rw [HBE.out] at e; cases e.2)
              obtain ⟨it, hit⟩ : ∃ it, it = jitemP s obj val l Q (m' + 1) := ⟨_, rfl⟩
              have hb6 : 6 ≤ b := by have := HI8.out.fb; have := H0.out.2.2.2.1.size; omega
              have hmb6 : 6 ≤ mb := by have := HI8.out.fm; have := H0.out.2.2.2.1.size; omega
              have HIT := jitem_any obj HN.out.1 (Int.le_of_lt HN.out.2) HI8.out.jd HI8.out.li hb6 hmb6 (fun g e => by have := HI8.out.fv g e; have := H0.out.2.2.2.1.size; omega) HV hok ⟨_, HI8.out.rd⟩ (fun e => by rw [HBE.out] at e; cases e)
              rw [← hit, HE.out] at HIT
              have HITE := Lib.hid hit
              clear hit hb6 hmb6
              go_wp2_with fail
              refine HIT.mono ?_
              rintro e9 w9 hp9
              rcases it with ⟨ec, ea⟩ | ⟨l9, q9, m9⟩
              · obtain ⟨⟨_, rfl, rfl⟩, ⟨p8, m8, hj9⟩, hm9⟩ := hp9
                have HF := Lib.hid (⟨hj9, HI8.out.mod.trans' hm9 (fun k hk e => by
                  rcases e with e | e | e | e
                  · exact e
                  · have := HI8.out.fb; omega
                  · have := HI8.out.fv k e; omega
                  · have := HI8.out.fm; omega)⟩ : _ ∧ Mod (JF r) w1 w9)
                have hue : u = .error (ec, ea) := by rw [HUR.out, jround_err HNB.out HITE.out.symm]
                have hxe : x = .error (ec, ea) := by rw [HX2.out, hue]; rfl
                subst hxe
                clear hj9 hm9 hue HUR HIT HX2
                go_wp2_with fail
                exact ⟨.bool false, by simp [results, Tryz.results69, go_sem], ⟨_, rfl, rfl⟩, ⟨_, _, HF.out.1⟩, (H0.out.2.2.2.1.trans HF.out.2).j1⟩
              · obtain ⟨⟨rfl, hj9, v9, ys9, li9, hv9⟩, hm9⟩ := hp9
                obtain ⟨i1, i2, i3, i4, i5⟩ := jitemP_ok hok HI8.out.jd.hp HITE.out.symm
                have HF : Hid (JI w1 w9 r b v9 mb s obj l9 ys9 q9 m9 fw fa) := Lib.hid (HI8.out.step hj9 hm9 li9 hv9 ((i5 hsz m' HIJ.out.rd (Nat.le_refl _) (by omega)).mono i3))
                have hue : u = jitemsL s obj val k false l9 (blankE s q9) m9 := by rw [HUR.out, jround_ok HNB.out HITE.out.symm]
                have HUE := Lib.hid (⟨hue, i1, i2, i3⟩ : _ ∧ _ ∧ _ ∧ _)
                clear hj9 hm9 hue li9 hv9 HUR HIT i1 i2 i3 i4 i5
                go_wp2_with fail
                refine (blanks_any HF.out.jd).mono ?_
                rintro _ w10 ⟨rfl, hj10, hm10⟩
                have HG := Lib.hid (HF.out.turn hj10 hm10 (Nat.le_refl _))
                obtain ⟨bq, hbq⟩ : ∃ bq, bq = blankE s q9 := ⟨_, rfl⟩
                have HBQ : Hid (q9 ≤ bq) := Lib.hid (by rw [hbq]; exact (blankE_le HF.out.jd.hp).2)
                have HUE2 := HUE.out
                rw [← hbq] at HG HUE2
                have HUE3 := Lib.hid HUE2
                clear hbq HUE HUE2
                clear hj10 hm10
                go_wp2_with fail
                go_roundg (s.size + 1 - bq)
                case measure => have h1 := HUE3.out.2.1; have h2 := HQ2.out.2; have h3 := HBQ.out; (try simp only at h1); omega
                case rel => exact ⟨bq, k, m9, false, l9, v9, ys9, rfl, rfl, Lib.hid ⟨HUE3.out.1, by have h1 := HUE3.out.2.1; have h2 := HQ2.out.2; have h3 := HBQ.out; (try simp only at h1); omega, fun e => by cases e⟩, HG⟩
            · have hue : u = .error (8, Q) := by rw [HUR.out, jround_full ⟨g2, HBE.out⟩]
              have hxe : x = .error (8, Q) := by rw [HX2.out, hue]; rfl
              subst hxe
              obtain ⟨k0, k1, -, -, -⟩ := HI8.out.jd.cells
              clear hue HUR HX2
              go_wp2_with fail
              refine (jfail_any 8 Q HI8.out.jd).mono ?_
              rintro _ w9 ⟨rfl, hj9, hm9⟩
              have HF := Lib.hid (⟨hj9, HI8.out.mod.trans hm9⟩ : _ ∧ _)
              clear hj9 hm9
              go_wp2_with fail
              exact ⟨.bool false, by simp [results, Tryz.results69, go_sem], ⟨_, rfl, rfl⟩, ⟨_, _, HF.out.1⟩, (H0.out.2.2.2.1.trans HF.out.2).j1⟩
          · have g1 : decide ((2048 : Int) < (m' : Int) + 1) = false := by simp; omega
            have g2 : ¬ 2048 < m' + 1 := hbig
            have g3 : ¬ (2048 : Int) < (m' : Int) + 1 := by omega
            have HNB : Hid (¬ (2048 < m' + 1 ∧ jbegP s obj Q = true)) := Lib.hid (fun e => g2 e.1)
            clear hbig
            obtain ⟨it, hit⟩ : ∃ it, it = jitemP s obj val l Q (m' + 1) := ⟨_, rfl⟩
            have hb6 : 6 ≤ b := by have := HJM.out.fb; have := H0.out.2.2.2.1.size; omega
            have hmb6 : 6 ≤ mb := by have := HJM.out.fm; have := H0.out.2.2.2.1.size; omega
            have HIT := jitem_any obj HN.out.1 (Int.le_of_lt HN.out.2) HJM.out.jd HJM.out.li hb6 hmb6 (fun g e => by have := HJM.out.fv g e; have := H0.out.2.2.2.1.size; omega) HV hok ⟨_, HJM.out.rd⟩ (fun _ => by have := HIJ.out.rd.len; omega)
            rw [← hit, HE.out] at HIT
            have HITE := Lib.hid hit
            clear hit hb6 hmb6
            go_wp2_with fail
            refine HIT.mono ?_
            rintro e9 w9 hp9
            rcases it with ⟨ec, ea⟩ | ⟨l9, q9, m9⟩
            · obtain ⟨⟨_, rfl, rfl⟩, ⟨p8, m8, hj9⟩, hm9⟩ := hp9
              have HF := Lib.hid (⟨hj9, HJM.out.mod.trans' hm9 (fun k hk e => by
                rcases e with e | e | e | e
                · exact e
                · have := HJM.out.fb; omega
                · have := HJM.out.fv k e; omega
                · have := HJM.out.fm; omega)⟩ : _ ∧ Mod (JF r) w1 w9)
              have hue : u = .error (ec, ea) := by rw [HUR.out, jround_err HNB.out HITE.out.symm]
              have hxe : x = .error (ec, ea) := by rw [HX2.out, hue]; rfl
              subst hxe
              clear hj9 hm9 hue HUR HIT HX2
              go_wp2_with fail
              exact ⟨.bool false, by simp [results, Tryz.results69, go_sem], ⟨_, rfl, rfl⟩, ⟨_, _, HF.out.1⟩, (H0.out.2.2.2.1.trans HF.out.2).j1⟩
            · obtain ⟨⟨rfl, hj9, v9, ys9, li9, hv9⟩, hm9⟩ := hp9
              obtain ⟨i1, i2, i3, i4, i5⟩ := jitemP_ok hok HJM.out.jd.hp HITE.out.symm
              have HF : Hid (JI w1 w9 r b v9 mb s obj l9 ys9 q9 m9 fw fa) := Lib.hid (HJM.out.step hj9 hm9 li9 hv9 ((i5 hsz m' HIJ.out.rd (Nat.le_refl _) (by omega)).mono i3))
              have hue : u = jitemsL s obj val k false l9 (blankE s q9) m9 := by rw [HUR.out, jround_ok HNB.out HITE.out.symm]
              have HUE := Lib.hid (⟨hue, i1, i2, i3⟩ : _ ∧ _ ∧ _ ∧ _)
              clear hj9 hm9 hue li9 hv9 HUR HIT i1 i2 i3 i4 i5
              go_wp2_with fail
              refine (blanks_any HF.out.jd).mono ?_
              rintro _ w10 ⟨rfl, hj10, hm10⟩
              have HG := Lib.hid (HF.out.turn hj10 hm10 (Nat.le_refl _))
              obtain ⟨bq, hbq⟩ : ∃ bq, bq = blankE s q9 := ⟨_, rfl⟩
              have HBQ : Hid (q9 ≤ bq) := Lib.hid (by rw [hbq]; exact (blankE_le HF.out.jd.hp).2)
              have HUE2 := HUE.out
              rw [← hbq] at HG HUE2
              have HUE3 := Lib.hid HUE2
              clear hbq HUE HUE2
              clear hj10 hm10
              go_wp2_with fail
              go_roundg (s.size + 1 - bq)
              case measure => have h1 := HUE3.out.2.1; have h2 := HQ2.out.2; have h3 := HBQ.out; (try simp only at h1); omega
              case rel => exact ⟨bq, k, m9, false, l9, v9, ys9, rfl, rfl, Lib.hid ⟨HUE3.out.1, by have h1 := HUE3.out.2.1; have h2 := HQ2.out.2; have h3 := HBQ.out; (try simp only at h1); omega, fun e => by cases e⟩, HG⟩
        · have hue : u = .ok (l, q, m') := by
            have := HXU.out
            rw [if_neg (by decide), if_neg h44] at this
            exact this
          have HUE := Lib.hid hue
          have hne44 : ((c.toNat : Int) != 44) = true := by
            rw [bne_iff_ne]; intro e; exact h44 (UInt8.toNat_inj.1 (by simpa using (by omega : c.toNat = 44)))
          obtain ⟨bE, hbE⟩ : ∃ bE, ((c.toNat : Int) != E) = bE := ⟨_, rfl⟩
          clear HXU hue hc hEc h44
          cases bE
          all_goals
            go_wp2_with fail
            refine HN1.mono ?_
            rintro _ w4 ⟨rfl, hb4⟩
            have HI4 := Lib.hid (HIJ.out.turn (HIJ.out.jd.under hb4) (Mod.of_below hb4) (Nat.le_refl _))
            have HN2 := jnow_any HI4.out.jd
            rw [HC.out] at HN2
            clear hb4 HN1
            go_wp2_with fail
            refine HN2.mono ?_
            rintro _ w5 ⟨rfl, hb5⟩
            have HI5 := Lib.hid (HI4.out.turn (HI4.out.jd.under hb5) (Mod.of_below hb5) (Nat.le_refl _))
            clear hb5 HN2 HI4
            go_wp2_with fail
            go_meet
            exact ⟨q, m', l, v, ys, HUE, HI5⟩
      · by_cases hcE : c = endC obj
        · have hue : u = .ok (l, q, m') := by
            have := HXU.out
            rw [if_pos rfl, if_pos hcE] at this
            exact this
          have HUE := Lib.hid hue
          have hneE : ((c.toNat : Int) != E) = false := by
            have := hEc.1 hcE
            rw [this]; simp
          clear HXU hue hc hEc hcE
          go_wp2_with fail
          refine HN1.mono ?_
          rintro _ w4 ⟨rfl, hb4⟩
          have HI4 := Lib.hid (HIJ.out.turn (HIJ.out.jd.under hb4) (Mod.of_below hb4) (Nat.le_refl _))
          clear hb4 HN1
          go_wp2_with fail
          go_meet
          exact ⟨q, m', l, v, ys, HUE, HI4⟩
        · have hneE : ((c.toNat : Int) != E) = true := by
            rw [bne_iff_ne]; exact fun e => hcE (hEc.2 e)
          have HUR : Hid (u = jcont s obj val k (jroundP s obj val l q m')) := Lib.hid (by
              have := HXU.out
              rw [if_pos rfl, if_neg hcE] at this
              exact this)
          have HQQ : Hid (m' < q ∧ q ≤ q) := Lib.hid ⟨HUj.out.2.2 rfl, Nat.le_refl _⟩
          clear HXU hc hEc hcE
          go_wp2_with fail
          refine HN1.mono ?_
          rintro _ w4 ⟨rfl, hb4⟩
          have HI4 := Lib.hid (HIJ.out.turn (HIJ.out.jd.under hb4) (Mod.of_below hb4) (Nat.le_refl _))
          clear hb4 HN1
          obtain ⟨Q, hQ⟩ : ∃ Q, Q = q := ⟨_, rfl⟩
          have HQ2 : Hid (m' < Q ∧ q ≤ Q) := Lib.hid (by rw [hQ]; exact HQQ.out)
          rw [← hQ] at HUR HI4
          clear hQ HQQ
          have hQs := HI4.out.jd.hp
          have hQm := HQ2.out.1
          obtain ⟨d0, d1, d2, -, -⟩ := HI4.out.jd.cells
          have f2 := free_blk HI4.out.jd.blk 2
          obtain ⟨hmw', hmw⟩ := wr_sm (x := (m' : Int) + 1) (by omega) (by omega)
          have HJM : Hid (JI w1 (w4.setCell ⟨r, 2, none⟩ (.int .i64 ((m' : Int) + 1))) r b v mb s obj l ys Q (m' + 1) fw fa) := Lib.hid (HI4.out.turn (HI4.out.jd.setMany (show m' + 1 ≤ Q from hQm) (show (m' : Int) + 1 = ((m' + 1 : Nat) : Int) from rfl)) (setJ_mod _ _ _ _) (Nat.le_succ _))
          obtain ⟨e0, e1, e2', -, -⟩ := HJM.out.jd.cells
          have e2 : (w4.setCell ⟨r, 2, none⟩ (.int .i64 ((m' : Int) + 1))).cell? ⟨r, 2, none⟩ = some (.int .i64 ((m' : Int) + 1)) := by rw [e2']; simp
          clear e2'
          by_cases hbig : 2048 < m' + 1
          · have g1 : decide ((2048 : Int) < (m' : Int) + 1) = true := by simp; omega
            have g2 : 2048 < m' + 1 := hbig
            have g3 : (2048 : Int) < (m' : Int) + 1 := by omega
            obtain ⟨bg, hbg⟩ : ∃ bg, jbegP s obj Q = bg := ⟨_, rfl⟩
            have HBG := begins_any obj HJM.out.jd
            rw [hbg, HE.out] at HBG
            have HBE := Lib.hid hbg
            clear hbg
            go_wp2_with fail
            refine HBG.mono ?_
            rintro _ w8 ⟨rfl, hj8, hb8⟩
            have HI8 := Lib.hid (HJM.out.turn hj8 (Mod.of_below hb8) (Nat.le_refl _))
            clear hj8 hb8 HBG
            cases bg
            · have HNB : Hid (¬ (2048 < m' + 1 ∧ jbegP s obj Q = true)) := Lib.hid (fun e => by rw [HBE.out] at e; cases e.2)
              obtain ⟨it, hit⟩ : ∃ it, it = jitemP s obj val l Q (m' + 1) := ⟨_, rfl⟩
              have hb6 : 6 ≤ b := by have := HI8.out.fb; have := H0.out.2.2.2.1.size; omega
              have hmb6 : 6 ≤ mb := by have := HI8.out.fm; have := H0.out.2.2.2.1.size; omega
              have HIT := jitem_any obj HN.out.1 (Int.le_of_lt HN.out.2) HI8.out.jd HI8.out.li hb6 hmb6 (fun g e => by have := HI8.out.fv g e; have := H0.out.2.2.2.1.size; omega) HV hok ⟨_, HI8.out.rd⟩ (fun e => by rw [HBE.out] at e; cases e)
              rw [← hit, HE.out] at HIT
              have HITE := Lib.hid hit
              clear hit hb6 hmb6
              go_wp2_with fail
              refine HIT.mono ?_
              rintro e9 w9 hp9
              rcases it with ⟨ec, ea⟩ | ⟨l9, q9, m9⟩
              · obtain ⟨⟨_, rfl, rfl⟩, ⟨p8, m8, hj9⟩, hm9⟩ := hp9
                have HF := Lib.hid (⟨hj9, HI8.out.mod.trans' hm9 (fun k hk e => by
                  rcases e with e | e | e | e
                  · exact e
                  · have := HI8.out.fb; omega
                  · have := HI8.out.fv k e; omega
                  · have := HI8.out.fm; omega)⟩ : _ ∧ Mod (JF r) w1 w9)
                have hue : u = .error (ec, ea) := by rw [HUR.out, jround_err HNB.out HITE.out.symm]
                have hxe : x = .error (ec, ea) := by rw [HX2.out, hue]; rfl
                subst hxe
                clear hj9 hm9 hue HUR HIT HX2
                go_wp2_with fail
                exact ⟨.bool false, by simp [results, Tryz.results69, go_sem], ⟨_, rfl, rfl⟩, ⟨_, _, HF.out.1⟩, (H0.out.2.2.2.1.trans HF.out.2).j1⟩
              · obtain ⟨⟨rfl, hj9, v9, ys9, li9, hv9⟩, hm9⟩ := hp9
                obtain ⟨i1, i2, i3, i4, i5⟩ := jitemP_ok hok HI8.out.jd.hp HITE.out.symm
                have HF : Hid (JI w1 w9 r b v9 mb s obj l9 ys9 q9 m9 fw fa) := Lib.hid (HI8.out.step hj9 hm9 li9 hv9 ((i5 hsz m' HIJ.out.rd (Nat.le_refl _) (by omega)).mono i3))
                have hue : u = jitemsL s obj val k false l9 (blankE s q9) m9 := by rw [HUR.out, jround_ok HNB.out HITE.out.symm]
                have HUE := Lib.hid (⟨hue, i1, i2, i3⟩ : _ ∧ _ ∧ _ ∧ _)
                clear hj9 hm9 hue li9 hv9 HUR HIT i1 i2 i3 i4 i5
                go_wp2_with fail
                refine (blanks_any HF.out.jd).mono ?_
                rintro _ w10 ⟨rfl, hj10, hm10⟩
                have HG := Lib.hid (HF.out.turn hj10 hm10 (Nat.le_refl _))
                obtain ⟨bq, hbq⟩ : ∃ bq, bq = blankE s q9 := ⟨_, rfl⟩
                have HBQ : Hid (q9 ≤ bq) := Lib.hid (by rw [hbq]; exact (blankE_le HF.out.jd.hp).2)
                have HUE2 := HUE.out
                rw [← hbq] at HG HUE2
                have HUE3 := Lib.hid HUE2
                clear hbq HUE HUE2
                clear hj10 hm10
                go_wp2_with fail
                go_roundg (s.size + 1 - bq)
                case measure => have h1 := HUE3.out.2.1; have h2 := HQ2.out.2; have h3 := HBQ.out; (try simp only at h1); omega
                case rel => exact ⟨bq, k, m9, false, l9, v9, ys9, rfl, rfl, Lib.hid ⟨HUE3.out.1, by have h1 := HUE3.out.2.1; have h2 := HQ2.out.2; have h3 := HBQ.out; (try simp only at h1); omega, fun e => by cases e⟩, HG⟩
            · have hue : u = .error (8, Q) := by rw [HUR.out, jround_full ⟨g2, HBE.out⟩]
              have hxe : x = .error (8, Q) := by rw [HX2.out, hue]; rfl
              subst hxe
              obtain ⟨k0, k1, -, -, -⟩ := HI8.out.jd.cells
              clear hue HUR HX2
              go_wp2_with fail
              refine (jfail_any 8 Q HI8.out.jd).mono ?_
              rintro _ w9 ⟨rfl, hj9, hm9⟩
              have HF := Lib.hid (⟨hj9, HI8.out.mod.trans hm9⟩ : _ ∧ _)
              clear hj9 hm9
              go_wp2_with fail
              exact ⟨.bool false, by simp [results, Tryz.results69, go_sem], ⟨_, rfl, rfl⟩, ⟨_, _, HF.out.1⟩, (H0.out.2.2.2.1.trans HF.out.2).j1⟩
          · have g1 : decide ((2048 : Int) < (m' : Int) + 1) = false := by simp; omega
            have g2 : ¬ 2048 < m' + 1 := hbig
            have g3 : ¬ (2048 : Int) < (m' : Int) + 1 := by omega
            have HNB : Hid (¬ (2048 < m' + 1 ∧ jbegP s obj Q = true)) := Lib.hid (fun e => g2 e.1)
            clear hbig
            obtain ⟨it, hit⟩ : ∃ it, it = jitemP s obj val l Q (m' + 1) := ⟨_, rfl⟩
            have hb6 : 6 ≤ b := by have := HJM.out.fb; have := H0.out.2.2.2.1.size; omega
            have hmb6 : 6 ≤ mb := by have := HJM.out.fm; have := H0.out.2.2.2.1.size; omega
            have HIT := jitem_any obj HN.out.1 (Int.le_of_lt HN.out.2) HJM.out.jd HJM.out.li hb6 hmb6 (fun g e => by have := HJM.out.fv g e; have := H0.out.2.2.2.1.size; omega) HV hok ⟨_, HJM.out.rd⟩ (fun _ => by have := HIJ.out.rd.len; omega)
            rw [← hit, HE.out] at HIT
            have HITE := Lib.hid hit
            clear hit hb6 hmb6
            go_wp2_with fail
            refine HIT.mono ?_
            rintro e9 w9 hp9
            rcases it with ⟨ec, ea⟩ | ⟨l9, q9, m9⟩
            · obtain ⟨⟨_, rfl, rfl⟩, ⟨p8, m8, hj9⟩, hm9⟩ := hp9
              have HF := Lib.hid (⟨hj9, HJM.out.mod.trans' hm9 (fun k hk e => by
                rcases e with e | e | e | e
                · exact e
                · have := HJM.out.fb; omega
                · have := HJM.out.fv k e; omega
                · have := HJM.out.fm; omega)⟩ : _ ∧ Mod (JF r) w1 w9)
              have hue : u = .error (ec, ea) := by rw [HUR.out, jround_err HNB.out HITE.out.symm]
              have hxe : x = .error (ec, ea) := by rw [HX2.out, hue]; rfl
              subst hxe
              clear hj9 hm9 hue HUR HIT HX2
              go_wp2_with fail
              exact ⟨.bool false, by simp [results, Tryz.results69, go_sem], ⟨_, rfl, rfl⟩, ⟨_, _, HF.out.1⟩, (H0.out.2.2.2.1.trans HF.out.2).j1⟩
            · obtain ⟨⟨rfl, hj9, v9, ys9, li9, hv9⟩, hm9⟩ := hp9
              obtain ⟨i1, i2, i3, i4, i5⟩ := jitemP_ok hok HJM.out.jd.hp HITE.out.symm
              have HF : Hid (JI w1 w9 r b v9 mb s obj l9 ys9 q9 m9 fw fa) := Lib.hid (HJM.out.step hj9 hm9 li9 hv9 ((i5 hsz m' HIJ.out.rd (Nat.le_refl _) (by omega)).mono i3))
              have hue : u = jitemsL s obj val k false l9 (blankE s q9) m9 := by rw [HUR.out, jround_ok HNB.out HITE.out.symm]
              have HUE := Lib.hid (⟨hue, i1, i2, i3⟩ : _ ∧ _ ∧ _ ∧ _)
              clear hj9 hm9 hue li9 hv9 HUR HIT i1 i2 i3 i4 i5
              go_wp2_with fail
              refine (blanks_any HF.out.jd).mono ?_
              rintro _ w10 ⟨rfl, hj10, hm10⟩
              have HG := Lib.hid (HF.out.turn hj10 hm10 (Nat.le_refl _))
              obtain ⟨bq, hbq⟩ : ∃ bq, bq = blankE s q9 := ⟨_, rfl⟩
              have HBQ : Hid (q9 ≤ bq) := Lib.hid (by rw [hbq]; exact (blankE_le HF.out.jd.hp).2)
              have HUE2 := HUE.out
              rw [← hbq] at HG HUE2
              have HUE3 := Lib.hid HUE2
              clear hbq HUE HUE2
              clear hj10 hm10
              go_wp2_with fail
              go_roundg (s.size + 1 - bq)
              case measure => have h1 := HUE3.out.2.1; have h2 := HQ2.out.2; have h3 := HBQ.out; (try simp only at h1); omega
              case rel => exact ⟨bq, k, m9, false, l9, v9, ys9, rfl, rfl, Lib.hid ⟨HUE3.out.1, by have h1 := HUE3.out.2.1; have h2 := HQ2.out.2; have h3 := HBQ.out; (try simp only at h1); omega, fun e => by cases e⟩, HG⟩
  case rest =>
    obtain ⟨q, m', l, v, ys, HUE, HIJ⟩ := hcut
    clear HI3 HQ0 HU
    have hqs := HIJ.out.jd.hp
    have hmq := HIJ.out.jd.hm
    obtain ⟨c, hc⟩ : ∃ c, nowP s q = c := ⟨_, rfl⟩
    have HC := Lib.hid hc
    have HS0 : Hid (JS r s q m' fw fa wc wc.drew) := Lib.hid (JS.mk HIJ.out.jd (Below.refl wc.heap.size wc).drew)
    have HNW : ∀ W, JS r s q m' fw fa wc W → Calls Tryz.prog 73 #[.pointer (some ⟨r, 0, none⟩)] W fun e w' => e = .returned (.int .u8 c.toNat) ∧ Below W.heap.size W w' := fun W hS => by
      have := jnow_any hS.1.out.1
      rw [hc] at this
      exact this
    by_cases hcE : c = endC obj
    · have hneE : ((c.toNat : Int) != E) = false := by
        rw [hcE, HE.out]; simp
      have hql : q < s.size := now_lt (by rw [hc, hcE]; exact endC_ne obj)
      have hg : decide ((s.size : Int) ≤ (q : Int)) = false := by simp; omega
      have hg2 : ¬ s.size ≤ q := by omega
      have HQL := Lib.hid hql
      have hxe : x = .ok (.mk 4 l.nx ⟨#[]⟩ l.xs, q + 1, m') := by
        rw [HX2.out, HUE.out]; unfold jendP; simp only; rw [if_pos ⟨hc.trans hcE, hql⟩]
      subst hxe
      clear hc hcE HX2 HUE hql
      go_wp2_with fail
      refine wp_region_noPanic ?_
      refine wp_region_held_drew (S := (fun W => Hid (Jd W r s q m' fw fa ∧ Below wc.heap.size wc W) ∧ W.cell? ⟨r, 0, none⟩ = some (.string s) ∧ W.cell? ⟨r, 1, none⟩ = some (.int .i64 q))) (by kernel_rfl) (by exact HS0.out) (fun hHeld => ?_)
      refine wpAnyH_take (i := 0) (oi := ?oa0) (v := ?va0) ?hia0 (by kernel_rfl) (by kernel_rfl) (by kernel_rfl) (fun _ _ _ h => h) ?hya0 (by assumption) ?resta0
      case hia0 => simp only [gA, gZ]; rfl
      case hya0 =>
        refine Or.inl ⟨by rfl, ?_⟩
        intro w hSw; (try dsimp only at hSw); go_simp <;> (with_reducible rfl)
      (try simp only [Act.put, pA, pZ, pS])
      refine wpAnyH_take (i := 2) (oi := ?oa2) (v := ?va2) ?hia2 (by kernel_rfl) (by kernel_rfl) (by kernel_rfl) (fun _ _ _ h => h) ?hya2 (by assumption) ?resta2
      case hia2 => simp only [gA, gS, gZ]; rfl
      case hya2 =>
        refine Or.inl ⟨by rfl, ?_⟩
        intro w hSw; (try dsimp only at hSw); go_simp <;> (with_reducible rfl)
      (try simp only [Act.put, pA, pZ, pS])
      refine wpAnyH_ready (rs := [1]) (by kernel_rfl) (by simp) ?_
      refine AllReadyH.cons rfl (fun K hK => ?_) AllReadyH.nil
      go_simp
      refine (HNW _ hHeld).mono ?_; rintro _ w7 ⟨rfl, hb⟩; have HS1 : Hid (JS r s q m' fw fa wc w7) := Lib.hid (JS.next hHeld hb); clear hb
      refine hK.out _ _ HS1.out (fun hHelda1 => ?_)
      clear hK K
      (try simp only [Act.put, pA, pZ, pS])
      refine wpAnyH_take (i := 3) (oi := ?oa3) (v := ?va3) ?hia3 (by kernel_rfl) (by kernel_rfl) (by kernel_rfl) (fun _ _ _ h => h) ?hya3 (by assumption) ?resta3
      case hia3 => simp only [gA, gS, gZ]; rfl
      case hya3 =>
        refine Or.inl ⟨by rfl, ?_⟩
        intro w hSw; (try dsimp only at hSw); go_simp <;> (with_reducible rfl)
      (try simp only [Act.put, pA, pZ, pS])
      refine wpAnyH_take (i := 4) (oi := ?oa4) (v := ?va4) ?hia4 (by kernel_rfl) (by kernel_rfl) (by kernel_rfl) (fun _ _ _ h => h) ?hya4 (by assumption) ?resta4
      case hia4 => simp only [gA, gS, gZ]; rfl
      case hya4 =>
        refine Or.inl ⟨by rfl, ?_⟩
        intro w hSw; (try dsimp only at hSw); go_simp <;> (with_reducible rfl)
      (try simp only [Act.put, pA, pZ, pS])
      refine wpAnyH_take (i := 5) (oi := ?oa5) (v := ?va5) ?hia5 (by kernel_rfl) (by kernel_rfl) (by kernel_rfl) (fun _ _ _ h => h) ?hya5 (by assumption) ?resta5
      case hia5 => simp only [gA, gS, gZ]; rfl
      case hya5 =>
        refine Or.inl ⟨by rfl, ?_⟩
        intro w hSw; (try dsimp only at hSw); go_simp <;> (with_reducible rfl)
      (try simp only [Act.put, pA, pZ, pS])
      refine wpAnyH_take (i := 6) (oi := ?oa6) (v := ?va6) ?hia6 (by kernel_rfl) (by kernel_rfl) (by kernel_rfl) (fun _ _ _ h => h) ?hya6 (by assumption) ?resta6
      case hia6 => simp only [gA, gS, gZ]; rfl
      case hya6 =>
        refine Or.inl ⟨by rfl, ?_⟩
        intro w hSw; (try dsimp only at hSw); go_simp <;> (with_reducible rfl)
      (try simp only [Act.put, pA, pZ, pS])
      refine wpAnyH_take (i := 7) (oi := ?oa7) (v := ?va7) ?hia7 (by kernel_rfl) (by kernel_rfl) (by kernel_rfl) (fun _ _ _ h => h) ?hya7 (by assumption) ?resta7
      case hia7 => simp only [gA, gS, gZ]; rfl
      case hya7 =>
        refine Or.inl ⟨by rfl, ?_⟩
        intro w hSw; (try dsimp only at hSw); go_simp <;> (with_reducible rfl)
      (try simp only [Act.put, pA, pZ, pS])
      refine wpAnyH_take (i := 8) (oi := ?oa8) (v := ?va8) ?hia8 (by kernel_rfl) (by kernel_rfl) (by kernel_rfl) (fun _ _ _ h => h) ?hya8 (by assumption) ?resta8
      case hia8 => simp only [gA, gS, gZ]; rfl
      case hya8 =>
        refine Or.inl ⟨by rfl, ?_⟩
        intro w hSw; (try dsimp only at hSw); go_simp <;> (with_reducible rfl)
      (try simp only [Act.put, pA, pZ, pS])
      refine wpAnyH_take (i := 9) (oi := ?oa9) (v := ?va9) ?hia9 (by kernel_rfl) (by kernel_rfl) (by kernel_rfl) (fun _ _ _ h => h) ?hya9 (by assumption) ?resta9
      case hia9 => simp only [gA, gS, gZ]; rfl
      case hya9 =>
        refine Or.inl ⟨by rfl, ?_⟩
        intro w hSw; (try dsimp only at hSw); go_simp <;> (with_reducible rfl)
      (try simp only [Act.put, pA, pZ, pS])
      refine wpAnyH_take (i := 10) (oi := ?oa10) (v := ?va10) ?hia10 (by kernel_rfl) (by kernel_rfl) (by kernel_rfl) (fun _ _ _ h => h) ?hya10 (by assumption) ?resta10
      case hia10 => simp only [gA, gS, gZ]; rfl
      case hya10 =>
        refine Or.inl ⟨by rfl, ?_⟩
        intro w hSw; (try dsimp only at hSw); go_simp <;> (with_reducible rfl)
      (try simp only [Act.put, pA, pZ, pS])
      refine wpAnyH_take (i := 11) (oi := ?oa11) (v := ?va11) ?hia11 (by kernel_rfl) (by kernel_rfl) (by kernel_rfl) (fun _ _ _ h => h) ?hya11 (by assumption) ?resta11
      case hia11 => simp only [gA, gS, gZ]; rfl
      case hya11 =>
        refine Or.inl ⟨by rfl, ?_⟩
        intro w hSw; (try dsimp only at hSw); go_simp <;> (with_reducible rfl)
      (try simp only [Act.put, pA, pZ, pS])
      refine wpAnyH_take (i := 12) (oi := ?oa12) (v := ?va12) ?hia12 (by kernel_rfl) (by kernel_rfl) (by kernel_rfl) (fun _ _ _ h => h) ?hya12 (by assumption) ?resta12
      case hia12 => simp only [gA, gS, gZ]; rfl
      case hya12 =>
        refine Or.inl ⟨by rfl, ?_⟩
        intro w hSw; (try dsimp only at hSw); go_simp <;> (with_reducible rfl)
      (try simp only [Act.put, pA, pZ, pS])
      refine wpAnyH_take (i := 13) (oi := ?oa13) (v := ?va13) ?hia13 (by kernel_rfl) (by kernel_rfl) (by kernel_rfl) (fun _ _ _ h => h) ?hya13 (by assumption) ?resta13
      case hia13 => simp only [gA, gS, gZ]; rfl
      case hya13 =>
        refine Or.inl ⟨by rfl, ?_⟩
        intro w hSw; (try dsimp only at hSw); go_simp <;> (with_reducible rfl)
      (try simp only [Act.put, pA, pZ, pS])
      refine wpAnyH_take (i := 14) (oi := ?oa14) (v := ?va14) ?hia14 (by kernel_rfl) (by kernel_rfl) (by kernel_rfl) (fun _ _ _ h => h) ?hya14 (by assumption) ?resta14
      case hia14 => simp only [gA, gS, gZ]; rfl
      case hya14 =>
        refine Or.inl ⟨by rfl, ?_⟩
        intro w hSw; (try dsimp only at hSw); go_simp <;> (with_reducible rfl)
      (try simp only [Act.put, pA, pZ, pS])
      refine wpAnyH_take (i := 15) (oi := ?oa15) (v := ?va15) ?hia15 (by kernel_rfl) (by kernel_rfl) (by kernel_rfl) (fun _ _ _ h => h) ?hya15 (by assumption) ?resta15
      case hia15 => simp only [gA, gS, gZ]; rfl
      case hya15 =>
        refine Or.inl ⟨by rfl, ?_⟩
        intro w hSw; (try dsimp only at hSw); go_simp <;> (with_reducible rfl)
      (try simp only [Act.put, pA, pZ, pS])
      refine wpAnyH_done (by kernel_rfl) ?_ _
      refine NoPanic.normal ?_
      have HI4 := Lib.hid (HIJ.out.turn HS1.out.1.out.1 (Mod.of_below HS1.out.1.out.2) (Nat.le_refl _))
      obtain ⟨c0, c1, -, -, -⟩ := HI4.out.jd.cells
      have ff := free_blk HI4.out.jd.blk 1
      obtain ⟨hq', hqw⟩ := wr_sm (x := (q : Int) + 1) (by omega) (by omega)
      clear hg hg2 HS0 HS1 HNW hneE HIJ
      go_wp2_with fail
      have HI5 := Lib.hid (HI4.out.turn (HI4.out.jd.setAt (show q + 1 ≤ s.size from HQL.out) (Nat.le_succ_of_le hmq) (show (q : Int) + 1 = ((q + 1 : Nat) : Int) from rfl)) (setJ_mod _ _ _ _) (Nat.le_refl _))
      generalize hW5 : w7.setCell ⟨r, 1, none⟩ (.int .i64 ((q : Int) + 1)) = W5 at HI5 ⊢
      clear hW5 c0 c1 ff HI4 hq' hqw
      obtain ⟨a0, a1, a2, a3, ha⟩ := H0.out.1.mod HI5.out.mod (fun e => H0.out.2.1 e)
      have hbx := HI5.out.mod.blk H0.out.2.2.2.2.1 (fun e => by have e : w.heap.size = r := e; omega)
      have ha' : W5.drew.heap[vb]? = some (.cells #[a0, a1, a2, a3] 24 (0, 0)) := ha
      obtain ⟨⟨k0, f0⟩, ⟨k1, f1⟩, ⟨k2, f2⟩, ⟨k3, f3⟩, -, -⟩ := st4 ha (.int .i64 4) (.int .i64 l.nx) (.string ⟨#[]⟩) (.slice none 0 0)
      obtain ⟨-, -, -, -, hend, hmod⟩ := st4 ha' (.int .i64 4) (.int .i64 l.nx) (.string ⟨#[]⟩) (.slice none 0 0)
      have hLd : LIs W5.drew b v mb l ys := HI5.out.li.under (Below.refl _ _).drew
      have hnf : ¬ LFoot b v mb vb := by
        rintro (e | e | e)
        · rw [e, HI5.out.li.blk] at ha; cases ha
        · obtain ⟨cur, hc⟩ := owns_blk HI5.out.li.own e; rw [hc] at ha; cases ha
        · obtain ⟨es, c, hc⟩ := map_blk HI5.out.li.map; rw [e, hc] at ha; cases ha
      have HS2 : Hid (Hid (LIs W5.drew b v mb l ys) ∧ W5.drew.cell? ⟨w.heap.size, 0, none⟩ = some (.pointer (some ⟨vb, 0, none⟩))) := Lib.hid ⟨Lib.hid hLd, cell_blk hbx 0⟩
      have hbv : w.heap.size ≠ vb := fun e => by rw [← e, hbx] at ha; cases ha
      have hL9 := hLd.mod hmod (fun k hk e => hnf ((show k = vb from e) ▸ hk)) (fun k e => no64_vb ⟨_, _, _, _, ha'⟩ e)
      have hbx9 := hmod.blk (show W5.drew.heap[w.heap.size]? = _ from hbx) (fun e => hbv e)
      have HS9 : Hid (Hid (LIs _ b v mb l ys) ∧ World.cell? _ ⟨w.heap.size, 0, none⟩ = some (.pointer (some ⟨vb, 0, none⟩))) := Lib.hid ⟨Lib.hid hL9, cell_blk hbx9 0⟩
      have HJ9 : Hid (Jd _ r s (q + 1) m' fw fa) := Lib.hid ((HI5.out.jd.under (Below.refl _ _).drew).put H0.out.2.1 H0.out.2.2.1 hmod)
      have HM9 : Hid (Mod (JV2 r vb) w1 _) := Lib.hid (HI5.out.mod.j1.trans ((Mod.of_below (Below.refl _ _).drew).trans hmod).j2)
      have HV9 := Lib.hid (⟨hend, hbx9⟩ : _ ∧ _)
      clear ha ha' hbx hLd hnf hbv hL9 hbx9 hend hmod
      go_wp2_with fail
      refine wp_region_noPanic ?_
      refine wp_region_held_drew (S := (fun W => Hid (LIs W b v mb l ys) ∧ W.cell? ⟨w.heap.size, 0, none⟩ = some (.pointer (some ⟨vb, 0, none⟩)))) (by kernel_rfl) (by exact HS2.out) (fun hHeld => ?_)
      refine wpAnyH_take (i := 0) (oi := ?ob0) (v := ?vb0) ?hib0 (by kernel_rfl) (by kernel_rfl) (by kernel_rfl) (fun _ _ _ h => h) ?hyb0 (by assumption) ?restb0
      case hib0 => simp only [gA, gZ]; rfl
      case hyb0 =>
        refine Or.inl ⟨by rfl, ?_⟩
        intro w hSw; (try dsimp only at hSw); go_simp <;> (with_reducible rfl)
      (try simp only [Act.put, pA, pZ, pS])
      refine wpAnyH_take (i := 1) (oi := ?ob1) (v := ?vb1) ?hib1 (by kernel_rfl) (by kernel_rfl) (by kernel_rfl) (fun _ _ _ h => h) ?hyb1 (by assumption) ?restb1
      case hib1 => simp only [gA, gS, gZ]; rfl
      case hyb1 =>
        refine Or.inl ⟨by rfl, ?_⟩
        intro w hSw; (try dsimp only at hSw); go_simp <;> (with_reducible rfl)
      (try simp only [Act.put, pA, pZ, pS])
      refine wpAnyH_ready (rs := [2]) (by kernel_rfl) (by simp) ?_
      refine AllReadyH.cons rfl (fun K hK => ?_) AllReadyH.nil
      go_simp
      refine (lnext_any _ (Hid.out (And.left hHeld))).mono ?_; rintro _ _ ⟨rfl, rfl⟩
      refine hK.out _ _ hHeld (fun hHeldb2 => ?_)
      clear hK K
      (try simp only [Act.put, pA, pZ, pS])
      refine wpAnyH_take (i := 3) (oi := ?ob3) (v := ?vb3) ?hib3 (by kernel_rfl) (by kernel_rfl) (by kernel_rfl) (fun _ _ _ h => h) ?hyb3 (by assumption) ?restb3
      case hib3 => simp only [gA, gS, gZ]; rfl
      case hyb3 =>
        refine Or.inl ⟨by rfl, ?_⟩
        intro w hSw; (try dsimp only at hSw); go_simp <;> (with_reducible rfl)
      (try simp only [Act.put, pA, pZ, pS])
      refine wpAnyH_take (i := 4) (oi := ?ob4) (v := ?vb4) ?hib4 (by kernel_rfl) (by kernel_rfl) (by kernel_rfl) (fun _ _ _ h => h) ?hyb4 (by assumption) ?restb4
      case hib4 => simp only [gA, gS, gZ]; rfl
      case hyb4 =>
        refine Or.inl ⟨by rfl, ?_⟩
        intro w hSw; (try dsimp only at hSw); go_simp <;> (with_reducible rfl)
      (try simp only [Act.put, pA, pZ, pS])
      refine wpAnyH_ready (rs := [5]) (by kernel_rfl) (by simp) ?_
      refine AllReadyH.cons rfl (fun K hK => ?_) AllReadyH.nil
      go_simp
      skip
      refine hK.out _ _ HS9.out (fun hHeldb5 => ?_)
      clear hK K
      (try simp only [Act.put, pA, pZ, pS])
      refine wpAnyH_done (by kernel_rfl) ?_ _
      refine NoPanic.normal ?_
      go_wp2_with fail
      refine (all_fn (some ⟨b, 0, none⟩) _).mono ?_
      rintro e Wf ⟨rfl, rfl⟩
      generalize hW6 : World.setCell _ ⟨vb, 3, none⟩ _ = W6 at HS9 HJ9 HM9 HV9
      have hs56 : W6.heap.size = W5.heap.size := by rw [← hW6]; simp
      have HW6 := Lib.hid hW6
      clear hW6
      have hvb : Hid (vb ≠ b ∧ b < W6.heap.size ∧ vb < W6.heap.size ∧ w.heap.size < W6.heap.size ∧ w.heap.size ≠ vb) := by
        have hl := HS9.out.1.out
        refine Lib.hid ⟨fun e => ?_, lt_of_block hl.blk, lt_of_block HV9.out.1, lt_of_block HV9.out.2, fun e => ?_⟩
        · have := HV9.out.1; rw [e, hl.blk] at this; cases this
        · have := HV9.out.1; rw [← e, HV9.out.2] at this; cases this
      have hvl : Hid (∀ g, v.ownBlock = some g → g < W6.heap.size ∧ g ≠ vb) := Lib.hid (fun g e => ⟨HS9.out.1.out.own.lt e, fun e2 => by
        obtain ⟨cur, hc⟩ := owns_blk HS9.out.1.out.own e
        have := HV9.out.1; rw [← e2, hc] at this; cases this⟩)
      have A0 : Hid (JA W6 (W6.alloc (.cells #[.pointer (some ⟨b, 0, none⟩)] 129)) b vb l.nx ys 0 (.slice none 0 0)) := Lib.hid ⟨alloc_blk HV9.out.1 _, Owns.empty _ _ _, fun g e => by simp [Value.ownBlock] at e, (Mod.refl _ _).alloc _⟩
      have L0 := Lib.hid (HS9.out.1.out.under (below_alloc1 W6 (.cells #[.pointer (some ⟨b, 0, none⟩)] 129)))
      have hPB0 := heap_alloc_new W6 (.cells #[.pointer (some ⟨b, 0, none⟩)] 129)
      rw [hs56] at hPB0
      have hPB := Lib.hid hPB0
      clear hPB0
      have hs0 : Hid ((W6.alloc (.cells #[.pointer (some ⟨b, 0, none⟩)] 129)).heap.size = W6.heap.size + 1) := Lib.hid (by simp)
      have hyl : ys.length ≤ 2048 := by rw [HS9.out.1.out.len]; exact HS9.out.1.out.ok.len
      go_wp2_with fail
      generalize hG : World.drew _ = W1
      have hW : W6.alloc (.cells #[.pointer (some ⟨b, 0, none⟩)] 129) = W1 := by rw [← hG, ← HW6.out]; rfl
      clear hG
      rw [hW] at A0 L0 hPB hs0
      clear hW
      refine (wpIn_wide (n := 5)).1 ?_
      refine rangeG_outer (F := Fence.wide) (n := 5) rfl (by omega) (gf := 129) (lbs := #[.pointer (some ⟨W5.heap.size, 0, none⟩)]) (by simp [Act.eval]) trivial (enters_of Tryz.func129 (by kernel_rfl) rfl) (all_seq W5.heap.size 4 _ L0.out hPB.out) (Below.refl _ _)
        (I := fun _ j W => ∃ vo, JA W6 W b vb l.nx ys j vo) (Ix := fun _ _ _ _ => False) ?body ?start ?done ?stop
      case stop => exact fun _ _ _ _ _ _ _ h => h.elim
      case start =>
        rintro c W2 W3 hb m3
        have A2 := A0.out.under hb
        have L2 := L0.out.under hb
        exact ⟨keeps_of_mod _ m3 (fun k e _ => by subst e; exact ⟨_, _, _, L2.blk⟩), .slice none 0 0, m3.blk A2.out (fun e => hvb.out.1 e), A2.own.kept (fun g e => by simp [Value.ownBlock] at e), A2.fresh, A2.mod.trans (m3.mono (fun _ _ e => .inl e))⟩
      case body =>
        have hBw : W6.heap.size ≤ W1.heap.size := by have := hs0.out; omega
        refine ⟨fun _ => rfl, KpL.trans, fun c W l o o' _ h ho => KpL.putObj h ho, fun c s W W' row h hg hr => by obtain ⟨vo, h⟩ := h; exact ⟨vo, h.loop hBw hg hr⟩, fun _ _ _ _ _ _ h _ _ => h, ?_⟩
        intro lq c j W hlq hloop HI2 hj
        obtain ⟨vo, hAI⟩ := HI2
        have HA := Lib.hid hAI
        have HL2 := Lib.hid hloop
        obtain ⟨co, cc, hcv⟩ : ∃ co cc, (ys[j]).2 = .slice co (ys[j]).1.2.xs.length cc := by obtain ⟨co, cc, h, -⟩ := (HS9.out.1.out.val ys[j] (List.getElem_mem hj)).form; exact ⟨co, cc, h⟩
        obtain ⟨y, x, c2, hyx⟩ : ∃ y x c2, ((y, x), c2) = ys[j] := ⟨_, _, _, rfl⟩
        rw [← hyx] at hcv
        have hcv : c2 = .slice co x.xs.length cc := hcv
        subst hcv
        have HYX : Hid (ys[j]? = some ((y, x), .slice co x.xs.length cc)) := Lib.hid (by rw [List.getElem?_eq_getElem hj, ← hyx])
        have he : encL ys j = #[.agg #[.bool y.b, .int .i64 y.n, .string y.t], .agg #[.int .i64 x.k, .int .i64 x.n, .string x.t, .slice co x.xs.length cc]] := by unfold encL; rw [itAt_lt hj, ← hyx]; rfl
        rw [he]
        have HJ := Lib.hid hj
        clear hAI hloop hyx he hj
        gi_wp2
        have hbA : Below W.heap.size W ((W.alloc (KB y.b y.n y.t)).alloc (VB x (.slice co x.xs.length cc))) := (below_alloc1 W _).alloc (by simp) _
        refine ⟨KeepsR.of_below _ hbA, fun k cs t _ hc => alloc_blk (alloc_blk hc _) _, (by obtain ⟨r, hr⟩ := HL2.out; exact ⟨r, alloc_blk (alloc_blk hr _) _⟩), ?_⟩
        intro st
        obtain ⟨W2, hW2⟩ : ∃ W2, W2 = (((W.alloc (KB y.b y.n y.t)).alloc (VB x (.slice co x.xs.length cc))).putObj lq (.loop st)) := ⟨_, rfl⟩
        rw [← hW2]
        have hlqW : lq < W.heap.size := by obtain ⟨r, hr⟩ := HL2.out; exact lt_of_block hr
        have R2 : Hid (JR W6 W2 b vb l.nx ys j vo W1.heap.size v) := by
          refine Lib.hid ⟨?_, HJ.out, hBw, hvb.out.2.1, hvb.out.2.2.1, hvl.out⟩
          rw [hW2]
          obtain ⟨r, hr⟩ := HL2.out
          exact (HA.out.under hbA).loop hBw (grownBy_putObj' _ lq (.loop st)) (fun k e => by cases e; exact ⟨hlq, r, alloc_blk (alloc_blk hr _) _⟩)
        have hbxW : W.heap[w.heap.size]? = some (.cells #[.pointer (some ⟨vb, 0, none⟩)] 69 (0, 0)) := HA.out.mod.blk HV9.out.2 (fun e => by
          rcases e with e | e
          · have := HV9.out.2; rw [e, HS9.out.1.out.blk] at this; cases this
          · exact hvb.out.2.2.2.2 e)
        have hlqx : lq ≠ w.heap.size := fun e => by obtain ⟨r, hr⟩ := HL2.out; rw [e, hbxW] at hr; cases hr
        have hKV : Hid (SQ3 W.heap.size y x (.slice co x.xs.length cc) w.heap.size vb W2) := by
          refine Lib.hid ⟨?_, ?_, ?_⟩
          · rw [hW2]
            exact (World.putObj_heap_other (by omega)).trans (alloc_blk (heap_alloc_new W (KB y.b y.n y.t)) _)
          · rw [hW2]
            have h := heap_alloc_new (W.alloc (KB y.b y.n y.t)) (VB x (.slice co x.xs.length cc))
            rw [World.size_alloc] at h
            exact (World.putObj_heap_other (by omega)).trans h
          · rw [hW2]
            exact (World.putObj_heap_other (fun e => hlqx e.symm)).trans (alloc_blk (alloc_blk hbxW _) _)
        have hkbs : Hid (vb < W.heap.size ∧ w.heap.size < W.heap.size ∧ (∀ g, vo.ownBlock = some g → g < W.heap.size) ∧ w.heap.size < W6.heap.size) := Lib.hid ⟨lt_of_block HA.out.out, lt_of_block hbxW, fun g e => HA.out.own.lt e, hvb.out.2.2.2.1⟩
        clear hW2 hbA HL2 HA hlqW hbxW hlqx
        generalize hvxx : w.heap.size = vx at hKV hkbs hvb ⊢
        generalize W.heap.size = kb at hKV hkbs ⊢
        obtain ⟨ao, cap, hvo, -⟩ := R2.out.ai.own.any
        have hjl : (rows2 (ys.take j)).length = j := by rw [rows2_len, List.length_take]; have := HJ.out; omega
        rw [hjl] at hvo
        subst hvo
        have hj2 : j ≤ 2048 := by have := HJ.out; omega
        have hR4 : Hid ((rows2 (ys.take j)).length = j) := hjl
        have hN1 : Hid ((some vb : Option Nat) ≠ (Value.slice ao j cap).ownBlock) := fun e => by have := R2.out.ai.fresh _ e.symm; have := hvb.out.2.2.1; omega
        have hN2 : Hid (∀ g, (Value.slice ao j cap).ownBlock = some g → g ≠ kb ∧ g ≠ kb + 1 ∧ g ≠ vx) := fun g e => by have h1 := hkbs.out.2.2.1 g e; have h2 := R2.out.ai.fresh _ e; have h3 := hkbs.out.2.2.2; omega
        have hnb : Hid (¬ kb = vb ∧ ¬ kb + 1 = vb ∧ ¬ vx = vb) := Lib.hid ⟨by have := hkbs.out.1; omega, by have := hkbs.out.1; omega, hvb.out.2.2.2.2⟩
        clear hjl
        gi_wp2
        refine round_region_held (S := fun _ => True) (by kernel_rfl) (by kernel_rfl) (fun ⟨_, _, h⟩ => h) trivial (fun hHeld => ?_)
        refine wpAnyH_ready (rs := [0]) (by kernel_rfl) (by simp) ?_
        refine AllReadyH.cons rfl (fun K hK => ?_) AllReadyH.nil
        go_simp
        refine hK.out _ _ trivial (fun hHeld0 => ?_)
        clear hK K
        (try simp only [Act.put, pA, pZ, pS])
        refine wpAnyH_ready (rs := [1, 2]) (by kernel_rfl) (by simp) ?_
        refine AllReadyH.cons rfl (fun K hK => ?_) (AllReadyH.cons rfl (fun K hK => ?_) AllReadyH.nil)
        · go_simp
          refine hK.out _ _ trivial (fun hHeld1 => ?_)
          clear hK K
          (try simp only [Act.put, pA, pZ, pS])
          refine wpAnyH_ready (rs := [2]) (by kernel_rfl) (by simp) ?_
          refine AllReadyH.cons rfl (fun K hK => ?_) AllReadyH.nil
          go_simp
          refine hK.out _ _ trivial (fun hHeld2 => ?_)
          clear hK K
          (try simp only [Act.put, pA, pZ, pS])
          refine wpAnyH_ready (rs := [3]) (by kernel_rfl) (by simp) ?_
          refine AllReadyH.cons rfl (fun K hK => ?_) AllReadyH.nil
          go_simp
          refine hK.out _ _ trivial (fun hHeld3 => ?_)
          clear hK K
          (try simp only [Act.put, pA, pZ, pS])
          refine wpAnyH_done (by kernel_rfl) ?_ _
          gi_wp2
          generalize hW3 : (W2.alloc (.cells #[.bool false] 4)).drew = W3
          have HB3 : Hid (Below W2.heap.size W2 W3) := Lib.hid (by rw [← hW3]; exact (below_alloc1 W2 _).drew)
          clear hW3
          have R3 : Hid (JR W6 W3 b vb l.nx ys j (.slice ao j cap) W1.heap.size v) := Lib.hid (R2.out.under HB3.out)
          have hX3 : Hid (SQ3 kb y x (.slice co x.xs.length cc) vx vb W3.drew) := Lib.hid ((hKV.out.under HB3.out).under (Below.refl _ _).drew)
          have q0v : W3.cell? ⟨vb, 3, none⟩ = some (.slice ao j cap) := cell_blk R3.out.ai.out 3
          have hO : ∀ (o : Obj), Hid (Owns (W3.drew.alloc o) 64 7 (.slice ao j cap) (rows2 (ys.take j))) := fun o => R3.out.ai.own.kept fun g e => Below.heap_alloc _ _ _ (R3.out.ai.own.lt e)
          have hLA : Hid (Lies (W3.drew.alloc (.cells #[.bool false, .int .i64 0, .string ⟨#[]⟩, .int .i64 0, .int .i64 0, .string ⟨#[]⟩, .slice none 0 0] 64)) 7 (some ⟨W3.heap.size, 0, none⟩) [zrow]) := lies_new W3.drew zrow 64 rfl
          have hLB : Hid (Lies (W3.drew.alloc (.cells #[.bool y.b, .int .i64 y.n, .string y.t, .int .i64 x.k, .int .i64 x.n, .string x.t, .slice co x.xs.length cc] 64)) 7 (some ⟨W3.heap.size, 0, none⟩) [itCells (y, x) (.slice co x.xs.length cc)]) := lies_new W3.drew (itCells (y, x) (.slice co x.xs.length cc)) 64 rfl
          have hR1 : Hid ((rows2 (ys.take j)).length + 1 ≤ maxLen) := by show _ ≤ _; rw [hR4.out]; unfold maxLen; omega
          have hR2 : Hid (((rows2 (ys.take j)).length + 1) * 88 ≤ 140737488355328) := by show _ ≤ _; rw [hR4.out]; omega
          have hR3A : Hid ((rows2 (ys.take j) ++ [zrow]).length = j + 1) := by show _ = _; rw [List.length_append, hR4.out]; rfl
          have hR3B : Hid ((rows2 (ys.take j) ++ [itCells (y, x) (.slice co x.xs.length cc)]).length = j + 1) := by show _ = _; rw [List.length_append, hR4.out]; rfl
          have hB : ∀ (o : Obj), Hid ((W3.drew.alloc o).heap[vb]? = some (VL l.nx (.slice ao j cap)) ∧ vb < (W3.drew.alloc o).heap.size) := fun o => ⟨alloc_blk (w := W3.drew) R3.out.ai.out o, by have := lt_of_block R3.out.ai.out; simp; omega⟩
          have hbs : vb < W3.heap.size := lt_of_block R3.out.ai.out
          have hks : kb < W3.heap.size := lt_of_block hX3.out.1
          have hks1 : kb + 1 < W3.heap.size := lt_of_block hX3.out.2.1
          have hxs : vx < W3.heap.size := lt_of_block hX3.out.2.2
          have hXA : ∀ (o : Obj), SQ3 kb y x (.slice co x.xs.length cc) vx vb (W3.drew.alloc o) := fun o => hX3.out.under (below_alloc1 W3.drew o)
          have hXXA : ∀ w6, (W3.drew.alloc (.cells #[.bool false, .int .i64 0, .string ⟨#[]⟩, .int .i64 0, .int .i64 0, .string ⟨#[]⟩, .slice none 0 0] 64)).grownBy w6 (Value.slice ao j cap).ownBlock → SQ3 kb y x (.slice co x.xs.length cc) vx vb w6 := fun w6 g6 => (hXA _).grown g6 (fun e => (hN2.out kb e.symm).1 rfl) (fun e => (hN2.out (kb + 1) e.symm).2.1 rfl) (fun e => (hN2.out vx e.symm).2.2 rfl)
          have hXXB : ∀ w6, (W3.drew.alloc (.cells #[.bool y.b, .int .i64 y.n, .string y.t, .int .i64 x.k, .int .i64 x.n, .string x.t, .slice co x.xs.length cc] 64)).grownBy w6 (Value.slice ao j cap).ownBlock → SQ3 kb y x (.slice co x.xs.length cc) vx vb w6 := fun w6 g6 => (hXA _).grown g6 (fun e => (hN2.out kb e.symm).1 rfl) (fun e => (hN2.out (kb + 1) e.symm).2.1 rfl) (fun e => (hN2.out vx e.symm).2.2 rfl)
          have hi6 : (j : Int) < (j : Int) + 1 := by omega
          have hi7 : (0 : Int) ≤ (j : Int) := by omega
          refine round_region_held (S := (fun W => SQ3 kb y x (.slice co x.xs.length cc) vx vb W)) (by kernel_rfl) (by kernel_rfl) (fun ⟨_, _, h⟩ => h) (by exact hX3.out) (fun hHeld => ?_)
          refine wpAnyH_take (i := 0) (oi := ?oz1_) (v := ?vz1_) ?hiz1_ (by kernel_rfl) (by kernel_rfl) (by kernel_rfl) (fun _ _ _ h => h) ?hyz1_ (by assumption) ?restz1_
          case hiz1_ => simp only [gA, gZ]; rfl
          case hyz1_ =>
            refine Or.inl ⟨by rfl, ?_⟩
            intro w hSw; obtain ⟨u0, u1, u2⟩ := cells3 hSw.1; obtain ⟨t0, t1, t2, t3⟩ := vb_cells hSw.2.1; have z0 : w.cell? ⟨vx, 0, none⟩ = some (.pointer (some ⟨vb, 0, none⟩)) := cell_blk hSw.2.2 0; go_simp <;> (with_reducible rfl)
          (try simp only [Act.put, pA, pZ, pS])
          refine wpAnyH_take (i := 1) (oi := ?oz2_) (v := ?vz2_) ?hiz2_ (by kernel_rfl) (by kernel_rfl) (by kernel_rfl) (fun _ _ _ h => h) ?hyz2_ (by assumption) ?restz2_
          case hiz2_ => simp only [gA, gS, gZ]; rfl
          case hyz2_ =>
            refine Or.inl ⟨by rfl, ?_⟩
            intro w hSw; obtain ⟨u0, u1, u2⟩ := cells3 hSw.1; obtain ⟨t0, t1, t2, t3⟩ := vb_cells hSw.2.1; have z0 : w.cell? ⟨vx, 0, none⟩ = some (.pointer (some ⟨vb, 0, none⟩)) := cell_blk hSw.2.2 0; go_simp <;> (with_reducible rfl)
          (try simp only [Act.put, pA, pZ, pS])
          refine wpAnyH_take (i := 2) (oi := ?oz3_) (v := ?vz3_) ?hiz3_ (by kernel_rfl) (by kernel_rfl) (by kernel_rfl) (fun _ _ _ h => h) ?hyz3_ (by assumption) ?restz3_
          case hiz3_ => simp only [gA, gS, gZ]; rfl
          case hyz3_ =>
            refine Or.inl ⟨by rfl, ?_⟩
            intro w hSw; obtain ⟨u0, u1, u2⟩ := cells3 hSw.1; obtain ⟨t0, t1, t2, t3⟩ := vb_cells hSw.2.1; have z0 : w.cell? ⟨vx, 0, none⟩ = some (.pointer (some ⟨vb, 0, none⟩)) := cell_blk hSw.2.2 0; go_simp <;> (with_reducible rfl)
          (try simp only [Act.put, pA, pZ, pS])
          refine wpAnyH_take (i := 3) (oi := ?oz4_) (v := ?vz4_) ?hiz4_ (by kernel_rfl) (by kernel_rfl) (by kernel_rfl) (fun _ _ _ h => h) ?hyz4_ (by assumption) ?restz4_
          case hiz4_ => simp only [gA, gS, gZ]; rfl
          case hyz4_ =>
            refine Or.inl ⟨by rfl, ?_⟩
            intro w hSw; obtain ⟨u0, u1, u2⟩ := cells3 hSw.1; obtain ⟨t0, t1, t2, t3⟩ := vb_cells hSw.2.1; have z0 : w.cell? ⟨vx, 0, none⟩ = some (.pointer (some ⟨vb, 0, none⟩)) := cell_blk hSw.2.2 0; go_simp <;> (with_reducible rfl)
          (try simp only [Act.put, pA, pZ, pS])
          refine wpAnyH_take (i := 5) (oi := ?oz5_) (v := ?vz5_) ?hiz5_ (by kernel_rfl) (by kernel_rfl) (by kernel_rfl) (fun _ _ _ h => h) ?hyz5_ (by assumption) ?restz5_
          case hiz5_ => simp only [gA, gS, gZ]; rfl
          case hyz5_ =>
            refine Or.inl ⟨by rfl, ?_⟩
            intro w hSw; obtain ⟨u0, u1, u2⟩ := cells3 hSw.1; obtain ⟨t0, t1, t2, t3⟩ := vb_cells hSw.2.1; have z0 : w.cell? ⟨vx, 0, none⟩ = some (.pointer (some ⟨vb, 0, none⟩)) := cell_blk hSw.2.2 0; go_simp <;> (with_reducible rfl)
          (try simp only [Act.put, pA, pZ, pS])
          refine wpAnyH_take (i := 6) (oi := ?oz6_) (v := ?vz6_) ?hiz6_ (by kernel_rfl) (by kernel_rfl) (by kernel_rfl) (fun _ _ _ h => h) ?hyz6_ (by assumption) ?restz6_
          case hiz6_ => simp only [gA, gS, gZ]; rfl
          case hyz6_ =>
            refine Or.inl ⟨by rfl, ?_⟩
            intro w hSw; obtain ⟨u0, u1, u2⟩ := cells3 hSw.1; obtain ⟨t0, t1, t2, t3⟩ := vb_cells hSw.2.1; have z0 : w.cell? ⟨vx, 0, none⟩ = some (.pointer (some ⟨vb, 0, none⟩)) := cell_blk hSw.2.2 0; go_simp <;> (with_reducible rfl)
          (try simp only [Act.put, pA, pZ, pS])
          refine wpAnyH_take (i := 7) (oi := ?oz7_) (v := ?vz7_) ?hiz7_ (by kernel_rfl) (by kernel_rfl) (by kernel_rfl) (fun _ _ _ h => h) ?hyz7_ (by assumption) ?restz7_
          case hiz7_ => simp only [gA, gS, gZ]; rfl
          case hyz7_ =>
            refine Or.inl ⟨by rfl, ?_⟩
            intro w hSw; obtain ⟨u0, u1, u2⟩ := cells3 hSw.1; obtain ⟨t0, t1, t2, t3⟩ := vb_cells hSw.2.1; have z0 : w.cell? ⟨vx, 0, none⟩ = some (.pointer (some ⟨vb, 0, none⟩)) := cell_blk hSw.2.2 0; go_simp <;> (with_reducible rfl)
          (try simp only [Act.put, pA, pZ, pS])
          refine wpAnyH_ready (rs := [4, 8]) (by kernel_rfl) (by simp) ?_
          refine AllReadyH.cons rfl (fun K hK => ?_) (AllReadyH.cons rfl (fun K hK => ?_) AllReadyH.nil)
          · go_simp
            refine hK.out _ _ hHeld (fun hHeld4 => ?_)
            clear hK K
            (try simp only [Act.put, pA, pZ, pS])
            refine wpAnyH_ready (rs := [8]) (by kernel_rfl) (by simp) ?_
            refine AllReadyH.cons rfl (fun K hK => ?_) AllReadyH.nil
            go_simp
            refine hK.out _ _ (hXA _) (fun hHeld8 => ?_)
            clear hK K
            (try simp only [Act.put, pA, pZ, pS])
            refine wpAnyH_ready (rs := [9]) (by kernel_rfl) (by simp) ?_
            refine AllReadyH.cons rfl (fun K hK => ?_) AllReadyH.nil
            refine step_append_rows rfl (.tmp 137) (.tmp 141) 22 rfl 64 _ 7 88 Tryz.underlying22 info64 rfl (by decide) (.slice ao j cap) (rows2 (ys.take j)) (by simp [Act.eval]) (hO _).out (some ⟨W3.heap.size, 0, none⟩) 1 1 [(itCells (y, x) (.slice co x.xs.length cc))] (by simp [Act.eval]) rfl (fun e => by cases e) hLB.out (by simp [Value.oneCell', itCells]) (by simp [itCells]) hR1.out hR2.out ?_
            intro v6 w6 o6 g6 b6
            obtain ⟨g7, cap6, hv6, -, -, -⟩ := o6.addr (by simp)
            rw [hR3B.out] at hv6; subst hv6
            have hbg : vb ≠ g7 := fun e => by
              rcases b6 with h | ⟨k, h, hk⟩
              · exact hN1.out (by rw [← h, e]; rfl)
              · have h3 : g7 = k := Option.some.inj h
                simp at hk
                omega
            have hgb : g7 ≠ vb := fun e => hbg e.symm
            have n7 : g7 ≠ kb ∧ g7 ≠ kb + 1 ∧ g7 ≠ vx := by
              rcases b6 with h | ⟨k, h, hk⟩
              · exact hN2.out g7 h.symm
              · have h3 : g7 = k := Option.some.inj h
                simp at hk
                omega
            have S6 := hXXB w6 g6
            have B6 := Lib.hid ((g6.block vb (hB _).out.2 hN1.out).trans (hB _).out.1)
            have z2 : w6.cell? ⟨vb, 3, none⟩ = some (.slice ao j cap) := cell_blk B6.out 3; have ff := free_blk B6.out 3
            have O6 := Lib.hid o6; have G6 := Lib.hid g6; have V6 := Lib.hid b6; clear o6 g6 b6
            refine hK.out _ _ S6 (fun hHeld9 => ?_)
            clear hK K
            (try simp only [Act.put, pA])
            refine wpAnyH_take (i := 10) (oi := ?oz8_) (v := ?vz8_) ?hiz8_ (by kernel_rfl) (by kernel_rfl) (by kernel_rfl) (fun _ _ _ h => h) ?hyz8_ (by assumption) ?restz8_
            case hiz8_ => simp only [gA, gS, gZ]; rfl
            case hyz8_ =>
              refine Or.inl ⟨by rfl, ?_⟩
              intro w hSw; obtain ⟨u0, u1, u2⟩ := cells3 hSw.1; obtain ⟨t0, t1, t2, t3⟩ := vb_cells hSw.2.1; have z0 : w.cell? ⟨vx, 0, none⟩ = some (.pointer (some ⟨vb, 0, none⟩)) := cell_blk hSw.2.2 0; go_simp <;> (with_reducible rfl)
            (try simp only [Act.put])
            refine wpAnyH_take (i := 11) (oi := ?oz9_) (v := ?vz9_) ?hiz9_ (by kernel_rfl) (by kernel_rfl) (by kernel_rfl) (fun _ _ _ h => h) ?hyz9_ (by assumption) ?restz9_
            case hiz9_ => simp only [gA, gS, gZ]; rfl
            case hyz9_ =>
              refine Or.inl ⟨by rfl, ?_⟩
              intro w hSw; obtain ⟨u0, u1, u2⟩ := cells3 hSw.1; obtain ⟨t0, t1, t2, t3⟩ := vb_cells hSw.2.1; have z0 : w.cell? ⟨vx, 0, none⟩ = some (.pointer (some ⟨vb, 0, none⟩)) := cell_blk hSw.2.2 0; go_simp <;> (with_reducible rfl)
            (try simp only [Act.put])
            refine wpAnyH_ready (rs := [12]) (by kernel_rfl) (by simp) ?_
            refine AllReadyH.cons rfl (fun K hK => ?_) AllReadyH.nil
            go_simp
            refine hK.out _ _ (S6.mod ((Mod.refl (fun k => k = vb) w6).setCell ⟨vb, 3, none⟩ _ (fun _ => rfl)) hnb.out.1 hnb.out.2.1 hnb.out.2.2) (fun hHeld12 => ?_)
            clear hK K
            (try simp only [Act.put, pA, pZ, pS])
            refine wpAnyH_done (by kernel_rfl) ?_ _
            exact jr_from HB3.out (jr_doneB R3.out B6.out O6.out G6.out V6.out hbg HYX.out)
          · go_simp
            refine hK.out _ _ (hXA _) (fun hHeld8 => ?_)
            clear hK K
            (try simp only [Act.put, pA, pZ, pS])
            refine wpAnyH_ready (rs := [4]) (by kernel_rfl) (by simp) ?_
            refine AllReadyH.cons rfl (fun K hK => ?_) AllReadyH.nil
            go_simp
            refine hK.out _ _ (hXA _) (fun hHeld4 => ?_)
            clear hK K
            (try simp only [Act.put, pA, pZ, pS])
            refine wpAnyH_ready (rs := [9]) (by kernel_rfl) (by simp) ?_
            refine AllReadyH.cons rfl (fun K hK => ?_) AllReadyH.nil
            refine step_append_rows rfl (.tmp 137) (.tmp 141) 22 rfl 64 _ 7 88 Tryz.underlying22 info64 rfl (by decide) (.slice ao j cap) (rows2 (ys.take j)) (by simp [Act.eval]) (hO _).out (some ⟨W3.heap.size, 0, none⟩) 1 1 [(itCells (y, x) (.slice co x.xs.length cc))] (by simp [Act.eval]) rfl (fun e => by cases e) hLB.out (by simp [Value.oneCell', itCells]) (by simp [itCells]) hR1.out hR2.out ?_
            intro v6 w6 o6 g6 b6
            obtain ⟨g7, cap6, hv6, -, -, -⟩ := o6.addr (by simp)
            rw [hR3B.out] at hv6; subst hv6
            have hbg : vb ≠ g7 := fun e => by
              rcases b6 with h | ⟨k, h, hk⟩
              · exact hN1.out (by rw [← h, e]; rfl)
              · have h3 : g7 = k := Option.some.inj h
                simp at hk
                omega
            have hgb : g7 ≠ vb := fun e => hbg e.symm
            have n7 : g7 ≠ kb ∧ g7 ≠ kb + 1 ∧ g7 ≠ vx := by
              rcases b6 with h | ⟨k, h, hk⟩
              · exact hN2.out g7 h.symm
              · have h3 : g7 = k := Option.some.inj h
                simp at hk
                omega
            have S6 := hXXB w6 g6
            have B6 := Lib.hid ((g6.block vb (hB _).out.2 hN1.out).trans (hB _).out.1)
            have z2 : w6.cell? ⟨vb, 3, none⟩ = some (.slice ao j cap) := cell_blk B6.out 3; have ff := free_blk B6.out 3
            have O6 := Lib.hid o6; have G6 := Lib.hid g6; have V6 := Lib.hid b6; clear o6 g6 b6
            refine hK.out _ _ S6 (fun hHeld9 => ?_)
            clear hK K
            (try simp only [Act.put, pA])
            refine wpAnyH_take (i := 10) (oi := ?oz10_) (v := ?vz10_) ?hiz10_ (by kernel_rfl) (by kernel_rfl) (by kernel_rfl) (fun _ _ _ h => h) ?hyz10_ (by assumption) ?restz10_
            case hiz10_ => simp only [gA, gS, gZ]; rfl
            case hyz10_ =>
              refine Or.inl ⟨by rfl, ?_⟩
              intro w hSw; obtain ⟨u0, u1, u2⟩ := cells3 hSw.1; obtain ⟨t0, t1, t2, t3⟩ := vb_cells hSw.2.1; have z0 : w.cell? ⟨vx, 0, none⟩ = some (.pointer (some ⟨vb, 0, none⟩)) := cell_blk hSw.2.2 0; go_simp <;> (with_reducible rfl)
            (try simp only [Act.put])
            refine wpAnyH_take (i := 11) (oi := ?oz11_) (v := ?vz11_) ?hiz11_ (by kernel_rfl) (by kernel_rfl) (by kernel_rfl) (fun _ _ _ h => h) ?hyz11_ (by assumption) ?restz11_
            case hiz11_ => simp only [gA, gS, gZ]; rfl
            case hyz11_ =>
              refine Or.inl ⟨by rfl, ?_⟩
              intro w hSw; obtain ⟨u0, u1, u2⟩ := cells3 hSw.1; obtain ⟨t0, t1, t2, t3⟩ := vb_cells hSw.2.1; have z0 : w.cell? ⟨vx, 0, none⟩ = some (.pointer (some ⟨vb, 0, none⟩)) := cell_blk hSw.2.2 0; go_simp <;> (with_reducible rfl)
            (try simp only [Act.put])
            refine wpAnyH_ready (rs := [12]) (by kernel_rfl) (by simp) ?_
            refine AllReadyH.cons rfl (fun K hK => ?_) AllReadyH.nil
            go_simp
            refine hK.out _ _ (S6.mod ((Mod.refl (fun k => k = vb) w6).setCell ⟨vb, 3, none⟩ _ (fun _ => rfl)) hnb.out.1 hnb.out.2.1 hnb.out.2.2) (fun hHeld12 => ?_)
            clear hK K
            (try simp only [Act.put, pA, pZ, pS])
            refine wpAnyH_done (by kernel_rfl) ?_ _
            exact jr_from HB3.out (jr_doneB R3.out B6.out O6.out G6.out V6.out hbg HYX.out)
        · go_simp
          refine hK.out _ _ trivial (fun hHeld2 => ?_)
          clear hK K
          (try simp only [Act.put, pA, pZ, pS])
          refine wpAnyH_ready (rs := [1]) (by kernel_rfl) (by simp) ?_
          refine AllReadyH.cons rfl (fun K hK => ?_) AllReadyH.nil
          go_simp
          refine hK.out _ _ trivial (fun hHeld1 => ?_)
          clear hK K
          (try simp only [Act.put, pA, pZ, pS])
          refine wpAnyH_ready (rs := [3]) (by kernel_rfl) (by simp) ?_
          refine AllReadyH.cons rfl (fun K hK => ?_) AllReadyH.nil
          go_simp
          refine hK.out _ _ trivial (fun hHeld3 => ?_)
          clear hK K
          (try simp only [Act.put, pA, pZ, pS])
          refine wpAnyH_done (by kernel_rfl) ?_ _
          gi_wp2
          generalize hW3 : (W2.alloc (.cells #[.bool true] 4)).drew = W3
          have HB3 : Hid (Below W2.heap.size W2 W3) := Lib.hid (by rw [← hW3]; exact (below_alloc1 W2 _).drew)
          clear hW3
          have R3 : Hid (JR W6 W3 b vb l.nx ys j (.slice ao j cap) W1.heap.size v) := Lib.hid (R2.out.under HB3.out)
          have hX3 : Hid (SQ3 kb y x (.slice co x.xs.length cc) vx vb W3.drew) := Lib.hid ((hKV.out.under HB3.out).under (Below.refl _ _).drew)
          have q0v : W3.cell? ⟨vb, 3, none⟩ = some (.slice ao j cap) := cell_blk R3.out.ai.out 3
          have hO : ∀ (o : Obj), Hid (Owns (W3.drew.alloc o) 64 7 (.slice ao j cap) (rows2 (ys.take j))) := fun o => R3.out.ai.own.kept fun g e => Below.heap_alloc _ _ _ (R3.out.ai.own.lt e)
          have hLA : Hid (Lies (W3.drew.alloc (.cells #[.bool false, .int .i64 0, .string ⟨#[]⟩, .int .i64 0, .int .i64 0, .string ⟨#[]⟩, .slice none 0 0] 64)) 7 (some ⟨W3.heap.size, 0, none⟩) [zrow]) := lies_new W3.drew zrow 64 rfl
          have hLB : Hid (Lies (W3.drew.alloc (.cells #[.bool y.b, .int .i64 y.n, .string y.t, .int .i64 x.k, .int .i64 x.n, .string x.t, .slice co x.xs.length cc] 64)) 7 (some ⟨W3.heap.size, 0, none⟩) [itCells (y, x) (.slice co x.xs.length cc)]) := lies_new W3.drew (itCells (y, x) (.slice co x.xs.length cc)) 64 rfl
          have hR1 : Hid ((rows2 (ys.take j)).length + 1 ≤ maxLen) := by show _ ≤ _; rw [hR4.out]; unfold maxLen; omega
          have hR2 : Hid (((rows2 (ys.take j)).length + 1) * 88 ≤ 140737488355328) := by show _ ≤ _; rw [hR4.out]; omega
          have hR3A : Hid ((rows2 (ys.take j) ++ [zrow]).length = j + 1) := by show _ = _; rw [List.length_append, hR4.out]; rfl
          have hR3B : Hid ((rows2 (ys.take j) ++ [itCells (y, x) (.slice co x.xs.length cc)]).length = j + 1) := by show _ = _; rw [List.length_append, hR4.out]; rfl
          have hB : ∀ (o : Obj), Hid ((W3.drew.alloc o).heap[vb]? = some (VL l.nx (.slice ao j cap)) ∧ vb < (W3.drew.alloc o).heap.size) := fun o => ⟨alloc_blk (w := W3.drew) R3.out.ai.out o, by have := lt_of_block R3.out.ai.out; simp; omega⟩
          have hbs : vb < W3.heap.size := lt_of_block R3.out.ai.out
          have hks : kb < W3.heap.size := lt_of_block hX3.out.1
          have hks1 : kb + 1 < W3.heap.size := lt_of_block hX3.out.2.1
          have hxs : vx < W3.heap.size := lt_of_block hX3.out.2.2
          have hXA : ∀ (o : Obj), SQ3 kb y x (.slice co x.xs.length cc) vx vb (W3.drew.alloc o) := fun o => hX3.out.under (below_alloc1 W3.drew o)
          have hXXA : ∀ w6, (W3.drew.alloc (.cells #[.bool false, .int .i64 0, .string ⟨#[]⟩, .int .i64 0, .int .i64 0, .string ⟨#[]⟩, .slice none 0 0] 64)).grownBy w6 (Value.slice ao j cap).ownBlock → SQ3 kb y x (.slice co x.xs.length cc) vx vb w6 := fun w6 g6 => (hXA _).grown g6 (fun e => (hN2.out kb e.symm).1 rfl) (fun e => (hN2.out (kb + 1) e.symm).2.1 rfl) (fun e => (hN2.out vx e.symm).2.2 rfl)
          have hXXB : ∀ w6, (W3.drew.alloc (.cells #[.bool y.b, .int .i64 y.n, .string y.t, .int .i64 x.k, .int .i64 x.n, .string x.t, .slice co x.xs.length cc] 64)).grownBy w6 (Value.slice ao j cap).ownBlock → SQ3 kb y x (.slice co x.xs.length cc) vx vb w6 := fun w6 g6 => (hXA _).grown g6 (fun e => (hN2.out kb e.symm).1 rfl) (fun e => (hN2.out (kb + 1) e.symm).2.1 rfl) (fun e => (hN2.out vx e.symm).2.2 rfl)
          have hi6 : (j : Int) < (j : Int) + 1 := by omega
          have hi7 : (0 : Int) ≤ (j : Int) := by omega
          refine round_region_held (S := (fun W => SQ3 kb y x (.slice co x.xs.length cc) vx vb W)) (by kernel_rfl) (by kernel_rfl) (fun ⟨_, _, h⟩ => h) (by exact hX3.out) (fun hHeld => ?_)
          refine wpAnyH_take (i := 0) (oi := ?oz12_) (v := ?vz12_) ?hiz12_ (by kernel_rfl) (by kernel_rfl) (by kernel_rfl) (fun _ _ _ h => h) ?hyz12_ (by assumption) ?restz12_
          case hiz12_ => simp only [gA, gZ]; rfl
          case hyz12_ =>
            refine Or.inl ⟨by rfl, ?_⟩
            intro w hSw; obtain ⟨u0, u1, u2⟩ := cells3 hSw.1; obtain ⟨t0, t1, t2, t3⟩ := vb_cells hSw.2.1; have z0 : w.cell? ⟨vx, 0, none⟩ = some (.pointer (some ⟨vb, 0, none⟩)) := cell_blk hSw.2.2 0; go_simp <;> (with_reducible rfl)
          (try simp only [Act.put, pA, pZ, pS])
          refine wpAnyH_take (i := 1) (oi := ?oz13_) (v := ?vz13_) ?hiz13_ (by kernel_rfl) (by kernel_rfl) (by kernel_rfl) (fun _ _ _ h => h) ?hyz13_ (by assumption) ?restz13_
          case hiz13_ => simp only [gA, gS, gZ]; rfl
          case hyz13_ =>
            refine Or.inl ⟨by rfl, ?_⟩
            intro w hSw; obtain ⟨u0, u1, u2⟩ := cells3 hSw.1; obtain ⟨t0, t1, t2, t3⟩ := vb_cells hSw.2.1; have z0 : w.cell? ⟨vx, 0, none⟩ = some (.pointer (some ⟨vb, 0, none⟩)) := cell_blk hSw.2.2 0; go_simp <;> (with_reducible rfl)
          (try simp only [Act.put, pA, pZ, pS])
          refine wpAnyH_take (i := 2) (oi := ?oz14_) (v := ?vz14_) ?hiz14_ (by kernel_rfl) (by kernel_rfl) (by kernel_rfl) (fun _ _ _ h => h) ?hyz14_ (by assumption) ?restz14_
          case hiz14_ => simp only [gA, gS, gZ]; rfl
          case hyz14_ =>
            refine Or.inl ⟨by rfl, ?_⟩
            intro w hSw; obtain ⟨u0, u1, u2⟩ := cells3 hSw.1; obtain ⟨t0, t1, t2, t3⟩ := vb_cells hSw.2.1; have z0 : w.cell? ⟨vx, 0, none⟩ = some (.pointer (some ⟨vb, 0, none⟩)) := cell_blk hSw.2.2 0; go_simp <;> (with_reducible rfl)
          (try simp only [Act.put, pA, pZ, pS])
          refine wpAnyH_take (i := 4) (oi := ?oz15_) (v := ?vz15_) ?hiz15_ (by kernel_rfl) (by kernel_rfl) (by kernel_rfl) (fun _ _ _ h => h) ?hyz15_ (by assumption) ?restz15_
          case hiz15_ => simp only [gA, gS, gZ]; rfl
          case hyz15_ =>
            refine Or.inl ⟨by rfl, ?_⟩
            intro w hSw; obtain ⟨u0, u1, u2⟩ := cells3 hSw.1; obtain ⟨t0, t1, t2, t3⟩ := vb_cells hSw.2.1; have z0 : w.cell? ⟨vx, 0, none⟩ = some (.pointer (some ⟨vb, 0, none⟩)) := cell_blk hSw.2.2 0; go_simp <;> (with_reducible rfl)
          (try simp only [Act.put, pA, pZ, pS])
          refine wpAnyH_take (i := 5) (oi := ?oz16_) (v := ?vz16_) ?hiz16_ (by kernel_rfl) (by kernel_rfl) (by kernel_rfl) (fun _ _ _ h => h) ?hyz16_ (by assumption) ?restz16_
          case hiz16_ => simp only [gA, gS, gZ]; rfl
          case hyz16_ =>
            refine Or.inl ⟨by rfl, ?_⟩
            intro w hSw; obtain ⟨u0, u1, u2⟩ := cells3 hSw.1; obtain ⟨t0, t1, t2, t3⟩ := vb_cells hSw.2.1; have z0 : w.cell? ⟨vx, 0, none⟩ = some (.pointer (some ⟨vb, 0, none⟩)) := cell_blk hSw.2.2 0; go_simp <;> (with_reducible rfl)
          (try simp only [Act.put, pA, pZ, pS])
          refine wpAnyH_take (i := 6) (oi := ?oz17_) (v := ?vz17_) ?hiz17_ (by kernel_rfl) (by kernel_rfl) (by kernel_rfl) (fun _ _ _ h => h) ?hyz17_ (by assumption) ?restz17_
          case hiz17_ => simp only [gA, gS, gZ]; rfl
          case hyz17_ =>
            refine Or.inl ⟨by rfl, ?_⟩
            intro w hSw; obtain ⟨u0, u1, u2⟩ := cells3 hSw.1; obtain ⟨t0, t1, t2, t3⟩ := vb_cells hSw.2.1; have z0 : w.cell? ⟨vx, 0, none⟩ = some (.pointer (some ⟨vb, 0, none⟩)) := cell_blk hSw.2.2 0; go_simp <;> (with_reducible rfl)
          (try simp only [Act.put, pA, pZ, pS])
          refine wpAnyH_ready (rs := [3, 8]) (by kernel_rfl) (by simp) ?_
          refine AllReadyH.cons rfl (fun K hK => ?_) (AllReadyH.cons rfl (fun K hK => ?_) AllReadyH.nil)
          · go_simp
            refine hK.out _ _ hHeld (fun hHeld3 => ?_)
            clear hK K
            (try simp only [Act.put, pA, pZ, pS])
            refine wpAnyH_take (i := 7) (oi := ?oz18_) (v := ?vz18_) ?hiz18_ (by kernel_rfl) (by kernel_rfl) (by kernel_rfl) (fun _ _ _ h => h) ?hyz18_ (by assumption) ?restz18_
            case hiz18_ => simp only [gA, gS, gZ]; rfl
            case hyz18_ =>
              refine Or.inl ⟨by rfl, ?_⟩
              intro w hSw; obtain ⟨u0, u1, u2⟩ := cells3 hSw.1; obtain ⟨t0, t1, t2, t3⟩ := vb_cells hSw.2.1; have z0 : w.cell? ⟨vx, 0, none⟩ = some (.pointer (some ⟨vb, 0, none⟩)) := cell_blk hSw.2.2 0; go_simp <;> (with_reducible rfl)
            (try simp only [Act.put, pA, pZ, pS])
            refine wpAnyH_ready (rs := [8]) (by kernel_rfl) (by simp) ?_
            refine AllReadyH.cons rfl (fun K hK => ?_) AllReadyH.nil
            go_simp
            refine hK.out _ _ (hXA _) (fun hHeld8 => ?_)
            clear hK K
            (try simp only [Act.put, pA, pZ, pS])
            refine wpAnyH_ready (rs := [9]) (by kernel_rfl) (by simp) ?_
            refine AllReadyH.cons rfl (fun K hK => ?_) AllReadyH.nil
            refine step_append_rows rfl (.tmp 123) (.tmp 128) 22 rfl 64 _ 7 88 Tryz.underlying22 info64 rfl (by decide) (.slice ao j cap) (rows2 (ys.take j)) (by simp [Act.eval]) (hO _).out (some ⟨W3.heap.size, 0, none⟩) 1 1 [zrow] (by simp [Act.eval]) rfl (fun e => by cases e) hLA.out (by simp [Value.oneCell']) (by simp) hR1.out hR2.out ?_
            intro v6 w6 o6 g6 b6
            obtain ⟨g7, cap6, hv6, -, -, -⟩ := o6.addr (by simp)
            rw [hR3A.out] at hv6; subst hv6
            have hbg : vb ≠ g7 := fun e => by
              rcases b6 with h | ⟨k, h, hk⟩
              · exact hN1.out (by rw [← h, e]; rfl)
              · have h3 : g7 = k := Option.some.inj h
                simp at hk
                omega
            have hgb : g7 ≠ vb := fun e => hbg e.symm
            have n7 : g7 ≠ kb ∧ g7 ≠ kb + 1 ∧ g7 ≠ vx := by
              rcases b6 with h | ⟨k, h, hk⟩
              · exact hN2.out g7 h.symm
              · have h3 : g7 = k := Option.some.inj h
                simp at hk
                omega
            have S6 := hXXA w6 g6
            have B6 := Lib.hid ((g6.block vb (hB _).out.2 hN1.out).trans (hB _).out.1)
            have z2 : w6.cell? ⟨vb, 3, none⟩ = some (.slice ao j cap) := cell_blk B6.out 3; have ff := free_blk B6.out 3
            have p0 : w6.cell? ⟨g7, j * 7, none⟩ = some (.bool false) := owns_last o6 hR4.out 0 _ rfl
            have p1 := owns_last o6 hR4.out 1 _ rfl
            have p2 := owns_last o6 hR4.out 2 _ rfl
            have p3 := owns_last o6 hR4.out 3 _ rfl
            have p4 := owns_last o6 hR4.out 4 _ rfl
            have p5 := owns_last o6 hR4.out 5 _ rfl
            have p6 := owns_last o6 hR4.out 6 _ rfl
            have q0 : w6.frozen? ⟨g7, j * 7, none⟩ = false := o6.free (g := g7) rfl (j * 7)
            have q1 := o6.free (g := g7) rfl (j * 7 + 1)
            have q2 := o6.free (g := g7) rfl (j * 7 + 2)
            have q3 := o6.free (g := g7) rfl (j * 7 + 3)
            have q4 := o6.free (g := g7) rfl (j * 7 + 4)
            have q5 := o6.free (g := g7) rfl (j * 7 + 5)
            have q6 := o6.free (g := g7) rfl (j * 7 + 6)
            have O6 := Lib.hid o6; have G6 := Lib.hid g6; have V6 := Lib.hid b6; clear o6 g6 b6
            refine hK.out _ _ S6 (fun hHeld9 => ?_)
            clear hK K
            (try simp only [Act.put, pA])
            refine wpAnyH_take (i := 10) (oi := ?oz19_) (v := ?vz19_) ?hiz19_ (by kernel_rfl) (by kernel_rfl) (by kernel_rfl) (fun _ _ _ h => h) ?hyz19_ (by assumption) ?restz19_
            case hiz19_ => simp only [gA, gS, gZ]; rfl
            case hyz19_ =>
              refine Or.inl ⟨by rfl, ?_⟩
              intro w hSw; obtain ⟨u0, u1, u2⟩ := cells3 hSw.1; obtain ⟨t0, t1, t2, t3⟩ := vb_cells hSw.2.1; have z0 : w.cell? ⟨vx, 0, none⟩ = some (.pointer (some ⟨vb, 0, none⟩)) := cell_blk hSw.2.2 0; go_simp <;> (with_reducible rfl)
            (try simp only [Act.put])
            refine wpAnyH_take (i := 11) (oi := ?oz20_) (v := ?vz20_) ?hiz20_ (by kernel_rfl) (by kernel_rfl) (by kernel_rfl) (fun _ _ _ h => h) ?hyz20_ (by assumption) ?restz20_
            case hiz20_ => simp only [gA, gS, gZ]; rfl
            case hyz20_ =>
              refine Or.inl ⟨by rfl, ?_⟩
              intro w hSw; obtain ⟨u0, u1, u2⟩ := cells3 hSw.1; obtain ⟨t0, t1, t2, t3⟩ := vb_cells hSw.2.1; have z0 : w.cell? ⟨vx, 0, none⟩ = some (.pointer (some ⟨vb, 0, none⟩)) := cell_blk hSw.2.2 0; go_simp <;> (with_reducible rfl)
            (try simp only [Act.put])
            refine wpAnyH_ready (rs := [12]) (by kernel_rfl) (by simp) ?_
            refine AllReadyH.cons rfl (fun K hK => ?_) AllReadyH.nil
            go_simp
            refine hK.out _ _ (S6.mod ((Mod.refl (fun k => k = vb) w6).setCell ⟨vb, 3, none⟩ _ (fun _ => rfl)) hnb.out.1 hnb.out.2.1 hnb.out.2.2) (fun hHeld12 => ?_)
            clear hK K
            (try simp only [Act.put, pA, pZ, pS])
            refine wpAnyH_done (by kernel_rfl) ?_ _
            gi_wp2
            exact jr_from HB3.out (jr_doneA R3.out B6.out O6.out hR4.out G6.out V6.out hbg HYX.out)
          · go_simp
            refine hK.out _ _ (hXA _) (fun hHeld8 => ?_)
            clear hK K
            (try simp only [Act.put, pA, pZ, pS])
            refine wpAnyH_ready (rs := [3]) (by kernel_rfl) (by simp) ?_
            refine AllReadyH.cons rfl (fun K hK => ?_) AllReadyH.nil
            go_simp
            refine hK.out _ _ (hXA _) (fun hHeld3 => ?_)
            clear hK K
            (try simp only [Act.put, pA, pZ, pS])
            refine wpAnyH_take (i := 7) (oi := ?oz21_) (v := ?vz21_) ?hiz21_ (by kernel_rfl) (by kernel_rfl) (by kernel_rfl) (fun _ _ _ h => h) ?hyz21_ (by assumption) ?restz21_
            case hiz21_ => simp only [gA, gS, gZ]; rfl
            case hyz21_ =>
              refine Or.inl ⟨by rfl, ?_⟩
              intro w hSw; obtain ⟨u0, u1, u2⟩ := cells3 hSw.1; obtain ⟨t0, t1, t2, t3⟩ := vb_cells hSw.2.1; have z0 : w.cell? ⟨vx, 0, none⟩ = some (.pointer (some ⟨vb, 0, none⟩)) := cell_blk hSw.2.2 0; go_simp <;> (with_reducible rfl)
            (try simp only [Act.put, pA, pZ, pS])
            refine wpAnyH_ready (rs := [9]) (by kernel_rfl) (by simp) ?_
            refine AllReadyH.cons rfl (fun K hK => ?_) AllReadyH.nil
            refine step_append_rows rfl (.tmp 123) (.tmp 128) 22 rfl 64 _ 7 88 Tryz.underlying22 info64 rfl (by decide) (.slice ao j cap) (rows2 (ys.take j)) (by simp [Act.eval]) (hO _).out (some ⟨W3.heap.size, 0, none⟩) 1 1 [zrow] (by simp [Act.eval]) rfl (fun e => by cases e) hLA.out (by simp [Value.oneCell']) (by simp) hR1.out hR2.out ?_
            intro v6 w6 o6 g6 b6
            obtain ⟨g7, cap6, hv6, -, -, -⟩ := o6.addr (by simp)
            rw [hR3A.out] at hv6; subst hv6
            have hbg : vb ≠ g7 := fun e => by
              rcases b6 with h | ⟨k, h, hk⟩
              · exact hN1.out (by rw [← h, e]; rfl)
              · have h3 : g7 = k := Option.some.inj h
                simp at hk
                omega
            have hgb : g7 ≠ vb := fun e => hbg e.symm
            have n7 : g7 ≠ kb ∧ g7 ≠ kb + 1 ∧ g7 ≠ vx := by
              rcases b6 with h | ⟨k, h, hk⟩
              · exact hN2.out g7 h.symm
              · have h3 : g7 = k := Option.some.inj h
                simp at hk
                omega
            have S6 := hXXA w6 g6
            have B6 := Lib.hid ((g6.block vb (hB _).out.2 hN1.out).trans (hB _).out.1)
            have z2 : w6.cell? ⟨vb, 3, none⟩ = some (.slice ao j cap) := cell_blk B6.out 3; have ff := free_blk B6.out 3
            have p0 : w6.cell? ⟨g7, j * 7, none⟩ = some (.bool false) := owns_last o6 hR4.out 0 _ rfl
            have p1 := owns_last o6 hR4.out 1 _ rfl
            have p2 := owns_last o6 hR4.out 2 _ rfl
            have p3 := owns_last o6 hR4.out 3 _ rfl
            have p4 := owns_last o6 hR4.out 4 _ rfl
            have p5 := owns_last o6 hR4.out 5 _ rfl
            have p6 := owns_last o6 hR4.out 6 _ rfl
            have q0 : w6.frozen? ⟨g7, j * 7, none⟩ = false := o6.free (g := g7) rfl (j * 7)
            have q1 := o6.free (g := g7) rfl (j * 7 + 1)
            have q2 := o6.free (g := g7) rfl (j * 7 + 2)
            have q3 := o6.free (g := g7) rfl (j * 7 + 3)
            have q4 := o6.free (g := g7) rfl (j * 7 + 4)
            have q5 := o6.free (g := g7) rfl (j * 7 + 5)
            have q6 := o6.free (g := g7) rfl (j * 7 + 6)
            have O6 := Lib.hid o6; have G6 := Lib.hid g6; have V6 := Lib.hid b6; clear o6 g6 b6
            refine hK.out _ _ S6 (fun hHeld9 => ?_)
            clear hK K
            (try simp only [Act.put, pA])
            refine wpAnyH_take (i := 10) (oi := ?oz22_) (v := ?vz22_) ?hiz22_ (by kernel_rfl) (by kernel_rfl) (by kernel_rfl) (fun _ _ _ h => h) ?hyz22_ (by assumption) ?restz22_
            case hiz22_ => simp only [gA, gS, gZ]; rfl
            case hyz22_ =>
              refine Or.inl ⟨by rfl, ?_⟩
              intro w hSw; obtain ⟨u0, u1, u2⟩ := cells3 hSw.1; obtain ⟨t0, t1, t2, t3⟩ := vb_cells hSw.2.1; have z0 : w.cell? ⟨vx, 0, none⟩ = some (.pointer (some ⟨vb, 0, none⟩)) := cell_blk hSw.2.2 0; go_simp <;> (with_reducible rfl)
            (try simp only [Act.put])
            refine wpAnyH_take (i := 11) (oi := ?oz23_) (v := ?vz23_) ?hiz23_ (by kernel_rfl) (by kernel_rfl) (by kernel_rfl) (fun _ _ _ h => h) ?hyz23_ (by assumption) ?restz23_
            case hiz23_ => simp only [gA, gS, gZ]; rfl
            case hyz23_ =>
              refine Or.inl ⟨by rfl, ?_⟩
              intro w hSw; obtain ⟨u0, u1, u2⟩ := cells3 hSw.1; obtain ⟨t0, t1, t2, t3⟩ := vb_cells hSw.2.1; have z0 : w.cell? ⟨vx, 0, none⟩ = some (.pointer (some ⟨vb, 0, none⟩)) := cell_blk hSw.2.2 0; go_simp <;> (with_reducible rfl)
            (try simp only [Act.put])
            refine wpAnyH_ready (rs := [12]) (by kernel_rfl) (by simp) ?_
            refine AllReadyH.cons rfl (fun K hK => ?_) AllReadyH.nil
            go_simp
            refine hK.out _ _ (S6.mod ((Mod.refl (fun k => k = vb) w6).setCell ⟨vb, 3, none⟩ _ (fun _ => rfl)) hnb.out.1 hnb.out.2.1 hnb.out.2.2) (fun hHeld12 => ?_)
            clear hK K
            (try simp only [Act.put, pA, pZ, pS])
            refine wpAnyH_done (by kernel_rfl) ?_ _
            gi_wp2
            exact jr_from HB3.out (jr_doneA R3.out B6.out O6.out hR4.out G6.out V6.out hbg HYX.out)
      case done =>
        rintro Dm c W hD HI2 hK
        obtain ⟨vo, hAI⟩ := HI2
        have HA := Lib.hid hAI
        have HKD : Hid (W.heap[Dm]? = some (.deferred (some []))) := hK
        clear hK hAI
        go_wp2_with fail
        have oW := HA.out.own
        rw [List.take_length] at oW
        have hDv : Dm ≠ vb := fun e => by have := HKD.out; rw [e, HA.out.out] at this; cases this
        have hDm : W6.heap.size ≤ Dm := by have := hs0.out; omega
        have hmW : Mod (fun k => k = b ∨ k = vb) W6 (W.putObj Dm (.deferred none)) := HA.out.mod.grown (grownBy_putObj' _ _ _) (fun k e hk => by cases e; omega)
        have oW2 : Owns (W.putObj Dm (.deferred none)) 64 7 vo (rows2 ys) := oW.kept fun g e => by
          obtain ⟨cur, hc⟩ := owns_type oW e
          exact World.putObj_heap_other (fun e2 => by rw [e2, HKD.out] at hc; cases hc)
        have hL := HS9.out.1.out
        have hVT := vt64_of oW2 (fun y hy => VT64.mod (hL.val y hy) hmW (fun g e ⟨cs, fr, hc⟩ => by
          rcases e with e | e
          · rw [e, hL.blk] at hc; cases hc
          · rw [e, HV9.out.1] at hc; cases hc)) (by omega)
        rw [hL.fst] at hVT
        obtain ⟨co, cc, hvo, -⟩ := hVT.form
        subst hvo
        have hout : (W.putObj Dm (.deferred none)).heap[vb]? = some (VL l.nx (.slice co l.xs.length cc)) := (World.putObj_heap_other (fun e => hDv e.symm)).trans HA.out.out
        refine ⟨by simp, .inl ⟨_, _, rfl, run_takeDeferred HKD.out, ?_⟩⟩
        refine ⟨.bool true, by simp [results, Tryz.results69, go_sem], ⟨rfl, HJ9.out.mod hmW (fun e => ?_) (fun k e => ?_), co, cc, hout, hVT⟩, ?_⟩
        · rcases e with e | e
          · exact hL.r_foot HJ9.out (.inl e)
          · exact H0.out.2.1 e.symm
        · have h1 := HI5.out.fb
          have h2 := H0.out.2.2.2.1.size
          have h3 := H0.out.2.2.1
          rcases e with e | e <;> omega
        · refine ((H0.out.2.2.2.1.j1.trans HM9.out).trans' hmW (fun k hk e => ?_))
          have h1 := HI5.out.fb
          have h2 := H0.out.2.2.2.1.size
          rcases e with e | e
          · omega
          · exact .inr e
    · have hneE : ((c.toNat : Int) != E) = true := by
        rw [bne_iff_ne]
        intro e
        exact hcE (UInt8.toNat_inj.1 (by have := HE.out; omega))
      have hxe : x = .error (wrongC s q, q) := by
        rw [HX2.out, HUE.out]; unfold jendP; simp only; rw [if_neg (fun e => hcE (hc.symm.trans e.1))]
      subst hxe
      clear hc hcE HX2 HUE
      go_wp2_with fail
      refine wp_region_noPanic ?_
      refine wp_region_held_drew (S := (fun W => Hid (Jd W r s q m' fw fa ∧ Below wc.heap.size wc W) ∧ W.cell? ⟨r, 0, none⟩ = some (.string s) ∧ W.cell? ⟨r, 1, none⟩ = some (.int .i64 q))) (by kernel_rfl) (by exact HS0.out) (fun hHeld => ?_)
      refine wpAnyH_take (i := 0) (oi := ?oc0) (v := ?vc0) ?hic0 (by kernel_rfl) (by kernel_rfl) (by kernel_rfl) (fun _ _ _ h => h) ?hyc0 (by assumption) ?restc0
      case hic0 => simp only [gA, gZ]; rfl
      case hyc0 =>
        refine Or.inl ⟨by rfl, ?_⟩
        intro w hSw; (try dsimp only at hSw); go_simp <;> (with_reducible rfl)
      (try simp only [Act.put, pA, pZ, pS])
      refine wpAnyH_take (i := 2) (oi := ?oc2) (v := ?vc2) ?hic2 (by kernel_rfl) (by kernel_rfl) (by kernel_rfl) (fun _ _ _ h => h) ?hyc2 (by assumption) ?restc2
      case hic2 => simp only [gA, gS, gZ]; rfl
      case hyc2 =>
        refine Or.inl ⟨by rfl, ?_⟩
        intro w hSw; (try dsimp only at hSw); go_simp <;> (with_reducible rfl)
      (try simp only [Act.put, pA, pZ, pS])
      refine wpAnyH_ready (rs := [1]) (by kernel_rfl) (by simp) ?_
      refine AllReadyH.cons rfl (fun K hK => ?_) AllReadyH.nil
      go_simp
      refine (HNW _ hHeld).mono ?_; rintro _ w7 ⟨rfl, hb⟩; have HS1 : Hid (JS r s q m' fw fa wc w7) := Lib.hid (JS.next hHeld hb); clear hb
      refine hK.out _ _ HS1.out (fun hHeldc1 => ?_)
      clear hK K
      (try simp only [Act.put, pA, pZ, pS])
      refine wpAnyH_take (i := 3) (oi := ?oc3) (v := ?vc3) ?hic3 (by kernel_rfl) (by kernel_rfl) (by kernel_rfl) (fun _ _ _ h => h) ?hyc3 (by assumption) ?restc3
      case hic3 => simp only [gA, gS, gZ]; rfl
      case hyc3 =>
        refine Or.inl ⟨by rfl, ?_⟩
        intro w hSw; (try dsimp only at hSw); go_simp <;> (with_reducible rfl)
      (try simp only [Act.put, pA, pZ, pS])
      refine wpAnyH_take (i := 4) (oi := ?oc4) (v := ?vc4) ?hic4 (by kernel_rfl) (by kernel_rfl) (by kernel_rfl) (fun _ _ _ h => h) ?hyc4 (by assumption) ?restc4
      case hic4 => simp only [gA, gS, gZ]; rfl
      case hyc4 =>
        refine Or.inl ⟨by rfl, ?_⟩
        intro w hSw; (try dsimp only at hSw); go_simp <;> (with_reducible rfl)
      (try simp only [Act.put, pA, pZ, pS])
      refine wpAnyH_take (i := 5) (oi := ?oc5) (v := undef) ?hic5 (by kernel_rfl) (by kernel_rfl) (by kernel_rfl) (fun _ _ _ h => h) ?hyc5 (by assumption) ?restc5
      case hic5 => simp only [gA, gS, gZ]; rfl
      case hyc5 => exact Or.inr ⟨by rfl, rfl⟩
      (try simp only [Act.put, pA, pZ, pS])
      refine wpAnyH_take (i := 6) (oi := ?oc6) (v := undef) ?hic6 (by kernel_rfl) (by kernel_rfl) (by kernel_rfl) (fun _ _ _ h => h) ?hyc6 (by assumption) ?restc6
      case hic6 => simp only [gA, gS, gZ]; rfl
      case hyc6 => exact Or.inr ⟨by rfl, rfl⟩
      (try simp only [Act.put, pA, pZ, pS])
      refine wpAnyH_take (i := 7) (oi := ?oc7) (v := undef) ?hic7 (by kernel_rfl) (by kernel_rfl) (by kernel_rfl) (fun _ _ _ h => h) ?hyc7 (by assumption) ?restc7
      case hic7 => simp only [gA, gS, gZ]; rfl
      case hyc7 => exact Or.inr ⟨by rfl, rfl⟩
      (try simp only [Act.put, pA, pZ, pS])
      refine wpAnyH_take (i := 8) (oi := ?oc8) (v := undef) ?hic8 (by kernel_rfl) (by kernel_rfl) (by kernel_rfl) (fun _ _ _ h => h) ?hyc8 (by assumption) ?restc8
      case hic8 => simp only [gA, gS, gZ]; rfl
      case hyc8 => exact Or.inr ⟨by rfl, rfl⟩
      (try simp only [Act.put, pA, pZ, pS])
      refine wpAnyH_take (i := 9) (oi := ?oc9) (v := undef) ?hic9 (by kernel_rfl) (by kernel_rfl) (by kernel_rfl) (fun _ _ _ h => h) ?hyc9 (by assumption) ?restc9
      case hic9 => simp only [gA, gS, gZ]; rfl
      case hyc9 => exact Or.inr ⟨by rfl, rfl⟩
      (try simp only [Act.put, pA, pZ, pS])
      refine wpAnyH_take (i := 10) (oi := ?oc10) (v := undef) ?hic10 (by kernel_rfl) (by kernel_rfl) (by kernel_rfl) (fun _ _ _ h => h) ?hyc10 (by assumption) ?restc10
      case hic10 => simp only [gA, gS, gZ]; rfl
      case hyc10 => exact Or.inr ⟨by rfl, rfl⟩
      (try simp only [Act.put, pA, pZ, pS])
      refine wpAnyH_take (i := 11) (oi := ?oc11) (v := undef) ?hic11 (by kernel_rfl) (by kernel_rfl) (by kernel_rfl) (fun _ _ _ h => h) ?hyc11 (by assumption) ?restc11
      case hic11 => simp only [gA, gS, gZ]; rfl
      case hyc11 => exact Or.inr ⟨by rfl, rfl⟩
      (try simp only [Act.put, pA, pZ, pS])
      refine wpAnyH_take (i := 12) (oi := ?oc12) (v := undef) ?hic12 (by kernel_rfl) (by kernel_rfl) (by kernel_rfl) (fun _ _ _ h => h) ?hyc12 (by assumption) ?restc12
      case hic12 => simp only [gA, gS, gZ]; rfl
      case hyc12 => exact Or.inr ⟨by rfl, rfl⟩
      (try simp only [Act.put, pA, pZ, pS])
      refine wpAnyH_take (i := 13) (oi := ?oc13) (v := undef) ?hic13 (by kernel_rfl) (by kernel_rfl) (by kernel_rfl) (fun _ _ _ h => h) ?hyc13 (by assumption) ?restc13
      case hic13 => simp only [gA, gS, gZ]; rfl
      case hyc13 => exact Or.inr ⟨by rfl, rfl⟩
      (try simp only [Act.put, pA, pZ, pS])
      refine wpAnyH_take (i := 14) (oi := ?oc14) (v := undef) ?hic14 (by kernel_rfl) (by kernel_rfl) (by kernel_rfl) (fun _ _ _ h => h) ?hyc14 (by assumption) ?restc14
      case hic14 => simp only [gA, gS, gZ]; rfl
      case hyc14 => exact Or.inr ⟨by rfl, rfl⟩
      (try simp only [Act.put, pA, pZ, pS])
      refine wpAnyH_take (i := 15) (oi := ?oc15) (v := ?vc15) ?hic15 (by kernel_rfl) (by kernel_rfl) (by kernel_rfl) (fun _ _ _ h => h) ?hyc15 (by assumption) ?restc15
      case hic15 => simp only [gA, gS, gZ]; rfl
      case hyc15 =>
        refine Or.inl ⟨by rfl, ?_⟩
        intro w hSw; (try dsimp only at hSw); go_simp <;> (with_reducible rfl)
      (try simp only [Act.put, pA, pZ, pS])
      refine wpAnyH_done (by kernel_rfl) ?_ _
      refine NoPanic.normal ?_
      go_wp2_with fail
      refine (jwrong_any HS1.out.1.out.1).mono ?_
      rintro _ w9 ⟨rfl, hj9, hm9⟩
      have HF := Lib.hid (⟨hj9, (HIJ.out.mod.trans (Mod.of_below HS1.out.1.out.2)).trans hm9⟩ : _ ∧ _)
      clear hj9 hm9
      go_wp2_with fail
      exact ⟨.bool false, by simp [results, Tryz.results69, go_sem], ⟨_, rfl, rfl⟩, ⟨_, _, HF.out.1⟩, (H0.out.2.2.2.1.trans HF.out.2).j1⟩
end Go.Proofs.YtnaefnojmiolbaaGreatDoor
