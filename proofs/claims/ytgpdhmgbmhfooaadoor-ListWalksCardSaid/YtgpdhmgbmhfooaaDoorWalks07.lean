/-
  ListWalks: the walk.
-/
import Derived.Test.YtgpdhmgbmhfooaaDoorWalkS07
import Derived.Deep.DeepCutAuto
namespace Go.Proofs.YtgpdhmgbmhfooaaDoor
open Go.RowKit Go.Shelf

attribute [local go_sem] Oper.semAt_some

/-- While the first script is played. -/
structure W1I (w W : World) (b N1 : Nat) (p : Pt) (l : LS) (ao aw : Option Addr) (acts whiles : List A) (cw : Nat) (leave : Int) : Prop where
  pl : PL w W b (N1 + 1) 0 p l ao acts
  x4 : W.heap[w.heap.size]? = some (.cells #[.slice aw whiles.length cw] 34 (0, 0))
  x5 : W.heap[w.heap.size + 1]? = some (.cells #[.int .u8 leave] 5 (0, 0))
  x6 : W.heap[w.heap.size + 1 + 1]? = some (.cells #[.bool false] 4 (0, 0))
  x7 : W.heap[N1]? = some (.cells #[.pointer (some ⟨b, 0, none⟩)] 25 (0, 0))
theorem W1I.mono {w W W' : World} {b N1 : Nat} {p : Pt} {l : LS} {ao aw : Option Addr} {acts whiles : List A} {cw : Nat} {leave : Int} (h : W1I w W b N1 p l ao aw acts whiles cw leave) (hb : Below W.heap.size W W') : W1I w W' b N1 p l ao aw acts whiles cw leave :=
  ⟨h.pl.mono hb, (hb.block _ (lt_of_block h.x4)).trans h.x4, (hb.block _ (lt_of_block h.x5)).trans h.x5, (hb.block _ (lt_of_block h.x6)).trans h.x6, (hb.block _ (lt_of_block h.x7)).trans h.x7⟩
theorem W1I.does {w W W' : World} {b N1 : Nat} {p q : Pt} {l l' : LS} {ao aw : Option Addr} {acts whiles : List A} {cw : Nat} {leave : Int} (h : W1I w W b N1 p l ao aw acts whiles cw leave) (d : Duo w.heap.size W' b (N1 + 1) 0 q l' l') (m : Mod (fun x => Foot b p.sh p.v p.mb x ∨ x = N1 + 1) W W') : W1I w W' b N1 q l' ao aw acts whiles cw leave := by
  have hk : ∀ {q : Nat} {c : Array Value} {t : TypeId}, W.heap[q]? = some (.cells c t (0, 0)) → t ≠ 61 → t ≠ 88 → t ≠ 47 → W'.heap[q]? = some (.cells c t (0, 0)) := fun hq h1 h2 h3 => m.blk hq (fun e => by
    rcases e with e | e
    · exact foot_not47 h.pl.duo.lst hq h1 h2 e
    · exact blk_ne hq h.pl.duo.ref.blk h3 e)
  exact ⟨h.pl.does d m, hk h.x4 (by decide) (by decide) (by decide), hk h.x5 (by decide) (by decide) (by decide), hk h.x6 (by decide) (by decide) (by decide), hk h.x7 (by decide) (by decide) (by decide)⟩

set_option maxRecDepth 100000 in
set_option maxHeartbeats 6400000 in
theorem walks_any (cap : Nat) (ao : Option Addr) (acts : List A) (cw : Nat) (aw : Option Addr) (whiles : List A) (leave : Int) (w : World) (hl : Lies w 5 ao (acts.map A.cells)) (hg : ∀ a ∈ acts, a.Good) (hn : acts.length ≤ 9223372036854775807)
    (hlw : Lies w 5 aw (whiles.map A.cells)) (hgw : ∀ a ∈ whiles, a.Good) (hnw : whiles.length ≤ 9223372036854775807) (h0 : 0 ≤ leave) (h1 : leave ≤ 255) (ht : Tabs w) :
    Calls Tryd.prog 7 #[.slice ao acts.length cap, .slice aw whiles.length cw, .int .u8 leave] w (BoolPost w true) := by
  have HT := Lib.hid (⟨ht, hl, hg, hlw, hgw⟩ : _ ∧ _ ∧ _ ∧ _ ∧ _)
  have Z : Hid (Below w.heap.size w (((w.alloc (.cells #[.slice aw whiles.length cw] 34)).alloc (.cells #[.int .u8 leave] 5)).alloc (.cells #[.bool false] 4)) ∧
      (((w.alloc (.cells #[.slice aw whiles.length cw] 34)).alloc (.cells #[.int .u8 leave] 5)).alloc (.cells #[.bool false] 4)).heap[w.heap.size]? = some (.cells #[.slice aw whiles.length cw] 34 (0, 0)) ∧
      (((w.alloc (.cells #[.slice aw whiles.length cw] 34)).alloc (.cells #[.int .u8 leave] 5)).alloc (.cells #[.bool false] 4)).heap[w.heap.size + 1]? = some (.cells #[.int .u8 leave] 5 (0, 0)) ∧
      (((w.alloc (.cells #[.slice aw whiles.length cw] 34)).alloc (.cells #[.int .u8 leave] 5)).alloc (.cells #[.bool false] 4)).heap[w.heap.size + 1 + 1]? = some (.cells #[.bool false] 4 (0, 0))) := by
    have y2 := heap_alloc_new (w.alloc (.cells #[.slice aw whiles.length cw] 34)) (.cells #[.int .u8 leave] 5)
    have y3 := heap_alloc_new ((w.alloc (.cells #[.slice aw whiles.length cw] 34)).alloc (.cells #[.int .u8 leave] 5)) (.cells #[.bool false] 4)
    simp only [World.size_alloc] at y2 y3
    exact ⟨below3 _ _ _ _, alloc_blk (alloc_blk (heap_alloc_new _ _) _) _, alloc_blk y2 _, y3⟩
  clear ht hl hg hlw hgw
  refine callsIn_wide.1 (callsIn_of_wp_marks (F := Fence.wide) (n := 5) Tryd.func7 rfl trivial ?_ rfl)
  refine wpIn_wide.2 ?_
  simp only [Tryd.ntmps7, List.size_toArray, List.length_cons, List.length_nil, Nat.reduceAdd, Nat.reduceSub, Array.replicate_succ, Array.replicate_zero, List.push_toArray, List.append_toArray, List.nil_append, List.cons_append]
  go_wp2_with fail
  generalize hW : ((w.alloc _).alloc _).alloc _ = W0 at Z ⊢
  clear hW
  refine (lnew_any _).mono ?_
  rintro e w1 ⟨b, mb, rfl, i1, hb1, hm1, hbel⟩
  have hs0 := Z.out.1.size
  have Z1 : Hid (W1I w ((w1.alloc (.cells #[.pointer (some ⟨b, 0, none⟩)] 25)).alloc R00) b w1.heap.size ⟨false, .slice none 0 0, mb, #[.slice none 0 0, .int .i64 0], .slice none 0 0⟩ LS.new ao aw acts whiles cw leave) := by
    have hp := PL.new (W := w1.alloc (.cells #[.pointer (some ⟨b, 0, none⟩)] 25)) HT.out.1 (i1.below (below_alloc1 _ _)) (Nat.le_trans hs0 hb1) (Nat.le_trans hs0 hm1) ((Z.out.1.trans (hbel.mono hs0)).trans ((below_alloc1 _ _).mono (Nat.le_trans hs0 hbel.size))) HT.out.2.1 HT.out.2.2.1
    have hb2 : Below W0.heap.size W0 ((w1.alloc (.cells #[.pointer (some ⟨b, 0, none⟩)] 25)).alloc R00) := hbel.trans ((below2 w1 _ _).mono hbel.size)
    have e1 : (w1.alloc (.cells #[.pointer (some ⟨b, 0, none⟩)] 25)).heap.size = w1.heap.size + 1 := by simp
    rw [e1] at hp
    exact ⟨hp, (hb2.block _ (lt_of_block Z.out.2.1)).trans Z.out.2.1, (hb2.block _ (lt_of_block Z.out.2.2.1)).trans Z.out.2.2.1, (hb2.block _ (lt_of_block Z.out.2.2.2)).trans Z.out.2.2.2, alloc_blk (heap_alloc_new _ _) _⟩
  clear i1 hb1 hm1 hbel Z hs0
  have HA := lalive_any _ (Z1.out.pl.tabs' _ (Below.refl _ _))
  have q7 := cell_blk Z1.out.x7 0
  go_wp2_with fail
  refine HA.mono ?_
  rintro e w2 ⟨rfl, hb⟩
  have Z2 := Lib.hid (Z1.out.mono hb)
  clear Z1 hb HA q7
  go_wp2_with fail
  go_loopw [28] (fun i wr => ∃ k : Nat, k ≤ acts.length ∧ i = .int .i64 k ∧ ∃ q l, Hid (W1I w wr b w1.heap.size q l ao aw acts whiles cw leave)) (fun i _ => acts.length - (intOf i).toNat)
  case atStart => exact ⟨0, Nat.zero_le _, rfl, _, _, Z2⟩
  case round =>
    obtain ⟨k, hk, rfl, q, l, HP⟩ := hrel
    clear Z2
    by_cases hlt : k < acts.length
    · obtain ⟨g, off, rfl, hgood, d0, d1, d2, d3, d4⟩ := HP.out.pl.act hlt
      have hi1 : (k : Int) < (acts.length : Int) := by omega
      have hw : IntKind.i64.wrap ((k : Int) + 1) = (k : Int) + 1 := wrap_in (by omega) (by omega)
      have hw' : wrap64 ((k : Int) + 1) = (k : Int) + 1 := wrap64_in' (by omega) (by omega)
      obtain ⟨a, ha⟩ : ∃ a, a = acts[k] := ⟨_, rfl⟩
      rw [← ha] at d0 d1 d2 d3 d4 hgood
      have P3 := Lib.hid (HP.out.mono (below_alloc1 wr (AB a)))
      have HD := does_any a hgood _ P3.out.pl.below.size P3.out.pl.tabs' P3.out.pl.duo
      have q7 := cell_blk P3.out.x7 0
      clear ha HP hgood
      go_wp2_with fail
      refine HD.mono ?_
      rintro e w3 ⟨rfl, q4, D4, m4, -⟩
      have P4 := Lib.hid (P3.out.does D4 m4)
      clear D4 m4 P3 HD d0 d1 d2 d3 d4 q7
      go_wp2_with fail
      go_roundw
      case rel => exact ⟨k + 1, hlt, by go_num, _, _, P4⟩
      case measure => exact Nat.sub_lt_sub_left hlt (Nat.lt_succ_self k)
    · obtain rfl : k = acts.length := by omega
      have q7 := cell_blk HP.out.x7 0
      obtain ⟨c0, c1⟩ := HP.out.pl.duo.ref.cells
      obtain ⟨ar, kr, hrv, -⟩ := HP.out.pl.duo.ref.own.any
      rw [List.length_map] at hrv
      rw [hrv] at c0
      have HRV := Lib.hid hrv
      clear hrv
      have hbw := below_alloc1 wr (.cells #[.slice ar l.xs.length kr, .int .i64 l.nx] 47)
      have HQ := Lib.hid (HP.out.mono hbw)
      have q7' := cell_blk HQ.out.x7 0
      have S0 : Hid (WI w (((wr.alloc (.cells #[.slice ar l.xs.length kr, .int .i64 l.nx] 47)).alloc (.cells #[.pointer (some ⟨b, 0, none⟩)] 25)).alloc (.cells #[.int .i64 0] 3)) b ⟨aw, cw, whiles, leave, w1.heap.size, wr.heap.size, .slice none 0 0, .slice ar l.xs.length kr, l⟩ q l 0 ) := by
        have hb3 := below3 wr (.cells #[.slice ar l.xs.length kr, .int .i64 l.nx] 47) (.cells #[.pointer (some ⟨b, 0, none⟩)] 25) (.cells #[.int .i64 0] 3)
        have h3 := HP.out.mono hb3
        have hr := lt_of_block HP.out.pl.duo.ref.blk
        have y0 := heap_alloc_new wr (.cells #[.slice ar l.xs.length kr, .int .i64 l.nx] 47)
        have y1 := heap_alloc_new (wr.alloc (.cells #[.slice ar l.xs.length kr, .int .i64 l.nx] 47)) (.cells #[.pointer (some ⟨b, 0, none⟩)] 25)
        have y2 := heap_alloc_new ((wr.alloc (.cells #[.slice ar l.xs.length kr, .int .i64 l.nx] 47)).alloc (.cells #[.pointer (some ⟨b, 0, none⟩)] 25)) (.cells #[.int .i64 0] 3)
        simp only [World.size_alloc] at y1 y2
        refine ⟨h3.pl.tabs, h3.pl.below, h3.pl.duo, h3.x4, h3.x5, h3.x6, h3.x7, alloc_blk y1 _, alloc_blk (alloc_blk y0 _) _, ?_, y2, hr, HT.out.2.2.2.1, HT.out.2.2.2.2, fun g e => (by cases e)⟩
        have := h3.pl.duo.ref.own
        rw [HRV.out] at this
        exact this
      clear hbw HQ
      go_wp2_with (go_at_call 22; refine (all_fn (some ⟨b, 0, none⟩) _).mono ?_; rintro e Wf ⟨rfl, rfl⟩)
      generalize hW : (((wr.alloc _).alloc _).alloc _) = W3 at S0 ⊢
      clear hW
      have hBw : w.heap.size ≤ W3.heap.size := S0.out.below.size
      refine (wpIn_wide (n := 5)).1 ?_
      refine rangeG_outer (F := Fence.wide) (n := 5) rfl (by omega) (gf := 53) (lbs := #[.pointer (some ⟨wr.heap.size + 1, 0, none⟩)]) rfl trivial (enters_of Tryd.func53 (by kernel_rfl) rfl) (all_seq (wr.heap.size + 1) 4 _ S0.out.duo.lst S0.out.xa) (Below.refl _ _)
        (I := fun _ j W => ∃ p l', WI w W b ⟨aw, cw, whiles, leave, w1.heap.size, wr.heap.size, q.v, .slice ar l.xs.length kr, l⟩ p l' j) (Ix := fun x _ _ W => x = .exit 2 ∧ ∃ p l', WI w W b ⟨aw, cw, whiles, leave, w1.heap.size, wr.heap.size, q.v, .slice ar l.xs.length kr, l⟩ p l' l.xs.length) ?body ?start ?done ?stop
      case start =>
        rintro c W4 W5 hb ⟨i3, m3⟩
        have S := S0.out.mono hb
        exact ⟨S.krS _ m3, _, _, S.start i3 m3⟩
      case body =>
        refine ⟨fun _ => rfl, KpL.trans, fun c W l o o' _ h ho => KpL.putObj h ho, fun c s W W' row ⟨p, l', h⟩ hg hr => ⟨p, l', h.loop hBw hg hr⟩, fun x c s W W' row ⟨e, p, l', h⟩ hg hr => ⟨e, p, l', h.loop hBw hg hr⟩, ?_⟩
        intro lq c j W hlq hloop HI hj
        obtain ⟨p1, l1, HI⟩ := HI
        have HI' := Lib.hid HI
        have HLp := Lib.hid hloop
        have hlen := S0.out.duo.lst.ok.len
        obtain ⟨y, x, hyx⟩ : ∃ y x, (y, x) = l.xs[j] := ⟨_, _, rfl⟩
        have he : encL l.xs j = #[.agg #[.bool y.b, .int .i64 y.n, .string y.t], .int .i64 x] := by unfold encL; rw [itAt_lt hj, ← hyx]; rfl
        have HYX := Lib.hid hyx
        rw [he]
        clear HI hloop hyx he S0 c0 c1 q7 q7' HP
        gi_wp2
        have hbA := below_alloc1 W (KB y.b y.n y.t)
        refine ⟨KeepsR.of_below _ hbA, fun k cs t _ hc => alloc_blk hc _, (by obtain ⟨r, hr⟩ := HLp.out; exact ⟨r, alloc_blk hr _⟩), ?_⟩
        intro st W2 hW2 hst
        have R2 : Hid (WR w W2 W2 W3.heap.size b ⟨aw, cw, whiles, leave, w1.heap.size, wr.heap.size, q.v, .slice ar l.xs.length kr, l⟩ p1 l1 j ∧ W2.heap[W.heap.size]? = some (KB y.b y.n y.t) ∧ ∃ r, W2.heap[lq]? = some (.loop r)) := by
          obtain ⟨r, hr⟩ := HLp.out
          have hr' := alloc_blk hr (KB y.b y.n y.t)
          have hne : W.heap.size ≠ lq := fun e => by have := lt_of_block hr; omega
          have hwi : WI w W2 b ⟨aw, cw, whiles, leave, w1.heap.size, wr.heap.size, q.v, .slice ar l.xs.length kr, l⟩ p1 l1 j := by
            rw [hW2]
            exact (HI'.out.mono hbA).loop hBw (grownBy_putObj' _ lq st) (fun k e => by cases e; exact ⟨hlq, r, hr'⟩)
          refine ⟨⟨hwi, fun _ _ _ _ h => h, KeepsR.refl _ _, fun g e => (hwi.keep g e).2⟩, ?_, ?_⟩
          · rw [hW2]
            exact (World.putObj_heap_other hne).trans (heap_alloc_new W (KB y.b y.n y.t))
          · obtain ⟨r', rfl⟩ := hst
            rw [hW2]
            exact ⟨r', World.putObj_heap_same (lt_of_block hr')⟩
        clear hW2 hbA HLp HI' hst
        have q11 := cell_blk R2.out.1.wi.was 0
        have q13 := cell_blk R2.out.1.wi.nn 0
        have hown := R2.out.1.wi.items
        obtain ⟨g, rfl, -, hlc, hcm, hgl, d0, d1, d2, -, d4, -, -⟩ := ritem hown hj
        rw [← HYX.out] at d0 d1 d2 d4
        obtain ⟨a0, a1, a2⟩ := cells3 R2.out.2.1
        have hi1 : (j : Int) < (l.xs.length : Int) := by omega
        have g1 : decide (l.xs.length ≤ j) = false := by simp; omega
        have e1 := fun w => key_neq y y w
        rw [K.same_self] at e1
        have e2 : (x != x) = false := by simp
        clear hown hlc hcm hgl
        gi_wp2
        refine round_region_quiet (by kernel_rfl) (by kernel_rfl) (by kernel_rfl) (fun ⟨_, _, h⟩ => h) ?_
        repeat (go_big_quiet_step (fail))
        refine wpQuiet_nil ?_
        intro _ hw'
        obtain ⟨nr, hw''⟩ := hw'
        subst hw''
        clear g1 q11 q13 d0 d1 d2 d4 a0 a1 a2 e1 e2
        have R3 := Lib.hid (R2.out.1.mono (belowN (Below.refl _ _) nr))
        have L3 : Hid (∃ r, (W2.drewN nr).heap[lq]? = some (.loop r)) := R2.out.2.2
        clear R2
        generalize hWn : W2.drewN nr = WA at R3 L3 ⊢
        clear hWn
        have q13 := cell_blk R3.out.wi.nn 0
        have q4 := cell_blk R3.out.wi.x4 0
        by_cases hwl : j < whiles.length
        · have gd : decide (j < whiles.length) = true := by simp [hwl]
          obtain ⟨gw, ow, haw, hgood, -⟩ := R3.out.wi.actW hwl
          have haw' : aw = some ⟨gw, ow, none⟩ := haw
          subst haw'
          clear haw
          obtain ⟨a, ha⟩ : ∃ a, a = whiles[j] := ⟨_, rfl⟩
          have hSany : Hid (∀ W p l', WI w W b ⟨some ⟨gw, ow, none⟩, cw, whiles, leave, w1.heap.size, wr.heap.size, q.v, .slice (some ⟨g, 0, none⟩) l.xs.length kr, l⟩ p l' j → (fun W => W.cell? ⟨w1.heap.size, 0, none⟩ = some (.pointer (some ⟨b, 0, none⟩)) ∧ W.cell? ⟨w.heap.size, 0, none⟩ = some (.slice (some ⟨gw, ow, none⟩) whiles.length cw) ∧ W.cell? ⟨wr.heap.size + 1 + 1, 0, none⟩ = some (.int .i64 j) ∧ W.cell? ⟨gw, ow + j * 5, none⟩ = some (.int .i64 a.kind) ∧ W.cell? ⟨gw, ow + j * 5 + 1, none⟩ = some (.int .i64 a.n) ∧ W.cell? ⟨gw, ow + j * 5 + 2, none⟩ = some (.bool a.k.b) ∧ W.cell? ⟨gw, ow + j * 5 + 3, none⟩ = some (.int .i64 a.k.n) ∧ W.cell? ⟨gw, ow + j * 5 + 4, none⟩ = some (.string a.k.t)) W) := Lib.hid (fun W p l' hwi => by
            obtain ⟨gw', ow', haw', -, e0, e1, e2, e3, e4⟩ := hwi.actW hwl
            cases haw'
            rw [← ha] at e0 e1 e2 e3 e4
            exact ⟨cell_blk hwi.x7 0, cell_blk hwi.x4 0, cell_blk hwi.nn 0, e0, e1, e2, e3, e4⟩)
          have hgood' : a.Good := by rw [ha]; exact hgood
          have hwj : (j : Int) < (whiles.length : Int) := by omega
          have hj0 : (0 : Int) ≤ (j : Int) := by omega
          have R3' := Lib.hid (R3.out.mono (Below.refl _ _).drew)
          have HD := does_any a hgood' WA.drew R3'.out.wi.below.size R3'.out.wi.tabs' R3'.out.wi.duo
          clear hgood hgood' ha
          gi_wp2
          clear q13 q4
          refine round_region_held (S := (fun W => W.cell? ⟨w1.heap.size, 0, none⟩ = some (.pointer (some ⟨b, 0, none⟩)) ∧ W.cell? ⟨w.heap.size, 0, none⟩ = some (.slice (some ⟨gw, ow, none⟩) whiles.length cw) ∧ W.cell? ⟨wr.heap.size + 1 + 1, 0, none⟩ = some (.int .i64 j) ∧ W.cell? ⟨gw, ow + j * 5, none⟩ = some (.int .i64 a.kind) ∧ W.cell? ⟨gw, ow + j * 5 + 1, none⟩ = some (.int .i64 a.n) ∧ W.cell? ⟨gw, ow + j * 5 + 2, none⟩ = some (.bool a.k.b) ∧ W.cell? ⟨gw, ow + j * 5 + 3, none⟩ = some (.int .i64 a.k.n) ∧ W.cell? ⟨gw, ow + j * 5 + 4, none⟩ = some (.string a.k.t))) (by kernel_rfl) (by kernel_rfl) (fun ⟨_, _, h⟩ => h) (hSany.out _ _ _ R3'.out.wi) (fun hHeld => ?_)
          refine wpAnyH_take (i := 0) (oi := ?o0) (v := ?v0) ?hi0 (by kernel_rfl) (by kernel_rfl) (by kernel_rfl) ?hq0 ?hy0 (by assumption) ?rest0
          case hi0 => simp only [List.getElem?_toArray, List.getElem?_cons_zero]; rfl
          case hq0 => exact fun _ _ _ h => h
          case hy0 =>
            refine Or.inl ⟨by rfl, ?_⟩
            intro w hSw; (try dsimp only at hSw); go_simp <;> (with_reducible rfl)
          (try simp only [Act.put, List.setIfInBounds_toArray, List.set_cons_zero, List.set_cons_succ])
          refine wpAnyH_take (i := 1) (oi := ?o1) (v := ?v1) ?hi1 (by kernel_rfl) (by kernel_rfl) (by kernel_rfl) ?hq1 ?hy1 (by assumption) ?rest1
          case hi1 => simp only [List.getElem?_toArray, List.getElem?_cons_succ, List.getElem?_cons_zero]; rfl
          case hq1 => exact fun _ _ _ h => h
          case hy1 =>
            refine Or.inl ⟨by rfl, ?_⟩
            intro w hSw; (try dsimp only at hSw); go_simp <;> (with_reducible rfl)
          (try simp only [Act.put, List.setIfInBounds_toArray, List.set_cons_zero, List.set_cons_succ])
          refine wpAnyH_take (i := 2) (oi := ?o2) (v := ?v2) ?hi2 (by kernel_rfl) (by kernel_rfl) (by kernel_rfl) ?hq2 ?hy2 (by assumption) ?rest2
          case hi2 => simp only [List.getElem?_toArray, List.getElem?_cons_succ, List.getElem?_cons_zero]; rfl
          case hq2 => exact fun _ _ _ h => h
          case hy2 =>
            refine Or.inl ⟨by rfl, ?_⟩
            intro w hSw; (try dsimp only at hSw); go_simp <;> (with_reducible rfl)
          (try simp only [Act.put, List.setIfInBounds_toArray, List.set_cons_zero, List.set_cons_succ])
          refine wpAnyH_take (i := 3) (oi := ?o3) (v := ?v3) ?hi3 (by kernel_rfl) (by kernel_rfl) (by kernel_rfl) ?hq3 ?hy3 (by assumption) ?rest3
          case hi3 => simp only [List.getElem?_toArray, List.getElem?_cons_succ, List.getElem?_cons_zero]; rfl
          case hq3 => exact fun _ _ _ h => h
          case hy3 =>
            refine Or.inl ⟨by rfl, ?_⟩
            intro w hSw; (try dsimp only at hSw); go_simp <;> (with_reducible rfl)
          (try simp only [Act.put, List.setIfInBounds_toArray, List.set_cons_zero, List.set_cons_succ])
          refine wpAnyH_take (i := 4) (oi := ?o4) (v := ?v4) ?hi4 (by kernel_rfl) (by kernel_rfl) (by kernel_rfl) ?hq4 ?hy4 (by assumption) ?rest4
          case hi4 => simp only [List.getElem?_toArray, List.getElem?_cons_succ, List.getElem?_cons_zero]; rfl
          case hq4 => exact fun _ _ _ h => h
          case hy4 =>
            refine Or.inl ⟨by rfl, ?_⟩
            intro w hSw; (try dsimp only at hSw); go_simp <;> (with_reducible rfl)
          (try simp only [Act.put, List.setIfInBounds_toArray, List.set_cons_zero, List.set_cons_succ])
          refine wpAnyH_ready (rs := [5]) (by kernel_rfl) (by simp) ?_
          refine AllReadyH.cons rfl (fun K hK => ?_) AllReadyH.nil
          go_simp
          refine HD.mono ?_
          rintro e W4 ⟨rfl, q4', D4, m4, g4⟩
          have R4 := Lib.hid (R3'.out.does D4 m4 g4)
          have L4 : Hid (∃ r, W4.heap[lq]? = some (.loop r)) := by
            obtain ⟨r, hr⟩ := L3.out
            exact ⟨r, (R3'.out.wi.kr 0 m4).same lq _ (Nat.zero_le _) hr rfl⟩
          refine hK.out _ _ ?_ (fun hHeld5 => ?_)
          · exact hSany.out _ _ _ R4.out.wi
          clear hK K hHeld hHeld5 D4 m4 g4 HD R3 R3' L3 hSany gd hwj
          (try simp only [Act.put, List.setIfInBounds_toArray, List.set_cons_zero, List.set_cons_succ])
          refine wpAnyH_done (by kernel_rfl) ?_ _
          have q7 := cell_blk R4.out.wi.x7 0
          gi_wp2
          refine ⟨trivial, (CallsIn.inRound lq (callsIn_wide.2 (all_fn (some ⟨b, 0, none⟩) _))).mono ?_⟩
          rintro e Wf ⟨rfl, rfl⟩
          have R5 := Lib.hid (R4.out.mono (below_alloc1 _ (.cells #[.pointer (some ⟨b, 0, none⟩)] 25)))
          have B5 := Lib.hid (heap_alloc_new W4 (.cells #[.pointer (some ⟨b, 0, none⟩)] 25))
          obtain ⟨r5, hr5⟩ := (⟨L4.out.choose, alloc_blk L4.out.choose_spec _⟩ : ∃ r, (W4.alloc (.cells #[.pointer (some ⟨b, 0, none⟩)] 25)).heap[lq]? = some (.loop r))
          have H5 := Lib.hid hr5
          have hB5 : w.heap.size ≤ (W4.alloc (.cells #[.pointer (some ⟨b, 0, none⟩)] 25)).heap.size := R5.out.wi.below.size
          have hC5 : W2.heap.size ≤ (W4.alloc (.cells #[.pointer (some ⟨b, 0, none⟩)] 25)).heap.size := R5.out.kr.size
          clear q7 hr5 R4 L4
          gi_wp2
          refine rangeG_inner (F := Fence.wide.inRound lq) (n := 3) rfl H5.out (by omega) (gf := 53) (lbs := #[.pointer (some ⟨W4.heap.size, 0, none⟩)]) rfl trivial (enters_of Tryd.func53 (by kernel_rfl) rfl) (SeqG.inRound lq (all_seq W4.heap.size 2 _ R5.out.wi.duo.lst B5.out)) (Below.refl _ _)
            (I := fun _ _ W => ∃ p', WR w W2 W W3.heap.size b ⟨some ⟨gw, ow, none⟩, cw, whiles, leave, w1.heap.size, wr.heap.size, q.v, .slice (some ⟨g, 0, none⟩) l.xs.length kr, l⟩ p' (stepL a l1) j) (Ix := fun x _ _ W => x = .exit 4 ∧ ∃ p', WR w W2 W W3.heap.size b ⟨some ⟨gw, ow, none⟩, cw, whiles, leave, w1.heap.size, wr.heap.size, q.v, .slice (some ⟨g, 0, none⟩) l.xs.length kr, l⟩ p' (stepL a l1) j) ?ibody ?istart ?idone ?istop
          case istart =>
            rintro c W6 W7 hb ⟨i7, m7⟩
            have S6 := R5.out.mono hb
            exact ⟨S6.wi.krS _ m7, _, S6.shared i7 m7⟩
          case ibody =>
            refine ⟨fun _ => rfl, KpL.trans, fun c W l o o' _ h ho => KpL.putObj h ho, fun c s W W' row ⟨p, h⟩ hg hr => ⟨p, h.loop hB5 hC5 hg hr⟩, fun x c s W W' row ⟨e, p, h⟩ hg hr => ⟨e, p, h.loop hB5 hC5 hg hr⟩, ?_⟩
            intro l6 c6 j6 W6 hl6 hloop6 HI6 hj6
            have H6 := Lib.hid HI6
            have H7 := Lib.hid hloop6
            clear HI6 hloop6
            gi_wp2
            refine ⟨KeepsR.refl _ _, fun _ _ _ _ h => h, H7.out, ?_⟩
            intro st7 W7 hW7 hst7
            have H8 : Hid (∃ p', WR w W2 W7 W3.heap.size b ⟨some ⟨gw, ow, none⟩, cw, whiles, leave, w1.heap.size, wr.heap.size, q.v, .slice (some ⟨g, 0, none⟩) l.xs.length kr, l⟩ p' (stepL a l1) j) := by
              obtain ⟨p', h⟩ := H6.out
              obtain ⟨r, hr⟩ := H7.out
              rw [hW7]
              exact ⟨p', h.loop hB5 hC5 (grownBy_putObj' _ l6 st7) (fun k e => by cases e; exact ⟨hl6, r, hr⟩)⟩
            clear hW7 hst7
            gi_wp2
            exact ⟨KeepsR.refl _ _, rfl, H8.out⟩
          case' idone => rintro c8 W8 ⟨p8, R8⟩
          case' istop => rintro x8 c8 j8 W8 hj8 ⟨rfl, p8, R8⟩
          all_goals
            have Q8 := Lib.hid R8
            clear R8
            have q13 := cell_blk Q8.out.wi.nn 0
            have f13 := free_blk Q8.out.wi.nn 0
            have q5 := cell_blk Q8.out.wi.x5 0
            have q11 := cell_blk Q8.out.wi.was 0
            by_cases hlv : (j : Int) = leave
            · have g1 : ((j : Int) == leave) = true := by simp [hlv]
              clear hlv
              gi_wp2
              exact ⟨(Q8.out.count _).kr, rfl, p8, (stepL a l1), (Q8.out.count _).wi⟩
            · have g1 : ((j : Int) == leave) = false := by simp [hlv]
              have hw : IntKind.i64.wrap ((j : Int) + 1) = (j : Int) + 1 := wrap_in (by omega) (by omega)
              have hw' : wrap64 ((j : Int) + 1) = (j : Int) + 1 := wrap64_in' (by omega) (by omega)
              clear hlv
              gi_wp2
              refine ⟨(Q8.out.count _).kr, (Q8.out.count _).kp, p8, (stepL a l1), ?_⟩
              have := (Q8.out.count ((j : Int) + 1)).wi
              rw [show (j : Int) + 1 = ((j + 1 : Nat) : Int) by omega] at this
              exact this
        · have gd : decide (j < whiles.length) = false := by simp [hwl]
          have q7 := cell_blk R3.out.wi.x7 0
          gi_wp2
          obtain ⟨W4, rfl⟩ : ∃ W4, W4 = WA := ⟨_, rfl⟩
          have R4 := R3
          have L4 := L3
          clear R3 L3 q13 q4 gd
          refine ⟨trivial, (CallsIn.inRound lq (callsIn_wide.2 (all_fn (some ⟨b, 0, none⟩) _))).mono ?_⟩
          rintro e Wf ⟨rfl, rfl⟩
          have R5 := Lib.hid (R4.out.mono (below_alloc1 _ (.cells #[.pointer (some ⟨b, 0, none⟩)] 25)))
          have B5 := Lib.hid (heap_alloc_new W4 (.cells #[.pointer (some ⟨b, 0, none⟩)] 25))
          obtain ⟨r5, hr5⟩ := (⟨L4.out.choose, alloc_blk L4.out.choose_spec _⟩ : ∃ r, (W4.alloc (.cells #[.pointer (some ⟨b, 0, none⟩)] 25)).heap[lq]? = some (.loop r))
          have H5 := Lib.hid hr5
          have hB5 : w.heap.size ≤ (W4.alloc (.cells #[.pointer (some ⟨b, 0, none⟩)] 25)).heap.size := R5.out.wi.below.size
          have hC5 : W2.heap.size ≤ (W4.alloc (.cells #[.pointer (some ⟨b, 0, none⟩)] 25)).heap.size := R5.out.kr.size
          clear q7 hr5 R4 L4
          gi_wp2
          refine rangeG_inner (F := Fence.wide.inRound lq) (n := 3) rfl H5.out (by omega) (gf := 53) (lbs := #[.pointer (some ⟨W4.heap.size, 0, none⟩)]) rfl trivial (enters_of Tryd.func53 (by kernel_rfl) rfl) (SeqG.inRound lq (all_seq W4.heap.size 2 _ R5.out.wi.duo.lst B5.out)) (Below.refl _ _)
            (I := fun _ _ W => ∃ p', WR w W2 W W3.heap.size b ⟨aw, cw, whiles, leave, w1.heap.size, wr.heap.size, q.v, .slice (some ⟨g, 0, none⟩) l.xs.length kr, l⟩ p' l1 j) (Ix := fun x _ _ W => x = .exit 4 ∧ ∃ p', WR w W2 W W3.heap.size b ⟨aw, cw, whiles, leave, w1.heap.size, wr.heap.size, q.v, .slice (some ⟨g, 0, none⟩) l.xs.length kr, l⟩ p' l1 j) ?jbody ?jstart ?jdone ?jstop
          case jstart =>
            rintro c W6 W7 hb ⟨i7, m7⟩
            have S6 := R5.out.mono hb
            exact ⟨S6.wi.krS _ m7, _, S6.shared i7 m7⟩
          case jbody =>
            refine ⟨fun _ => rfl, KpL.trans, fun c W l o o' _ h ho => KpL.putObj h ho, fun c s W W' row ⟨p, h⟩ hg hr => ⟨p, h.loop hB5 hC5 hg hr⟩, fun x c s W W' row ⟨e, p, h⟩ hg hr => ⟨e, p, h.loop hB5 hC5 hg hr⟩, ?_⟩
            intro l6 c6 j6 W6 hl6 hloop6 HI6 hj6
            have H6 := Lib.hid HI6
            have H7 := Lib.hid hloop6
            clear HI6 hloop6
            gi_wp2
            refine ⟨KeepsR.refl _ _, fun _ _ _ _ h => h, H7.out, ?_⟩
            intro st7 W7 hW7 hst7
            have H8 : Hid (∃ p', WR w W2 W7 W3.heap.size b ⟨aw, cw, whiles, leave, w1.heap.size, wr.heap.size, q.v, .slice (some ⟨g, 0, none⟩) l.xs.length kr, l⟩ p' l1 j) := by
              obtain ⟨p', h⟩ := H6.out
              obtain ⟨r, hr⟩ := H7.out
              rw [hW7]
              exact ⟨p', h.loop hB5 hC5 (grownBy_putObj' _ l6 st7) (fun k e => by cases e; exact ⟨hl6, r, hr⟩)⟩
            clear hW7 hst7
            gi_wp2
            exact ⟨KeepsR.refl _ _, rfl, H8.out⟩
          case' jdone => rintro c8 W8 ⟨p8, R8⟩
          case' jstop => rintro x8 c8 j8 W8 hj8 ⟨rfl, p8, R8⟩
          all_goals
            have Q8 := Lib.hid R8
            clear R8
            have q13 := cell_blk Q8.out.wi.nn 0
            have f13 := free_blk Q8.out.wi.nn 0
            have q5 := cell_blk Q8.out.wi.x5 0
            have q11 := cell_blk Q8.out.wi.was 0
            by_cases hlv : (j : Int) = leave
            · have g1 : ((j : Int) == leave) = true := by simp [hlv]
              clear hlv
              gi_wp2
              exact ⟨(Q8.out.count _).kr, rfl, p8, l1, (Q8.out.count _).wi⟩
            · have g1 : ((j : Int) == leave) = false := by simp [hlv]
              have hw : IntKind.i64.wrap ((j : Int) + 1) = (j : Int) + 1 := wrap_in (by omega) (by omega)
              have hw' : wrap64 ((j : Int) + 1) = (j : Int) + 1 := wrap64_in' (by omega) (by omega)
              clear hlv
              gi_wp2
              refine ⟨(Q8.out.count _).kr, (Q8.out.count _).kp, p8, l1, ?_⟩
              have := (Q8.out.count ((j : Int) + 1)).wi
              rw [show (j : Int) + 1 = ((j + 1 : Nat) : Int) by omega] at this
              exact this
      case' done => rintro Dm c W hD ⟨p1, l1, HI⟩ hK
      case' stop =>
        rintro Dm x c j W hD hj ⟨rfl, p1, l1, HI⟩ hK
        refine wpIn_wide.2 ?_
      all_goals
        have S1 := Lib.hid HI
        have HKD : Hid (W.heap[Dm]? = some (.deferred (some [])) ∧ w.heap.size + 3 ≤ Dm) := ⟨hK, by have := lt_of_block S0.out.x6; omega⟩
        have q13 := cell_blk S1.out.nn 0
        have q11 := cell_blk S1.out.was 0
        have e0 : ((l.xs.length : Int) != l.xs.length) = false := by simp
        have hlen := S0.out.duo.lst.ok.len
        clear HI hK hD S0 c0 c1 q7 q7' HP hBw
        go_wp2_with fail
        clear q13 q11 e0
        have S2 := Lib.hid (S1.out.mono (below_alloc1 W (.cells #[.int .i64 0] 3)))
        have M2 := Lib.hid (heap_alloc_new W (.cells #[.int .i64 0] 3))
        have D2 := Lib.hid (alloc_blk HKD.out.1 (.cells #[.int .i64 0] 3))
        have hM : Hid (w.heap.size + 3 ≤ W.heap.size) := lt_of_block S1.out.x6
        have HMX : Hid (W.heap.size ≠ wr.heap.size + 1 + 1) := Lib.hid (fun e => by have h := lt_of_block S1.out.nn; have h' : wr.heap.size + 1 + 1 < W.heap.size := h; omega)
        generalize hWB : W.alloc _ = W4 at S2 M2 D2 ⊢
        clear hWB S1
        have hB4 : w.heap.size ≤ W4.heap.size := S2.out.below.size
        refine (wpIn_wide (n := 5)).1 ?_
        refine rangeG_outer (F := Fence.wide) (n := 5) rfl (by omega) (gf := 53) (lbs := #[.pointer (some ⟨wr.heap.size + 1, 0, none⟩)]) rfl trivial (enters_of Tryd.func53 (by kernel_rfl) rfl) (all_seq (wr.heap.size + 1) 4 _ S2.out.duo.lst S2.out.xa) (Below.refl _ _)
          (I := fun _ m W' => (WI w W' b ⟨aw, cw, whiles, leave, w1.heap.size, wr.heap.size, q.v, .slice ar l.xs.length kr, l⟩ ⟨true, p1.v, p1.mb, p1.c, p1.rv⟩ l1 l.xs.length ∧ W'.heap[W.heap.size]? = some (.cells #[.int .i64 m] 3 (0, 0))) ∧ W'.heap[Dm]? = some (.deferred (some []))) (Ix := fun _ _ _ _ => False) ?body2 ?start2 ?done2 ?stop2
        case stop2 => exact fun _ _ _ _ _ _ _ h => h.elim
        case start2 =>
          rintro c W5 W6 hb ⟨i6, m6⟩
          have S5 := S2.out.mono hb
          have k5 := (hb.block _ (lt_of_block M2.out)).trans M2.out
          have d5 := (hb.block _ (lt_of_block D2.out)).trans D2.out
          refine ⟨S5.krS _ m6, ⟨S5.shared i6 m6, m6.blk k5 (blk_ne k5 S5.duo.lst.blk (by decide))⟩, m6.blk d5 (fun e => ?_)⟩
          rw [e, S5.duo.lst.blk] at d5
          cases d5
        case body2 =>
          refine ⟨fun _ => rfl, KpL.trans, fun c W l o o' _ h ho => KpL.putObj h ho, fun c s W' W'' row ⟨⟨h, hm⟩, hd⟩ hg hr => ⟨⟨h.loop hB4 hg hr, grown_blk hm (cells_noloop _ _ _) hg hr⟩, grown_blk hd (fun x e => by cases e) hg hr⟩, fun _ _ _ _ _ _ h _ _ => h, ?_⟩
          intro lq c2 j W5 hlq hloop HI hj
          obtain ⟨⟨h5, m5⟩, d5⟩ := HI
          have H5 := Lib.hid (⟨h5, m5, d5⟩ : _ ∧ _ ∧ _)
          have HL := Lib.hid hloop
          obtain ⟨y, x, hyx⟩ : ∃ y x, (y, x) = l1.xs[j] := ⟨_, _, rfl⟩
          have he : encL l1.xs j = #[.agg #[.bool y.b, .int .i64 y.n, .string y.t], .int .i64 x] := by unfold encL; rw [itAt_lt hj, ← hyx]; rfl
          have HYX := Lib.hid hyx
          have hlen1 := h5.duo.lst.ok.len
          rw [he]
          clear h5 m5 d5 hloop hyx he S2 M2 D2
          gi_wp2
          have hbA := below_alloc1 W5 (KB y.b y.n y.t)
          refine ⟨KeepsR.of_below _ hbA, fun k cs t _ hc => alloc_blk hc _, (by obtain ⟨r, hr⟩ := HL.out; exact ⟨r, alloc_blk hr _⟩), ?_⟩
          intro st W6 hW6 hst
          have R6 : Hid (WI w W6 b ⟨aw, cw, whiles, leave, w1.heap.size, wr.heap.size, q.v, .slice ar l.xs.length kr, l⟩ ⟨true, p1.v, p1.mb, p1.c, p1.rv⟩ l1 l.xs.length ∧ W6.heap[W.heap.size]? = some (.cells #[.int .i64 j] 3 (0, 0)) ∧ W6.heap[Dm]? = some (.deferred (some [])) ∧ W6.heap[W5.heap.size]? = some (KB y.b y.n y.t)) := by
            obtain ⟨r, hr⟩ := HL.out
            have hr' := alloc_blk hr (KB y.b y.n y.t)
            have hg := grownBy_putObj' (W5.alloc (KB y.b y.n y.t)) lq st
            have hrr : ∀ k, some lq = some k → W4.heap.size ≤ k ∧ ∃ o : Loop, (W5.alloc (KB y.b y.n y.t)).heap[k]? = some (.loop o) := fun k e => by cases e; exact ⟨hlq, r, hr'⟩
            rw [hW6]
            exact ⟨(H5.out.1.mono hbA).loop hB4 hg hrr, grown_blk (alloc_blk H5.out.2.1 _) (cells_noloop _ _ _) hg hrr, grown_blk (alloc_blk H5.out.2.2 _) (fun x e => by cases e) hg hrr, grown_blk (heap_alloc_new _ _) (cells_noloop _ _ _) hg hrr⟩
          clear hW6 hbA HL H5 hst
          obtain ⟨c0, -⟩ := R6.out.1.duo.ref.cells
          have hown := R6.out.1.duo.ref.own
          obtain ⟨ar1, kr1, hrv, -⟩ := hown.any
          rw [List.length_map] at hrv
          rw [hrv] at c0 hown
          obtain ⟨g1, rfl, -, hlc, hcm, hgl, d0, d1, d2, -⟩ := ritem hown hj
          rw [← HYX.out] at d0 d1 d2
          obtain ⟨a0, a1, a2⟩ := cells3 R6.out.2.2.2
          have q16 := cell_blk R6.out.2.1 0
          have hi1 : (j : Int) < (l1.xs.length : Int) := by omega
          have gd : decide (l1.xs.length ≤ j) = false := by simp; omega
          have e1 := fun w => key_neq y y w
          rw [K.same_self] at e1
          clear hown hlc hcm hgl hrv
          gi_wp2
          refine round_region_quiet (by kernel_rfl) (by kernel_rfl) (by kernel_rfl) (fun ⟨_, _, h⟩ => h) ?_
          repeat (go_big_quiet_step (fail))
          refine wpQuiet_nil ?_
          intro _ hw'
          obtain ⟨nr, hw''⟩ := hw'
          subst hw''
          clear gd c0 q16 d0 d1 d2 a0 a1 a2 e1
          have hbD := belowN (Below.refl W6.heap.size W6) nr
          have R7 : Hid (WI w (W6.drewN nr) b ⟨aw, cw, whiles, leave, w1.heap.size, wr.heap.size, q.v, .slice ar l.xs.length kr, l⟩ ⟨true, p1.v, p1.mb, p1.c, p1.rv⟩ l1 l.xs.length ∧ (W6.drewN nr).heap[W.heap.size]? = some (.cells #[.int .i64 j] 3 (0, 0)) ∧ (W6.drewN nr).heap[Dm]? = some (.deferred (some []))) := ⟨R6.out.1.mono hbD, R6.out.2.1, R6.out.2.2.1⟩
          have q16 := cell_blk R7.out.2.1 0
          have f16 := free_blk R7.out.2.1 0
          have hw : IntKind.i64.wrap ((j : Int) + 1) = (j : Int) + 1 := wrap_in (by omega) (by omega)
          have hw' : wrap64 ((j : Int) + 1) = (j : Int) + 1 := wrap64_in' (by omega) (by omega)
          clear hbD
          gi_wp2
          obtain ⟨w7, m7⟩ := R7.out.1.cellAt R7.out.2.1 (HMX.out) (by have := hM.out; omega) (.int .i64 ((j : Int) + 1))
          have m8 : Mod (fun q => q = W.heap.size) W6 ((W6.drewN nr).setCell ⟨W.heap.size, 0, none⟩ (.int .i64 ((j : Int) + 1))) := ((Mod.refl (fun q => q = W.heap.size) W6).drewN nr).setCell _ _ (fun _ => rfl)
          refine ⟨KeepsR.of_mod _ m8 (fun q o e ho => by rw [e, R6.out.2.1] at ho; cases ho; rfl), fun g cs t e hc => m8.blk hc (fun x => ?_), ⟨w7, ?_⟩, m8.blk R6.out.2.2.1 (fun e => ?_)⟩
          · obtain ⟨cur, hcur⟩ := owns_type R6.out.1.duo.lst.own e
            exact blk_ne hcur R6.out.2.1 (by decide) x
          · have := set_blk R7.out.2.1 0 (.int .i64 ((j : Int) + 1))
            rw [show (j : Int) + 1 = ((j + 1 : Nat) : Int) by omega] at this
            simpa using this
          · have := R6.out.2.2.1
            rw [e, R6.out.2.1] at this
            cases this
        case done2 =>
          rintro D2m c W5 hD ⟨⟨HI, HM⟩, HD1⟩ hK
          have S5 := Lib.hid HI
          have H5 : Hid (W5.heap[D2m]? = some (.deferred (some [])) ∧ W5.heap[Dm]? = some (.deferred (some [])) ∧ Dm < D2m) := ⟨hK, HD1, Nat.lt_of_lt_of_le (lt_of_block D2.out) hD⟩
          have q16 := cell_blk HM 0
          obtain ⟨c0, c1⟩ := S5.out.duo.ref.cells
          obtain ⟨ar1, kr1, hrv, -⟩ := S5.out.duo.ref.own.any
          rw [List.length_map] at hrv
          rw [hrv] at c0
          have q7 := cell_blk S5.out.x7 0
          have HS := stands_any W5 S5.out.below.size S5.out.tabs' S5.out.duo
          have e0 : ((l1.xs.length : Int) == l1.xs.length) = true := by simp
          clear HI HM HD1 hK hD hrv c1
          go_wp2_with fail
          refine HS.mono ?_
          rintro e W6 ⟨rfl, i6, j6, m6⟩
          have S6 := Lib.hid (S5.out.shared i6 m6)
          have nd : ∀ {D : Nat}, W5.heap[D]? = some (.deferred (some [])) → W6.heap[D]? = some (.deferred (some [])) := fun hd => m6.blk hd (fun e => by rw [e, S5.out.duo.lst.blk] at hd; cases hd)
          have H6 := Lib.hid (⟨nd H5.out.1, nd H5.out.2.1⟩ : _ ∧ _)
          have q6 := cell_blk S6.out.x6 0
          have f6 := free_blk S6.out.x6 0
          clear i6 j6 m6 HS q16 c0 q7 nd
          go_wp2_with fail
          obtain ⟨x1, x0, xc, xb⟩ := fin2 S6.out.below S6.out.x6 H6.out.1 H6.out.2 H5.out.2.2 HKD.out.2
          refine ⟨by simp, .inl ⟨_, _, rfl, run_takeDeferred x1, ?_⟩⟩
          refine ⟨by simp, .inl ⟨_, _, rfl, run_takeDeferred x0, ?_⟩⟩
          refine ⟨.bool true, ?_, rfl, xb⟩
          simp [results, Tryd.results7, go_sem, xc]
end Go.Proofs.YtgpdhmgbmhfooaaDoor
