/-
  ListAppends: the walk.
-/
import Derived.Test.YtgpdhmgbmhfooaaDoorAppT07
import Derived.Deep.LoopGhost
import Derived.Deep.DeepCutAuto
import Derived.Deep.CutBlock
namespace Go.Proofs.YtgpdhmgbmhfooaaDoor
open Go.RowKit Go.Shelf

attribute [local go_sem] Oper.semAt_some

theorem info23 : (Tryd.prog.info? 23).map (fun i => (i.zero, i.size, i.bytes)) = some (some (.agg #[.bool false, .int .i64 0, .string .empty]), 3, 32) := by kernel_rfl
/-- At the loop's head: n rounds at most are still to come. -/
def LoopI (w : World) (b N1 : Nat) (ao : Option Addr) (acts : List A) (cap : Nat) (n : Nat) (a : Act) (W : World) : Prop :=
  ∃ (k : Nat) (m : Int) (p : PtL) (l : LS) (Ds : List Nat), k ≤ acts.length ∧ n = acts.length - k ∧
    Fr a Ds (.slice ao acts.length cap) (.pointer (some ⟨w.heap.size, 0, none⟩)) (.pointer (some ⟨N1, 0, none⟩)) (.int .i64 m) (.slice ao acts.length cap) (.int .i64 acts.length) (.int .i64 k) ∧
    AB0 w W b N1 p l Ds ∧ AJ l m ∧ (-9223372036854775808 ≤ m ∧ m ≤ 9223372036854775807)

set_option maxRecDepth 100000 in
set_option maxHeartbeats 6400000 in
theorem appends_any (cap : Nat) (ao : Option Addr) (acts : List A) (w : World) (hl : Lies w 5 ao (acts.map A.cells)) (hg : ∀ a ∈ acts, a.Good) (hn : acts.length ≤ 9223372036854775807) (ht : Tabs w) :
    Calls Tryd.prog 4 #[.slice ao acts.length cap] w (BoolPost w true) := by
  have HT := Lib.hid (⟨ht, hl, hg⟩ : _ ∧ _ ∧ _)
  have Z := Lib.hid (heap_alloc_new w (.cells #[.bool false] 4))
  clear ht hl hg
  refine callsIn_wide.1 (callsIn_of_wp_marks (F := Fence.wide) (n := 5) Tryd.func4 rfl trivial ?_ rfl)
  refine wpIn_wide.2 ?_
  simp only [Tryd.ntmps4, List.size_toArray, List.length_cons, List.length_nil, Nat.reduceAdd, Nat.reduceSub, Array.replicate_succ, Array.replicate_zero, List.push_toArray, List.append_toArray, List.nil_append, List.cons_append]
  go_wp2_with fail
  refine (lnew_any _).mono ?_
  rintro e w1 ⟨b, mb, rfl, i1, hb1, hm1, hbel⟩
  have hs0 : (w.alloc (.cells #[.bool false] 4)).heap.size = w.heap.size + 1 := by simp
  have B1 := Lib.hid ((below_alloc1 w (.cells #[.bool false] 4)).trans (hbel.mono (by rw [hs0]; omega)))
  have Z1 := Lib.hid ((hbel.block _ (lt_of_block Z.out)).trans Z.out)
  have I1 := Lib.hid (⟨i1, hb1, hm1⟩ : _ ∧ _ ∧ _)
  have HA := lalive_any (w1.alloc (.cells #[.pointer (some ⟨b, 0, none⟩)] 25)) (HT.out.1.mono (B1.out.trans ((below_alloc1 _ _).mono B1.out.size)))
  have q3 := cell_blk (heap_alloc_new w1 (.cells #[.pointer (some ⟨b, 0, none⟩)] 25)) 0
  clear i1 hb1 hm1 hbel hs0 Z
  go_wp2_with fail
  refine HA.mono ?_
  rintro e w2 ⟨rfl, hb⟩
  have S0 : Hid (AB0 w w2 b w1.heap.size ⟨false, .slice none 0 0, mb⟩ LS.new []) := by
    have hbA := below_alloc1 w1 (.cells #[.pointer (some ⟨b, 0, none⟩)] 25)
    have hb2 : Below w1.heap.size w1 w2 := hbA.trans (hb.mono hbA.size)
    have hw : (w.alloc (.cells #[.bool false] 4)).heap.size = w.heap.size + 1 := by simp
    obtain ⟨i1, hb1, hm1⟩ := I1.out
    rw [hw] at hb1 hm1
    exact ⟨HT.out.1, B1.out.trans (hb2.mono B1.out.size), i1.below hb2, (by omega), fun g e => (by cases e), (by show w.heap.size ≤ mb; omega), (hb2.block _ (lt_of_block Z1.out)).trans Z1.out, (hb.block _ (lt_of_block (heap_alloc_new w1 (.cells #[.pointer (some ⟨b, 0, none⟩)] 25)))).trans (heap_alloc_new w1 (.cells #[.pointer (some ⟨b, 0, none⟩)] 25)), .nil⟩
  clear q3 HA hb B1 Z1 I1
  go_wp2_with fail
  go_outline
  refine wp_loop_ghost_k (LoopI w b w1.heap.size ao acts cap) acts.length ⟨0, -1, _, _, [], Nat.zero_le _, rfl, ⟨rfl, rfl, rfl, rfl, rfl, rfl, rfl, rfl, rfl⟩, S0.out, AJ.new, by decide, by decide⟩ ?_
  rintro n a W ⟨k, m, p, l, Ds, hk, rfl, hF, S, J, hm⟩ JJ KK hJ hK
  obtain ⟨g, rfl⟩ := hF.out
  clear hF S0
  have HS := Lib.hid (⟨S, J, hm⟩ : _ ∧ _ ∧ _)
  clear S J hm
  have HJK := Lib.hid (⟨hJ, hK⟩ : _ ∧ _)
  clear hJ hK
  by_cases hlt : k < acts.length
  · obtain ⟨ga, off, rfl, hgl, -, hc⟩ := HT.out.2.1 k (A.cells acts[k]) (by simp [hlt])
    have hbC : ∀ i, W.cell? ⟨ga, i, none⟩ = w.cell? ⟨ga, i, none⟩ := fun i => HS.out.1.below.cell (p := ⟨ga, i, none⟩) hgl
    have d0 := (hbC _).trans (hc 0 _ rfl)
    have d1 := (hbC _).trans (hc 1 _ rfl)
    have d2 := (hbC _).trans (hc 2 _ rfl)
    have d3 := (hbC _).trans (hc 3 _ rfl)
    have d4 := (hbC _).trans (hc 4 _ rfl)
    simp only [Nat.add_zero] at d0 d1 d2 d3 d4
    have HG : Hid ((acts[k]).Good) := HT.out.2.2 _ (List.getElem_mem hlt)
    have hi1 : (k : Int) < (acts.length : Int) := by omega
    obtain ⟨a, ha⟩ : ∃ a, a = acts[k] := ⟨_, rfl⟩
    rw [← ha] at d0 d1 d2 d3 d4 HG
    clear ha hc hbC hgl
    have S1 : Hid (AS w ((W.alloc (AB a)).alloc (.cells #[.slice none 0 0] 37)) b w1.heap.size W.heap.size (W.heap.size + 1) p l Ds a (.slice none 0 0) []) := by
      have y0 := heap_alloc_new W (AB a)
      have y1 := heap_alloc_new (W.alloc (AB a)) (.cells #[.slice none 0 0] 37)
      simp only [World.size_alloc] at y1
      exact ⟨HS.out.1.mono (below2 W _ _), alloc_blk y0 _, y1, by have := HS.out.1.below.size; omega, Owns.empty _ _ _, fun g e => (by cases e)⟩
    have q3 := cell_blk S1.out.b0.x3 0
    go_wp2_with fail
    generalize hW : (W.alloc _).alloc _ = W3 at S1 q3 ⊢
    clear hW
    refine (all_fn (some ⟨b, 0, none⟩) _).mono ?_
    rintro e Wf ⟨rfl, rfl⟩
    have F0 := Lib.hid (S1.out.mono (below_alloc1 W3 (.cells #[.pointer (some ⟨b, 0, none⟩)] 25)))
    have X0 := Lib.hid (heap_alloc_new W3 (.cells #[.pointer (some ⟨b, 0, none⟩)] 25))
    clear S1 q3 d0 d1 d2 d3 d4
    go_wp2_with fail
    have hBw : w.heap.size ≤ (W3.alloc (.cells #[.pointer (some ⟨b, 0, none⟩)] 25)).heap.size := F0.out.b0.below.size
    refine (wpIn_wide (n := 5)).1 ?_
    refine rangeG_outer (F := Fence.wide) (n := 5) rfl (by omega) (gf := 53) (lbs := #[.pointer (some ⟨W3.heap.size, 0, none⟩)]) rfl trivial (enters_of Tryd.func53 (by kernel_rfl) rfl) (all_seq W3.heap.size 4 _ F0.out.b0.lst X0.out) (Below.refl _ _)
      (I := fun _ j W' => ∃ vk, AS w W' b w1.heap.size W.heap.size (W.heap.size + 1) ⟨true, p.v, p.mb⟩ l Ds a vk ((l.xs.map (·.1)).take j)) (Ix := fun _ _ _ _ => False) ?body ?start ?done ?stop
    case stop => exact fun _ _ _ _ _ _ _ h => h.elim
    case start =>
      rintro c W4 W5 hb ⟨i5, m5⟩
      have S := F0.out.mono hb
      exact ⟨S.b0.krS _ m5, _, S.shared i5 m5⟩
    case body =>
      refine ⟨fun _ => rfl, KpL.trans, fun c W l o o' _ h ho => KpL.putObj h ho, fun c s W W' row ⟨vk, h⟩ hg hr => ⟨vk, h.loop hBw hg hr⟩, fun x c s W W' row h _ _ => h.elim, ?_⟩
      intro lq c j W5 hlq hloop HI hj
      obtain ⟨vk, HI⟩ := HI
      have HI' := Lib.hid HI
      have HLp := Lib.hid hloop
      obtain ⟨y, x, hyx⟩ : ∃ y x, (y, x) = l.xs[j] := ⟨_, _, rfl⟩
      have he : encL l.xs j = #[.agg #[.bool y.b, .int .i64 y.n, .string y.t], .int .i64 x] := by unfold encL; rw [itAt_lt hj, ← hyx]; rfl
      have HYX := Lib.hid hyx
      rw [he]
      clear HI hloop hyx he
      gi_wp2
      have hbA := below_alloc1 W5 (KB y.b y.n y.t)
      refine ⟨KeepsR.of_below _ hbA, fun k cs t _ hc => alloc_blk hc _, (by obtain ⟨r, hr⟩ := HLp.out; exact ⟨r, alloc_blk hr _⟩), ?_⟩
      intro st W6 hW6 hst
      have R6 : Hid (AS w W6 b w1.heap.size W.heap.size (W.heap.size + 1) ⟨true, p.v, p.mb⟩ l Ds a vk ((l.xs.map (·.1)).take j) ∧ W6.heap[W5.heap.size]? = some (KB y.b y.n y.t)) := by
        obtain ⟨r, hr⟩ := HLp.out
        have hr' := alloc_blk hr (KB y.b y.n y.t)
        have hne : W5.heap.size ≠ lq := fun e => by have := lt_of_block hr; omega
        rw [hW6]
        exact ⟨(HI'.out.mono hbA).loop hBw (grownBy_putObj' _ lq st) (fun k e => by cases e; exact ⟨hlq, r, hr'⟩), (World.putObj_heap_other hne).trans (heap_alloc_new W5 (KB y.b y.n y.t))⟩
      clear hW6 hst hbA HI' HLp
      have q7 := cell_blk R6.out.1.x7 0
      obtain ⟨a0, a1, a2⟩ := cells3 R6.out.2
      have O6 : Hid (Owns (W6.alloc (KB y.b y.n y.t)) 23 3 vk (((l.xs.map (·.1)).take j).map K.cells)) := R6.out.1.rows.mod (Mod.of_below (F := fun _ => False) (below_alloc1 W6 (KB y.b y.n y.t))) (fun _ _ x => x)
      have hlen := F0.out.b0.lst.ok.len
      have hsz : (((l.xs.map (·.1)).take j).map K.cells).length ≤ 2048 := by simp; omega
      have r1 : Hid ((((l.xs.map (·.1)).take j).map K.cells).length + [y.cells].length ≤ maxLen) := by show _ ≤ maxLen; unfold maxLen; simp only [List.length_singleton]; omega
      have r2 : Hid (((((l.xs.map (·.1)).take j).map K.cells).length + [y.cells].length) * 32 ≤ 140737488355328) := by show _ ≤ _; simp only [List.length_singleton]; omega
      have hjl : (((l.xs.map (·.1)).take j).map K.cells).length = j := by simp; omega
      obtain ⟨av, cv, hvk, -⟩ := O6.out.any
      rw [hjl] at hvk
      subst hvk
      clear hjl
      have R7 := Lib.hid (R6.out.1.mono (below_alloc1 W6 (KB y.b y.n y.t)))
      have X7 : Hid (∀ w7, (W6.alloc (KB y.b y.n y.t)).grownBy w7 (Value.slice av j cv).ownBlock → w7.heap[W.heap.size + 1]? = some (.cells #[.slice av j cv] 37 (0, 0))) := fun w7 g7 =>
        (g7.block _ (lt_of_block R7.out.x7) (fun e => by
          obtain ⟨cur, hc⟩ := owns_type R7.out.rows e.symm
          exact blk_ne R7.out.x7 hc (by decide) rfl)).trans R7.out.x7
      clear hlen hsz
      gi_wp2_with (gi_at_builtin; refine wpListIn_append_rows rfl (.tmp 35) (.tmp 37) 37 rfl 23 _ 3 32 Tryd.underlying37 info23 rfl (by decide) (.slice av j cv) (((l.xs.map (·.1)).take j).map K.cells) rfl O6.out (some ⟨W6.heap.size, 0, none⟩) 1 1 [y.cells] (by rfl) rfl (fun e => by cases e) (lies_new W6 y.cells 23 rfl) (by simp [K.cells, Value.oneCell']) (by simp [K.cells]) r1.out (by have h := r2.out; omega) ?_; intro v7 w7 o7 g7 n7; obtain ⟨a7, c7, hv7, -⟩ := o7.any; generalize (List.length _) = L7 at hv7; subst hv7; have O7 := Lib.hid o7; have G7 := Lib.hid (⟨g7, n7⟩ : _ ∧ _); have f7 := free_blk (X7.out _ g7) 0; have q7' := cell_blk (X7.out _ g7) 0; clear o7 g7 n7)
      obtain ⟨hP, hM⟩ := R7.out.push O7.out G7.out.1 G7.out.2
      have hB6 := below_alloc1 W6 (KB y.b y.n y.t)
      have hks : (l.xs.map (·.1)).take j ++ [y] = (l.xs.map (·.1)).take (j + 1) := by
        rw [← List.take_append_getElem (by simpa using hj)]
        simp [← HYX.out]
      rw [hks] at hP
      refine ⟨(KeepsR.of_below _ hB6).trans (KeepsR.of_mod _ hM (fun q o e ho => ?_)), fun g cs t e hc => hM.blk (alloc_blk hc _) (fun x => ?_), _, hP⟩
      · rcases e with e | e
        · obtain ⟨cur, hc⟩ := owns_type R7.out.rows e
          rw [hc] at ho; cases ho; rfl
        · rw [e, R7.out.x7] at ho; cases ho; rfl
      · obtain ⟨cur, hcur⟩ := owns_type R7.out.b0.lst.own e
        rcases x with x | x
        · exact owns_ne R7.out.rows hcur (by decide) x
        · exact blk_ne hcur R7.out.x7 (by decide) x
    case done =>
      rintro D c W5 hD ⟨vk, HI⟩ hK
      obtain ⟨ks, hks⟩ : ∃ ks, ks = l.xs.map (·.1) := ⟨_, rfl⟩
      rw [← hks, List.take_of_length_le (by rw [hks]; simp)] at HI
      have HKS := Lib.hid hks
      have hlen : ks.length ≤ 2048 := by rw [hks]; simpa using F0.out.b0.lst.ok.len
      have S2 : Hid (AS w W5 b w1.heap.size W.heap.size (W.heap.size + 1) ⟨true, p.v, p.mb⟩ l (D :: Ds) a vk ks) := by
        have h7 := lt_of_block F0.out.x7
        have hB := HS.out.1.below.size
        refine HI.mark (fun h => ?_) (by omega) hK
        have := HS.out.1.marks.lt h
        omega
      clear hks HI hK hD F0 X0
      have hkw := kind5_wrap (kind := a.kind)
      have q3 := cell_blk S2.out.b0.x3 0
      obtain ⟨x0, x1, x2, x3, x4⟩ : W5.cell? ⟨W.heap.size, 0, none⟩ = some (.int .i64 a.kind) ∧ W5.cell? ⟨W.heap.size, 1, none⟩ = some (.int .i64 a.n) ∧ W5.cell? ⟨W.heap.size, 2, none⟩ = some (.bool a.k.b) ∧ W5.cell? ⟨W.heap.size, 3, none⟩ = some (.int .i64 a.k.n) ∧ W5.cell? ⟨W.heap.size, 4, none⟩ = some (.string a.k.t) :=
        ⟨cell_blk S2.out.x6 0, cell_blk S2.out.x6 1, cell_blk S2.out.x6 2, cell_blk S2.out.x6 3, cell_blk S2.out.x6 4⟩
      go_upto_block 4 with fail
      go_cut [4] from 28 to 139 (fun v4 wx => ∃ (q : PtL) (l' : LS) (m' : Int), v4 = .int .i64 m' ∧ Hid (AS w wx b w1.heap.size W.heap.size (W.heap.size + 1) q l' (D :: Ds) a vk ks) ∧ Hid (AJ l' m' ∧ Left l.xs l'.xs ∧ -9223372036854775808 ≤ m' ∧ m' ≤ 9223372036854775807))
      case first =>
        have hgm := HS.out.2.2
        rcases kind5_cases a.kind with hk | hk | hk | hk | hk
        · unfold kindOf5 at hk
          obtain ⟨n, hn⟩ : ∃ n, n = a.k.norm := ⟨_, rfl⟩
          obtain ⟨e0, he0⟩ : ∃ e, e = (setP a.k a.n l).1 := ⟨_, rfl⟩
          have HN : ∀ W, Tabs W → Calls Tryd.prog 15 #[.agg #[.bool a.k.b, .int .i64 a.k.n, .string a.k.t]] W (fun e w' => e = .returned (.agg #[.bool n.b, .int .i64 n.n, .string n.t]) ∧ Below W.heap.size W w') := fun W hT => by rw [hn]; exact norm_any a.k HG.out.key W hT
          have HC : ∀ W (q : PtL), Tabs W → ListIs W b q.sh q.v q.mb l → Calls Tryd.prog 19 #[.pointer (some ⟨b, 0, none⟩), .agg #[.bool a.k.b, .int .i64 a.k.n, .string a.k.t], .int .i64 a.n] W (SetPost W b q.sh q.v q.mb (e0, (setP a.k a.n l).2)) := fun W q hT hL => by
            rw [he0]; exact set_any a.n HG.out.key W hT hL
          have HX := Lib.hid (⟨hn, he0⟩ : _ ∧ _)
          have hnb : -9223372036854775808 ≤ n.n ∧ n.n ≤ 9223372036854775807 := by rw [hn]; exact ⟨(K.norm_good HG.out.key).lo, (K.norm_good HG.out.key).hi⟩
          clear hn he0
          go_wp2_with fail
          refine (HN _ S2.out.b0.tabsW).mono ?_
          rintro e w4 ⟨rfl, hb⟩
          have S3 := Lib.hid ((S2.out.mono hb).mono (below_alloc1 w4 (KB n.b n.n n.t)))
          have X3 := Lib.hid (heap_alloc_new w4 (KB n.b n.n n.t))
          clear hb x0 x1 x2 x3 x4 q3 HN
          have q3 := cell_blk S3.out.b0.x3 0
          have x1 := cell_blk S3.out.x6 1
          have x2 := cell_blk S3.out.x6 2
          have x3 := cell_blk S3.out.x6 3
          have x4 := cell_blk S3.out.x6 4
          go_wp2_with fail
          refine (HC _ _ S3.out.b0.tabsW S3.out.b0.lst).mono ?_
          rintro e w5 ⟨rfl, sh5, v5, mb5, i5, m5, g5⟩
          have S4 := Lib.hid (S3.out.op (q := ⟨sh5, v5, mb5⟩) i5 m5 g5)
          obtain ⟨z0, z1, z2⟩ := cells3 (m5.blk X3.out (S3.out.b0.notFoot X3.out (by decide) (by decide)))
          have HJ := AJ.setN HS.out.2.1 n a.n
          have HL := left_set (l := l) a.k a.n
          have hs : setP a.k a.n l = Go.Proofs.YtgpdhmgbmhfooaaDoor.setN n a.n l := by unfold setP; rw [HX.out.1]
          rw [← hs, ← HX.out.2] at HJ
          have HJL := Lib.hid (⟨HJ, HL⟩ : _ ∧ _)
          clear i5 m5 g5 HC S3 X3 q3 x1 x2 x3 x4 HJ HL hs
          by_cases he : e0 = 0
          · have t0 : (e0 == 0) = true := by simp [he]
            cases hb : n.b
            · have HE := Lib.hid (⟨he, hb⟩ : _ ∧ _)
              rw [hb] at z0
              clear he hb
              go_wp2_with fail
              go_meet
              refine ⟨⟨sh5, v5, mb5⟩, (setP a.k a.n l).2, max m n.n, ?_, S4, Lib.hid ?_⟩
              · rfl
              · have h := HJL.out.1
                rw [if_pos HE.out] at h
                exact ⟨h, HJL.out.2, by omega, by omega⟩
            · have HE := Lib.hid (⟨he, hb⟩ : _ ∧ _)
              rw [hb] at z0
              clear he hb
              go_wp2_with fail
              go_meet
              refine ⟨⟨sh5, v5, mb5⟩, (setP a.k a.n l).2, m, rfl, S4, Lib.hid ?_⟩
              have h := HJL.out.1
              rw [if_neg (by rw [HE.out.2]; simp)] at h
              exact ⟨h, HJL.out.2, hgm⟩
          · have t0 : (e0 == 0) = false := by simp [he]
            have HE := Lib.hid he
            clear he
            go_wp2_with fail
            go_meet
            refine ⟨⟨sh5, v5, mb5⟩, (setP a.k a.n l).2, m, rfl, S4, Lib.hid ?_⟩
            have h := HJL.out.1
            rw [if_neg (fun e => HE.out e.1)] at h
            exact ⟨h, HJL.out.2, hgm⟩
        · unfold kindOf5 at hk
          obtain ⟨n, hn⟩ : ∃ n, n = (appendP a.n l).1.1 := ⟨_, rfl⟩
          obtain ⟨e0, he0⟩ : ∃ e, e = (appendP a.n l).1.2 := ⟨_, rfl⟩
          obtain ⟨gb, hgb⟩ : ∃ e, e = (getP ⟨false, l.nx, ⟨#[]⟩⟩ l).2 := ⟨_, rfl⟩
          obtain ⟨gv, hgv⟩ : ∃ e, e = (getP ⟨false, l.nx, ⟨#[]⟩⟩ l).1 := ⟨_, rfl⟩
          have HN : ∀ W (q : PtL), ListIs W b q.sh q.v q.mb l → Calls Tryd.prog 23 #[.pointer (some ⟨b, 0, none⟩)] W fun e w' => e = .returned (.int .i64 l.nx) ∧ W = w' := fun W q i => lnext_any W i
          have HGt : ∀ W (q : PtL), Tabs W → ListIs W b q.sh q.v q.mb l → Calls Tryd.prog 20 #[.pointer (some ⟨b, 0, none⟩), .agg #[.bool false, .int .i64 l.nx, .string ⟨#[]⟩]] W (GetPost W (gv, gb)) := fun W q hT i => by
            rw [hgv, hgb]
            exact get_any (k := ⟨false, l.nx, ⟨#[]⟩⟩) ⟨by have := i.ok.lo; show _ ≤ l.nx; omega, i.ok.hi, by show (⟨#[]⟩ : ByteArray).size ≤ _; decide⟩ W hT i
          have HC : ∀ W (q : PtL), Tabs W → ListIs W b q.sh q.v q.mb l → Calls Tryd.prog 24 #[.pointer (some ⟨b, 0, none⟩), .int .i64 a.n] W (fun e' w' => e' = .returned (.tuple #[.agg #[.bool n.b, .int .i64 n.n, .string n.t], .int .i64 e0]) ∧ ∃ sh' v' mb', ListIs w' b sh' v' mb' (appendP a.n l).2 ∧ Mod (Foot b q.sh q.v q.mb) W w' ∧ Goes W.heap.size q.sh q.v q.mb sh' v' mb') := fun W q hT hL => by
            have h := append_any a.n W hT hL
            rw [hn, he0]
            exact h
          have HJ := AJ.append HS.out.2.1 a.n
          have HL := left_append (l := l) a.n
          have HF : 0 ≤ l.nx → gb = false := fun h0 => by rw [hgb, AJ.fresh HS.out.2.1 h0]
          rw [← hn, ← he0] at HJ
          have HJL := Lib.hid (⟨HJ, HL, HF⟩ : _ ∧ _ ∧ _)
          have hnb : e0 = 0 → -9223372036854775808 ≤ n.n ∧ n.n ≤ 9223372036854775807 := fun h => by
            have hok := HS.out.1.lst.ok
            rw [hn, append_key (he0 ▸ h)]
            have := hok.lo
            have := hok.hi
            show _ ≤ l.nx ∧ l.nx ≤ _
            omega
          have HNB := Lib.hid hnb
          clear hn he0 hgb hgv HJ HL HF hnb
          go_upto_region 18 with fail
          go_cut [10, 11] from 28 to 139 (fun v10 v11 wx => v10 = .int .i64 gv ∧ v11 = .bool gb ∧ Hid (AS w wx b w1.heap.size W.heap.size (W.heap.size + 1) ⟨true, p.v, p.mb⟩ l (D :: Ds) a vk ks))
          case first =>
            have S2' := Lib.hid (S2.out.mono (Below.refl _ _).drew)
            go_region_held3 (fun V => V.cell? ⟨w1.heap.size, 0, none⟩ = some (.pointer (some ⟨b, 0, none⟩))) (first | exact cell_blk S3.out.b0.x3 0 | exact cell_blk S2'.out.b0.x3 0) (first
              | (go_at_call 23; refine (HN _ _ S2'.out.b0.lst).mono ?_; rintro e2 w2 ⟨rfl, rfl⟩)
              | (go_at_call 20; refine (HGt _ _ S2'.out.b0.tabsW S2'.out.b0.lst).mono ?_; rintro e3 w3 ⟨rfl, hb⟩; have S3 := Lib.hid (S2'.out.mono hb); clear hb))
            all_goals
              go_wp2_with fail
              go_meet
              exact ⟨rfl, rfl, S3⟩
          case rest =>
            obtain ⟨rfl, rfl, S3⟩ := hcut
            clear S2 q3 x0 x1 x2 x3 x4 HN HGt
            have q3 := cell_blk S3.out.b0.x3 0
            have x1 := cell_blk S3.out.x6 1
            go_wp2_with fail
            refine (HC _ _ S3.out.b0.tabsW S3.out.b0.lst).mono ?_
            rintro e w5 ⟨rfl, sh5, v5, mb5, i5, m5, g5⟩
            have S4 := Lib.hid ((S3.out.op (q := ⟨sh5, v5, mb5⟩) i5 m5 g5).mono (below_alloc1 w5 (KB n.b n.n n.t)))
            have X4 := Lib.hid (heap_alloc_new w5 (KB n.b n.n n.t))
            obtain ⟨z0, z1, z2⟩ := cells3 X4.out
            clear i5 m5 g5 HC S3 q3 x1
            by_cases he : e0 = 0
            · have t0 : (e0 == 0) = true := by simp [he]
              obtain ⟨hn0, hnF, hnm⟩ := HJL.out.1.2 he
              have hgF := HJL.out.2.2 hn0
              have hle : decide (n.n ≤ m) = false := by simp; omega
              have HE := Lib.hid he
              rw [hnF] at z0 S4
              rw [hgF]
              clear he hgF hn0 hnm
              go_wp2_with fail
              go_meet
              refine ⟨⟨sh5, v5, mb5⟩, (appendP a.n l).2, max m n.n, rfl, S4, Lib.hid ?_⟩
              have h := HJL.out.1.1
              rw [if_pos HE.out] at h
              have := HNB.out HE.out
              exact ⟨h, HJL.out.2.1, by omega, by omega⟩
            · have t0 : (e0 == 0) = false := by simp [he]
              have HE := Lib.hid he
              clear he
              go_wp2_with fail
              go_meet
              refine ⟨⟨sh5, v5, mb5⟩, (appendP a.n l).2, m, rfl, S4, Lib.hid ?_⟩
              have h := HJL.out.1.1
              rw [if_neg HE.out] at h
              exact ⟨h, HJL.out.2.1, hgm⟩
        · unfold kindOf5 at hk
          obtain ⟨e0, he0⟩ : ∃ e, e = (delP a.k l).1 := ⟨_, rfl⟩
          have HC : ∀ W (q : PtL), Tabs W → ListIs W b q.sh q.v q.mb l → Calls Tryd.prog 25 #[.pointer (some ⟨b, 0, none⟩), .agg #[.bool a.k.b, .int .i64 a.k.n, .string a.k.t]] W (DelPost W b q.sh q.v q.mb (e0, (delP a.k l).2)) := fun W q hT hL => by
            rw [he0]; exact del_any HG.out.key W hT hL
          clear he0
          go_wp2_with fail
          refine (HC _ _ S2.out.b0.tabsW S2.out.b0.lst).mono ?_
          rintro e w5 ⟨rfl, sh5, v5, mb5, i5, m5, g5⟩
          have S4 := Lib.hid (S2.out.op (q := ⟨sh5, v5, mb5⟩) i5 m5 g5)
          have HJL := Lib.hid (⟨AJ.del HS.out.2.1 a.k, left_del (l := l) a.k⟩ : _ ∧ _)
          clear i5 m5 g5 HC q3 x0 x1 x2 x3 x4
          go_wp2_with fail
          go_meet
          exact ⟨⟨sh5, v5, mb5⟩, (delP a.k l).2, m, rfl, S4, Lib.hid ⟨HJL.out.1, HJL.out.2, hgm⟩⟩
        all_goals
          unfold kindOf5 at hk
          go_wp2_with fail
          go_meet
          exact ⟨⟨true, p.v, p.mb⟩, l, m, rfl, S2, Lib.hid ⟨HS.out.2.1, .same rfl, hgm⟩⟩
      case rest =>
        obtain ⟨q, l', m', rfl, HR, HM⟩ := hcut
        clear S2 q3 x0 x1 x2 x3 x4 hkw
        have S3 := Lib.hid (HR.out.mono (below_alloc1 wc (.cells #[.int .i64 0] 3)))
        have X3 := Lib.hid (heap_alloc_new wc (.cells #[.int .i64 0] 3))
        have hIw : w.heap.size ≤ wc.heap.size := HR.out.b0.below.size
        have q3 := cell_blk S3.out.b0.x3 0
        go_wp2_with fail
        obtain ⟨Ib, hIb⟩ : ∃ Ib, Ib = wc.heap.size := ⟨_, rfl⟩
        rw [← hIb] at X3 hIw ⊢
        have HIb := Lib.hid hIb
        clear hIb
        generalize wc.alloc _ = W7 at S3 X3 q3 ⊢
        refine (all_fn (some ⟨b, 0, none⟩) _).mono ?_
        rintro e Wf ⟨rfl, rfl⟩
        have F3 := Lib.hid (S3.out.mono (below_alloc1 W7 (.cells #[.pointer (some ⟨b, 0, none⟩)] 25)))
        have Y3 := Lib.hid (alloc_blk X3.out (.cells #[.pointer (some ⟨b, 0, none⟩)] 25))
        have Z3 := Lib.hid (heap_alloc_new W7 (.cells #[.pointer (some ⟨b, 0, none⟩)] 25))
        clear q3 S3 X3
        go_wp2_with fail
        have hBw2 : w.heap.size ≤ (W7.alloc (.cells #[.pointer (some ⟨b, 0, none⟩)] 25)).heap.size := F3.out.b0.below.size
        obtain ⟨T, hT0, hT⟩ := left_walk HM.out.2.1 HS.out.1.lst.ok.once
        rw [← HKS.out] at hT
        have HTT := Lib.hid (⟨hT0, hT⟩ : _ ∧ _)
        clear hT0 hT
        obtain ⟨av, cv, hvk, -⟩ := F3.out.rows.any
        rw [List.length_map] at hvk
        subst hvk
        refine (wpIn_wide (n := 5)).1 ?_
        refine rangeG_outer (F := Fence.wide) (n := 5) rfl (by omega) (gf := 53) (lbs := #[.pointer (some ⟨W7.heap.size, 0, none⟩)]) rfl trivial (enters_of Tryd.func53 (by kernel_rfl) rfl) (all_seq W7.heap.size 4 _ F3.out.b0.lst Z3.out) (Below.refl _ _)
          (I := fun _ j W' => AS w W' b w1.heap.size W.heap.size (W.heap.size + 1) ⟨true, q.v, q.mb⟩ l' (D :: Ds) a (.slice av ks.length cv) ks ∧ W'.heap[Ib]? = some (.cells #[.int .i64 (T j)] 3 (0, 0))) (Ix := fun _ _ _ _ => False) ?body2 ?start2 ?done2 ?stop2
        case stop2 => exact fun _ _ _ _ _ _ _ h => h.elim
        case start2 =>
          rintro c W4 W5 hb ⟨i5, m5⟩
          have S := F3.out.mono hb
          have k5 := (hb.block _ (lt_of_block Y3.out)).trans Y3.out
          refine ⟨S.b0.krS _ m5, S.shared i5 m5, ?_⟩
          rw [HTT.out.1]
          exact m5.blk k5 (blk_ne k5 S.b0.lst.blk (by decide))
        case body2 =>
          refine ⟨fun _ => rfl, KpL.trans, fun c W l o o' _ h ho => KpL.putObj h ho, fun c s W W' row ⟨h, hm⟩ hg hr => ⟨h.loop hBw2 hg hr, grown_blk hm (cells_noloop _ _ _) hg hr⟩, fun x c s W W' row h _ _ => h.elim, ?_⟩
          intro lq c j W5 hlq hloop HI hj
          have HI' := Lib.hid HI
          have HLp := Lib.hid hloop
          obtain ⟨y, x, hyx⟩ : ∃ y x, (y, x) = l'.xs[j] := ⟨_, _, rfl⟩
          have he : encL l'.xs j = #[.agg #[.bool y.b, .int .i64 y.n, .string y.t], .int .i64 x] := by unfold encL; rw [itAt_lt hj, ← hyx]; rfl
          have hy : l'.xs[j].1 = y := by rw [← hyx]
          obtain ⟨T1, t1, t2, t3, t4, t5, t6, t7⟩ := HTT.out.2 j hj
          have t6' : ∀ x (hx : x < ks.length), T j ≤ x → x < T1 → ks[x] ≠ y := fun x hx h1 h2 => hy ▸ t6 x hx h1 h2 hj
          have t7' : ∀ h : T1 < ks.length, ks[T1] = y := fun h => hy ▸ t7 h hj
          have HT1 := Lib.hid (⟨t4, t5, t6', t7'⟩ : _ ∧ _ ∧ _ ∧ _)
          rw [he]
          clear HI hloop hyx he hy t4 t5 t6 t7 t6' t7'
          gi_wp2
          have hbA := below_alloc1 W5 (KB y.b y.n y.t)
          refine ⟨KeepsR.of_below _ hbA, fun k cs t _ hc => alloc_blk hc _, (by obtain ⟨r, hr⟩ := HLp.out; exact ⟨r, alloc_blk hr _⟩), ?_⟩
          intro st W6 hW6 hst
          have R6 : Hid (AR w W6 W6 (W7.alloc (.cells #[.pointer (some ⟨b, 0, none⟩)] 25)).heap.size b w1.heap.size W.heap.size (W.heap.size + 1) ⟨true, q.v, q.mb⟩ l' (D :: Ds) a (.slice av ks.length cv) ks Ib (T j) ∧ W6.heap[W5.heap.size]? = some (KB y.b y.n y.t)) := by
            obtain ⟨r, hr⟩ := HLp.out
            have hr' := alloc_blk hr (KB y.b y.n y.t)
            have hne : W5.heap.size ≠ lq := fun e => by have := lt_of_block hr; omega
            rw [hW6]
            have hg := grownBy_putObj' (W5.alloc (KB y.b y.n y.t)) lq st
            have hq : ∀ k, some lq = some k → (W7.alloc (.cells #[.pointer (some ⟨b, 0, none⟩)] 25)).heap.size ≤ k ∧ ∃ o : Loop, (W5.alloc (KB y.b y.n y.t)).heap[k]? = some (.loop o) := fun k e => by cases e; exact ⟨hlq, r, hr'⟩
            exact ⟨⟨(HI'.out.1.mono hbA).loop hBw2 hg hq, grown_blk (alloc_blk HI'.out.2 _) (cells_noloop _ _ _) hg hq, fun _ _ _ _ h => h, KeepsR.refl _ _, hIw⟩, (World.putObj_heap_other hne).trans (heap_alloc_new W5 (KB y.b y.n y.t))⟩
          clear hW6 hst hbA HI' HLp
          have hT1 : T1 = T j ∨ T1 = T j + 1 := two_of t1 t2
          have hw' := (wrapT (Nat.le_trans t3 hlen)).1
          have hw := (wrapT (Nat.le_trans t3 hlen)).2
          rcases hT1 with hT1 | hT1
          case' inl =>
            have RB := Lib.hid R6.out.1
            rw [← hT1] at RB
            have KX := Lib.hid R6.out.2
            clear R6 hT1 t1 t2
            gi_wp2_with (refine wpIn_loop_rounds 1 ?_; rw [roundsIn_succ])
          case' inr =>
            obtain ⟨i, hi⟩ : ∃ i, i = T j := ⟨_, rfl⟩
            rw [← hi] at hT1
            have hin : i < ks.length := by rw [hT1] at t3; exact t3
            have hi1 : (i : Int) < (ks.length : Int) := Int.ofNat_lt.2 hin
            have hi0 : (0 : Int) ≤ (i : Int) := Int.natCast_nonneg i
            have g1 : decide (i < ks.length) = true := by simp [hin]
            have hwi' := (wrapT (Nat.le_trans (Nat.le_of_lt hin) hlen)).1
            have hwi := (wrapT (Nat.le_trans (Nat.le_of_lt hin) hlen)).2
            have RA := Lib.hid R6.out.1
            rw [← hi] at RA
            have KA := Lib.hid R6.out.2
            obtain ⟨z, hz⟩ : ∃ z, z = ks[i] := ⟨_, rfl⟩
            have hzy : K.same z y = false := by rw [hz]; exact K.same_ne.2 (HT1.out.2.2.1 i hin (Nat.le_of_eq hi.symm) (by rw [hT1]; exact Nat.lt_succ_self i))
            have hzn : findK z l'.xs = none := by rw [hz]; exact HT1.out.2.1 i hin (Nat.le_of_eq hi.symm) (by rw [hT1]; exact Nat.lt_succ_self i)
            have hzg : z.Norm := by
              rw [hz]
              have hm : ks[i] ∈ l.xs.map (·.1) := by rw [← HKS.out]; exact List.getElem_mem hin
              obtain ⟨x, hx, e⟩ := List.mem_map.1 hm
              rw [← e]
              exact HS.out.1.lst.ok.norm x hx
            have HGt : ∀ V, Tabs V → ListIs V b true q.v q.mb l' → Calls Tryd.prog 20 #[.pointer (some ⟨b, 0, none⟩), .agg #[.bool z.b, .int .i64 z.n, .string z.t]] V (GetPost V (0, false)) := fun V hT hL => by
              have h := get_any hzg.toGood V hT hL
              unfold getP at h
              rw [hzg.same, hzn] at h
              exact h
            have q14 := cell_blk RA.out.ib 0
            have q7 := cell_blk RA.out.st.x7 0
            obtain ⟨a0, a1, a2⟩ := cells3 KA.out
            obtain ⟨ga7, ca7, hav, hlc, hcm, hgl, d0, d1, d2⟩ := RA.out.st.row hin
            injection hav with hav hav2 hav3
            subst hav
            rw [← hz] at d0 d1 d2
            have e1 := fun w => key_neq z y w
            rw [hzy] at e1
            have HT2 := Lib.hid (⟨hT1, hz⟩ : _ ∧ _)
            have HZN := Lib.hid (⟨hzn, hzg⟩ : _ ∧ _)
            clear R6 hT1 hi t1 t2 hlc hcm hgl hav2 hav3 hzy hzn hzg hz
            gi_wp2_with (refine wpIn_loop_rounds 2 ?_; rw [roundsIn_succ])
            refine round_region_quiet (by kernel_rfl) (by kernel_rfl) (by kernel_rfl) (fun ⟨_, _, h⟩ => h) ?_
            repeat (go_big_quiet_step (fail))
            refine wpQuiet_nil ?_
            intro _ hw'
            obtain ⟨nr, hw''⟩ := hw'
            subst hw''
            clear g1 q14 q7 d0 d1 d2 a0 a1 a2 e1
            have RC := Lib.hid (RA.out.mono (belowN (Below.refl _ _) nr))
            have KC := Lib.hid ((belowN (Below.refl W6.heap.size W6) nr).block _ (lt_of_block KA.out) |>.trans KA.out)
            generalize hWn : World.drewN _ nr = WC at RC KC ⊢
            clear hWn RA KA
            have RC' := Lib.hid (RC.out.mono (Below.refl _ _).drew)
            have KC' := Lib.hid ((Below.refl WC.heap.size WC).drew.block _ (lt_of_block KC.out) |>.trans KC.out)
            have hSany : Hid (∀ V, AR w W6 V (W7.alloc (.cells #[.pointer (some ⟨b, 0, none⟩)] 25)).heap.size b w1.heap.size W.heap.size (W.heap.size + 1) ⟨true, q.v, q.mb⟩ l' (D :: Ds) a (.slice (some ⟨ga7, 0, none⟩) ks.length cv) ks Ib i → (fun V => V.cell? ⟨w1.heap.size, 0, none⟩ = some (.pointer (some ⟨b, 0, none⟩)) ∧ V.cell? ⟨W.heap.size + 1, 0, none⟩ = some (.slice (some ⟨ga7, 0, none⟩) ks.length cv) ∧ V.cell? ⟨Ib, 0, none⟩ = some (.int .i64 i) ∧ V.cell? ⟨ga7, i * 3, none⟩ = some (.bool z.b) ∧ V.cell? ⟨ga7, i * 3 + 1, none⟩ = some (.int .i64 z.n) ∧ V.cell? ⟨ga7, i * 3 + 2, none⟩ = some (.string z.t)) V) := Lib.hid (fun V h => by
              obtain ⟨g', c', hav, -, -, -, e0, e1, e2⟩ := h.st.row hin
              injection hav with hav _ _
              injection hav with hav
              injection hav with hav
              subst hav
              rw [← HT2.out.2] at e0 e1 e2
              exact ⟨cell_blk h.st.b0.x3 0, cell_blk h.st.x7 0, cell_blk h.ib 0, e0, e1, e2⟩)
            gi_wp2
            refine round_region_held (S := (fun V => V.cell? ⟨w1.heap.size, 0, none⟩ = some (.pointer (some ⟨b, 0, none⟩)) ∧ V.cell? ⟨W.heap.size + 1, 0, none⟩ = some (.slice (some ⟨ga7, 0, none⟩) ks.length cv) ∧ V.cell? ⟨Ib, 0, none⟩ = some (.int .i64 i) ∧ V.cell? ⟨ga7, i * 3, none⟩ = some (.bool z.b) ∧ V.cell? ⟨ga7, i * 3 + 1, none⟩ = some (.int .i64 z.n) ∧ V.cell? ⟨ga7, i * 3 + 2, none⟩ = some (.string z.t))) (by kernel_rfl) (by kernel_rfl) (fun ⟨_, _, h⟩ => h) (hSany.out _ RC'.out) (fun hHeld => ?_)
            refine wpAnyH_take (i := 0) (oi := ?o0) (v := ?v0) ?hi0 (by kernel_rfl) (by kernel_rfl) (by kernel_rfl) ?hq0 ?hy0 (by assumption) ?rest0
            case hi0 => simp only [List.getElem?_toArray, List.getElem?_cons_zero]; rfl
            case hq0 => exact fun _ _ _ h => h
            case hy0 =>
              refine Or.inl ⟨by rfl, ?_⟩
              intro w hSw; (try dsimp only at hSw); go_simp <;> (with_reducible rfl)
            (try simp only [Act.put, List.setIfInBounds_toArray, List.set_cons_zero, List.set_cons_succ])
            refine wpAnyH_take (i := 1) (oi := ?o1) (v := ?v1) ?hi1 (by kernel_rfl) (by kernel_rfl) (by kernel_rfl) ?hq1 ?hy1 (by assumption) ?rest1
            case hi1 => simp only [List.getElem?_toArray, List.getElem?_cons_succ, List.getElem?_cons_zero]; rfl
            case hq1 => exact fun _ _ _ h => h
            case hy1 =>
              refine Or.inl ⟨by rfl, ?_⟩
              intro w hSw; (try dsimp only at hSw); go_simp <;> (with_reducible rfl)
            (try simp only [Act.put, List.setIfInBounds_toArray, List.set_cons_zero, List.set_cons_succ])
            refine wpAnyH_take (i := 2) (oi := ?o2) (v := ?v2) ?hi2 (by kernel_rfl) (by kernel_rfl) (by kernel_rfl) ?hq2 ?hy2 (by assumption) ?rest2
            case hi2 => simp only [List.getElem?_toArray, List.getElem?_cons_succ, List.getElem?_cons_zero]; rfl
            case hq2 => exact fun _ _ _ h => h
            case hy2 =>
              refine Or.inl ⟨by rfl, ?_⟩
              intro w hSw; (try dsimp only at hSw); go_simp <;> (with_reducible rfl)
            (try simp only [Act.put, List.setIfInBounds_toArray, List.set_cons_zero, List.set_cons_succ])
            refine wpAnyH_take (i := 3) (oi := ?o3) (v := ?v3) ?hi3 (by kernel_rfl) (by kernel_rfl) (by kernel_rfl) ?hq3 ?hy3 (by assumption) ?rest3
            case hi3 => simp only [List.getElem?_toArray, List.getElem?_cons_succ, List.getElem?_cons_zero]; rfl
            case hq3 => exact fun _ _ _ h => h
            case hy3 =>
              refine Or.inl ⟨by rfl, ?_⟩
              intro w hSw; (try dsimp only at hSw); go_simp <;> (with_reducible rfl)
            (try simp only [Act.put, List.setIfInBounds_toArray, List.set_cons_zero, List.set_cons_succ])
            refine wpAnyH_take (i := 4) (oi := ?o4) (v := ?v4) ?hi4 (by kernel_rfl) (by kernel_rfl) (by kernel_rfl) ?hq4 ?hy4 (by assumption) ?rest4
            case hi4 => simp only [List.getElem?_toArray, List.getElem?_cons_succ, List.getElem?_cons_zero]; rfl
            case hq4 => exact fun _ _ _ h => h
            case hy4 =>
              refine Or.inl ⟨by rfl, ?_⟩
              intro w hSw; (try dsimp only at hSw); go_simp <;> (with_reducible rfl)
            (try simp only [Act.put, List.setIfInBounds_toArray, List.set_cons_zero, List.set_cons_succ])
            refine wpAnyH_ready (rs := [5]) (by kernel_rfl) (by simp) ?_
            refine AllReadyH.cons rfl (fun K hK => ?_) AllReadyH.nil
            go_simp
            refine (HGt _ RC'.out.st.b0.tabsW RC'.out.st.b0.lst).mono ?_
            rintro e W8 ⟨rfl, hb8⟩
            have R8 := Lib.hid (RC'.out.mono hb8)
            have K8 := Lib.hid ((hb8.block _ (lt_of_block KC'.out)).trans KC'.out)
            refine hK.out _ _ ?_ (fun hHeld5 => ?_)
            · exact hSany.out _ R8.out
            clear hK K hHeld hb8 HGt RC RC' KC KC'
            (try simp only [Act.put, List.setIfInBounds_toArray, List.set_cons_zero, List.set_cons_succ])
            refine wpAnyH_take (i := 6) (oi := ?o6) (v := ?v6) ?hi6 (by kernel_rfl) (by kernel_rfl) (by kernel_rfl) ?hq6 ?hy6 (by assumption) ?rest6
            case hi6 => simp only [List.getElem?_toArray, List.getElem?_cons_succ, List.getElem?_cons_zero]; rfl
            case hq6 => exact fun _ _ _ h => h
            case hy6 =>
              refine Or.inl ⟨by rfl, ?_⟩
              intro w hSw; (try dsimp only at hSw); go_simp <;> (with_reducible rfl)
            (try simp only [Act.put, List.setIfInBounds_toArray, List.set_cons_zero, List.set_cons_succ])
            refine wpAnyH_take (i := 7) (oi := ?o7) (v := ?v7) ?hi7 (by kernel_rfl) (by kernel_rfl) (by kernel_rfl) ?hq7 ?hy7 (by assumption) ?rest7
            case hi7 => simp only [List.getElem?_toArray, List.getElem?_cons_succ, List.getElem?_cons_zero]; rfl
            case hq7 => exact fun _ _ _ h => h
            case hy7 =>
              refine Or.inl ⟨by rfl, ?_⟩
              intro w hSw; (try dsimp only at hSw); go_simp <;> (with_reducible rfl)
            (try simp only [Act.put, List.setIfInBounds_toArray, List.set_cons_zero, List.set_cons_succ])
            refine wpAnyH_take (i := 8) (oi := ?o8) (v := ?v8) ?hi8 (by kernel_rfl) (by kernel_rfl) (by kernel_rfl) ?hq8 ?hy8 (by assumption) ?rest8
            case hi8 => simp only [List.getElem?_toArray, List.getElem?_cons_succ, List.getElem?_cons_zero]; rfl
            case hq8 => exact fun _ _ _ h => h
            case hy8 =>
              refine Or.inl ⟨by rfl, ?_⟩
              intro w hSw; (try dsimp only at hSw); go_simp <;> (with_reducible rfl)
            (try simp only [Act.put, List.setIfInBounds_toArray, List.set_cons_zero, List.set_cons_succ])
            refine wpAnyH_take (i := 9) (oi := ?o9) (v := ?v9) ?hi9 (by kernel_rfl) (by kernel_rfl) (by kernel_rfl) ?hq9 ?hy9 (by assumption) ?rest9
            case hi9 => simp only [List.getElem?_toArray, List.getElem?_cons_succ, List.getElem?_cons_zero]; rfl
            case hq9 => exact fun _ _ _ h => h
            case hy9 =>
              refine Or.inl ⟨by rfl, ?_⟩
              intro w hSw; (try dsimp only at hSw); go_simp <;> (with_reducible rfl)
            (try simp only [Act.put, List.setIfInBounds_toArray, List.set_cons_zero, List.set_cons_succ])
            refine wpAnyH_take (i := 10) (oi := ?o10) (v := ?v10) ?hi10 (by kernel_rfl) (by kernel_rfl) (by kernel_rfl) ?hq10 ?hy10 (by assumption) ?rest10
            case hi10 => simp only [List.getElem?_toArray, List.getElem?_cons_succ, List.getElem?_cons_zero]; rfl
            case hq10 => exact fun _ _ _ h => h
            case hy10 =>
              refine Or.inl ⟨by rfl, ?_⟩
              intro w hSw; (try dsimp only at hSw); go_simp <;> (with_reducible rfl)
            (try simp only [Act.put, List.setIfInBounds_toArray, List.set_cons_zero, List.set_cons_succ])
            refine wpAnyH_done (by kernel_rfl) ?_ _
            clear hHeld5 hSany
            have q14 := cell_blk R8.out.ib 0
            have f14 := free_blk R8.out.ib 0
            gi_wp2
            rw [roundsIn_succ]
            have RB : Hid (AR w W6 (W8.setCell ⟨Ib, 0, none⟩ (.int .i64 ((i : Int) + 1))) (W7.alloc (.cells #[.pointer (some ⟨b, 0, none⟩)] 25)).heap.size b w1.heap.size W.heap.size (W.heap.size + 1) ⟨true, q.v, q.mb⟩ l' (D :: Ds) a (.slice (some ⟨ga7, 0, none⟩) ks.length cv) ks Ib T1) := by
              rw [HT2.out.1]
              exact R8.out.count ((i : Int) + 1)
            have KX : Hid ((W8.setCell ⟨Ib, 0, none⟩ (.int .i64 ((i : Int) + 1))).heap[W5.heap.size]? = some (KB y.b y.n y.t)) :=
              Lib.hid (((Mod.refl (fun q => q = Ib) W8).setCell ⟨Ib, 0, none⟩ _ (fun _ => rfl)).blk K8.out (blk_ne K8.out R8.out.ib (by decide)))
            generalize hWn : World.setCell _ _ _ = WE at RB KX ⊢
            clear hWn R8 K8 q14 f14 hwi hwi' hi1 hi0 HT2 HZN
            gi_wp2
          all_goals
            have q14 := cell_blk RB.out.ib 0
            have q7 := cell_blk RB.out.st.x7 0
            obtain ⟨a0, a1, a2⟩ := cells3 KX.out
            by_cases hlt2 : T1 < ks.length
            · have g1 : decide (T1 < ks.length) = true := by simp [hlt2]
              have g2 : (T1 : Int) < (ks.length : Int) := Int.ofNat_lt.2 hlt2
              obtain ⟨ga7, ca7, hav, hlc, hcm, hgl, d0, d1, d2⟩ := RB.out.st.row hlt2
              injection hav with hav hav2 hav3
              cases hav
              rw [HT1.out.2.2.2 hlt2] at d0 d1 d2
              have e1 := fun w => key_neq y y w
              rw [K.same_self] at e1
              clear hlc hcm hgl hav2 hav3
              refine round_region_quiet (by kernel_rfl) (by kernel_rfl) (by kernel_rfl) (fun ⟨_, _, h⟩ => h) ?_
              repeat (go_big_quiet_step (fail))
              refine wpQuiet_nil ?_
              intro _ hw'
              obtain ⟨nr, hw''⟩ := hw'
              subst hw''
              clear g1 q14 q7 d0 d1 d2 a0 a1 a2 e1
              have RC := Lib.hid (RB.out.mono (belowN (Below.refl _ _) nr))
              generalize hWn : World.drewN _ nr = WC at RC ⊢
              clear hWn RB
              have q14 := cell_blk RC.out.ib 0
              have f14 := free_blk RC.out.ib 0
              gi_wp2
              have RD := RC.out.count ((T1 : Int) + 1)
              refine ⟨RD.kr, RD.kp, RD.st, ?_⟩
              rw [HT1.out.1]
              exact RD.ib
            · have g1 : decide (T1 < ks.length) = false := by simp [hlt2]
              refine round_region_quiet (by kernel_rfl) (by kernel_rfl) (by kernel_rfl) (fun ⟨_, _, h⟩ => h) ?_
              repeat (go_big_quiet_step (fail))
              refine wpQuiet_nil ?_
              intro _ hw'
              obtain ⟨nr, hw''⟩ := hw'
              subst hw''
              clear g1 q14 q7 a0 a1 a2
              have RC := Lib.hid (RB.out.mono (belowN (Below.refl _ _) nr))
              generalize hWn : World.drewN _ nr = WC at RC ⊢
              clear hWn RB
              have q14 := cell_blk RC.out.ib 0
              have f14 := free_blk RC.out.ib 0
              gi_wp2
              have RD := RC.out.count ((T1 : Int) + 1)
              refine ⟨RD.kr, RD.kp, RD.st, ?_⟩
              rw [HT1.out.1]
              exact RD.ib
        case done2 =>
          rintro D2 c2 W8 hD2 ⟨HI, hib⟩ hK2
          have S9 : Hid (AS w W8 b w1.heap.size W.heap.size (W.heap.size + 1) ⟨true, q.v, q.mb⟩ l' (D2 :: D :: Ds) a (.slice av ks.length cv) ks) := by
            have h7 := lt_of_block Z3.out
            have h2 := lt_of_block F3.out.b0.x2
            refine HI.mark (fun h => ?_) (by omega) hK2
            have hm := F3.out.b0.marks.lt h
            omega
          clear HI hib hK2
          have hw' : wrap64 ((k : Int) + 1) = (k : Int) + 1 := wrap64_in' (by omega) (by omega)
          have hw : IntKind.i64.wrap ((k : Int) + 1) = (k : Int) + 1 := wrap_in (by omega) (by omega)
          go_wp2_with fail
          refine HJK.out.2 _ _ (Handed.intro (acts.length - (k + 1)) (by omega) (HJK.out.1 _ _ _ ⟨k + 1, m', ⟨true, q.v, q.mb⟩, l', D2 :: D :: Ds, by omega, rfl, ⟨rfl, rfl, rfl, rfl, rfl, rfl, rfl, rfl, ?_⟩, S9.out.b0, HM.out.1, HM.out.2.2⟩))
          show some (Value.int IntKind.i64 ((k : Int) + 1)) = _
          rw [show (k : Int) + 1 = ((k + 1 : Nat) : Int) by omega]
  · obtain rfl : k = acts.length := by omega
    have q2 := cell_blk HS.out.1.x2 0
    have f2 := free_blk HS.out.1.x2 0
    go_wp2_with fail
    have hm6 : Mod (fun q => q = w.heap.size) W (W.setCell ⟨w.heap.size, 0, none⟩ (.bool true)) := (Mod.refl _ _).setCell _ _ (fun _ => rfl)
    have x2' : (W.setCell ⟨w.heap.size, 0, none⟩ (.bool true)).heap[w.heap.size]? = some (.cells #[.bool true] 4 (0, 0)) := by
      have := set_blk HS.out.1.x2 0 (.bool true)
      simpa using this
    have mk := HS.out.1.marks
    refine leaves_marks (B := w.heap.size + 1) Ds _ (mk.mod hm6 (fun D hD e => by have := mk.lo D hD; omega)) fun W' m' => ?_
    have xc := cell_blk (m'.blk x2' (fun e => by have := mk.lo _ e; omega)) 0
    have hb : Below w.heap.size w W' := (HS.out.1.below.setCell (p := ⟨w.heap.size, 0, none⟩) (Nat.le_refl _) _).trans (m'.belowB (fun x hx hf => by have := mk.lo _ hf; omega) (by have := HS.out.1.below.size; simpa using this))
    refine ⟨.bool true, ?_, rfl, hb⟩
    simp [results, Tryd.results4, go_sem, xc]
end Go.Proofs.YtgpdhmgbmhfooaaDoor
