/-
  ListCopies: the walk.
-/
import Derived.Test.YtgpdhmgbmhfooaaDoorCopLaw07
import Derived.Deep.DeepCutAuto
import Derived.LaidEqlPtr
namespace Go.Proofs.YtgpdhmgbmhfooaaDoor
open Go.RowKit

theorem info25 : (Tryd.prog.info? 25).map (fun i => (i.zero, i.size, i.bytes)) = some (some (.pointer none), 1, 8) := by kernel_rfl
theorem info47 : (Tryd.prog.info? 47).map (fun i => (i.zero, i.size, i.bytes)) = some (some (.agg #[.slice none 0 0, .int .i64 0]), 2, 32) := by kernel_rfl
theorem info61 : ∃ j, Tryd.prog.info? 61 = some j ∧ j.size ≠ 0 := by
  have h : (Tryd.prog.info? 61).map (·.size) = some 5 := by kernel_rfl
  obtain ⟨j, hj, h5⟩ := Option.map_eq_some_iff.1 h
  exact ⟨j, hj, by rw [h5]; decide⟩
/-- The state at a round's head. -/
def CRel (w W : World) (rb : Nat) (ao : Option Addr) (acts : List A) (lp vo vw : Value) : Prop := ∃ E es cm, lp = .pointer (some ⟨E.b, 0, none⟩) ∧ Hid (CP w W E es rb cm vo vw ao acts)

set_option maxRecDepth 100000 in
set_option maxHeartbeats 6400000 in
theorem copies_any (cap : Nat) (ao : Option Addr) (acts : List A) (w : World) (hl : Lies w 5 ao (acts.map A.cells)) (hg : ∀ a ∈ acts, a.Good) (hn : acts.length ≤ 9223372036854775807) (ht : Tabs w) :
    Calls Tryd.prog 6 #[.slice ao acts.length cap] w (BoolPost w true) := by
  have HT := Lib.hid (⟨ht, hl, hg⟩ : _ ∧ _ ∧ _)
  clear ht hl hg
  go_enter Tryd.func6, Tryd.ntmps6
  go_wp2_with fail
  refine (lnew_any _).mono ?_
  rintro e w1 ⟨b, mb, rfl, i1, hb1, hm1, hbel⟩
  have P1 : Hid (CP w (w1.alloc R00) ⟨b, false, .slice none 0 0, mb, .slice none 0 0, LS.new⟩ [] w1.heap.size #[.slice none 0 0, .int .i64 0] (.slice none 0 0) (.slice none 0 0) ao acts) :=
    ⟨HT.out.1, ⟨fun e he => by
      rw [List.mem_singleton.1 he]
      exact ⟨i1.below (below_alloc1 _ _), Owns.empty _ _ _, hb1, fun g e => (by cases e), hm1⟩, by simp⟩, heap_alloc_new _ _, rfl, rfl, hbel.size, Owns.empty _ _ _, Owns.empty _ _ _, fun g e => (by cases e), fun g e => (by cases e), hbel.trans ((below_alloc1 _ _).mono hbel.size), HT.out.2.1, HT.out.2.2, by simp⟩
  clear i1 hb1 hm1 hbel
  have HA := lalive_any _ (P1.out.tabs' _ (Below.refl _ _))
  go_wp2_with fail
  refine HA.mono ?_
  rintro e w2 ⟨rfl, hb⟩
  have P2 := Lib.hid (P1.out.mono hb)
  clear P1 hb HA
  go_wp2_with fail
  go_loopw [3, 5, 6, 22] (fun lp vo vw i wr => ∃ k : Nat, k ≤ acts.length ∧ i = .int .i64 k ∧ CRel w wr w1.heap.size ao acts lp vo vw) (fun _ _ _ i _ => acts.length - (intOf i).toNat)
  case atStart => exact ⟨0, Nat.zero_le _, rfl, _, _, _, rfl, P2⟩
  case round =>
    obtain ⟨k, hk, rfl, E, es, cm, rfl, HP⟩ := hrel
    clear P2
    by_cases hlt : k < acts.length
    · obtain ⟨g, off, rfl, hgood, d0, d1, d2, d3, d4⟩ := HP.out.act hlt
      have hi1 : (k : Int) < (acts.length : Int) := by omega
      have hw : IntKind.i64.wrap ((k : Int) + 1) = (k : Int) + 1 := wrap_in (by omega) (by omega)
      have hw' : wrap64 ((k : Int) + 1) = (k : Int) + 1 := wrap64_in' (by omega) (by omega)
      obtain ⟨a, ha⟩ : ∃ a, a = acts[k] := ⟨_, rfl⟩
      rw [← ha] at d0 d1 d2 d3 d4 hgood
      have P3 := Lib.hid (HP.out.mono (below_alloc1 wr (AB a)))
      have X3 := Lib.hid (heap_alloc_new wr (AB a))
      obtain ⟨a1, co, a2, kw, rfl, rfl⟩ := HP.out.forms
      have hlen := HP.out.len
      have hkw := kind5_wrap (kind := a.kind)
      clear ha HP
      by_cases hk3 : (a.kind.tmod 5 + 5).tmod 5 = 3
      · go_upto_if 37 with fail
        go_cut [3, 5, 6] (fun lp vo vw wx => CRel w wx w1.heap.size (some ⟨g, off, none⟩) acts lp vo vw ∧ Hid (wx.heap[wr.heap.size]? = some (AB a)))
        case first =>
          by_cases h8 : es.length < 8
          · have g8 : decide (es.length < 8) = true := by simp [h8]
            have HC := copy_any _ P3.out.main.lst
            have hr1 : Hid ((es.map rowO).length + [rowO E].length ≤ maxLen ∧ ((es.map rowO).length + [rowO E].length) * 8 ≤ 140737488355328) := ⟨by simp; unfold maxLen; omega, by simp; omega⟩
            have hr2 : Hid ((es.map rowW).length + [rowW E].length ≤ maxLen ∧ ((es.map rowW).length + [rowW E].length) * 32 ≤ 140737488355328) := ⟨by simp; unfold maxLen; omega, by simp; omega⟩
            obtain ⟨a9, c9, hrv, -⟩ := P3.out.main.items.any
            rw [List.length_map] at hrv
            have hc0 := P3.out.c0
            rw [hrv] at hc0
            have HRV := Lib.hid hrv
            clear hrv
            obtain ⟨jj, hjj, hjs⟩ := info61
            go_wp2_with (first
              | (go_at_call 28; refine HC.mono ?_; rintro e w4 ⟨rfl, i1, i2, mm, hsz⟩; have hnb : (⟨(wr.alloc (AB a)).heap.size, 0, none⟩ : Addr) ≠ ⟨E.b, 0, none⟩ := (fun e => by have h1 := lt_of_block P3.out.main.lst.blk; injection e with e; omega); have e45 := run_eql_ptr_other w4 (tp := 25) (te := 61) Tryd.underlying25 hjj hjs hnb i2.blk i1.blk; simp only [World.size_alloc] at e45; have R4 : Hid (w4.heap[w1.heap.size]? = some (.cells cm 47 (0, 0)) ∧ ¬ (Value.slice a1 es.length co).ownBlock = some w1.heap.size) := ⟨mm.blk P3.out.blk (blk_ne P3.out.blk P3.out.main.lst.blk (by decide)), owns_ne P3.out.ho P3.out.blk (by decide)⟩; have O1 : Hid (Owns w4 25 1 (.slice a1 es.length co) (es.map rowO)) := Lib.hid (P3.out.ho.mod mm (fun k e e2 => owns_ne P3.out.ho P3.out.main.lst.blk (by decide) (by rw [e, e2]))); have O2 : Hid (Owns w4 47 2 (.slice a2 es.length kw) (es.map rowW)) := Lib.hid (P3.out.hw.mod mm (fun k e e2 => owns_ne P3.out.hw P3.out.main.lst.blk (by decide) (by rw [e, e2]))); have R5 : Hid (∀ k, (Value.slice a2 es.length kw).ownBlock = some k → ¬ (Value.slice a1 es.length co).ownBlock = some k) := Lib.hid (fun k e e2 => by obtain ⟨cur, hc⟩ := owns_type O2.out e; exact owns_ne O1.out hc (by decide) e2); have X4 := Lib.hid (mm.blk X3.out (blk_ne X3.out P3.out.main.lst.blk (by decide))); have I4 := Lib.hid (⟨i1, i2, mm⟩ : _ ∧ _ ∧ _); have x1 := cell_blk X4.out 1; clear i1 i2 mm hnb d0 d1 d2 d3 d4)
              | (at_builtin; refine wpList_append_rows rfl (.tmp 53) (.tmp 55) 51 rfl 25 _ 1 8 Tryd.underlying51 info25 rfl (by decide) (.slice a1 es.length co) (es.map rowO) (by rfl) (O1.out.step (.inr ⟨_, rfl⟩)) (some ⟨w4.heap.size, 0, none⟩) 1 1 [rowO ⟨wr.heap.size + 1, true, E.v, E.mb, E.rv, E.l⟩] (by rfl) rfl (fun e => by cases e) (lies_new w4 (rowO ⟨wr.heap.size + 1, true, E.v, E.mb, E.rv, E.l⟩) 25 rfl) (by simp [rowO, Value.oneCell']) (by simp [rowO]) hr1.out.1 hr1.out.2 ?_; intro vo5 w5 o5 g5 n5; have O5 := Lib.hid o5; have G5 := Lib.hid (⟨g5, n5⟩ : _ ∧ _); have M5 : Hid (Mod (fun k => (Value.slice a1 es.length co).ownBlock = some k) w4 w5) := Lib.hid (((Mod.refl _ w4).alloc _).grown g5 (fun k e _ => e)); have q0 := (cell_blk (M5.out.blk R4.out.1 R4.out.2) 0).trans hc0; have q1 := (cell_blk (M5.out.blk R4.out.1 R4.out.2) 1).trans P3.out.c1; have O2' := Lib.hid (O2.out.mod M5.out (fun k e e2 => R5.out k e e2)); clear o5 g5 n5)
              | (at_builtin; refine wpList_append_rows rfl (.tmp 53) (.tmp 55) 51 rfl 25 _ 1 8 Tryd.underlying51 info25 rfl (by decide) (.slice a1 es.length co) (es.map rowO) (by rfl) (O1.out.step (.inr ⟨_, rfl⟩)) (some ⟨w4.heap.size, 0, none⟩) 1 1 [rowO ⟨E.b, true, E.v, E.mb, E.rv, E.l⟩] (by rfl) rfl (fun e => by cases e) (lies_new w4 (rowO ⟨E.b, true, E.v, E.mb, E.rv, E.l⟩) 25 rfl) (by simp [rowO, Value.oneCell']) (by simp [rowO]) hr1.out.1 hr1.out.2 ?_; intro vo5 w5 o5 g5 n5; have O5 := Lib.hid o5; have G5 := Lib.hid (⟨g5, n5⟩ : _ ∧ _); have M5 : Hid (Mod (fun k => (Value.slice a1 es.length co).ownBlock = some k) w4 w5) := Lib.hid (((Mod.refl _ w4).alloc _).grown g5 (fun k e _ => e)); have q0 := (cell_blk (M5.out.blk R4.out.1 R4.out.2) 0).trans hc0; have q1 := (cell_blk (M5.out.blk R4.out.1 R4.out.2) 1).trans P3.out.c1; have O2' := Lib.hid (O2.out.mod M5.out (fun k e e2 => R5.out k e e2)); clear o5 g5 n5)
              | (at_builtin; refine wpList_append_rows rfl (.tmp 57) (.tmp 59) 52 rfl 47 _ 2 32 Tryd.underlying52 info47 rfl (by decide) (.slice a2 es.length kw) (es.map rowW) (by rfl) (O2'.out.step (.inr ⟨_, rfl⟩)) (some ⟨w5.heap.size, 0, none⟩) 1 1 [[.slice a9 E.l.xs.length c9, .int .i64 E.l.nx]] (by rfl) rfl (fun e => by cases e) (lies_new w5 [.slice a9 E.l.xs.length c9, .int .i64 E.l.nx] 47 rfl) (by simp [Value.oneCell']) (by simp) hr2.out.1 hr2.out.2 ?_; intro vw6 w6 o6 g6 n6; have O6 := Lib.hid o6; have G6 := Lib.hid (⟨g6, n6⟩ : _ ∧ _); clear o6 g6 n6))
            all_goals
              go_meet
              have hz4 : (wr.alloc (AB a)).heap.size = wr.heap.size + 1 := by simp
              have hzm : (wr.alloc (AB a)).heap.size ≤ w4.heap.size := I4.out.2.2.size
              have hzb : w.heap.size ≤ (wr.alloc (AB a)).heap.size := P3.out.below.size
              have hz5 : w4.heap.size ≤ w5.heap.size := M5.out.size
              have hzr := lt_of_block R4.out.1
              have M6 : Mod (fun k => (Value.slice a1 es.length co).ownBlock = some k ∨ (Value.slice a2 es.length kw).ownBlock = some k) w4 w6 := ((M5.out.mono (fun _ _ e => .inl e)).alloc _).grown G6.out.1 (fun k e _ => .inr e)
              have no' : ∀ g, vo5.ownBlock = some g → w.heap.size ≤ g := fun g e => by
                rcases G5.out.2 with h | ⟨q, h, hq⟩
                · exact P3.out.no g (h ▸ e)
                · rw [h] at e; cases e; simp at hq; omega
              have nw' : ∀ g, vw6.ownBlock = some g → w1.heap.size < g := fun g e => by
                rcases G6.out.2 with h | ⟨q, h, hq⟩
                · exact P3.out.nw g (h ▸ e)
                · rw [h] at e; cases e; simp at hq; omega
              have mL : Mod (fun k => (Value.slice a2 es.length kw).ownBlock = some k) w5 w6 := ((Mod.refl _ w5).alloc _).grown G6.out.1 (fun k e _ => e)
              have o3 := O5.out.mod mL (fun q e e2 => by obtain ⟨cur, hc⟩ := owns_type O2'.out e2; exact owns_ne O5.out hc (by decide) e)
              have w3 : ∀ B, Owns w6 47 2 vw6 (es.map rowW ++ [rowW ⟨B, true, E.v, E.mb, E.rv, E.l⟩]) := fun B => by
                have h : rowW ⟨B, true, E.v, E.mb, E.rv, E.l⟩ = [.slice a9 E.l.xs.length c9, .int .i64 E.l.nx] := by unfold rowW; rw [HRV.out]
                rw [h]; exact O6.out
              have X6 : Hid (w6.heap[wr.heap.size]? = some (AB a)) := Lib.hid (M6.blk X4.out (fun e => by
                rcases e with e | e
                · exact owns_ne O1.out X4.out (by decide) e
                · exact owns_ne O2.out X4.out (by decide) e))
              try rw [← hz4] at o3
              first
                | exact ⟨⟨⟨(wr.alloc (AB a)).heap.size, true, E.v, E.mb, E.rv, E.l⟩, es ++ [⟨E.b, true, E.v, E.mb, E.rv, E.l⟩], cm, by rw [hz4], Lib.hid (P3.out.copied h8 I4.out.1 I4.out.2.1 I4.out.2.2 M6 no' nw' (.inr ⟨rfl, rfl⟩) o3 (w3 _))⟩, X6⟩
                | exact ⟨⟨⟨E.b, true, E.v, E.mb, E.rv, E.l⟩, es ++ [⟨(wr.alloc (AB a)).heap.size, true, E.v, E.mb, E.rv, E.l⟩], cm, rfl, Lib.hid (P3.out.copied h8 I4.out.1 I4.out.2.1 I4.out.2.2 M6 no' nw' (.inl ⟨rfl, rfl⟩) o3 (w3 _))⟩, X6⟩
          · have g8 : decide (es.length < 8) = false := by simp [h8]
            go_wp2_with fail
            go_meet
            exact ⟨⟨_, _, _, rfl, P3⟩, X3⟩
        case rest =>
          obtain ⟨⟨E1, es1, cm1, rfl, P4⟩, X4⟩ := hcut
          clear P3 X3 d0 d1 d2 d3 d4 hlen
          obtain ⟨a3, co3, a4, kw3, rfl, rfl⟩ := P4.out.forms
          have x0 := cell_blk X4.out 0
          have x1 := cell_blk X4.out 1
          have x2 := cell_blk X4.out 2
          have x3 := cell_blk X4.out 3
          have x4 := cell_blk X4.out 4
          have HD := does_any a hgood _ P4.out.below.size P4.out.tabs' P4.out.duo
          go_wp2_with fail
          refine HD.mono ?_
          rintro e w5 ⟨rfl, q5, D5, m5, g5⟩
          have P5 := Lib.hid (P4.out.does D5 m5 g5)
          have X5 := Lib.hid (P4.out.main.blkKept m5 X4.out (by decide) (by decide) (blk_ne X4.out P4.out.blk (by decide)))
          clear D5 m5 g5 HD P4 X4 x0 x1 x2 x3 x4
          by_cases hz : 0 < es1.length
          · obtain ⟨j, hj⟩ : ∃ j, j = k % es1.length := ⟨_, rfl⟩
            have hjl : j < es1.length := by rw [hj]; exact Nat.mod_lt _ hz
            have hmod : (k : Int) % (es1.length : Int) = (j : Int) := by rw [hj]; exact (Int.natCast_emod _ _).symm
            have hmod2 : (k : Int).tmod (es1.length : Int) = (j : Int) := by rw [Int.tmod_eq_emod_of_nonneg (by omega)]; exact hmod
            obtain ⟨go, co', gw, kw', cw, e1, h1, h2, e2, k1, k2, p0, ⟨cgo, hcgo⟩, hcw, hgw, DD⟩ := P5.out.at hjl
            cases e1
            cases e2
            obtain ⟨kk, hkk⟩ : ∃ kk, IntKind.i64.wrap (a.kind + 1) = kk := ⟨_, rfl⟩
            have hkk' : wrap64 (a.kind + 1) = kk := by rw [← hkk, IntKind.wrap_i64]; unfold wrap64; omega
            have P5' := Lib.hid (P5.out.mono (Below.refl _ w5).drew)
            have HCG := Lib.hid hcgo
            have HD : Calls Tryd.prog 26 #[.pointer (some ⟨es1[j].b, 0, none⟩), .pointer (some ⟨gw, j * 2, none⟩), AV ⟨kk, a.n, a.k⟩] w5.drew (DoesPost w.heap.size w5.drew es1[j].b gw (j * 2) ⟨es1[j].sh, es1[j].v, es1[j].mb, cw, es1[j].rv⟩ (stepL ⟨kk, a.n, a.k⟩ es1[j].l)) :=
              does_any ⟨kk, a.n, a.k⟩ ⟨hgood.key⟩ w5.drew P5'.out.below.size P5'.out.tabs' (P5'.out.duoAt hjl rfl hcw hgw)
            obtain ⟨b2, hb2⟩ : ∃ b2, b2 = es1[j].b := ⟨_, rfl⟩
            rw [← hb2] at p0 HD
            have HB := Lib.hid (⟨hb2, hcw, hgw⟩ : _ ∧ _ ∧ _)
            have S5 : w5.drew.cell? ⟨go, j, none⟩ = some (.pointer (some ⟨b2, 0, none⟩)) ∧ w5.drew.cell? ⟨wr.heap.size, 0, none⟩ = some (.int .i64 a.kind) ∧ w5.drew.cell? ⟨wr.heap.size, 1, none⟩ = some (.int .i64 a.n) ∧ w5.drew.cell? ⟨wr.heap.size, 2, none⟩ = some (.bool a.k.b) ∧ w5.drew.cell? ⟨wr.heap.size, 3, none⟩ = some (.int .i64 a.k.n) ∧ w5.drew.cell? ⟨wr.heap.size, 4, none⟩ = some (.string a.k.t) :=
              ⟨p0, cell_blk X5.out 0, cell_blk X5.out 1, cell_blk X5.out 2, cell_blk X5.out 3, cell_blk X5.out 4⟩
            have HS5 := Lib.hid S5
            have hj1 : (j : Int) < (es1.length : Int) := by omega
            have hj0 : (0 : Int) ≤ (j : Int) := by omega
            clear p0 hcw hgw hcgo S5 hj h1 h2 k1 k2 hb2 DD
            go_wp2_with fail
            clear hmod hmod2
            go_region_held3 (fun W => W.cell? ⟨go, j, none⟩ = some (.pointer (some ⟨b2, 0, none⟩)) ∧ W.cell? ⟨wr.heap.size, 0, none⟩ = some (.int .i64 a.kind) ∧ W.cell? ⟨wr.heap.size, 1, none⟩ = some (.int .i64 a.n) ∧ W.cell? ⟨wr.heap.size, 2, none⟩ = some (.bool a.k.b) ∧ W.cell? ⟨wr.heap.size, 3, none⟩ = some (.int .i64 a.k.n) ∧ W.cell? ⟨wr.heap.size, 4, none⟩ = some (.string a.k.t))
              (first
                | exact HS5.out
                | exact HS7.out)
              ((go_at_call 26; refine HD.mono ?_; rintro e w7 ⟨rfl, q7, D7, m7, g7⟩; have HS7 := Lib.hid (P5'.out.cellsKept (i := j) hjl rfl HB.out.2.1 HS5.out (by rw [← HB.out.1]; exact m7) HCG.out X5.out); have P7 := Lib.hid (P5'.out.doesAt hjl rfl HB.out.2.1 HB.out.2.2 (P5'.out.duoAt hjl rfl HB.out.2.1 HB.out.2.2) (by rw [← HB.out.1]; exact D7) (by rw [← HB.out.1]; exact m7) g7); clear D7 m7 g7))
            go_wp2_with fail
            go_roundw
            case rel => exact ⟨k + 1, hlt, by go_num, ⟨E1.b, q5.sh, q5.v, q5.mb, q5.rv, stepL a E1.l⟩, _, _, rfl, P7⟩
            case measure => exact Nat.sub_lt_sub_left hlt (Nat.lt_succ_self k)
          · have hz2 : decide (0 < es1.length) = false := by simpa using hz
            go_wp2_with fail
            go_roundw
            case rel => exact ⟨k + 1, hlt, by go_num, ⟨E1.b, q5.sh, q5.v, q5.mb, q5.rv, stepL a E1.l⟩, _, _, rfl, P5⟩
            case measure => exact Nat.sub_lt_sub_left hlt (Nat.lt_succ_self k)
      · have hk3' : ((a.kind.tmod 5 + 5).tmod 5 == 3) = false := by simp [hk3]
        clear hk3
        go_upto_if 37 with fail
        clear d0 d1 d2 d3 d4 hlen
        have P4 := P3
        have X4 := X3
        clear P3 X3
        have x0 := cell_blk X4.out 0
        have x1 := cell_blk X4.out 1
        have x2 := cell_blk X4.out 2
        have x3 := cell_blk X4.out 3
        have x4 := cell_blk X4.out 4
        have HD := does_any a hgood _ P4.out.below.size P4.out.tabs' P4.out.duo
        go_wp2_with fail
        refine HD.mono ?_
        rintro e w5 ⟨rfl, q5, D5, m5, g5⟩
        have P5 := Lib.hid (P4.out.does D5 m5 g5)
        have X5 := Lib.hid (P4.out.main.blkKept m5 X4.out (by decide) (by decide) (blk_ne X4.out P4.out.blk (by decide)))
        clear D5 m5 g5 HD P4 X4 x0 x1 x2 x3 x4
        by_cases hz : 0 < es.length
        · obtain ⟨j, hj⟩ : ∃ j, j = k % es.length := ⟨_, rfl⟩
          have hjl : j < es.length := by rw [hj]; exact Nat.mod_lt _ hz
          have hmod : (k : Int) % (es.length : Int) = (j : Int) := by rw [hj]; exact (Int.natCast_emod _ _).symm
          have hmod2 : (k : Int).tmod (es.length : Int) = (j : Int) := by rw [Int.tmod_eq_emod_of_nonneg (by omega)]; exact hmod
          obtain ⟨go, co', gw, kw', cw, e1, h1, h2, e2, k1, k2, p0, ⟨cgo, hcgo⟩, hcw, hgw, DD⟩ := P5.out.at hjl
          cases e1
          cases e2
          obtain ⟨kk, hkk⟩ : ∃ kk, IntKind.i64.wrap (a.kind + 1) = kk := ⟨_, rfl⟩
          have hkk' : wrap64 (a.kind + 1) = kk := by rw [← hkk, IntKind.wrap_i64]; unfold wrap64; omega
          have P5' := Lib.hid (P5.out.mono (Below.refl _ w5).drew)
          have HCG := Lib.hid hcgo
          have HD : Calls Tryd.prog 26 #[.pointer (some ⟨es[j].b, 0, none⟩), .pointer (some ⟨gw, j * 2, none⟩), AV ⟨kk, a.n, a.k⟩] w5.drew (DoesPost w.heap.size w5.drew es[j].b gw (j * 2) ⟨es[j].sh, es[j].v, es[j].mb, cw, es[j].rv⟩ (stepL ⟨kk, a.n, a.k⟩ es[j].l)) :=
            does_any ⟨kk, a.n, a.k⟩ ⟨hgood.key⟩ w5.drew P5'.out.below.size P5'.out.tabs' (P5'.out.duoAt hjl rfl hcw hgw)
          obtain ⟨b2, hb2⟩ : ∃ b2, b2 = es[j].b := ⟨_, rfl⟩
          rw [← hb2] at p0 HD
          have HB := Lib.hid (⟨hb2, hcw, hgw⟩ : _ ∧ _ ∧ _)
          have S5 : w5.drew.cell? ⟨go, j, none⟩ = some (.pointer (some ⟨b2, 0, none⟩)) ∧ w5.drew.cell? ⟨wr.heap.size, 0, none⟩ = some (.int .i64 a.kind) ∧ w5.drew.cell? ⟨wr.heap.size, 1, none⟩ = some (.int .i64 a.n) ∧ w5.drew.cell? ⟨wr.heap.size, 2, none⟩ = some (.bool a.k.b) ∧ w5.drew.cell? ⟨wr.heap.size, 3, none⟩ = some (.int .i64 a.k.n) ∧ w5.drew.cell? ⟨wr.heap.size, 4, none⟩ = some (.string a.k.t) :=
            ⟨p0, cell_blk X5.out 0, cell_blk X5.out 1, cell_blk X5.out 2, cell_blk X5.out 3, cell_blk X5.out 4⟩
          have HS5 := Lib.hid S5
          have hj1 : (j : Int) < (es.length : Int) := by omega
          have hj0 : (0 : Int) ≤ (j : Int) := by omega
          clear p0 hcw hgw hcgo S5 hj h1 h2 k1 k2 hb2 DD
          go_wp2_with fail
          clear hmod hmod2
          go_region_held3 (fun W => W.cell? ⟨go, j, none⟩ = some (.pointer (some ⟨b2, 0, none⟩)) ∧ W.cell? ⟨wr.heap.size, 0, none⟩ = some (.int .i64 a.kind) ∧ W.cell? ⟨wr.heap.size, 1, none⟩ = some (.int .i64 a.n) ∧ W.cell? ⟨wr.heap.size, 2, none⟩ = some (.bool a.k.b) ∧ W.cell? ⟨wr.heap.size, 3, none⟩ = some (.int .i64 a.k.n) ∧ W.cell? ⟨wr.heap.size, 4, none⟩ = some (.string a.k.t))
            (first
              | exact HS5.out
              | exact HS7.out)
            ((go_at_call 26; refine HD.mono ?_; rintro e w7 ⟨rfl, q7, D7, m7, g7⟩; have HS7 := Lib.hid (P5'.out.cellsKept (i := j) hjl rfl HB.out.2.1 HS5.out (by rw [← HB.out.1]; exact m7) HCG.out X5.out); have P7 := Lib.hid (P5'.out.doesAt hjl rfl HB.out.2.1 HB.out.2.2 (P5'.out.duoAt hjl rfl HB.out.2.1 HB.out.2.2) (by rw [← HB.out.1]; exact D7) (by rw [← HB.out.1]; exact m7) g7); clear D7 m7 g7))
          go_wp2_with fail
          go_roundw
          case rel => exact ⟨k + 1, hlt, by go_num, ⟨E.b, q5.sh, q5.v, q5.mb, q5.rv, stepL a E.l⟩, _, _, rfl, P7⟩
          case measure => exact Nat.sub_lt_sub_left hlt (Nat.lt_succ_self k)
        · have hz2 : decide (0 < es.length) = false := by simpa using hz
          go_wp2_with fail
          go_roundw
          case rel => exact ⟨k + 1, hlt, by go_num, ⟨E.b, q5.sh, q5.v, q5.mb, q5.rv, stepL a E.l⟩, _, _, rfl, P5⟩
          case measure => exact Nat.sub_lt_sub_left hlt (Nat.lt_succ_self k)
    · obtain rfl : k = acts.length := by omega
      obtain ⟨a1, co, a2, kw, rfl, rfl⟩ := HP.out.forms
      have hlen := HP.out.len
      go_wp2_with fail
      go_loopw [92] (fun i wx => ∃ j : Nat, j ≤ es.length ∧ i = .int .i64 j ∧ ∃ E1 es1, es1.length = es.length ∧ E1.b = E.b ∧ Hid (CP w wx E1 es1 w1.heap.size cm (.slice a1 es.length co) (.slice a2 es.length kw) ao acts)) (fun i _ => es.length - (intOf i).toNat)
      case atStart => exact ⟨0, Nat.zero_le _, rfl, E, es, rfl, rfl, HP⟩
      case round =>
        obtain ⟨j, hjl, rfl, E1, es1, he1, hb1, P1⟩ := hrel
        clear HP
        by_cases hjt : j < es.length
        · obtain ⟨go, co', gw, kw', cw, e1, h1, h2, e2, k1, k2, p0, ⟨cgo, hcgo⟩, hcw, hgw, DD⟩ := P1.out.at (i := j) (by rw [he1]; exact hjt)
          obtain ⟨rfl, -, rfl⟩ : a1 = some ⟨go, 0, none⟩ ∧ es.length = es1.length ∧ co = co' := by simpa using e1
          obtain ⟨rfl, -, rfl⟩ : a2 = some ⟨gw, 0, none⟩ ∧ es.length = es1.length ∧ kw = kw' := by simpa using e2
          have hjq : j < es1.length := by rw [he1]; exact hjt
          obtain ⟨b2, hb2⟩ : ∃ b2, b2 = es1[j].b := ⟨_, rfl⟩
          have P1' := Lib.hid (P1.out.mono (Below.refl _ wr).drew)
          have D' : Duo w.heap.size wr.drew es1[j].b gw (j * 2) ⟨es1[j].sh, es1[j].v, es1[j].mb, cw, es1[j].rv⟩ es1[j].l es1[j].l := by
            have d := P1'.out.at (i := j) hjq
            obtain ⟨go', co', gw', kw', cw', e1', h1', h2', e2', k1', k2', p0', -, hcw', hgw', DD'⟩ := d
            obtain ⟨rfl, -, -⟩ : gw = gw' ∧ es.length = es1.length ∧ kw = kw' := by simpa using e2'
            have hcw2 : wr.drew.heap[gw]? = some (.cells cw 47 (0, 0)) := hcw
            rw [hcw2] at hcw'
            cases hcw'
            exact DD'
          have HS := stands_any wr.drew P1'.out.below.size P1'.out.tabs' D'
          rw [← hb2] at p0 HS
          have S5 : wr.drew.cell? ⟨go, j, none⟩ = some (.pointer (some ⟨b2, 0, none⟩)) := p0
          have HS5 := Lib.hid S5
          have HC := Lib.hid (⟨hb2, hcgo⟩ : _ ∧ _)
          have hj1 : (j : Int) < (es.length : Int) := by omega
          have hj0 : (0 : Int) ≤ (j : Int) := by omega
          have hw1 : IntKind.i64.wrap ((j : Int) + 1) = (j : Int) + 1 := wrap_in (by omega) (by omega)
          have hw2 : wrap64 ((j : Int) + 1) = (j : Int) + 1 := wrap64_in' (by omega) (by omega)
          clear p0 hcw hgw hcgo S5 h1 h2 k1 k2 e1 e2 hb2 DD D'
          go_wp2_with fail
          go_region_held3 (fun W => W.cell? ⟨go, j, none⟩ = some (.pointer (some ⟨b2, 0, none⟩)))
            (first
              | exact HS5.out
              | exact HS7.out)
            ((go_at_call 27; refine HS.mono ?_; rintro e w7 ⟨rfl, i7, j7, m7⟩; have HS7 := Lib.hid ((cell_blk (m7.blk (show wr.drew.heap[go]? = some (.cells cgo 25 (0, 0)) from HC.out.2) (by have h := blk_ne (show wr.drew.heap[go]? = some (.cells cgo 25 (0, 0)) from HC.out.2) ((P1'.out.fam.one es1[j] (by simp [List.getElem_mem hjq])).lst.blk) (by decide); rw [← HC.out.1] at h; exact h)) j).trans ((cell_blk HC.out.2 j).symm.trans HS5.out)); have P7 := Lib.hid (P1'.out.standsAt hjq (by rw [← HC.out.1]; exact i7) (by rw [← HC.out.1]; exact m7)); clear i7 j7 m7))
          go_wp2_with fail
          go_roundw
          case rel => exact ⟨j + 1, hjt, by go_num, E1, _, by rw [List.length_set]; exact he1, hb1, P7⟩
          case measure => exact Nat.sub_lt_sub_left hjt (Nat.lt_succ_self j)
        · obtain rfl : j = es.length := by omega
          have D1 := P1.out.duo
          rw [hb1] at D1
          have HS := stands_any wr P1.out.below.size P1.out.tabs' D1
          go_wp2_with fail
          refine HS.mono ?_
          rintro e w8 ⟨rfl, i5, j5, m5⟩
          have P5 := Lib.hid (P1.out.stands (by rw [hb1]; exact i5) j5 (by rw [hb1]; exact m5))
          clear i5 j5 m5 HS D1
          go_wp2_with fail
          go_ret
          exact ⟨rfl, P5.out.below⟩
end Go.Proofs.YtgpdhmgbmhfooaaDoor
