/-
  The walk of items: may a list's items be; of may and Right at every value.
  A list of values in memory; the walks of New, ok, Next, Get, own.
-/
import Derived.Test.YtnaefnojmiolbaaGreatDoorJw4
import Derived.StillTailTactics
namespace Go.Proofs.YtnaefnojmiolbaaGreatDoor
open Go.RowKit

theorem key_eql (x y : K) (w : World) : (binOp .eql 62 (.agg #[.bool x.b, .int .i64 x.n, .string x.t]) (.agg #[.bool y.b, .int .i64 y.n, .string y.t])).run Tryz.prog w = .ok (.bool (K.same x y)) w := by
  unfold K.same
  cases h1 : x.b == y.b
  · go_simp
  · cases h2 : x.n == y.n
    · go_simp
    · cases h3 : x.t.toList == y.t.toList
      · go_simp
      · go_simp
theorem key_neq (x y : K) (w : World) : (binOp .neq 62 (.agg #[.bool x.b, .int .i64 x.n, .string x.t]) (.agg #[.bool y.b, .int .i64 y.n, .string y.t])).run Tryz.prog w = .ok (.bool (!K.same x y)) w := by
  unfold K.same
  cases h1 : x.b == y.b
  · go_simp
  · cases h2 : x.n == y.n
    · go_simp
    · cases h3 : x.t.toList == y.t.toList
      · go_simp
      · go_simp
attribute [local go_sem] yld_undef
def metF (met : List K) (x : K) : Option Bool := if x ∈ met then some true else none
/-- A round of items is under way. -/
structure RI (w : World) (B1 B2 mb : Nat) (v : VT) (c : Value) (q : K) (x : VT) (co : Option Addr) (cc : Nat) (met : List K) (cnt : Nat) (V : World) : Prop where
  tabs : Tabs V
  box : V.heap[B1]? = some (VB v c)
  blk : V.heap[B2]? = some (IB (q, x) (.slice co x.xs.length cc))
  map : mKB.Is V mb (metF met) cnt
  vin : VIn V (.slice co x.xs.length cc) x.xs
  below : Below w.heap.size w V
section
variable {w V V' : World} {B1 B2 mb : Nat} {v : VT} {c : Value} {q : K} {x : VT} {co : Option Addr} {cc : Nat} {met : List K} {cnt : Nat}
theorem RI.mono (h : RI w B1 B2 mb v c q x co cc met cnt V) (hb : Below V.heap.size V V') : RI w B1 B2 mb v c q x co cc met cnt V' :=
  ⟨h.tabs.mono hb, (hb.block _ (lt_of_block h.box)).trans h.box, (hb.block _ (lt_of_block h.blk)).trans h.blk, h.map.under hb, h.vin.under hb, h.below.trans (hb.mono h.below.size)⟩
def RS (B2 mb : Nat) (q : K) (x : VT) (co : Option Addr) (cc : Nat) (e2 : Bool) (V : World) : Prop :=
  V.cell? ⟨B2, 0, none⟩ = some (.bool q.b) ∧ V.cell? ⟨B2, 1, none⟩ = some (.int .i64 q.n) ∧ V.cell? ⟨B2, 2, none⟩ = some (.string q.t) ∧ V.cell? ⟨B2, 3, none⟩ = some (.int .i64 x.k) ∧ V.cell? ⟨B2, 4, none⟩ = some (.int .i64 x.n) ∧ V.cell? ⟨B2, 5, none⟩ = some (.string x.t) ∧ V.cell? ⟨B2, 6, none⟩ = some (.slice co x.xs.length cc) ∧
    (Instr.lookup 152 (.map (some mb)) (.agg #[.bool q.b, .int .i64 q.n, .string q.t]) false).run Tryz.prog V = .ok (.bool e2) V
theorem RI.all (h : RI w B1 B2 mb v c q x co cc met cnt V) (hq : q.Good) {e2 : Bool} (he : decide (q ∈ met) = e2) : RS B2 mb q x co cc e2 V := by
  obtain ⟨b0, b1, b2, b3, b4, b5, b6⟩ := ib_cells h.blk
  refine ⟨b0, b1, b2, b3, b4, b5, b6, ?_⟩
  have := h.map.look1 (x := q) hq
  rw [← he]
  have e : (metF met q).getD mKB.z = decide (q ∈ met) := by
    unfold metF
    by_cases hm : q ∈ met
    · simp [hm]
    · simp [hm]; rfl
  rw [e] at this
  exact this
end
theorem itemsL_cons (n d : Int) (met : List K) (q : K) (x : VT) (r : List It) : itemsL n d met ((q, x) :: r) = ((K.same q.norm q && !(decide (q ∈ met)) && mayV x (d + 1)) && (!(!q.b && decide (0 ≤ n) && decide (n ≤ q.n)) && itemsL n d (q :: met) r)) := by rw [itemsL]
theorem metF_put (met : List K) (q : K) : (fun y => if y = q then some true else metF met y) = metF (q :: met) := by
  funext y
  unfold metF
  by_cases h : y = q
  · simp [h]
  · simp [h]
set_option maxHeartbeats 3200000 in
set_option maxRecDepth 100000 in
theorem items_any (k n : Int) (t : ByteArray) (l : List It) (hl : GoodL l) (d : Int) (hd0 : 0 ≤ d) (hd1 : d ≤ 64)
    (ih : ∀ x ∈ l, ∀ (w : World) (c : Value), VIn w c x.2.xs → Tabs w → d < 64 → Calls Tryz.prog 52 #[x.2.v c, .int .i64 (d + 1)] w (BoolPost w (mayV x.2 (d + 1))))
    (ao : Option Addr) (cap : Nat) (w : World) (hv : VIn w (.slice ao l.length cap) l) (ht : Tabs w) :
    Calls Tryz.prog 86 #[.agg #[.int .i64 k, .int .i64 n, .string t, .slice ao l.length cap], .int .i64 d] w (BoolPost w ((emptyT t && decide (-1 ≤ n) && decide (l.length ≤ 2048) && decide (d < 64)) && itemsL n d [] l)) := by
  have hmm := @run_makeMap Tryz.prog
  have HB := Lib.hid (below_alloc1 w (VB (.mk k n t l) (.slice ao l.length cap)))
  have HBX := Lib.hid (heap_alloc_new w (VB (.mk k n t l) (.slice ao l.length cap)))
  have HV := Lib.hid hv
  have HT := Lib.hid (fun W' hb => ht.mono hb : ∀ W', Below w.heap.size w W' → Tabs W')
  have IH := Lib.hid ih
  have HG := Lib.hid (goodL_iff.1 hl)
  have HLN : Hid (l.length ≤ 140737488355328) := Lib.hid (by obtain ⟨a, b, hab, h⟩ := hv.form; exact h)
  obtain ⟨r, hr⟩ : ∃ r, r = ((emptyT t && decide (-1 ≤ n) && decide (l.length ≤ 2048) && decide (d < 64)) && itemsL n d [] l) := ⟨_, rfl⟩
  rw [← hr]
  obtain ⟨e1, h1⟩ : ∃ e, t.toList.isEmpty = e := ⟨_, rfl⟩
  obtain ⟨e2, h2⟩ : ∃ e, decide (n < -1) = e := ⟨_, rfl⟩
  obtain ⟨e3, h3⟩ : ∃ e, decide (2048 < (l.length : Int)) = e := ⟨_, rfl⟩
  obtain ⟨e4, h4⟩ : ∃ e, decide (64 ≤ d) = e := ⟨_, rfl⟩
  have g2 : decide (-1 ≤ n) = !e2 := by rw [← h2]; by_cases h : n < -1 <;> simp [h] <;> omega
  have g3 : decide (l.length ≤ 2048) = !e3 := by rw [← h3]; by_cases h : l.length ≤ 2048 <;> simp [h] <;> omega
  have g4 : decide (d < 64) = !e4 := by rw [← h4]; by_cases h : d < 64 <;> simp [h] <;> omega
  have HR : Hid (r = ((e1 && !e2 && !e3 && !e4) && itemsL n d [] l)) := Lib.hid (by rw [hr, g2, g3, g4, ← h1]; rfl)
  clear hl ih hv ht hr g2 g3 g4
  by_cases hearly : (e1 && !e2 && !e3 && !e4) = true
  · simp only [Bool.and_eq_true, Bool.not_eq_true'] at hearly
    obtain ⟨⟨⟨rfl, rfl⟩, rfl⟩, rfl⟩ := hearly
    have HR1 : Hid (r = itemsL n d [] (l.drop 0)) := Lib.hid (by rw [HR.out]; simp)
    have hd64 : d < 64 := by have := of_decide_eq_false h4; omega
    obtain ⟨hwd', hwd⟩ := wr_sm (x := d + 1) (by omega) (by omega)
    clear HR
    go_enter Tryz.func86, Tryz.ntmps86
    go_wp2_with fail
    have M0 : Hid (0 ≤ 0 ∧ mKB.Is ((w.alloc (VB (.mk k n t l) (.slice ao l.length cap))).alloc (.map #[] 0)) (w.heap.size + 1) (metF []) 0 ∧ ((w.alloc (VB (.mk k n t l) (.slice ao l.length cap))).alloc (.map #[] 0)).heap[w.heap.size]? = some (VB (.mk k n t l) (.slice ao l.length cap)) ∧ Below w.heap.size w ((w.alloc (VB (.mk k n t l) (.slice ao l.length cap))).alloc (.map #[] 0))) :=
      Lib.hid ⟨Nat.le_refl _, by have h := (MSpec.made (S := mKB) (w.alloc (VB (.mk k n t l) (.slice ao l.length cap)))).congr (G := metF []) (fun x _ => rfl); simpa using h, alloc_blk HBX.out _, HB.out.alloc (by simp) _⟩
    go_loopw [30] (fun kv wr => ∃ (j : Nat) (met : List K) (cnt : Nat), j ≤ l.length ∧ kv = .int .i64 j ∧ Hid (r = itemsL n d met (l.drop j)) ∧ Hid (cnt ≤ j ∧ mKB.Is wr (w.heap.size + 1) (metF met) cnt ∧ wr.heap[w.heap.size]? = some (VB (.mk k n t l) (.slice ao l.length cap)) ∧ Below w.heap.size w wr)) (fun kv _ => l.length - (intOf kv).toNat)
    case atStart => exact ⟨0, [], 0, Nat.zero_le _, rfl, HR1, M0⟩
    case round =>
      obtain ⟨j, met, cnt, hj, rfl, HX, MX⟩ := hrel
      by_cases hlt : j < l.length
      · obtain ⟨q, v, g, off, co, cc, hq, hm, rfl, hc, d0, d1, d2, d3, d4, d5, d6⟩ := HV.out.getB hlt MX.out.2.2.2 rfl
        have hi : (j : Int) < (l.length : Int) := by omega
        obtain ⟨hwi', hwi⟩ : wrap64 ((j : Int) + 1) = (j : Int) + 1 ∧ IntKind.i64.wrap ((j : Int) + 1) = (j : Int) + 1 := wr_sm (by omega) (by have := HLN.out; omega)
        have D0 : Hid (RI w w.heap.size wr.heap.size (w.heap.size + 1) (.mk k n t l) (.slice (some ⟨g, off, none⟩) l.length cap) q v co cc met cnt (wr.alloc (IB (q, v) (.slice co v.xs.length cc))).drew) :=
          Lib.hid ((RI.mono (V := wr.alloc (IB (q, v) (.slice co v.xs.length cc))) ⟨HT.out _ (MX.out.2.2.2.alloc MX.out.2.2.2.size _), alloc_blk MX.out.2.2.1 _, heap_alloc_new _ _, MX.out.2.1.under (below_alloc1 _ _), hc.under (below_alloc1 _ _), MX.out.2.2.2.alloc MX.out.2.2.2.size _⟩) (belowD (Below.refl _ _)))
        obtain ⟨q1, hq1⟩ : ∃ q1, q1 = q.norm := ⟨_, rfl⟩
        have hgq := HG.out (q, v) hm
        have HN : ∀ w, Tabs w → Calls Tryz.prog 80 #[.agg #[.bool q.b, .int .i64 q.n, .string q.t]] w fun e w' => e = .returned (.agg #[.bool q1.b, .int .i64 q1.n, .string q1.t]) ∧ Below w.heap.size w w' := fun w ht => by
          rw [hq1]; exact norm_any q hgq.1 w ht
        obtain ⟨f2, hf2⟩ : ∃ f2, decide (q ∈ met) = f2 := ⟨_, rfl⟩
        obtain ⟨f1, hf1⟩ : ∃ f1, K.same q1 q = f1 := ⟨_, rfl⟩
        have hN : ∀ w, (binOp .neq 62 (.agg #[.bool q1.b, .int .i64 q1.n, .string q1.t]) (.agg #[.bool q.b, .int .i64 q.n, .string q.t])).run Tryz.prog w = .ok (.bool (!f1)) w := fun w => by rw [← hf1]; exact key_neq q1 q w
        obtain ⟨f3, hf3⟩ : ∃ f3, mayV v (d + 1) = f3 := ⟨_, rfl⟩
        have HM : ∀ w, VIn w (.slice co v.xs.length cc) v.xs → Tabs w → Calls Tryz.prog 52 #[.agg #[.int .i64 v.k, .int .i64 v.n, .string v.t, .slice co v.xs.length cc], .int .i64 (d + 1)] w (BoolPost w f3) := fun w h1 h2 => by
          rw [← hf3]; exact IH.out (q, v) hm w _ h1 h2 hd64
        have HRn : Hid (r = ((f1 && !f2 && f3) && (!(!q.b && decide (0 ≤ n) && decide (n ≤ q.n)) && itemsL n d (q :: met) (l.drop (j + 1))))) := Lib.hid (by rw [HX.out, drop_at hq, itemsL_cons, ← hq1, hf1, hf2, hf3])
        have HS0 := Lib.hid (D0.out.all hgq.1 hf2)
        have HGQ := Lib.hid hgq
        have HLT := Lib.hid hlt
        have HF2 := Lib.hid hf2
        clear hc hq hm hlt hq1 hf1 hf2 hf3 hgq
        go_wp2_with fail
        obtain ⟨b0, b1, b2, b3, b4, b5, b6, -⟩ := HS0.out
        by_cases hf : (f1 && !f2 && f3) = true
        · simp only [Bool.and_eq_true, Bool.not_eq_true'] at hf
          obtain ⟨⟨rfl, rfl⟩, rfl⟩ := hf
          go_region_held3 (fun V => V.cell? ⟨wr.heap.size, 0, none⟩ = some (.bool q.b) ∧ V.cell? ⟨wr.heap.size, 1, none⟩ = some (.int .i64 q.n) ∧ V.cell? ⟨wr.heap.size, 2, none⟩ = some (.string q.t) ∧ V.cell? ⟨wr.heap.size, 3, none⟩ = some (.int .i64 v.k) ∧ V.cell? ⟨wr.heap.size, 4, none⟩ = some (.int .i64 v.n) ∧ V.cell? ⟨wr.heap.size, 5, none⟩ = some (.string v.t) ∧ V.cell? ⟨wr.heap.size, 6, none⟩ = some (.slice co v.xs.length cc) ∧ (Instr.lookup 152 (.map (some (w.heap.size + 1))) (.agg #[.bool q.b, .int .i64 q.n, .string q.t]) false).run Tryz.prog V = .ok (.bool false) V)
          (first
            | exact HS0.out
            | exact HS1.out
            | exact HS2.out)
          (first
            | (go_at_call 80; refine (HN _ D0.out.tabs).mono ?_; rintro e w1 ⟨rfl, hb⟩; have D1 := Lib.hid (D0.out.mono hb); have HS1 := Lib.hid (D1.out.all HGQ.out.1 HF2.out); clear hb)
            | (go_at_call 52; refine (HM _ D1.out.vin D1.out.tabs).mono ?_; rintro e w2 ⟨rfl, hb⟩; have D2 := Lib.hid (D1.out.mono hb); have HS2 := Lib.hid (D2.out.all HGQ.out.1 HF2.out); clear hb))
          have x1 : w2.cell? ⟨w.heap.size, 1, none⟩ = some (.int .i64 n) := (vb_cells D2.out.box).2.1
          obtain ⟨c0, c1, c2, c3, c4, c5, c6⟩ := ib_cells D2.out.blk
          obtain ⟨w3, hput0, i3, g3⟩ := D2.out.map.put (by have h1 := MX.out.1; have h2 := HLT.out; have h3 := HLN.out; unfold maxLen; omega) (x := q) HGQ.out.1 (a := true) trivial
          have hput : (Instr.mapUpdate 152 (.map (some (w.heap.size + 1))) (.agg #[.bool q.b, .int .i64 q.n, .string q.t]) (.bool true)).run Tryz.prog w2 = .ok () w3 := hput0
          have X3 : Hid (mKB.Is w3 (w.heap.size + 1) (metF (q :: met)) (if (metF met q).isSome = true then cnt else cnt + 1) ∧ w3.heap[w.heap.size]? = some (VB (.mk k n t l) (.slice (some ⟨g, off, none⟩) l.length cap)) ∧ Below w.heap.size w w3) :=
            Lib.hid ⟨i3.congr (fun y _ => congrFun (metF_put met q).symm y), (g3.block _ (lt_of_block D2.out.box) (fun e => by have := Option.some.inj e; omega)).trans D2.out.box,
              D2.out.below.trans ⟨g3.os, g3.tape, g3.output, g3.size, fun k hk => g3.block k (Nat.lt_of_lt_of_le hk D2.out.below.size) (fun e => by have := Option.some.inj e; omega)⟩⟩
          have HCN : Hid ((if (metF met q).isSome = true then cnt else cnt + 1) ≤ j + 1) := Lib.hid (by have := MX.out.1; split <;> omega)
          generalize (if (metF met q).isSome = true then cnt else cnt + 1) = cnt' at X3 HCN
          obtain ⟨a0, ha0⟩ : ∃ a, decide (0 ≤ n) = a := ⟨_, rfl⟩
          obtain ⟨a1, ha1⟩ : ∃ a, decide (n ≤ q.n) = a := ⟨_, rfl⟩
          have HRm : Hid (r = (!(!q.b && a0 && a1) && itemsL n d (q :: met) (l.drop (j + 1)))) := Lib.hid (by rw [HRn.out, ha0, ha1]; rfl)
          clear hput0 i3 g3 HRn b0 b1 b2 b3 b4 b5 b6 hN
          rcases hqb : q.b with _ | _
          · rw [hqb] at c0 hput
            cases a0
            · have HR2 : Hid (r = itemsL n d (q :: met) (l.drop (j + 1))) := Lib.hid (by rw [HRm.out, hqb]; rfl)
              clear HRm
              go_wp2_with fail
              go_roundw
              case rel => exact ⟨j + 1, q :: met, cnt', HLT.out, by go_num, HR2, Lib.hid ⟨HCN.out, X3.out⟩⟩
              case measure => have := HLT.out; simp [intOf]; omega
            · cases a1
              · have HR2 : Hid (r = itemsL n d (q :: met) (l.drop (j + 1))) := Lib.hid (by rw [HRm.out, hqb]; rfl)
                clear HRm
                go_wp2_with fail
                go_roundw
                case rel => exact ⟨j + 1, q :: met, cnt', HLT.out, by go_num, HR2, Lib.hid ⟨HCN.out, X3.out⟩⟩
                case measure => have := HLT.out; simp [intOf]; omega
              · have hrf : r = false := by rw [HRm.out, hqb]; rfl
                subst hrf
                clear HRm HX
                go_wp2_with fail
                go_ret
                exact ⟨rfl, D2.out.below⟩
          · rw [hqb] at c0 hput
            have HR2 : Hid (r = itemsL n d (q :: met) (l.drop (j + 1))) := Lib.hid (by rw [HRm.out, hqb]; rfl)
            clear HRm
            go_wp2_with fail
            go_roundw
            case rel => exact ⟨j + 1, q :: met, cnt', HLT.out, by go_num, HR2, Lib.hid ⟨HCN.out, X3.out⟩⟩
            case measure => have := HLT.out; simp [intOf]; omega
        · have hrf : r = false := by rw [HRn.out]; simp only [Bool.not_eq_true] at hf; rw [hf]; rfl
          subst hrf
          clear HRn HX
          cases f1
          · clear hf
            refine wp_region_noPanic ?_
            refine wp_region_held_drew (S := (fun V => V.cell? ⟨wr.heap.size, 0, none⟩ = some (.bool q.b) ∧ V.cell? ⟨wr.heap.size, 1, none⟩ = some (.int .i64 q.n) ∧ V.cell? ⟨wr.heap.size, 2, none⟩ = some (.string q.t) ∧ V.cell? ⟨wr.heap.size, 3, none⟩ = some (.int .i64 v.k) ∧ V.cell? ⟨wr.heap.size, 4, none⟩ = some (.int .i64 v.n) ∧ V.cell? ⟨wr.heap.size, 5, none⟩ = some (.string v.t) ∧ V.cell? ⟨wr.heap.size, 6, none⟩ = some (.slice co v.xs.length cc) ∧ (Instr.lookup 152 (.map (some (w.heap.size + 1))) (.agg #[.bool q.b, .int .i64 q.n, .string q.t]) false).run Tryz.prog V = .ok (.bool f2) V)) (by kernel_rfl) (by exact HS0.out) (fun hHeld => ?_)
            refine wpAnyH_take (i := 0) (oi := ?o0) (v := ?v0) ?hi0 (by kernel_rfl) (by kernel_rfl) (by kernel_rfl) (fun _ _ _ h => h) ?hy0 (by assumption) ?rest0
            case hi0 => simp only [gA, gZ]; rfl
            case hy0 =>
              refine Or.inl ⟨by rfl, ?_⟩
              intro w hSw; (try dsimp only at hSw); go_simp <;> (with_reducible rfl)
            (try simp only [Act.put, pA, pZ, pS])
            refine wpAnyH_take (i := 1) (oi := ?o1) (v := ?v1) ?hi1 (by kernel_rfl) (by kernel_rfl) (by kernel_rfl) (fun _ _ _ h => h) ?hy1 (by assumption) ?rest1
            case hi1 => simp only [gA, gS, gZ]; rfl
            case hy1 =>
              refine Or.inl ⟨by rfl, ?_⟩
              intro w hSw; (try dsimp only at hSw); go_simp <;> (with_reducible rfl)
            (try simp only [Act.put, pA, pZ, pS])
            refine wpAnyH_take (i := 3) (oi := ?o3) (v := ?v3) ?hi3 (by kernel_rfl) (by kernel_rfl) (by kernel_rfl) (fun _ _ _ h => h) ?hy3 (by assumption) ?rest3
            case hi3 => simp only [gA, gS, gZ]; rfl
            case hy3 =>
              refine Or.inl ⟨by rfl, ?_⟩
              intro w hSw; (try dsimp only at hSw); go_simp <;> (with_reducible rfl)
            (try simp only [Act.put, pA, pZ, pS])
            refine wpAnyH_take (i := 4) (oi := ?o4) (v := ?v4) ?hi4 (by kernel_rfl) (by kernel_rfl) (by kernel_rfl) (fun _ _ _ h => h) ?hy4 (by assumption) ?rest4
            case hi4 => simp only [gA, gS, gZ]; rfl
            case hy4 =>
              refine Or.inl ⟨by rfl, ?_⟩
              intro w hSw; (try dsimp only at hSw); go_simp <;> (with_reducible rfl)
            (try simp only [Act.put, pA, pZ, pS])
            refine wpAnyH_ready (rs := [2]) (by kernel_rfl) (by simp) ?_
            refine AllReadyH.cons rfl (fun K hK => ?_) AllReadyH.nil
            go_simp
            refine (HN _ D0.out.tabs).mono ?_; rintro e w1 ⟨rfl, hb⟩; have D1 := Lib.hid (D0.out.mono hb); have HS1 := Lib.hid (D1.out.all HGQ.out.1 HF2.out); clear hb
            refine hK.out _ _ HS1.out (fun hHeld2 => ?_)
            clear hK K
            (try simp only [Act.put, pA, pZ, pS])
            refine wpAnyH_take (i := 5) (oi := ?o5) (v := ?v5) ?hi5 (by kernel_rfl) (by kernel_rfl) (by kernel_rfl) (fun _ _ _ h => h) ?hy5 (by assumption) ?rest5
            case hi5 => simp only [gA, gS, gZ]; rfl
            case hy5 =>
              refine Or.inl ⟨by rfl, ?_⟩
              intro w hSw; (try dsimp only at hSw); go_simp <;> (with_reducible rfl)
            (try simp only [Act.put, pA, pZ, pS])
            refine wpAnyH_take (i := 6) (oi := ?o6) (v := ?v6) ?hi6 (by kernel_rfl) (by kernel_rfl) (by kernel_rfl) (fun _ _ _ h => h) ?hy6 (by assumption) ?rest6
            case hi6 => simp only [gA, gS, gZ]; rfl
            case hy6 =>
              refine Or.inl ⟨by rfl, ?_⟩
              intro w hSw; (try dsimp only at hSw); go_simp <;> (with_reducible rfl)
            (try simp only [Act.put, pA, pZ, pS])
            refine wpAnyH_take (i := 7) (oi := ?o7) (v := undef) ?hi7 (by kernel_rfl) (by kernel_rfl) (by kernel_rfl) (fun _ _ _ h => h) ?hy7 (by assumption) ?rest7
            case hi7 => simp only [gA, gS, gZ]; rfl
            case hy7 => exact Or.inr ⟨by rfl, rfl⟩
            (try simp only [Act.put, pA, pZ, pS])
            refine wpAnyH_take (i := 8) (oi := ?o8) (v := undef) ?hi8 (by kernel_rfl) (by kernel_rfl) (by kernel_rfl) (fun _ _ _ h => h) ?hy8 (by assumption) ?rest8
            case hi8 => simp only [gA, gS, gZ]; rfl
            case hy8 => exact Or.inr ⟨by rfl, rfl⟩
            (try simp only [Act.put, pA, pZ, pS])
            refine wpAnyH_take (i := 9) (oi := ?o9) (v := undef) ?hi9 (by kernel_rfl) (by kernel_rfl) (by kernel_rfl) (fun _ _ _ h => h) ?hy9 (by assumption) ?rest9
            case hi9 => simp only [gA, gS, gZ]; rfl
            case hy9 => exact Or.inr ⟨by rfl, rfl⟩
            (try simp only [Act.put, pA, pZ, pS])
            refine wpAnyH_take (i := 10) (oi := ?o10) (v := undef) ?hi10 (by kernel_rfl) (by kernel_rfl) (by kernel_rfl) (fun _ _ _ h => h) ?hy10 (by assumption) ?rest10
            case hi10 => simp only [gA, gS, gZ]; rfl
            case hy10 => exact Or.inr ⟨by rfl, rfl⟩
            (try simp only [Act.put, pA, pZ, pS])
            refine wpAnyH_take (i := 11) (oi := ?o11) (v := ?v11) ?hi11 (by kernel_rfl) (by kernel_rfl) (by kernel_rfl) (fun _ _ _ h => h) ?hy11 (by assumption) ?rest11
            case hi11 => simp only [gA, gS, gZ]; rfl
            case hy11 =>
              refine Or.inl ⟨by rfl, ?_⟩
              intro w hSw; (try dsimp only at hSw); go_simp <;> (with_reducible rfl)
            (try simp only [Act.put, pA, pZ, pS])
            refine wpAnyH_take (i := 12) (oi := ?o12) (v := ?v12) ?hi12 (by kernel_rfl) (by kernel_rfl) (by kernel_rfl) (fun _ _ _ h => h) ?hy12 (by assumption) ?rest12
            case hi12 => simp only [gA, gS, gZ]; rfl
            case hy12 =>
              refine Or.inl ⟨by rfl, ?_⟩
              intro w hSw; (try dsimp only at hSw); go_simp <;> (with_reducible rfl)
            (try simp only [Act.put, pA, pZ, pS])
            refine wpAnyH_take (i := 13) (oi := ?o13) (v := undef) ?hi13 (by kernel_rfl) (by kernel_rfl) (by kernel_rfl) (fun _ _ _ h => h) ?hy13 (by assumption) ?rest13
            case hi13 => simp only [gA, gS, gZ]; rfl
            case hy13 => exact Or.inr ⟨by rfl, rfl⟩
            (try simp only [Act.put, pA, pZ, pS])
            refine wpAnyH_take (i := 14) (oi := ?o14) (v := undef) ?hi14 (by kernel_rfl) (by kernel_rfl) (by kernel_rfl) (fun _ _ _ h => h) ?hy14 (by assumption) ?rest14
            case hi14 => simp only [gA, gS, gZ]; rfl
            case hy14 => exact Or.inr ⟨by rfl, rfl⟩
            (try simp only [Act.put, pA, pZ, pS])
            refine wpAnyH_take (i := 15) (oi := ?o15) (v := undef) ?hi15 (by kernel_rfl) (by kernel_rfl) (by kernel_rfl) (fun _ _ _ h => h) ?hy15 (by assumption) ?rest15
            case hi15 => simp only [gA, gS, gZ]; rfl
            case hy15 => exact Or.inr ⟨by rfl, rfl⟩
            (try simp only [Act.put, pA, pZ, pS])
            refine wpAnyH_take (i := 16) (oi := ?o16) (v := undef) ?hi16 (by kernel_rfl) (by kernel_rfl) (by kernel_rfl) (fun _ _ _ h => h) ?hy16 (by assumption) ?rest16
            case hi16 => simp only [gA, gS, gZ]; rfl
            case hy16 => exact Or.inr ⟨by rfl, rfl⟩
            (try simp only [Act.put, pA, pZ, pS])
            refine wpAnyH_take (i := 17) (oi := ?o17) (v := undef) ?hi17 (by kernel_rfl) (by kernel_rfl) (by kernel_rfl) (fun _ _ _ h => h) ?hy17 (by assumption) ?rest17
            case hi17 => simp only [gA, gS, gZ]; rfl
            case hy17 => exact Or.inr ⟨by rfl, rfl⟩
            (try simp only [Act.put, pA, pZ, pS])
            refine wpAnyH_take (i := 18) (oi := ?o18) (v := undef) ?hi18 (by kernel_rfl) (by kernel_rfl) (by kernel_rfl) (fun _ _ _ h => h) ?hy18 (by assumption) ?rest18
            case hi18 => simp only [gA, gS, gZ]; rfl
            case hy18 => exact Or.inr ⟨by rfl, rfl⟩
            (try simp only [Act.put, pA, pZ, pS])
            refine wpAnyH_take (i := 19) (oi := ?o19) (v := ?v19) ?hi19 (by kernel_rfl) (by kernel_rfl) (by kernel_rfl) (fun _ _ _ h => h) ?hy19 (by assumption) ?rest19
            case hi19 => simp only [gA, gS, gZ]; rfl
            case hy19 =>
              refine Or.inl ⟨by rfl, ?_⟩
              intro w hSw; (try dsimp only at hSw); go_simp <;> (with_reducible rfl)
            (try simp only [Act.put, pA, pZ, pS])
            refine wpAnyH_done (by kernel_rfl) ?_ _
            refine NoPanic.normal ?_
            go_wp2_with fail
            go_ret
            exact ⟨rfl, D1.out.below⟩
          · cases f2
            · cases f3
              · clear hf
                go_region_held3 (fun V => V.cell? ⟨wr.heap.size, 0, none⟩ = some (.bool q.b) ∧ V.cell? ⟨wr.heap.size, 1, none⟩ = some (.int .i64 q.n) ∧ V.cell? ⟨wr.heap.size, 2, none⟩ = some (.string q.t) ∧ V.cell? ⟨wr.heap.size, 3, none⟩ = some (.int .i64 v.k) ∧ V.cell? ⟨wr.heap.size, 4, none⟩ = some (.int .i64 v.n) ∧ V.cell? ⟨wr.heap.size, 5, none⟩ = some (.string v.t) ∧ V.cell? ⟨wr.heap.size, 6, none⟩ = some (.slice co v.xs.length cc) ∧ (Instr.lookup 152 (.map (some (w.heap.size + 1))) (.agg #[.bool q.b, .int .i64 q.n, .string q.t]) false).run Tryz.prog V = .ok (.bool false) V)
                  (first
                    | exact HS0.out
                    | exact HS1.out
                    | exact HS2.out)
                  (first
                    | (go_at_call 80; refine (HN _ D0.out.tabs).mono ?_; rintro e w1 ⟨rfl, hb⟩; have D1 := Lib.hid (D0.out.mono hb); have HS1 := Lib.hid (D1.out.all HGQ.out.1 HF2.out); clear hb)
                    | (go_at_call 52; refine (HM _ D1.out.vin D1.out.tabs).mono ?_; rintro e w2 ⟨rfl, hb⟩; have D2 := Lib.hid (D1.out.mono hb); have HS2 := Lib.hid (D2.out.all HGQ.out.1 HF2.out); clear hb))
                go_wp2_with fail
                go_ret
                exact ⟨rfl, D2.out.below⟩
              · exact absurd rfl hf
            · clear hf
              refine wp_region_noPanic ?_
              refine wp_region_held_drew (S := (fun V => V.cell? ⟨wr.heap.size, 0, none⟩ = some (.bool q.b) ∧ V.cell? ⟨wr.heap.size, 1, none⟩ = some (.int .i64 q.n) ∧ V.cell? ⟨wr.heap.size, 2, none⟩ = some (.string q.t) ∧ V.cell? ⟨wr.heap.size, 3, none⟩ = some (.int .i64 v.k) ∧ V.cell? ⟨wr.heap.size, 4, none⟩ = some (.int .i64 v.n) ∧ V.cell? ⟨wr.heap.size, 5, none⟩ = some (.string v.t) ∧ V.cell? ⟨wr.heap.size, 6, none⟩ = some (.slice co v.xs.length cc) ∧ (Instr.lookup 152 (.map (some (w.heap.size + 1))) (.agg #[.bool q.b, .int .i64 q.n, .string q.t]) false).run Tryz.prog V = .ok (.bool true) V)) (by kernel_rfl) (by exact HS0.out) (fun hHeld => ?_)
              refine wpAnyH_take (i := 0) (oi := ?ob0) (v := ?vb0) ?hib0 (by kernel_rfl) (by kernel_rfl) (by kernel_rfl) (fun _ _ _ h => h) ?hyb0 (by assumption) ?restb0
              case hib0 => simp only [gA, gZ]; rfl
              case hyb0 =>
                refine Or.inl ⟨by rfl, ?_⟩
                intro w hSw; (try dsimp only at hSw); go_simp <;> (with_reducible rfl)
              (try simp only [Act.put, pA, pZ, pS])
              refine wpAnyH_take (i := 1) (oi := ?ob1) (v := ?vb1) ?hib1 (by kernel_rfl) (by kernel_rfl) (by kernel_rfl) (fun _ _ _ h => h) ?hyb1 (by assumption) ?restb1
              case hib1 => simp only [gA, gS, gZ]; rfl
              case hyb1 =>
                refine Or.inl ⟨by rfl, ?_⟩
                intro w hSw; (try dsimp only at hSw); go_simp <;> (with_reducible rfl)
              (try simp only [Act.put, pA, pZ, pS])
              refine wpAnyH_take (i := 3) (oi := ?ob3) (v := ?vb3) ?hib3 (by kernel_rfl) (by kernel_rfl) (by kernel_rfl) (fun _ _ _ h => h) ?hyb3 (by assumption) ?restb3
              case hib3 => simp only [gA, gS, gZ]; rfl
              case hyb3 =>
                refine Or.inl ⟨by rfl, ?_⟩
                intro w hSw; (try dsimp only at hSw); go_simp <;> (with_reducible rfl)
              (try simp only [Act.put, pA, pZ, pS])
              refine wpAnyH_take (i := 4) (oi := ?ob4) (v := ?vb4) ?hib4 (by kernel_rfl) (by kernel_rfl) (by kernel_rfl) (fun _ _ _ h => h) ?hyb4 (by assumption) ?restb4
              case hib4 => simp only [gA, gS, gZ]; rfl
              case hyb4 =>
                refine Or.inl ⟨by rfl, ?_⟩
                intro w hSw; (try dsimp only at hSw); go_simp <;> (with_reducible rfl)
              (try simp only [Act.put, pA, pZ, pS])
              refine wpAnyH_ready (rs := [2]) (by kernel_rfl) (by simp) ?_
              refine AllReadyH.cons rfl (fun K hK => ?_) AllReadyH.nil
              go_simp
              refine (HN _ D0.out.tabs).mono ?_; rintro e w1 ⟨rfl, hb⟩; have D1 := Lib.hid (D0.out.mono hb); have HS1 := Lib.hid (D1.out.all HGQ.out.1 HF2.out); clear hb
              refine hK.out _ _ HS1.out (fun hHeldb2 => ?_)
              clear hK K
              (try simp only [Act.put, pA, pZ, pS])
              refine wpAnyH_take (i := 5) (oi := ?ob5) (v := ?vb5) ?hib5 (by kernel_rfl) (by kernel_rfl) (by kernel_rfl) (fun _ _ _ h => h) ?hyb5 (by assumption) ?restb5
              case hib5 => simp only [gA, gS, gZ]; rfl
              case hyb5 =>
                refine Or.inl ⟨by rfl, ?_⟩
                intro w hSw; (try dsimp only at hSw); go_simp <;> (with_reducible rfl)
              (try simp only [Act.put, pA, pZ, pS])
              refine wpAnyH_take (i := 6) (oi := ?ob6) (v := ?vb6) ?hib6 (by kernel_rfl) (by kernel_rfl) (by kernel_rfl) (fun _ _ _ h => h) ?hyb6 (by assumption) ?restb6
              case hib6 => simp only [gA, gS, gZ]; rfl
              case hyb6 =>
                refine Or.inl ⟨by rfl, ?_⟩
                intro w hSw; (try dsimp only at hSw); go_simp <;> (with_reducible rfl)
              (try simp only [Act.put, pA, pZ, pS])
              refine wpAnyH_take (i := 7) (oi := ?ob7) (v := ?vb7) ?hib7 (by kernel_rfl) (by kernel_rfl) (by kernel_rfl) (fun _ _ _ h => h) ?hyb7 (by assumption) ?restb7
              case hib7 => simp only [gA, gS, gZ]; rfl
              case hyb7 =>
                refine Or.inl ⟨by rfl, ?_⟩
                intro w hSw; (try dsimp only at hSw); go_simp <;> (with_reducible rfl)
              (try simp only [Act.put, pA, pZ, pS])
              refine wpAnyH_take (i := 8) (oi := ?ob8) (v := ?vb8) ?hib8 (by kernel_rfl) (by kernel_rfl) (by kernel_rfl) (fun _ _ _ h => h) ?hyb8 (by assumption) ?restb8
              case hib8 => simp only [gA, gS, gZ]; rfl
              case hyb8 =>
                refine Or.inl ⟨by rfl, ?_⟩
                intro w hSw; (try dsimp only at hSw); go_simp <;> (with_reducible rfl)
              (try simp only [Act.put, pA, pZ, pS])
              refine wpAnyH_take (i := 9) (oi := ?ob9) (v := ?vb9) ?hib9 (by kernel_rfl) (by kernel_rfl) (by kernel_rfl) (fun _ _ _ h => h) ?hyb9 (by assumption) ?restb9
              case hib9 => simp only [gA, gS, gZ]; rfl
              case hyb9 =>
                refine Or.inl ⟨by rfl, ?_⟩
                intro w hSw; (try dsimp only at hSw); go_simp <;> (with_reducible rfl)
              (try simp only [Act.put, pA, pZ, pS])
              refine wpAnyH_take (i := 10) (oi := ?ob10) (v := ?vb10) ?hib10 (by kernel_rfl) (by kernel_rfl) (by kernel_rfl) (fun _ _ _ h => h) ?hyb10 (by assumption) ?restb10
              case hib10 => simp only [gA, gS, gZ]; rfl
              case hyb10 =>
                refine Or.inl ⟨by rfl, ?_⟩
                intro w hSw; (try dsimp only at hSw); go_simp <;> (with_reducible rfl)
              (try simp only [Act.put, pA, pZ, pS])
              refine wpAnyH_take (i := 11) (oi := ?ob11) (v := ?vb11) ?hib11 (by kernel_rfl) (by kernel_rfl) (by kernel_rfl) (fun _ _ _ h => h) ?hyb11 (by assumption) ?restb11
              case hib11 => simp only [gA, gS, gZ]; rfl
              case hyb11 =>
                refine Or.inl ⟨by rfl, ?_⟩
                intro w hSw; (try dsimp only at hSw); go_simp <;> (with_reducible rfl)
              (try simp only [Act.put, pA, pZ, pS])
              refine wpAnyH_take (i := 12) (oi := ?ob12) (v := ?vb12) ?hib12 (by kernel_rfl) (by kernel_rfl) (by kernel_rfl) (fun _ _ _ h => h) ?hyb12 (by assumption) ?restb12
              case hib12 => simp only [gA, gS, gZ]; rfl
              case hyb12 =>
                refine Or.inl ⟨by rfl, ?_⟩
                intro w hSw; (try dsimp only at hSw); go_simp <;> (with_reducible rfl)
              (try simp only [Act.put, pA, pZ, pS])
              refine wpAnyH_take (i := 13) (oi := ?ob13) (v := undef) ?hib13 (by kernel_rfl) (by kernel_rfl) (by kernel_rfl) (fun _ _ _ h => h) ?hyb13 (by assumption) ?restb13
              case hib13 => simp only [gA, gS, gZ]; rfl
              case hyb13 => exact Or.inr ⟨by rfl, rfl⟩
              (try simp only [Act.put, pA, pZ, pS])
              refine wpAnyH_take (i := 14) (oi := ?ob14) (v := undef) ?hib14 (by kernel_rfl) (by kernel_rfl) (by kernel_rfl) (fun _ _ _ h => h) ?hyb14 (by assumption) ?restb14
              case hib14 => simp only [gA, gS, gZ]; rfl
              case hyb14 => exact Or.inr ⟨by rfl, rfl⟩
              (try simp only [Act.put, pA, pZ, pS])
              refine wpAnyH_take (i := 15) (oi := ?ob15) (v := undef) ?hib15 (by kernel_rfl) (by kernel_rfl) (by kernel_rfl) (fun _ _ _ h => h) ?hyb15 (by assumption) ?restb15
              case hib15 => simp only [gA, gS, gZ]; rfl
              case hyb15 => exact Or.inr ⟨by rfl, rfl⟩
              (try simp only [Act.put, pA, pZ, pS])
              refine wpAnyH_take (i := 16) (oi := ?ob16) (v := undef) ?hib16 (by kernel_rfl) (by kernel_rfl) (by kernel_rfl) (fun _ _ _ h => h) ?hyb16 (by assumption) ?restb16
              case hib16 => simp only [gA, gS, gZ]; rfl
              case hyb16 => exact Or.inr ⟨by rfl, rfl⟩
              (try simp only [Act.put, pA, pZ, pS])
              refine wpAnyH_take (i := 17) (oi := ?ob17) (v := undef) ?hib17 (by kernel_rfl) (by kernel_rfl) (by kernel_rfl) (fun _ _ _ h => h) ?hyb17 (by assumption) ?restb17
              case hib17 => simp only [gA, gS, gZ]; rfl
              case hyb17 => exact Or.inr ⟨by rfl, rfl⟩
              (try simp only [Act.put, pA, pZ, pS])
              refine wpAnyH_take (i := 18) (oi := ?ob18) (v := undef) ?hib18 (by kernel_rfl) (by kernel_rfl) (by kernel_rfl) (fun _ _ _ h => h) ?hyb18 (by assumption) ?restb18
              case hib18 => simp only [gA, gS, gZ]; rfl
              case hyb18 => exact Or.inr ⟨by rfl, rfl⟩
              (try simp only [Act.put, pA, pZ, pS])
              refine wpAnyH_take (i := 19) (oi := ?ob19) (v := ?vb19) ?hib19 (by kernel_rfl) (by kernel_rfl) (by kernel_rfl) (fun _ _ _ h => h) ?hyb19 (by assumption) ?restb19
              case hib19 => simp only [gA, gS, gZ]; rfl
              case hyb19 =>
                refine Or.inl ⟨by rfl, ?_⟩
                intro w hSw; (try dsimp only at hSw); go_simp <;> (with_reducible rfl)
              (try simp only [Act.put, pA, pZ, pS])
              refine wpAnyH_done (by kernel_rfl) ?_ _
              refine NoPanic.normal ?_
              go_wp2_with fail
              go_ret
              exact ⟨rfl, D1.out.below⟩
      · obtain rfl : j = l.length := by omega
        have hrt : r = true := by rw [HX.out, List.drop_length]; rfl
        subst hrt
        go_wp2_with fail
        go_ret
        exact ⟨rfl, MX.out.2.2.2⟩
  · have hrf : r = false := by rw [HR.out]; simp only [Bool.not_eq_true] at hearly; rw [hearly]; rfl
    subst hrf
    clear HR
    cases e1 <;> cases e2 <;> cases e3 <;> cases e4 <;> first | (exact absurd rfl hearly) | (go_enter Tryz.func86, Tryz.ntmps86; go_wp2_with fail; go_ret; exact ⟨rfl, HB.out⟩)
end Go.Proofs.YtnaefnojmiolbaaGreatDoor

namespace Go.Proofs.YtnaefnojmiolbaaGreatDoor
open Go.RowKit

/-- A block of items. -/
def B64 (w : World) (g : Nat) : Prop := ∃ cs fr, w.heap[g]? = some (.cells cs 64 fr)
/-- Items behind a slice value, in blocks of items. -/
abbrev VT64 (w : World) (c : Value) (xs : List It) : Prop := VAt (B64 w) w c xs
theorem VT64.mod {F : Nat → Prop} {w w' : World} {c : Value} {xs : List It} (h : VT64 w c xs) (m : Mod F w w') (hF : ∀ g, F g → ¬ B64 w g) : VT64 w' c xs :=
  VAt.kept h fun g ha hg => ⟨m.block g hg (fun x => hF g x ha), m.lt hg, by
    obtain ⟨cs, fr, hc⟩ := ha
    exact ⟨cs, fr, (m.block g hg (fun x => hF g x ⟨cs, fr, hc⟩)).trans hc⟩⟩
theorem VT64.under {w w' : World} {c : Value} {xs : List It} (h : VT64 w c xs) (hb : Below w.heap.size w w') : VT64 w' c xs :=
  VT64.mod h (Mod.of_below (F := fun _ => False) hb) (fun _ x => absurd x (fun y => y))
/-- Items, each with the slice value behind it. -/
abbrev It2 := It × Value
def rows2 (ys : List It2) : List (List Value) := ys.map fun y => itCells y.1 y.2
theorem rows2_len (ys : List It2) : (rows2 ys).length = ys.length := by simp [rows2]
/-- The place of a key, as a number. -/
def placeF (xs : List It) (k : K) : Option Int := (findK k xs).map fun i => (i : Int)
/-- A list of the call's own, that nobody shares: its struct in block b, its items behind v, its map in block mb. -/
structure LIs (w : World) (b : Nat) (v : Value) (mb : Nat) (l : LS) (ys : List It2) : Prop where
  blk : w.heap[b]? = some (.cells #[.bool true, .bool false, v, .map (some mb), .int .i64 l.nx] 161 (0, 0))
  own : Owns w 167 7 v (rows2 ys)
  map : mKI.Is w mb (placeF l.xs) l.xs.length
  ne1 : v.ownBlock ≠ some b
  ne2 : mb ≠ b
  ne3 : v.ownBlock ≠ some mb
  ok : l.Ok
  fst : ys.map (·.1) = l.xs
  val : ∀ y ∈ ys, VT64 w y.2 y.1.2.xs
theorem LIs.len {w : World} {b : Nat} {v : Value} {mb : Nat} {l : LS} {ys : List It2} (i : LIs w b v mb l ys) : ys.length = l.xs.length := by rw [← i.fst, List.length_map]
/-- The blocks of a list. -/
def LFoot (b : Nat) (v : Value) (mb : Nat) (k : Nat) : Prop := k = b ∨ v.ownBlock = some k ∨ k = mb
theorem owns_blk {w : World} {e : TypeId} {size : Nat} {v : Value} {rows : List (List Value)} (o : Owns w e size v rows) {g : Nat} (hg : v.ownBlock = some g) : ∃ cur, w.heap[g]? = some (.cells cur e (0, 0)) := by
  rcases o.row.2 with ⟨rfl, _⟩ | ⟨g', cap, cur, rfl, _, hgg, _⟩
  · simp [Value.ownBlock] at hg
  · simp [Value.ownBlock] at hg; subst hg; exact ⟨cur, hgg⟩
theorem map_blk {κ α : Type} {S : MSpec κ α} {w : World} {mb n : Nat} {F : κ → Option α} (h : S.Is w mb F n) : ∃ es c, w.heap[mb]? = some (.map es c) := by
  obtain ⟨D, ⟨es, clock, h1, _⟩, _⟩ := h
  exact ⟨es, clock, h1⟩
theorem LIs.no64 {w : World} {b : Nat} {v : Value} {mb : Nat} {l : LS} {ys : List It2} (i : LIs w b v mb l ys) {k : Nat} (hk : LFoot b v mb k) : ¬ B64 w k := by
  rintro ⟨cs, fr, h⟩
  rcases hk with rfl | hk | rfl
  · rw [i.blk] at h; cases h
  · obtain ⟨cur, hc⟩ := owns_blk i.own hk
    rw [hc] at h; cases h
  · obtain ⟨es, c, hc⟩ := map_blk i.map
    rw [hc] at h; cases h
theorem LIs.lt {w : World} {b : Nat} {v : Value} {mb : Nat} {l : LS} {ys : List It2} (i : LIs w b v mb l ys) {k : Nat} (hk : LFoot b v mb k) : k < w.heap.size := by
  rcases hk with rfl | hk | rfl
  · exact lt_of_block i.blk
  · exact i.own.lt hk
  · exact i.map.lt
/-- A list stands where none of its blocks, and no block of items, is turned. -/
theorem LIs.mod {Z : Nat → Prop} {w w' : World} {b : Nat} {v : Value} {mb : Nat} {l : LS} {ys : List It2} (i : LIs w b v mb l ys) (hm : Mod Z w w') (h : ∀ k, LFoot b v mb k → ¬ Z k) (h64 : ∀ k, Z k → ¬ B64 w k) : LIs w' b v mb l ys :=
  ⟨hm.blk i.blk (h b (.inl rfl)), i.own.mod hm (fun g e => h g (.inr (.inl e))), i.map.mod hm (h mb (.inr (.inr rfl))), i.ne1, i.ne2, i.ne3, i.ok, i.fst, fun y hy => VT64.mod (i.val y hy) hm h64⟩
theorem LIs.under {w w' : World} {b : Nat} {v : Value} {mb : Nat} {l : LS} {ys : List It2} (i : LIs w b v mb l ys) (hb : Below w.heap.size w w') : LIs w' b v mb l ys :=
  i.mod (Mod.of_below (F := fun _ => False) hb) (fun _ _ x => x) (fun _ x => absurd x (fun y => y))
theorem cells5 {w : World} {b : Nat} {m sh : Bool} {v : Value} {mv nv : Value} (h : w.heap[b]? = some (.cells #[.bool m, .bool sh, v, mv, nv] 161 (0, 0))) :
    w.cell? ⟨b, 0, none⟩ = some (.bool m) ∧ w.cell? ⟨b, 1, none⟩ = some (.bool sh) ∧ w.cell? ⟨b, 2, none⟩ = some v ∧ w.cell? ⟨b, 3, none⟩ = some mv ∧ w.cell? ⟨b, 4, none⟩ = some nv :=
  ⟨cell_blk h 0, cell_blk h 1, cell_blk h 2, cell_blk h 3, cell_blk h 4⟩
theorem lok_any (b : Nat) (m : Bool) (w : World) (h : w.cell? ⟨b, 0, none⟩ = some (.bool m)) :
    Calls Tryz.prog 128 #[.pointer (some ⟨b, 0, none⟩)] w fun e w' => e = .returned (.bool m) ∧ w = w' := by
  go_enter Tryz.func128, Tryz.ntmps128
  go_wp2
  go_ret
  exact ⟨rfl, rfl⟩
/-- What New gives. -/
def NewPost (w : World) (e : Ending) (w' : World) : Prop := ∃ b mb, e = .returned (.pointer (some ⟨b, 0, none⟩)) ∧ LIs w' b (.slice none 0 0) mb LS.new [] ∧ w.heap.size ≤ b ∧ w.heap.size ≤ mb ∧ Below w.heap.size w w'
theorem lnew_any (w : World) : Calls Tryz.prog 96 #[] w (NewPost w) := by
  have hmm := @run_makeMap Tryz.prog
  go_enter Tryz.func96, Tryz.ntmps96
  go_wp2
  go_ret
  refine ⟨w.heap.size + 1, w.heap.size, rfl, ⟨?_, Owns.empty _ _ _, ?_, by simp [Value.ownBlock], by omega, by simp [Value.ownBlock], LS.new_ok, rfl, fun y hy => by cases hy⟩, by omega, by omega, ((Below.refl _ w).alloc (Nat.le_refl _) _).alloc (by simp) _⟩
  · have h := heap_alloc_new (w.alloc (.map #[] 0)) (.cells #[.bool true, .bool false, .slice none 0 0, .map (some w.heap.size), .int .i64 0] 161)
    simpa [LS.new] using h
  · have h := (MSpec.made (S := mKI) w).kept (w' := (w.alloc (.map #[] 0)).alloc (.cells #[.bool true, .bool false, .slice none 0 0, .map (some w.heap.size), .int .i64 0] 161)) (Below.heap_alloc _ _ _ (by simp))
    exact h.congr fun k _ => rfl
theorem lnext_any {b : Nat} {v : Value} {mb : Nat} {l : LS} {ys : List It2} (w : World) (i : LIs w b v mb l ys) : Calls Tryz.prog 99 #[.pointer (some ⟨b, 0, none⟩)] w fun e w' => e = .returned (.int .i64 l.nx) ∧ w = w' := by
  obtain ⟨c0, c1, c2, c3, c4⟩ := cells5 i.blk
  clear i
  go_enter Tryz.func99, Tryz.ntmps99
  go_wp2_with (go_at_call 128; refine (lok_any _ _ _ c0).mono ?_; rintro e w' ⟨rfl, rfl⟩)
  go_ret
  exact ⟨rfl, rfl⟩
/-- own at a list that is its own. -/
theorem own_free {b : Nat} {v : Value} {mb : Nat} {l : LS} {ys : List It2} (w : World) (i : LIs w b v mb l ys) : Calls Tryz.prog 151 #[.pointer (some ⟨b, 0, none⟩)] w fun e w' => e = .returned (.tuple #[]) ∧ w = w' := by
  obtain ⟨c0, c1, c2, c3, c4⟩ := cells5 i.blk
  clear i
  go_enter Tryz.func151, Tryz.ntmps151
  go_wp2
  first | go_end0 | (refine bodyPost_ret (results_none rfl _ _ _) rfl ?_)
  exact ⟨rfl, rfl⟩
theorem look_none {w : World} {b : Nat} {v : Value} {mb : Nat} {l : LS} {ys : List It2} {k : K} (i : LIs w b v mb l ys) (hk : k.Good) (hf : findK k l.xs = none) :
    (Instr.lookup 158 (.map (some mb)) (.agg #[.bool k.b, .int .i64 k.n, .string k.t]) true).run Tryz.prog w = .ok (.tuple #[.int .i64 0, .bool false]) w := by
  have := i.map.look hk
  unfold placeF at this
  rw [hf] at this
  exact this
theorem look_some {w : World} {b : Nat} {v : Value} {mb : Nat} {l : LS} {ys : List It2} {k : K} (i : LIs w b v mb l ys) (hk : k.Good) {j : Nat} (hf : findK k l.xs = some j) :
    (Instr.lookup 158 (.map (some mb)) (.agg #[.bool k.b, .int .i64 k.n, .string k.t]) true).run Tryz.prog w = .ok (.tuple #[.int .i64 j, .bool true]) w := by
  have := i.map.look hk
  unfold placeF at this
  rw [hf] at this
  exact this
/-- An item in memory. -/
theorem LIs.item {w : World} {b : Nat} {v : Value} {mb : Nat} {l : LS} {ys : List It2} (i : LIs w b v mb l ys) {j : Nat} (hj : j < ys.length) :
    ∃ g cap, v = .slice (some ⟨g, 0, none⟩) ys.length cap ∧ ys.length ≤ cap ∧ cap ≤ maxLen ∧ g < w.heap.size ∧
      w.cell? ⟨g, j * 7, none⟩ = some (.bool ys[j].1.1.b) ∧ w.cell? ⟨g, j * 7 + 1, none⟩ = some (.int .i64 ys[j].1.1.n) ∧ w.cell? ⟨g, j * 7 + 2, none⟩ = some (.string ys[j].1.1.t) ∧ w.cell? ⟨g, j * 7 + 3, none⟩ = some (.int .i64 ys[j].1.2.k) ∧ w.cell? ⟨g, j * 7 + 4, none⟩ = some (.int .i64 ys[j].1.2.n) ∧ w.cell? ⟨g, j * 7 + 5, none⟩ = some (.string ys[j].1.2.t) ∧ w.cell? ⟨g, j * 7 + 6, none⟩ = some ys[j].2 := by
  obtain ⟨ao, cap, hv, h1, h2, h3, _, h5⟩ := i.own.any
  rw [rows2_len] at hv h1
  obtain ⟨g, off, rfl, hg, _, hc⟩ := h3 j (itCells ys[j].1 ys[j].2) (by simp [rows2, hj])
  obtain ⟨rfl, _⟩ := h5 g off rfl
  have d0 := hc 0 _ rfl
  have d1 := hc 1 _ rfl
  have d2 := hc 2 _ rfl
  have d3 := hc 3 _ rfl
  have d4 := hc 4 _ rfl
  have d5 := hc 5 _ rfl
  have d6 := hc 6 _ rfl
  simp only [Nat.zero_add, Nat.add_zero] at d0 d1 d2 d3 d4 d5 d6
  exact ⟨g, cap, hv, h1, h2, hg, d0, d1, d2, d3, d4, d5, d6⟩
end Go.Proofs.YtnaefnojmiolbaaGreatDoor
