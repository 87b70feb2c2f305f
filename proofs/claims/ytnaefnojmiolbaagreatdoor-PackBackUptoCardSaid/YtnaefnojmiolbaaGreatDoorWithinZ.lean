/-
  The walks of within, room, and of the document's Raw at like values.
-/
import Derived.Test.YtnaefnojmiolbaaGreatDoorItemsZ
namespace Go.Proofs.YtnaefnojmiolbaaGreatDoor
open Go.RowKit

mutual
/-- Are all objects in a value things? -/
def withinV : VT → Int → Bool
  | .mk k n _ l, m => !(decide (k = 5) && decide (m < n)) && withinL l m
def withinL : List (K × VT) → Int → Bool
  | [], _ => true
  | (_, v) :: r, m => withinV v m && withinL r m
end
theorem withinL_cons (q : K) (x : VT) (r : List It) (m : Int) : withinL ((q, x) :: r) m = (withinV x m && withinL r m) := by rw [withinL]
set_option maxHeartbeats 1600000 in
set_option maxRecDepth 100000 in
theorem within_any (v : VT) : ∀ (w : World) (c : Value) (m : Int), VIn w c v.xs → Calls Tryz.prog 41 #[v.v c, .int .i64 m] w (BoolPost w (withinV v m)) := by
  refine VT.ind (P := fun v => ∀ (w : World) (c : Value) (m : Int), VIn w c v.xs → Calls Tryz.prog 41 #[v.v c, .int .i64 m] w (BoolPost w (withinV v m))) ?_ v
  intro k n t l ih w c m hv
  have hv : VIn w c l := hv
  obtain ⟨ao, cap, rfl, hlen⟩ := hv.form
  have HV := Lib.hid hv
  have IH := Lib.hid ih
  have HB := Lib.hid (below_alloc1 w (VB (.mk k n t l) (.slice ao l.length cap)))
  obtain ⟨a0, a1, a2, a3⟩ := vb_cells (heap_alloc_new w (VB (.mk k n t l) (.slice ao l.length cap)))
  obtain ⟨r, hr⟩ : ∃ r, r = withinV (.mk k n t l) m := ⟨_, rfl⟩
  rw [← hr]
  obtain ⟨e1, he1⟩ : ∃ e, (k == 5) = e := ⟨_, rfl⟩
  obtain ⟨e2, he2⟩ : ∃ e, decide (m < n) = e := ⟨_, rfl⟩
  have HR : Hid (r = (!(e1 && e2) && withinL (l.drop 0) m)) := Lib.hid (by rw [hr, withinV, ← he1, ← he2]; congr 3)
  have HL := Lib.hid hlen
  clear hv ih hr hlen
  show Calls Tryz.prog 41 #[.agg #[.int .i64 k, .int .i64 n, .string t, .slice ao l.length cap], .int .i64 m] w (BoolPost w r)
  by_cases hbad : (e1 && e2) = true
  · obtain ⟨rfl, rfl⟩ : e1 = true ∧ e2 = true := by simpa using hbad
    have hrf : r = false := by rw [HR.out]; rfl
    subst hrf
    go_enter Tryz.func41, Tryz.ntmps41
    go_wp2_with fail
    go_ret
    exact ⟨rfl, HB.out⟩
  · have HR1 : Hid (r = withinL (l.drop 0) m) := Lib.hid (by rw [HR.out]; simp only [Bool.not_eq_true] at hbad; rw [hbad]; rfl)
    clear HR
    cases e1
    case true =>
      cases e2
      case true => exact absurd rfl hbad
      all_goals
        go_enter Tryz.func41, Tryz.ntmps41
        go_wp2_with fail
        go_loopw [19] (fun kv wr => ∃ (j : Nat), j ≤ l.length ∧ kv = .int .i64 j ∧ Hid (r = withinL (l.drop j) m) ∧ Hid (Below w.heap.size w wr)) (fun kv _ => l.length - (intOf kv).toNat)
        case atStart => exact ⟨0, Nat.zero_le _, rfl, HR1, HB⟩
        case round =>
          obtain ⟨j, hj, rfl, HX, BX⟩ := hrel
          by_cases hlt : j < l.length
          · obtain ⟨q, v, g, off, co, cc, hq, hm, rfl, hc, d0, d1, d2, d3, d4, d5, d6⟩ := HV.out.getB hlt BX.out rfl
            have hi : (j : Int) < (l.length : Int) := by omega
            obtain ⟨hwi', hwi⟩ : wrap64 ((j : Int) + 1) = (j : Int) + 1 ∧ IntKind.i64.wrap ((j : Int) + 1) = (j : Int) + 1 := wr_sm (by omega) (by have := HL.out; omega)
            obtain ⟨b0, b1, b2, b3, b4, b5, b6⟩ := ib_cells (heap_alloc_new wr (IB (q, v) (.slice co v.xs.length cc)))
            have BY := Lib.hid (BX.out.alloc BX.out.size (IB (q, v) (.slice co v.xs.length cc)))
            have HC : Calls Tryz.prog 41 #[.agg #[.int .i64 v.k, .int .i64 v.n, .string v.t, .slice co v.xs.length cc], .int .i64 m] (wr.alloc (IB (q, v) (.slice co v.xs.length cc))) (BoolPost (wr.alloc (IB (q, v) (.slice co v.xs.length cc))) (withinV v m)) := IH.out (q, v) hm _ (.slice co v.xs.length cc) m (hc.under (below_alloc1 _ _))
            have HD : Hid (r = (withinV v m && withinL (l.drop (j + 1)) m)) := Lib.hid (by rw [HX.out, drop_at hq, withinL_cons])
            have HLT := Lib.hid hlt
            generalize withinV v m = y at HC HD
            clear hc hq hm hlt HX
            go_wp2_with fail
            refine HC.mono ?_
            rintro e w5 ⟨rfl, hb⟩
            have B5 := Lib.hid (BY.out.trans (hb.mono BY.out.size))
            clear hb HC
            cases y
            · have hrf : r = false := by rw [HD.out]; rfl
              subst hrf
              go_wp2_with fail
              go_ret
              exact ⟨rfl, B5.out⟩
            · have HX2 : Hid (r = withinL (l.drop (j + 1)) m) := Lib.hid (by rw [HD.out]; rfl)
              clear HD
              go_wp2_with fail
              go_roundw
              case rel => exact ⟨j + 1, HLT.out, by go_num, HX2, B5⟩
              case measure => have := HLT.out; simp [intOf]; omega
          · obtain rfl : j = l.length := by omega
            have hrt : r = true := by rw [HX.out, List.drop_length]; rfl
            subst hrt
            go_wp2_with fail
            go_ret
            exact ⟨rfl, BX.out⟩
    all_goals
      go_enter Tryz.func41, Tryz.ntmps41
      go_wp2_with fail
      go_loopw [19] (fun kv wr => ∃ (j : Nat), j ≤ l.length ∧ kv = .int .i64 j ∧ Hid (r = withinL (l.drop j) m) ∧ Hid (Below w.heap.size w wr)) (fun kv _ => l.length - (intOf kv).toNat)
      case atStart => exact ⟨0, Nat.zero_le _, rfl, HR1, HB⟩
      case round =>
        obtain ⟨j, hj, rfl, HX, BX⟩ := hrel
        by_cases hlt : j < l.length
        · obtain ⟨q, v, g, off, co, cc, hq, hm, rfl, hc, d0, d1, d2, d3, d4, d5, d6⟩ := HV.out.getB hlt BX.out rfl
          have hi : (j : Int) < (l.length : Int) := by omega
          obtain ⟨hwi', hwi⟩ : wrap64 ((j : Int) + 1) = (j : Int) + 1 ∧ IntKind.i64.wrap ((j : Int) + 1) = (j : Int) + 1 := wr_sm (by omega) (by have := HL.out; omega)
          obtain ⟨b0, b1, b2, b3, b4, b5, b6⟩ := ib_cells (heap_alloc_new wr (IB (q, v) (.slice co v.xs.length cc)))
          have BY := Lib.hid (BX.out.alloc BX.out.size (IB (q, v) (.slice co v.xs.length cc)))
          have HC : Calls Tryz.prog 41 #[.agg #[.int .i64 v.k, .int .i64 v.n, .string v.t, .slice co v.xs.length cc], .int .i64 m] (wr.alloc (IB (q, v) (.slice co v.xs.length cc))) (BoolPost (wr.alloc (IB (q, v) (.slice co v.xs.length cc))) (withinV v m)) := IH.out (q, v) hm _ (.slice co v.xs.length cc) m (hc.under (below_alloc1 _ _))
          have HD : Hid (r = (withinV v m && withinL (l.drop (j + 1)) m)) := Lib.hid (by rw [HX.out, drop_at hq, withinL_cons])
          have HLT := Lib.hid hlt
          generalize withinV v m = y at HC HD
          clear hc hq hm hlt HX
          go_wp2_with fail
          refine HC.mono ?_
          rintro e w5 ⟨rfl, hb⟩
          have B5 := Lib.hid (BY.out.trans (hb.mono BY.out.size))
          clear hb HC
          cases y
          · have hrf : r = false := by rw [HD.out]; rfl
            subst hrf
            go_wp2_with fail
            go_ret
            exact ⟨rfl, B5.out⟩
          · have HX2 : Hid (r = withinL (l.drop (j + 1)) m) := Lib.hid (by rw [HD.out]; rfl)
            clear HD
            go_wp2_with fail
            go_roundw
            case rel => exact ⟨j + 1, HLT.out, by go_num, HX2, B5⟩
            case measure => have := HLT.out; simp [intOf]; omega
        · obtain rfl : j = l.length := by omega
          have hrt : r = true := by rw [HX.out, List.drop_length]; rfl
          subst hrt
          go_wp2_with fail
          go_ret
          exact ⟨rfl, BX.out⟩
set_option maxHeartbeats 1600000 in
set_option maxRecDepth 100000 in
theorem room_any (v : VT) : ∀ (w : World) (c : Value) (n : Int), VIn w c v.xs → 0 ≤ n → n ≤ 2048 → Calls Tryz.prog 42 #[v.v c, .int .i64 n] w (IntPost w (leftV v n)) := by
  refine VT.ind (P := fun v => ∀ (w : World) (c : Value) (n : Int), VIn w c v.xs → 0 ≤ n → n ≤ 2048 → Calls Tryz.prog 42 #[v.v c, .int .i64 n] w (IntPost w (leftV v n))) ?_ v
  intro k m t l ih w c n hv h0 h1
  have hv : VIn w c l := hv
  have hfit := hv.fits
  obtain ⟨ao, cap, rfl, hlen⟩ := hv.form
  have HV := Lib.hid hv
  have IH := Lib.hid ih
  have HF := Lib.hid hfit
  have HB := Lib.hid (below_alloc1 w (VB (.mk k m t l) (.slice ao l.length cap)))
  have HX0 := Lib.hid (heap_alloc_new w (VB (.mk k m t l) (.slice ao l.length cap)))
  obtain ⟨a0, a1, a2, a3⟩ := vb_cells (heap_alloc_new w (VB (.mk k m t l) (.slice ao l.length cap)))
  obtain ⟨hw', hw⟩ := wr_sm (x := n - (l.length : Int)) (by omega) (by omega)
  obtain ⟨r, hr⟩ : ∃ r, r = leftV (.mk k m t l) n := ⟨_, rfl⟩
  have HR : Hid (r = leftL (l.drop 0) (n - l.length)) := Lib.hid (by rw [hr, leftV]; rfl)
  have HL := Lib.hid hlen
  have HN := Lib.hid h0
  rw [← hr]
  clear hv ih hfit hr hlen h0
  show Calls Tryz.prog 42 #[.agg #[.int .i64 k, .int .i64 m, .string t, .slice ao l.length cap], .int .i64 n] w (IntPost w r)
  go_enter Tryz.func42, Tryz.ntmps42
  go_wp2_with fail
  go_loopw [1, 5] (fun nv kv wr => ∃ (j : Nat) (x : Int), j ≤ l.length ∧ nv = .int .i64 x ∧ kv = .int .i64 j ∧ Hid (r = leftL (l.drop j) x ∧ x ≤ 2048 ∧ -140737488355328 ≤ x) ∧ Hid (Below w.heap.size w wr ∧ wr.heap[w.heap.size]? = some (VB (.mk k m t l) (.slice ao l.length cap)))) (fun _ kv _ => l.length - (intOf kv).toNat)
  case atStart => exact ⟨0, n - l.length, Nat.zero_le _, rfl, rfl, Lib.hid ⟨HR.out, by omega, by have := HL.out; have := HN.out; omega⟩, Lib.hid ⟨HB.out, HX0.out⟩⟩
  case round =>
    obtain ⟨j, x, hj, rfl, rfl, HX, BX⟩ := hrel
    have x3 : wr.cell? ⟨w.heap.size, 3, none⟩ = some (.slice ao l.length cap) := (vb_cells BX.out.2).2.2.2
    clear a0 a1 a2 a3
    obtain ⟨ex, hex⟩ : ∃ e, decide (0 ≤ x) = e := ⟨_, rfl⟩
    by_cases hlt : j < l.length
    · have hi : (j : Int) < (l.length : Int) := by omega
      cases ex
      · have hx : x < 0 := by have := of_decide_eq_false hex; omega
        have hrx : r = x := by rw [HX.out.1, leftL_neg hx]
        subst hrx
        clear hx
        go_wp2_with fail
        go_ret
        exact ⟨rfl, BX.out.1⟩
      · have hx : 0 ≤ x := of_decide_eq_true hex
        obtain ⟨q, v, g, off, co, cc, hq, hm, rfl, hc, d0, d1, d2, d3, d4, d5, d6⟩ := HV.out.getB hlt BX.out.1 rfl
        obtain ⟨hwi', hwi⟩ : wrap64 ((j : Int) + 1) = (j : Int) + 1 ∧ IntKind.i64.wrap ((j : Int) + 1) = (j : Int) + 1 := wr_sm (by omega) (by have := HL.out; omega)
        have HC : Calls Tryz.prog 42 #[.agg #[.int .i64 v.k, .int .i64 v.n, .string v.t, .slice co v.xs.length cc], .int .i64 x] wr (IntPost wr (leftV v x)) := IH.out (q, v) hm _ (.slice co v.xs.length cc) x hc hx HX.out.2.1
        have HD : Hid (leftL (l.drop j) x = leftL (l.drop (j + 1)) (leftV v x)) := Lib.hid (by rw [drop_at hq, leftL_cons, if_neg (by omega)])
        have HG := Lib.hid (leftV_ge v hc.fits x hx)
        have HGe := Lib.hid (leftV_le v x hx (fun _ _ => trivial))
        have HLT := Lib.hid hlt
        generalize leftV v x = y at HC HD HG HGe
        clear hc hq hm hlt hx
        go_wp2_with fail
        refine HC.mono ?_
        rintro e w5 ⟨rfl, hb⟩
        have B5 : Hid (Below w.heap.size w w5 ∧ w5.heap[w.heap.size]? = some (VB (.mk k m t l) (.slice (some ⟨g, off, none⟩) l.length cap))) := Lib.hid ⟨BX.out.1.trans (hb.mono BX.out.1.size), (hb.block _ (lt_of_block BX.out.2)).trans BX.out.2⟩
        clear hb HC
        go_wp2_with fail
        go_roundw
        case rel => exact ⟨j + 1, y, HLT.out, rfl, by go_num, Lib.hid ⟨by rw [HX.out.1, HD.out], by have := HGe.out; have := HX.out.2.1; omega, HG.out⟩, B5⟩
        case measure => have := HLT.out; simp [intOf]; omega
    · obtain rfl : j = l.length := by omega
      have hrx : r = x := by rw [HX.out.1, List.drop_length]; rfl
      subst hrx
      go_wp2_with fail
      go_ret
      exact ⟨rfl, BX.out.1⟩
end Go.Proofs.YtnaefnojmiolbaaGreatDoor
