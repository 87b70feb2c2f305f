/-
  How many items a value has; what may be. Of no program.
  The walks of within, room, and of the document's Raw at like values.
  The walk of the document's Raw at like values.
-/
import Derived.Test.YtnaefnojmiolbaaGreatDoorJp17
import Derived.Test.YtnaefnojmiolbaaGreatDoorJp6
namespace Go.Proofs.YtnaefnojmiolbaaGreatDoor
open Go.RowKit

mutual
/-- How many items lie in a value. -/
def countV : VT → Nat
  | .mk _ _ _ l => l.length + countL l
def countL : List (K × VT) → Nat
  | [] => 0
  | (_, v) :: r => countV v + countL r
end
theorem countV_eq (v : VT) : countV v = v.xs.length + countL v.xs := by cases v; rw [countV]; rfl
theorem countL_cons (x : It) (r : List It) : countL (x :: r) = countV x.2 + countL r := by cases x; rw [countL]
theorem countL_append (a b : List It) : countL (a ++ b) = countL a + countL b := by
  induction a with
  | nil => simp [countL]
  | cons x a ih => rw [List.cons_append, countL_cons, countL_cons, ih]; omega
theorem left_count (v : VT) : ∀ n : Int, (countV v : Int) ≤ n → leftV v n = n - countV v := by
  refine VT.ind (P := fun v => ∀ n : Int, (countV v : Int) ≤ n → leftV v n = n - countV v) ?_ v
  intro k m t l ih n hn
  rw [leftV, countV]
  rw [countV] at hn
  have : ∀ (r : List It), (∀ x ∈ r, x ∈ l) → ∀ n : Int, (countL r : Int) ≤ n → leftL r n = n - countL r := by
    intro r
    induction r with
    | nil => intro _ n hn; rw [leftL, countL]; simp
    | cons x r ihr =>
      intro hr n hn
      rw [countL_cons] at hn ⊢
      rw [leftL_cons, if_neg (by omega), ih x (hr x (by simp)) n (by omega), ihr (fun y hy => hr y (by simp [hy])) _ (by omega)]
      omega
  rw [this l (fun _ h => h) _ (by omega)]
  omega
theorem left_countL (r : List It) (n : Int) (h : (r.length + countL r : Nat) ≤ n) : leftL r (n - r.length) = n - (r.length + countL r : Nat) := by
  have := left_count (.mk 0 0 ⟨#[]⟩ r) n (by rw [countV]; exact h)
  rw [leftV, countV] at this
  exact this
theorem count_mem {r : List It} {x : It} (h : x ∈ r) : countV x.2 ≤ countL r := by
  induction r with
  | nil => cases h
  | cons y r ih =>
    rw [countL_cons]
    rcases List.mem_cons.1 h with rfl | h
    · omega
    · have := ih h; omega

theorem itemsL_at (n d : Int) (met : List K) (x : It) (r : List It) : itemsL n d met (x :: r) = ((K.same x.1.norm x.1 && !(decide (x.1 ∈ met)) && mayV x.2 (d + 1)) && (!(!x.1.b && decide (0 ≤ n) && decide (n ≤ x.1.n)) && itemsL n d (x.1 :: met) r)) := by
  cases x; rw [itemsL]
theorem itemsL_of {n d : Int} : ∀ {l : List It} {met : List K}, Once l → (∀ x ∈ l, x.1.norm = x.1 ∧ x.1 ∉ met ∧ mayV x.2 (d + 1) = true ∧ (x.1.b = false → 0 ≤ n → x.1.n < n)) → itemsL n d met l = true
  | [], met, _, _ => by rw [itemsL]
  | x :: r, met, ho, h => by
    obtain ⟨a, b, c, e⟩ := h x (by simp)
    have ho' := List.pairwise_cons.1 ho
    rw [itemsL_at, a, K.same_self, c, itemsL_of ho'.2 (fun y hy => ?_)]
    · simp only [Bool.and_true, Bool.true_and]
      rw [decide_eq_false b]
      simp only [Bool.not_false, Bool.true_and]
      cases hb : x.1.b
      · have := e hb
        simp only [Bool.not_false, Bool.true_and, Bool.not_eq_true', Bool.and_eq_false_iff, decide_eq_false_iff_not]
        omega
      · simp
    · obtain ⟨a', b', c', e'⟩ := h y (by simp [hy])
      refine ⟨a', ?_, c', e'⟩
      rw [List.mem_cons]
      rintro (e | e)
      · exact ho'.1 y hy e.symm
      · exact b' e
theorem may_mono (v : VT) : ∀ d d' : Int, d' ≤ d → mayV v d = true → mayV v d' = true := by
  refine VT.ind (P := fun v => ∀ d d' : Int, d' ≤ d → mayV v d = true → mayV v d' = true) ?_ v
  intro k n t l ih d d' hd h
  have hi : ∀ (r : List It) (met : List K), (∀ x ∈ r, x ∈ l) → itemsL n d met r = true → itemsL n d' met r = true := by
    intro r
    induction r with
    | nil => intro met _ _; rw [itemsL]
    | cons x r ihr =>
      intro met hr h
      rw [itemsL_at] at h ⊢
      simp only [Bool.and_eq_true] at h ⊢
      obtain ⟨⟨a, b⟩, c, e⟩ := h
      exact ⟨⟨a, ih x (hr x (by simp)) (d + 1) (d' + 1) (by omega) b⟩, c, ihr _ (fun y hy => hr y (by simp [hy])) e⟩
  rw [mayV] at h ⊢
  split at h
  · rename_i h0; rw [if_pos h0]; exact h
  rename_i h0
  rw [if_neg h0]
  split at h
  · rename_i h1; rw [if_pos h1]; exact h
  rename_i h1
  rw [if_neg h1]
  split at h
  · rename_i h2; rw [if_pos h2]; exact h
  rename_i h2
  rw [if_neg h2]
  split at h
  · rename_i h3; rw [if_pos h3]; exact h
  rename_i h3
  rw [if_neg h3]
  split at h
  · rename_i h4; rw [if_pos h4]; exact h
  rename_i h4
  rw [if_neg h4]
  split at h
  · rename_i h5
    rw [if_pos h5]
    simp only [Bool.and_eq_true, decide_eq_true_eq] at h ⊢
    obtain ⟨⟨⟨a, b⟩, c⟩, e⟩ := h
    exact ⟨⟨⟨a, b⟩, by omega⟩, hi l [] (fun _ h => h) e⟩
  · cases h
theorem right_of {v : VT} (h : mayV v 0 = true) (hc : countV v ≤ 2048) : rightV v = true := by
  unfold rightV
  rw [left_count v 2048 (by omega), h]
  simp
  omega
theorem leftL_nn_of {l : List It} (ih : ∀ x ∈ l, ∀ n : Int, 0 ≤ leftV x.2 n → leftV x.2 n = n - countV x.2) : ∀ n : Int, 0 ≤ leftL l n → leftL l n = n - countL l := by
  induction l with
  | nil => intro n h; rw [leftL, countL]; omega
  | cons x r hr =>
    intro n h
    rw [leftL_cons] at h ⊢
    split at h
    · omega
    · rename_i hn
      rw [if_neg hn]
      have h1 := leftL_le r (leftV x.2 n)
      have h2 := ih x (by simp) n (by omega)
      have h3 := hr (fun y hy => ih y (by simp [hy])) _ h
      rw [h3, countL_cons, h2]
      omega
theorem left_nn (v : VT) : ∀ n : Int, 0 ≤ leftV v n → leftV v n = n - countV v := by
  refine VT.ind (P := fun v => ∀ n : Int, 0 ≤ leftV v n → leftV v n = n - countV v) ?_ v
  intro k i t l ih n h
  rw [leftV] at h ⊢
  rw [countV, leftL_nn_of ih _ h]
  omega
theorem leftL_nn (l : List It) (n : Int) (h : 0 ≤ leftL l n) : leftL l n = n - countL l := leftL_nn_of (fun x _ => left_nn x.2) n h
theorem itemsL_once {n d : Int} : ∀ {l : List It} {met : List K}, itemsL n d met l = true → Once l ∧ ∀ x ∈ l, x.1.norm = x.1 ∧ x.1 ∉ met
  | [], _, _ => ⟨List.Pairwise.nil, fun x hx => by cases hx⟩
  | y :: l, met, h => by
    rw [itemsL_at] at h
    simp only [Bool.and_eq_true, Bool.not_eq_true', decide_eq_false_iff_not] at h
    obtain ⟨⟨⟨a, b⟩, -⟩, -, c⟩ := h
    obtain ⟨ho, hx⟩ := itemsL_once c
    refine ⟨List.pairwise_cons.2 ⟨fun x hm e => (hx x hm).2 (by rw [← e]; simp), ho⟩, fun x hm => ?_⟩
    rcases List.mem_cons.1 hm with rfl | hm
    · exact ⟨K.same_iff.1 a, b⟩
    · exact ⟨(hx x hm).1, fun e => (hx x hm).2 (by simp [e])⟩
end Go.Proofs.YtnaefnojmiolbaaGreatDoor

namespace Go.Proofs.YtnaefnojmiolbaaGreatDoor
open Go.RowKit

mutual
/-- Are all objects in a value things? -/
def withinV : VT → Int → Bool
  | .mk k n _ l, m => !(decide (k = 5) && decide (m < n)) && withinL l m
def withinL : List (K × VT) → Int → Bool
  | [], _ => true
  | (_, v) :: r, m => withinV v m && withinL r m
end
theorem withinL_cons (q : K) (x : VT) (r : List It) (m : Int) : withinL ((q, x) :: r) m = (withinV x m && withinL r m) := by rw [withinL]
set_option maxHeartbeats 1600000 in
set_option maxRecDepth 100000 in
theorem within_any (v : VT) : ∀ (w : World) (c : Value) (m : Int), VIn w c v.xs → Calls Tryz.prog 41 #[v.v c, .int .i64 m] w (BoolPost w (withinV v m)) := by
  refine VT.ind (P := fun v => ∀ (w : World) (c : Value) (m : Int), VIn w c v.xs → Calls Tryz.prog 41 #[v.v c, .int .i64 m] w (BoolPost w (withinV v m))) ?_ v
  intro k n t l ih w c m hv
  have hv : VIn w c l := hv
  obtain ⟨ao, cap, rfl, hlen⟩ := hv.form
  have HV := Lib.hid hv
  have IH := Lib.hid ih
  have HB := Lib.hid (below_alloc1 w (VB (.mk k n t l) (.slice ao l.length cap)))
  obtain ⟨a0, a1, a2, a3⟩ := vb_cells (heap_alloc_new w (VB (.mk k n t l) (.slice ao l.length cap)))
  obtain ⟨r, hr⟩ : ∃ r, r = withinV (.mk k n t l) m := ⟨_, rfl⟩
  rw [← hr]
  obtain ⟨e1, he1⟩ : ∃ e, (k == 5) = e := ⟨_, rfl⟩
  obtain ⟨e2, he2⟩ : ∃ e, decide (m < n) = e := ⟨_, rfl⟩
  have HR : Hid (r = (!(e1 && e2) && withinL (l.drop 0) m)) := Lib.hid (by rw [hr, withinV, ← he1, ← he2]; congr 3)
  have HL := Lib.hid hlen
  clear hv ih hr hlen
  show Calls Tryz.prog 41 #[.agg #[.int .i64 k, .int .i64 n, .string t, .slice ao l.length cap], .int .i64 m] w (BoolPost w r)
  by_cases hbad : (e1 && e2) = true
  · obtain ⟨rfl, rfl⟩ : e1 = true ∧ e2 = true := by simpa using hbad
    have hrf : r = false := by rw [HR.out]; rfl
    subst hrf
    go_enter Tryz.func41, Tryz.ntmps41
    go_wp2_with fail
    go_ret
    exact ⟨rfl, HB.out⟩
  · have HR1 : Hid (r = withinL (l.drop 0) m) := Lib.hid (by rw [HR.out]; simp only [Bool.not_eq_true] at hbad; rw [hbad]; rfl)
    clear HR
    cases e1
    case true =>
      cases e2
      case true => exact absurd rfl hbad
      all_goals
        go_enter Tryz.func41, Tryz.ntmps41
        go_wp2_with fail
        go_loopw [19] (fun kv wr => ∃ (j : Nat), j ≤ l.length ∧ kv = .int .i64 j ∧ Hid (r = withinL (l.drop j) m) ∧ Hid (Below w.heap.size w wr)) (fun kv _ => l.length - (intOf kv).toNat)
        case atStart => exact ⟨0, Nat.zero_le _, rfl, HR1, HB⟩
        case round =>
          obtain ⟨j, hj, rfl, HX, BX⟩ := hrel
          by_cases hlt : j < l.length
          · obtain ⟨q, v, g, off, co, cc, hq, hm, rfl, hc, d0, d1, d2, d3, d4, d5, d6⟩ := HV.out.getB hlt BX.out rfl
            have hi : (j : Int) < (l.length : Int) := by omega
            obtain ⟨hwi', hwi⟩ : wrap64 ((j : Int) + 1) = (j : Int) + 1 ∧ IntKind.i64.wrap ((j : Int) + 1) = (j : Int) + 1 := wr_sm (by omega) (by have := HL.out; omega)
            obtain ⟨b0, b1, b2, b3, b4, b5, b6⟩ := ib_cells (heap_alloc_new wr (IB (q, v) (.slice co v.xs.length cc)))
            have BY := Lib.hid (BX.out.alloc BX.out.size (IB (q, v) (.slice co v.xs.length cc)))
            have HC : Calls Tryz.prog 41 #[.agg #[.int .i64 v.k, .int .i64 v.n, .string v.t, .slice co v.xs.length cc], .int .i64 m] (wr.alloc (IB (q, v) (.slice co v.xs.length cc))) (BoolPost (wr.alloc (IB (q, v) (.slice co v.xs.length cc))) (withinV v m)) := IH.out (q, v) hm _ (.slice co v.xs.length cc) m (hc.under (below_alloc1 _ _))
            have HD : Hid (r = (withinV v m && withinL (l.drop (j + 1)) m)) := Lib.hid (by rw [HX.out, drop_at hq, withinL_cons])
            have HLT := Lib.hid hlt
            generalize withinV v m = y at HC HD
            clear hc hq hm hlt HX
            go_wp2_with fail
            refine HC.mono ?_
            rintro e w5 ⟨rfl, hb⟩
            have B5 := Lib.hid (BY.out.trans (hb.mono BY.out.size))
            clear hb HC
            cases y
            · have hrf : r = false := by rw [HD.out]; rfl
              subst hrf
              go_wp2_with fail
              go_ret
              exact ⟨rfl, B5.out⟩
            · have HX2 : Hid (r = withinL (l.drop (j + 1)) m) := Lib.hid (by rw [HD.out]; rfl)
              clear HD
              go_wp2_with fail
              go_roundw
              case rel => exact ⟨j + 1, HLT.out, by go_num, HX2, B5⟩
              case measure => have := HLT.out; simp [intOf]; omega
          · obtain rfl : j = l.length := by omega
            have hrt : r = true := by rw [HX.out, List.drop_length]; rfl
            subst hrt
            go_wp2_with fail
            go_ret
            exact ⟨rfl, BX.out⟩
    all_goals
      go_enter Tryz.func41, Tryz.ntmps41
      go_wp2_with fail
      go_loopw [19] (fun kv wr => ∃ (j : Nat), j ≤ l.length ∧ kv = .int .i64 j ∧ Hid (r = withinL (l.drop j) m) ∧ Hid (Below w.heap.size w wr)) (fun kv _ => l.length - (intOf kv).toNat)
      case atStart => exact ⟨0, Nat.zero_le _, rfl, HR1, HB⟩
      case round =>
        obtain ⟨j, hj, rfl, HX, BX⟩ := hrel
        by_cases hlt : j < l.length
        · obtain ⟨q, v, g, off, co, cc, hq, hm, rfl, hc, d0, d1, d2, d3, d4, d5, d6⟩ := HV.out.getB hlt BX.out rfl
          have hi : (j : Int) < (l.length : Int) := by omega
          obtain ⟨hwi', hwi⟩ : wrap64 ((j : Int) + 1) = (j : Int) + 1 ∧ IntKind.i64.wrap ((j : Int) + 1) = (j : Int) + 1 := wr_sm (by omega) (by have := HL.out; omega)
          obtain ⟨b0, b1, b2, b3, b4, b5, b6⟩ := ib_cells (heap_alloc_new wr (IB (q, v) (.slice co v.xs.length cc)))
          have BY := Lib.hid (BX.out.alloc BX.out.size (IB (q, v) (.slice co v.xs.length cc)))
          have HC : Calls Tryz.prog 41 #[.agg #[.int .i64 v.k, .int .i64 v.n, .string v.t, .slice co v.xs.length cc], .int .i64 m] (wr.alloc (IB (q, v) (.slice co v.xs.length cc))) (BoolPost (wr.alloc (IB (q, v) (.slice co v.xs.length cc))) (withinV v m)) := IH.out (q, v) hm _ (.slice co v.xs.length cc) m (hc.under (below_alloc1 _ _))
          have HD : Hid (r = (withinV v m && withinL (l.drop (j + 1)) m)) := Lib.hid (by rw [HX.out, drop_at hq, withinL_cons])
          have HLT := Lib.hid hlt
          generalize withinV v m = y at HC HD
          clear hc hq hm hlt HX
          go_wp2_with fail
          refine HC.mono ?_
          rintro e w5 ⟨rfl, hb⟩
          have B5 := Lib.hid (BY.out.trans (hb.mono BY.out.size))
          clear hb HC
          cases y
          · have hrf : r = false := by rw [HD.out]; rfl
            subst hrf
            go_wp2_with fail
            go_ret
            exact ⟨rfl, B5.out⟩
          · have HX2 : Hid (r = withinL (l.drop (j + 1)) m) := Lib.hid (by rw [HD.out]; rfl)
            clear HD
            go_wp2_with fail
            go_roundw
            case rel => exact ⟨j + 1, HLT.out, by go_num, HX2, B5⟩
            case measure => have := HLT.out; simp [intOf]; omega
        · obtain rfl : j = l.length := by omega
          have hrt : r = true := by rw [HX.out, List.drop_length]; rfl
          subst hrt
          go_wp2_with fail
          go_ret
          exact ⟨rfl, BX.out⟩
set_option maxHeartbeats 1600000 in
set_option maxRecDepth 100000 in
theorem room_any (v : VT) : ∀ (w : World) (c : Value) (n : Int), VIn w c v.xs → 0 ≤ n → n ≤ 2048 → Calls Tryz.prog 42 #[v.v c, .int .i64 n] w (IntPost w (leftV v n)) := by
  refine VT.ind (P := fun v => ∀ (w : World) (c : Value) (n : Int), VIn w c v.xs → 0 ≤ n → n ≤ 2048 → Calls Tryz.prog 42 #[v.v c, .int .i64 n] w (IntPost w (leftV v n))) ?_ v
  intro k m t l ih w c n hv h0 h1
  have hv : VIn w c l := hv
  have hfit := hv.fits
  obtain ⟨ao, cap, rfl, hlen⟩ := hv.form
  have HV := Lib.hid hv
  have IH := Lib.hid ih
  have HF := Lib.hid hfit
  have HB := Lib.hid (below_alloc1 w (VB (.mk k m t l) (.slice ao l.length cap)))
  have HX0 := Lib.hid (heap_alloc_new w (VB (.mk k m t l) (.slice ao l.length cap)))
  obtain ⟨a0, a1, a2, a3⟩ := vb_cells (heap_alloc_new w (VB (.mk k m t l) (.slice ao l.length cap)))
  obtain ⟨hw', hw⟩ := wr_sm (x := n - (l.length : Int)) (by omega) (by omega)
  obtain ⟨r, hr⟩ : ∃ r, r = leftV (.mk k m t l) n := ⟨_, rfl⟩
  have HR : Hid (r = leftL (l.drop 0) (n - l.length)) := Lib.hid (by rw [hr, leftV]; rfl)
  have HL := Lib.hid hlen
  have HN := Lib.hid h0
  rw [← hr]
  clear hv ih hfit hr hlen h0
  show Calls Tryz.prog 42 #[.agg #[.int .i64 k, .int .i64 m, .string t, .slice ao l.length cap], .int .i64 n] w (IntPost w r)
  go_enter Tryz.func42, Tryz.ntmps42
  go_wp2_with fail
  go_loopw [1, 5] (fun nv kv wr => ∃ (j : Nat) (x : Int), j ≤ l.length ∧ nv = .int .i64 x ∧ kv = .int .i64 j ∧ Hid (r = leftL (l.drop j) x ∧ x ≤ 2048 ∧ -140737488355328 ≤ x) ∧ Hid (Below w.heap.size w wr ∧ wr.heap[w.heap.size]? = some (VB (.mk k m t l) (.slice ao l.length cap)))) (fun _ kv _ => l.length - (intOf kv).toNat)
  case atStart => exact ⟨0, n - l.length, Nat.zero_le _, rfl, rfl, Lib.hid ⟨HR.out, by omega, by have := HL.out; have := HN.out; omega⟩, Lib.hid ⟨HB.out, HX0.out⟩⟩
  case round =>
    obtain ⟨j, x, hj, rfl, rfl, HX, BX⟩ := hrel
    have x3 : wr.cell? ⟨w.heap.size, 3, none⟩ = some (.slice ao l.length cap) := (vb_cells BX.out.2).2.2.2
    clear a0 a1 a2 a3
    obtain ⟨ex, hex⟩ : ∃ e, decide (0 ≤ x) = e := ⟨_, rfl⟩
    by_cases hlt : j < l.length
    · have hi : (j : Int) < (l.length : Int) := by omega
      cases ex
      · have hx : x < 0 := by have := of_decide_eq_false hex; omega
        have hrx : r = x := by rw [HX.out.1, leftL_neg hx]
        subst hrx
        clear hx
        go_wp2_with fail
        go_ret
        exact ⟨rfl, BX.out.1⟩
      · have hx : 0 ≤ x := of_decide_eq_true hex
        obtain ⟨q, v, g, off, co, cc, hq, hm, rfl, hc, d0, d1, d2, d3, d4, d5, d6⟩ := HV.out.getB hlt BX.out.1 rfl
        obtain ⟨hwi', hwi⟩ : wrap64 ((j : Int) + 1) = (j : Int) + 1 ∧ IntKind.i64.wrap ((j : Int) + 1) = (j : Int) + 1 := wr_sm (by omega) (by have := HL.out; omega)
        have HC : Calls Tryz.prog 42 #[.agg #[.int .i64 v.k, .int .i64 v.n, .string v.t, .slice co v.xs.length cc], .int .i64 x] wr (IntPost wr (leftV v x)) := IH.out (q, v) hm _ (.slice co v.xs.length cc) x hc hx HX.out.2.1
        have HD : Hid (leftL (l.drop j) x = leftL (l.drop (j + 1)) (leftV v x)) := Lib.hid (by rw [drop_at hq, leftL_cons, if_neg (by omega)])
        have HG := Lib.hid (leftV_ge v hc.fits x hx)
        have HGe := Lib.hid (leftV_le v x hx (fun _ _ => trivial))
        have HLT := Lib.hid hlt
        generalize leftV v x = y at HC HD HG HGe
        clear hc hq hm hlt hx
        go_wp2_with fail
        refine HC.mono ?_
        rintro e w5 ⟨rfl, hb⟩
        have B5 : Hid (Below w.heap.size w w5 ∧ w5.heap[w.heap.size]? = some (VB (.mk k m t l) (.slice (some ⟨g, off, none⟩) l.length cap))) := Lib.hid ⟨BX.out.1.trans (hb.mono BX.out.1.size), (hb.block _ (lt_of_block BX.out.2)).trans BX.out.2⟩
        clear hb HC
        go_wp2_with fail
        go_roundw
        case rel => exact ⟨j + 1, y, HLT.out, rfl, by go_num, Lib.hid ⟨by rw [HX.out.1, HD.out], by have := HGe.out; have := HX.out.2.1; omega, HG.out⟩, B5⟩
        case measure => have := HLT.out; simp [intOf]; omega
    · obtain rfl : j = l.length := by omega
      have hrx : r = x := by rw [HX.out.1, List.drop_length]; rfl
      subst hrx
      go_wp2_with fail
      go_ret
      exact ⟨rfl, BX.out.1⟩
end Go.Proofs.YtnaefnojmiolbaaGreatDoor

namespace Go.Proofs.YtnaefnojmiolbaaGreatDoor
open Go.RowKit

/-- Item j of both lists, as it lies. -/
structure Raw2 (w : World) (v : VT) (l : List It) (ao bo : Option Addr) (ca cb : Nat) (j : Nat) (q : K) (x : VT) (g off : Nat) (co : Option Addr) (cc : Nat) (g2 off2 : Nat) (co2 : Option Addr) (cc2 : Nat) (V : World) : Prop where
  a : V.heap[w.heap.size]? = some (VB v (.slice ao l.length ca))
  b : V.heap[w.heap.size + 1]? = some (VB v (.slice bo l.length cb))
  below : Below w.heap.size w V
  vin : VIn V (.slice co x.xs.length cc) x.xs
  vin2 : VIn V (.slice co2 x.xs.length cc2) x.xs
  lt : g < w.heap.size
  lt2 : g2 < w.heap.size
  c : w.cell? ⟨g, off + j * 7, none⟩ = some (.bool q.b) ∧ w.cell? ⟨g, off + j * 7 + 1, none⟩ = some (.int .i64 q.n) ∧ w.cell? ⟨g, off + j * 7 + 2, none⟩ = some (.string q.t) ∧
      w.cell? ⟨g, off + j * 7 + 3, none⟩ = some (.int .i64 x.k) ∧ w.cell? ⟨g, off + j * 7 + 4, none⟩ = some (.int .i64 x.n) ∧ w.cell? ⟨g, off + j * 7 + 5, none⟩ = some (.string x.t) ∧ w.cell? ⟨g, off + j * 7 + 6, none⟩ = some (.slice co x.xs.length cc)
  c2 : w.cell? ⟨g2, off2 + j * 7, none⟩ = some (.bool q.b) ∧ w.cell? ⟨g2, off2 + j * 7 + 1, none⟩ = some (.int .i64 q.n) ∧ w.cell? ⟨g2, off2 + j * 7 + 2, none⟩ = some (.string q.t) ∧
      w.cell? ⟨g2, off2 + j * 7 + 3, none⟩ = some (.int .i64 x.k) ∧ w.cell? ⟨g2, off2 + j * 7 + 4, none⟩ = some (.int .i64 x.n) ∧ w.cell? ⟨g2, off2 + j * 7 + 5, none⟩ = some (.string x.t) ∧ w.cell? ⟨g2, off2 + j * 7 + 6, none⟩ = some (.slice co2 x.xs.length cc2)
section
variable {w : World} {v : VT} {l : List It} {ao bo : Option Addr} {ca cb : Nat} {j : Nat} {q : K} {x : VT} {g off : Nat} {co : Option Addr} {cc : Nat} {g2 off2 : Nat} {co2 : Option Addr} {cc2 : Nat} {V V' : World}
theorem Raw2.mono (h : Raw2 w v l ao bo ca cb j q x g off co cc g2 off2 co2 cc2 V) (hb : Below V.heap.size V V') : Raw2 w v l ao bo ca cb j q x g off co cc g2 off2 co2 cc2 V' :=
  ⟨(hb.block _ (lt_of_block h.a)).trans h.a, (hb.block _ (lt_of_block h.b)).trans h.b, h.below.trans (hb.mono h.below.size), h.vin.under hb, h.vin2.under hb, h.lt, h.lt2, h.c, h.c2⟩
def Raw2S (w : World) (l : List It) (ao bo : Option Addr) (ca cb : Nat) (j : Nat) (q : K) (x : VT) (g off : Nat) (co : Option Addr) (cc : Nat) (g2 off2 : Nat) (co2 : Option Addr) (cc2 : Nat) (V : World) : Prop :=
  V.cell? ⟨w.heap.size, 3, none⟩ = some (.slice ao l.length ca) ∧ V.cell? ⟨w.heap.size + 1, 3, none⟩ = some (.slice bo l.length cb) ∧
  V.cell? ⟨g, off + j * 7, none⟩ = some (.bool q.b) ∧ V.cell? ⟨g, off + j * 7 + 1, none⟩ = some (.int .i64 q.n) ∧ V.cell? ⟨g, off + j * 7 + 2, none⟩ = some (.string q.t) ∧
  V.cell? ⟨g, off + j * 7 + 3, none⟩ = some (.int .i64 x.k) ∧ V.cell? ⟨g, off + j * 7 + 4, none⟩ = some (.int .i64 x.n) ∧ V.cell? ⟨g, off + j * 7 + 5, none⟩ = some (.string x.t) ∧ V.cell? ⟨g, off + j * 7 + 6, none⟩ = some (.slice co x.xs.length cc) ∧
  V.cell? ⟨g2, off2 + j * 7, none⟩ = some (.bool q.b) ∧ V.cell? ⟨g2, off2 + j * 7 + 1, none⟩ = some (.int .i64 q.n) ∧ V.cell? ⟨g2, off2 + j * 7 + 2, none⟩ = some (.string q.t) ∧
  V.cell? ⟨g2, off2 + j * 7 + 3, none⟩ = some (.int .i64 x.k) ∧ V.cell? ⟨g2, off2 + j * 7 + 4, none⟩ = some (.int .i64 x.n) ∧ V.cell? ⟨g2, off2 + j * 7 + 5, none⟩ = some (.string x.t) ∧ V.cell? ⟨g2, off2 + j * 7 + 6, none⟩ = some (.slice co2 x.xs.length cc2)
theorem Raw2.all (h : Raw2 w v l ao bo ca cb j q x g off co cc g2 off2 co2 cc2 V) : Raw2S w l ao bo ca cb j q x g off co cc g2 off2 co2 cc2 V := by
  have k := fun o => h.below.cell (p := ⟨g, o, none⟩) h.lt
  have k2 := fun o => h.below.cell (p := ⟨g2, o, none⟩) h.lt2
  obtain ⟨c0, c1, c2, c3, c4, c5, c6⟩ := h.c
  obtain ⟨d0, d1, d2, d3, d4, d5, d6⟩ := h.c2
  exact ⟨cell_blk h.a 3, cell_blk h.b 3, (k _).trans c0, (k _).trans c1, (k _).trans c2, (k _).trans c3, (k _).trans c4, (k _).trans c5, (k _).trans c6, (k2 _).trans d0, (k2 _).trans d1, (k2 _).trans d2, (k2 _).trans d3, (k2 _).trans d4, (k2 _).trans d5, (k2 _).trans d6⟩
end
set_option maxHeartbeats 3200000 in
set_option maxRecDepth 100000 in
theorem raw_same (v : VT) : ∀ (w : World) (c d : Value), VIn w c v.xs → VIn w d v.xs → Calls Tryz.prog 32 #[v.v c, v.v d] w (BoolPost w true) := by
  refine VT.ind (P := fun v => ∀ (w : World) (c d : Value), VIn w c v.xs → VIn w d v.xs → Calls Tryz.prog 32 #[v.v c, v.v d] w (BoolPost w true)) ?_ v
  intro k n t l ih w c d hv hv2
  have hv : VIn w c l := hv
  have hv2 : VIn w d l := hv2
  obtain ⟨ao, cap, rfl, hlen⟩ := hv.form
  obtain ⟨bo, cap2, rfl, -⟩ := hv2.form
  have HV := Lib.hid hv
  have HV2 := Lib.hid hv2
  have IH := Lib.hid ih
  have HB : Hid (Below w.heap.size w ((w.alloc (VB (.mk k n t l) (.slice ao l.length cap))).alloc (VB (.mk k n t l) (.slice bo l.length cap2))) ∧ ((w.alloc (VB (.mk k n t l) (.slice ao l.length cap))).alloc (VB (.mk k n t l) (.slice bo l.length cap2))).heap[w.heap.size]? = some (VB (.mk k n t l) (.slice ao l.length cap)) ∧ ((w.alloc (VB (.mk k n t l) (.slice ao l.length cap))).alloc (VB (.mk k n t l) (.slice bo l.length cap2))).heap[w.heap.size + 1]? = some (VB (.mk k n t l) (.slice bo l.length cap2))) :=
    Lib.hid ⟨(at2_start w _ _).below, (at2_start w _ _).a, (at2_start w _ _).b⟩
  obtain ⟨a0, a1, a2, a3⟩ := vb_cells HB.out.2.1
  obtain ⟨b0, b1, b2, b3⟩ := vb_cells HB.out.2.2
  have HL := Lib.hid hlen
  have hk : (k == k) = true := by simp
  have hn : (n == n) = true := by simp
  clear hv hv2 ih hlen
  show Calls Tryz.prog 32 #[.agg #[.int .i64 k, .int .i64 n, .string t, .slice ao l.length cap], .agg #[.int .i64 k, .int .i64 n, .string t, .slice bo l.length cap2]] w _
  go_enter Tryz.func32, Tryz.ntmps32
  go_wp2_with fail
  go_loopw [5] (fun kv wr => ∃ (j : Nat), j ≤ l.length ∧ kv = .int .i64 j ∧ Hid (Below w.heap.size w wr ∧ wr.heap[w.heap.size]? = some (VB (.mk k n t l) (.slice ao l.length cap)) ∧ wr.heap[w.heap.size + 1]? = some (VB (.mk k n t l) (.slice bo l.length cap2)))) (fun kv _ => l.length - (intOf kv).toNat)
  case atStart => exact ⟨0, Nat.zero_le _, rfl, HB⟩
  case round =>
    obtain ⟨j, hj, rfl, BX⟩ := hrel
    have x3 : wr.cell? ⟨w.heap.size, 3, none⟩ = some (.slice ao l.length cap) := (vb_cells BX.out.2.1).2.2.2
    clear a0 a1 a2 a3 b0 b1 b2 b3
    by_cases hlt : j < l.length
    · have hi : (j : Int) < (l.length : Int) := by omega
      obtain ⟨q, x, g, off, co, hq, hm, rfl, hg, -, hc, cc0⟩ := HV.out.get hlt
      obtain ⟨q', x', g2, off2, co2, hq', -, rfl, hg2, -, hc2, dd0⟩ := HV2.out.get hlt
      rw [hq] at hq'
      obtain ⟨rfl, rfl⟩ : q = q' ∧ x = x' := by simpa using hq'
      obtain ⟨po, pc, rfl, -⟩ := hc.form
      obtain ⟨po2, pc2, rfl, -⟩ := hc2.form
      have hd := Below.refl wr.heap.size wr
      have D0 : Hid (Raw2 w (.mk k n t l) l (some ⟨g, off, none⟩) (some ⟨g2, off2, none⟩) cap cap2 j q x g off po pc g2 off2 po2 pc2 wr.drew) := Lib.hid (Raw2.mono (V := wr) ⟨BX.out.2.1, BX.out.2.2, BX.out.1, hc.kept fun b _ hb' => ⟨BX.out.1.block b hb', Nat.lt_of_lt_of_le hb' BX.out.1.size, trivial⟩, hc2.kept fun b _ hb' => ⟨BX.out.1.block b hb', Nat.lt_of_lt_of_le hb' BX.out.1.size, trivial⟩, hg, hg2, cc0, dd0⟩ (belowD hd))
      obtain ⟨hwi', hwi⟩ : wrap64 ((j : Int) + 1) = (j : Int) + 1 ∧ IntKind.i64.wrap ((j : Int) + 1) = (j : Int) + 1 := wr_sm (by omega) (by have := HL.out; omega)
      have hN : ∀ w, (binOp .neq 62 (.agg #[.bool q.b, .int .i64 q.n, .string q.t]) (.agg #[.bool q.b, .int .i64 q.n, .string q.t])).run Tryz.prog w = .ok (.bool false) w := fun w => by have := key_neq q q w; rw [K.same_self] at this; exact this
      have HC : ∀ V, VIn V (.slice po x.xs.length pc) x.xs → VIn V (.slice po2 x.xs.length pc2) x.xs → Calls Tryz.prog 32 #[.agg #[.int .i64 x.k, .int .i64 x.n, .string x.t, .slice po x.xs.length pc], .agg #[.int .i64 x.k, .int .i64 x.n, .string x.t, .slice po2 x.xs.length pc2]] V (BoolPost V true) := fun V h1 h2 => IH.out (q, x) hm V _ _ h1 h2
      have HS0 := Lib.hid D0.out.all
      have HLT := Lib.hid hlt
      clear hc hc2 cc0 dd0 hq hm hg hg2 hq' hlt hd x3
      obtain ⟨z3, -⟩ := HS0.out
      have z3 : wr.cell? ⟨w.heap.size, 3, none⟩ = some (.slice (some ⟨g, off, none⟩) l.length cap) := z3
      go_wp2_with fail
      go_region_held3 (fun V => V.cell? ⟨w.heap.size, 3, none⟩ = some (.slice (some ⟨g, off, none⟩) l.length cap) ∧ V.cell? ⟨w.heap.size + 1, 3, none⟩ = some (.slice (some ⟨g2, off2, none⟩) l.length cap2) ∧ V.cell? ⟨g, off + j * 7, none⟩ = some (.bool q.b) ∧ V.cell? ⟨g, off + j * 7 + 1, none⟩ = some (.int .i64 q.n) ∧ V.cell? ⟨g, off + j * 7 + 2, none⟩ = some (.string q.t) ∧ V.cell? ⟨g, off + j * 7 + 3, none⟩ = some (.int .i64 x.k) ∧ V.cell? ⟨g, off + j * 7 + 4, none⟩ = some (.int .i64 x.n) ∧ V.cell? ⟨g, off + j * 7 + 5, none⟩ = some (.string x.t) ∧ V.cell? ⟨g, off + j * 7 + 6, none⟩ = some (.slice po x.xs.length pc) ∧ V.cell? ⟨g2, off2 + j * 7, none⟩ = some (.bool q.b) ∧ V.cell? ⟨g2, off2 + j * 7 + 1, none⟩ = some (.int .i64 q.n) ∧ V.cell? ⟨g2, off2 + j * 7 + 2, none⟩ = some (.string q.t) ∧ V.cell? ⟨g2, off2 + j * 7 + 3, none⟩ = some (.int .i64 x.k) ∧ V.cell? ⟨g2, off2 + j * 7 + 4, none⟩ = some (.int .i64 x.n) ∧ V.cell? ⟨g2, off2 + j * 7 + 5, none⟩ = some (.string x.t) ∧ V.cell? ⟨g2, off2 + j * 7 + 6, none⟩ = some (.slice po2 x.xs.length pc2))
        (first
          | exact HS0.out
          | exact HS1.out)
        (first
          | (go_at_call 32; refine (HC _ D0.out.vin D0.out.vin2).mono ?_; rintro e w1 ⟨rfl, hb⟩; have D1 := Lib.hid (D0.out.mono hb); have HS1 := Lib.hid D1.out.all; clear hb))
      go_wp2_with fail
      go_roundw
      case rel => exact ⟨j + 1, HLT.out, by go_num, Lib.hid ⟨D1.out.below, D1.out.a, D1.out.b⟩⟩
      case measure => have := HLT.out; simp [intOf]; omega
    · obtain rfl : j = l.length := by omega
      go_wp2_with fail
      go_ret
      exact ⟨rfl, BX.out.1⟩
end Go.Proofs.YtnaefnojmiolbaaGreatDoor
