/-
  may and Right at every value.
  How many items a value has; what may be. Of no program.
  The walks of within, room, and of the document's Raw at like values.
  The walk of the document's Raw at like values.
  The walks of the document's Few, Same at like values.
  JSON: what is written of a value, in plain words; what was written is read back. Of no program.
-/
import Derived.Test.YtnaefnojmiolbaaGreatDoorJw5
import Derived.Test.YtnaefnojmiolbaaGreatDoorJw6
import Derived.Deep.Cut
import Derived.Test.YtnaefnojmiolbaaGreatDoorJw10
namespace Go.Proofs.YtnaefnojmiolbaaGreatDoor
open Go.RowKit

theorem half_zero (n : Int) : (n / 2 == 0) = decide (n = 0 ∨ n = 1) := by
  by_cases h : n = 0 ∨ n = 1
  · have : n / 2 = 0 := by omega
    simp [h, this]
  · have : ¬ n / 2 = 0 := by omega
    simp [h, this]
theorem beq_dec (a b : Int) : (a == b) = decide (a = b) := by
  by_cases h : a = b <;> simp [h]
theorem may_any (v : VT) : v.Good → ∀ (d : Int), 0 ≤ d → d ≤ 64 → ∀ (w : World) (c : Value), VIn w c v.xs → Tabs w → Calls Tryz.prog 52 #[v.v c, .int .i64 d] w (BoolPost w (mayV v d)) := by
  refine VT.ind (P := fun v => v.Good → ∀ (d : Int), 0 ≤ d → d ≤ 64 → ∀ (w : World) (c : Value), VIn w c v.xs → Tabs w → Calls Tryz.prog 52 #[v.v c, .int .i64 d] w (BoolPost w (mayV v d))) ?_ v
  intro k n t l ih hg d h0 h1 w c hv ht
  have hv : VIn w c l := hv
  obtain ⟨ao, cap, rfl, -⟩ := hv.form
  show Calls Tryz.prog 52 #[.agg #[.int .i64 k, .int .i64 n, .string t, .slice ao l.length cap], .int .i64 d] w _
  rw [mayV]
  split
  · subst k; rw [nil_len, ← beq_dec]; exact may_0 n t ao l.length cap d w _ _ _ rfl rfl rfl
  split
  · subst k; rw [nil_len, ← half_zero]; exact may_1 n t ao l.length cap d w _ _ _ rfl rfl rfl
  split
  · subst k; rw [nil_len]; exact may_2 n t ao l.length cap d w _ _ rfl rfl
  split
  · subst k; rw [nil_len, ← beq_dec]; exact may_3 n t ao l.length cap d w _ _ _ rfl rfl (by by_cases h : t.size ≤ 65536 <;> simp [h] <;> omega)
  split
  · subst k; rw [nil_len]; exact may_5 n t ao l.length cap d w _ _ _ rfl rfl rfl
  split
  · subst k
    refine may_4 n t ao l.length cap d w _ fun w1 hb => ?_
    have hg' := VT.Good.parts hg
    exact items_any 4 n t l (goodL_iff.2 hg'.2.2.2) d h0 h1 (fun x hx w c hc ht hd => ih x hx (hg'.2.2.2 x hx).2 (d + 1) (by omega) (by omega) w c hc ht) ao cap w1 (hv.under hb) (ht.mono hb)
  · refine may_other k n t ao l.length cap d w ?_ ?_ ?_ ?_ ?_ ?_ <;> simp [*]
/-- May a value be? -/
def rightV (v : VT) : Bool := decide (0 ≤ leftV v 2048) && mayV v 0
set_option maxRecDepth 100000 in
theorem right_any (v : VT) (hg : v.Good) (w : World) (c : Value) (hv : VIn w c v.xs) (ht : Tabs w) : Calls Tryz.prog 24 #[v.v c] w (BoolPost w (rightV v)) := by
  obtain ⟨ao, cap, rfl, -⟩ := hv.form
  have hb := below_alloc1 w (VB v (.slice ao v.xs.length cap))
  have HL := left_any v _ (.slice ao v.xs.length cap) 2048 (hv.under hb) (by omega) (by omega)
  have HM : ∀ w1, Below w.heap.size w w1 → Calls Tryz.prog 52 #[v.v (.slice ao v.xs.length cap), .int .i64 0] w1 (BoolPost w1 (mayV v 0)) := fun w1 h => may_any v hg 0 (by omega) (by omega) w1 _ (hv.under h) (ht.mono h)
  have HB := Lib.hid hb
  obtain ⟨b0, b1, b2, b3⟩ := vb_cells (heap_alloc_new w (VB v (.slice ao v.xs.length cap)))
  have HX := Lib.hid (heap_alloc_new w (VB v (.slice ao v.xs.length cap)))
  unfold rightV
  generalize mayV v 0 = m at HM ⊢
  obtain ⟨e, he⟩ : ∃ e, decide (0 ≤ leftV v 2048) = e := ⟨_, rfl⟩
  rw [he]
  generalize leftV v 2048 = n at HL he
  unfold VT.v at HL HM ⊢
  clear hv ht hb hg
  cases e
  · go_enter Tryz.func24, Tryz.ntmps24
    go_wp2_with fail
    refine HL.mono ?_
    rintro e w1 ⟨rfl, hb⟩
    have B1 := Lib.hid (HB.out.trans (hb.mono HB.out.size))
    clear hb HL
    go_wp2_with fail
    go_ret
    exact ⟨rfl, B1.out⟩
  · go_enter Tryz.func24, Tryz.ntmps24
    go_wp2_with fail
    refine HL.mono ?_
    rintro e w1 ⟨rfl, hb⟩
    have B1 := Lib.hid (HB.out.trans (hb.mono HB.out.size))
    obtain ⟨x0, x1, x2, x3⟩ := vb_cells ((hb.block _ (lt_of_block HX.out)).trans HX.out)
    have HN := HM w1 B1.out
    clear hb HL HM b0 b1 b2 b3
    go_wp2_with fail
    refine HN.mono ?_
    rintro e w2 ⟨rfl, hb⟩
    have B2 := Lib.hid (B1.out.trans (hb.mono B1.out.size))
    clear hb HN
    go_wp2_with fail
    go_ret
    exact ⟨rfl, B2.out⟩
end Go.Proofs.YtnaefnojmiolbaaGreatDoor

namespace Go.Proofs.YtnaefnojmiolbaaGreatDoor
open Go.RowKit

mutual
/-- How many items lie in a value. -/
def countV : VT → Nat
  | .mk _ _ _ l => l.length + countL l
def countL : List (K × VT) → Nat
  | [] => 0
  | (_, v) :: r => countV v + countL r
end
theorem countL_cons (x : It) (r : List It) : countL (x :: r) = countV x.2 + countL r := by cases x; rw [countL]
theorem countL_append (a b : List It) : countL (a ++ b) = countL a + countL b := by
  induction a with
  | nil => simp [countL]
  | cons x a ih => rw [List.cons_append, countL_cons, countL_cons, ih]; omega
theorem left_count (v : VT) : ∀ n : Int, (countV v : Int) ≤ n → leftV v n = n - countV v := by
  refine VT.ind (P := fun v => ∀ n : Int, (countV v : Int) ≤ n → leftV v n = n - countV v) ?_ v
  intro k m t l ih n hn
  rw [leftV, countV]
  rw [countV] at hn
  have : ∀ (r : List It), (∀ x ∈ r, x ∈ l) → ∀ n : Int, (countL r : Int) ≤ n → leftL r n = n - countL r := by
    intro r
    induction r with
    | nil => intro _ n hn; rw [leftL, countL]; simp
    | cons x r ihr =>
      intro hr n hn
      rw [countL_cons] at hn ⊢
      rw [leftL_cons, if_neg (by omega), ih x (hr x (by simp)) n (by omega), ihr (fun y hy => hr y (by simp [hy])) _ (by omega)]
      omega
  rw [this l (fun _ h => h) _ (by omega)]
  omega
theorem itemsL_at (n d : Int) (met : List K) (x : It) (r : List It) : itemsL n d met (x :: r) = ((K.same x.1.norm x.1 && !(decide (x.1 ∈ met)) && mayV x.2 (d + 1)) && (!(!x.1.b && decide (0 ≤ n) && decide (n ≤ x.1.n)) && itemsL n d (x.1 :: met) r)) := by
  cases x; rw [itemsL]
theorem itemsL_of {n d : Int} : ∀ {l : List It} {met : List K}, Once l → (∀ x ∈ l, x.1.norm = x.1 ∧ x.1 ∉ met ∧ mayV x.2 (d + 1) = true ∧ (x.1.b = false → 0 ≤ n → x.1.n < n)) → itemsL n d met l = true
  | [], met, _, _ => by rw [itemsL]
  | x :: r, met, ho, h => by
    obtain ⟨a, b, c, e⟩ := h x (by simp)
    have ho' := List.pairwise_cons.1 ho
    rw [itemsL_at, a, K.same_self, c, itemsL_of ho'.2 (fun y hy => ?_)]
    · simp only [Bool.and_true, Bool.true_and]
      rw [decide_eq_false b]
      simp only [Bool.not_false, Bool.true_and]
      cases hb : x.1.b
      · have := e hb
        simp only [Bool.not_false, Bool.true_and, Bool.not_eq_true', Bool.and_eq_false_iff, decide_eq_false_iff_not]
        omega
      · simp
    · obtain ⟨a', b', c', e'⟩ := h y (by simp [hy])
      refine ⟨a', ?_, c', e'⟩
      rw [List.mem_cons]
      rintro (e | e)
      · exact ho'.1 y hy e.symm
      · exact b' e
theorem right_of {v : VT} (h : mayV v 0 = true) (hc : countV v ≤ 2048) : rightV v = true := by
  unfold rightV
  rw [left_count v 2048 (by omega), h]
  simp
  omega
theorem leftL_nn_of {l : List It} (ih : ∀ x ∈ l, ∀ n : Int, 0 ≤ leftV x.2 n → leftV x.2 n = n - countV x.2) : ∀ n : Int, 0 ≤ leftL l n → leftL l n = n - countL l := by
  induction l with
  | nil => intro n h; rw [leftL, countL]; omega
  | cons x r hr =>
    intro n h
    rw [leftL_cons] at h ⊢
    split at h
    · omega
    · rename_i hn
      rw [if_neg hn]
      have h1 := leftL_le r (leftV x.2 n)
      have h2 := ih x (by simp) n (by omega)
      have h3 := hr (fun y hy => ih y (by simp [hy])) _ h
      rw [h3, countL_cons, h2]
      omega
theorem left_nn (v : VT) : ∀ n : Int, 0 ≤ leftV v n → leftV v n = n - countV v := by
  refine VT.ind (P := fun v => ∀ n : Int, 0 ≤ leftV v n → leftV v n = n - countV v) ?_ v
  intro k i t l ih n h
  rw [leftV] at h ⊢
  rw [countV, leftL_nn_of ih _ h]
  omega
theorem itemsL_once {n d : Int} : ∀ {l : List It} {met : List K}, itemsL n d met l = true → Once l ∧ ∀ x ∈ l, x.1.norm = x.1 ∧ x.1 ∉ met
  | [], _, _ => ⟨List.Pairwise.nil, fun x hx => by cases hx⟩
  | y :: l, met, h => by
    rw [itemsL_at] at h
    simp only [Bool.and_eq_true, Bool.not_eq_true', decide_eq_false_iff_not] at h
    obtain ⟨⟨⟨a, b⟩, -⟩, -, c⟩ := h
    obtain ⟨ho, hx⟩ := itemsL_once c
    refine ⟨List.pairwise_cons.2 ⟨fun x hm e => (hx x hm).2 (by rw [← e]; simp), ho⟩, fun x hm => ?_⟩
    rcases List.mem_cons.1 hm with rfl | hm
    · exact ⟨K.same_iff.1 a, b⟩
    · exact ⟨(hx x hm).1, fun e => (hx x hm).2 (by simp [e])⟩
end Go.Proofs.YtnaefnojmiolbaaGreatDoor

namespace Go.Proofs.YtnaefnojmiolbaaGreatDoor
open Go.RowKit

mutual
/-- Are all objects in a value things? -/
def withinV : VT → Int → Bool
  | .mk k n _ l, m => !(decide (k = 5) && decide (m < n)) && withinL l m
def withinL : List (K × VT) → Int → Bool
  | [], _ => true
  | (_, v) :: r, m => withinV v m && withinL r m
end
end Go.Proofs.YtnaefnojmiolbaaGreatDoor

namespace Go.Proofs.YtnaefnojmiolbaaGreatDoor
open Go.RowKit

/-- Item j of both lists, as it lies. -/
structure Raw2 (w : World) (v : VT) (l : List It) (ao bo : Option Addr) (ca cb : Nat) (j : Nat) (q : K) (x : VT) (g off : Nat) (co : Option Addr) (cc : Nat) (g2 off2 : Nat) (co2 : Option Addr) (cc2 : Nat) (V : World) : Prop where
  a : V.heap[w.heap.size]? = some (VB v (.slice ao l.length ca))
  b : V.heap[w.heap.size + 1]? = some (VB v (.slice bo l.length cb))
  below : Below w.heap.size w V
  vin : VIn V (.slice co x.xs.length cc) x.xs
  vin2 : VIn V (.slice co2 x.xs.length cc2) x.xs
  lt : g < w.heap.size
  lt2 : g2 < w.heap.size
  c : w.cell? ⟨g, off + j * 7, none⟩ = some (.bool q.b) ∧ w.cell? ⟨g, off + j * 7 + 1, none⟩ = some (.int .i64 q.n) ∧ w.cell? ⟨g, off + j * 7 + 2, none⟩ = some (.string q.t) ∧
      w.cell? ⟨g, off + j * 7 + 3, none⟩ = some (.int .i64 x.k) ∧ w.cell? ⟨g, off + j * 7 + 4, none⟩ = some (.int .i64 x.n) ∧ w.cell? ⟨g, off + j * 7 + 5, none⟩ = some (.string x.t) ∧ w.cell? ⟨g, off + j * 7 + 6, none⟩ = some (.slice co x.xs.length cc)
  c2 : w.cell? ⟨g2, off2 + j * 7, none⟩ = some (.bool q.b) ∧ w.cell? ⟨g2, off2 + j * 7 + 1, none⟩ = some (.int .i64 q.n) ∧ w.cell? ⟨g2, off2 + j * 7 + 2, none⟩ = some (.string q.t) ∧
      w.cell? ⟨g2, off2 + j * 7 + 3, none⟩ = some (.int .i64 x.k) ∧ w.cell? ⟨g2, off2 + j * 7 + 4, none⟩ = some (.int .i64 x.n) ∧ w.cell? ⟨g2, off2 + j * 7 + 5, none⟩ = some (.string x.t) ∧ w.cell? ⟨g2, off2 + j * 7 + 6, none⟩ = some (.slice co2 x.xs.length cc2)
section
variable {w : World} {v : VT} {l : List It} {ao bo : Option Addr} {ca cb : Nat} {j : Nat} {q : K} {x : VT} {g off : Nat} {co : Option Addr} {cc : Nat} {g2 off2 : Nat} {co2 : Option Addr} {cc2 : Nat} {V V' : World}
theorem Raw2.mono (h : Raw2 w v l ao bo ca cb j q x g off co cc g2 off2 co2 cc2 V) (hb : Below V.heap.size V V') : Raw2 w v l ao bo ca cb j q x g off co cc g2 off2 co2 cc2 V' :=
  ⟨(hb.block _ (lt_of_block h.a)).trans h.a, (hb.block _ (lt_of_block h.b)).trans h.b, h.below.trans (hb.mono h.below.size), h.vin.under hb, h.vin2.under hb, h.lt, h.lt2, h.c, h.c2⟩
def Raw2S (w : World) (l : List It) (ao bo : Option Addr) (ca cb : Nat) (j : Nat) (q : K) (x : VT) (g off : Nat) (co : Option Addr) (cc : Nat) (g2 off2 : Nat) (co2 : Option Addr) (cc2 : Nat) (V : World) : Prop :=
  V.cell? ⟨w.heap.size, 3, none⟩ = some (.slice ao l.length ca) ∧ V.cell? ⟨w.heap.size + 1, 3, none⟩ = some (.slice bo l.length cb) ∧
  V.cell? ⟨g, off + j * 7, none⟩ = some (.bool q.b) ∧ V.cell? ⟨g, off + j * 7 + 1, none⟩ = some (.int .i64 q.n) ∧ V.cell? ⟨g, off + j * 7 + 2, none⟩ = some (.string q.t) ∧
  V.cell? ⟨g, off + j * 7 + 3, none⟩ = some (.int .i64 x.k) ∧ V.cell? ⟨g, off + j * 7 + 4, none⟩ = some (.int .i64 x.n) ∧ V.cell? ⟨g, off + j * 7 + 5, none⟩ = some (.string x.t) ∧ V.cell? ⟨g, off + j * 7 + 6, none⟩ = some (.slice co x.xs.length cc) ∧
  V.cell? ⟨g2, off2 + j * 7, none⟩ = some (.bool q.b) ∧ V.cell? ⟨g2, off2 + j * 7 + 1, none⟩ = some (.int .i64 q.n) ∧ V.cell? ⟨g2, off2 + j * 7 + 2, none⟩ = some (.string q.t) ∧
  V.cell? ⟨g2, off2 + j * 7 + 3, none⟩ = some (.int .i64 x.k) ∧ V.cell? ⟨g2, off2 + j * 7 + 4, none⟩ = some (.int .i64 x.n) ∧ V.cell? ⟨g2, off2 + j * 7 + 5, none⟩ = some (.string x.t) ∧ V.cell? ⟨g2, off2 + j * 7 + 6, none⟩ = some (.slice co2 x.xs.length cc2)
theorem Raw2.all (h : Raw2 w v l ao bo ca cb j q x g off co cc g2 off2 co2 cc2 V) : Raw2S w l ao bo ca cb j q x g off co cc g2 off2 co2 cc2 V := by
  have k := fun o => h.below.cell (p := ⟨g, o, none⟩) h.lt
  have k2 := fun o => h.below.cell (p := ⟨g2, o, none⟩) h.lt2
  obtain ⟨c0, c1, c2, c3, c4, c5, c6⟩ := h.c
  obtain ⟨d0, d1, d2, d3, d4, d5, d6⟩ := h.c2
  exact ⟨cell_blk h.a 3, cell_blk h.b 3, (k _).trans c0, (k _).trans c1, (k _).trans c2, (k _).trans c3, (k _).trans c4, (k _).trans c5, (k _).trans c6, (k2 _).trans d0, (k2 _).trans d1, (k2 _).trans d2, (k2 _).trans d3, (k2 _).trans d4, (k2 _).trans d5, (k2 _).trans d6⟩
end
set_option maxHeartbeats 3200000 in
set_option maxRecDepth 100000 in
theorem raw_same (v : VT) : ∀ (w : World) (c d : Value), VIn w c v.xs → VIn w d v.xs → Calls Tryz.prog 32 #[v.v c, v.v d] w (BoolPost w true) := by
  refine VT.ind (P := fun v => ∀ (w : World) (c d : Value), VIn w c v.xs → VIn w d v.xs → Calls Tryz.prog 32 #[v.v c, v.v d] w (BoolPost w true)) ?_ v
  intro k n t l ih w c d hv hv2
  have hv : VIn w c l := hv
  have hv2 : VIn w d l := hv2
  obtain ⟨ao, cap, rfl, hlen⟩ := hv.form
  obtain ⟨bo, cap2, rfl, -⟩ := hv2.form
  have HV := Lib.hid hv
  have HV2 := Lib.hid hv2
  have IH := Lib.hid ih
  have HB : Hid (Below w.heap.size w ((w.alloc (VB (.mk k n t l) (.slice ao l.length cap))).alloc (VB (.mk k n t l) (.slice bo l.length cap2))) ∧ ((w.alloc (VB (.mk k n t l) (.slice ao l.length cap))).alloc (VB (.mk k n t l) (.slice bo l.length cap2))).heap[w.heap.size]? = some (VB (.mk k n t l) (.slice ao l.length cap)) ∧ ((w.alloc (VB (.mk k n t l) (.slice ao l.length cap))).alloc (VB (.mk k n t l) (.slice bo l.length cap2))).heap[w.heap.size + 1]? = some (VB (.mk k n t l) (.slice bo l.length cap2))) :=
    Lib.hid ⟨(at2_start w _ _).below, (at2_start w _ _).a, (at2_start w _ _).b⟩
  obtain ⟨a0, a1, a2, a3⟩ := vb_cells HB.out.2.1
  obtain ⟨b0, b1, b2, b3⟩ := vb_cells HB.out.2.2
  have HL := Lib.hid hlen
  have hk : (k == k) = true := by simp
  have hn : (n == n) = true := by simp
  clear hv hv2 ih hlen
  show Calls Tryz.prog 32 #[.agg #[.int .i64 k, .int .i64 n, .string t, .slice ao l.length cap], .agg #[.int .i64 k, .int .i64 n, .string t, .slice bo l.length cap2]] w _
  go_enter Tryz.func32, Tryz.ntmps32
  go_wp2_with fail
  go_loopw [5] (fun kv wr => ∃ (j : Nat), j ≤ l.length ∧ kv = .int .i64 j ∧ Hid (Below w.heap.size w wr ∧ wr.heap[w.heap.size]? = some (VB (.mk k n t l) (.slice ao l.length cap)) ∧ wr.heap[w.heap.size + 1]? = some (VB (.mk k n t l) (.slice bo l.length cap2)))) (fun kv _ => l.length - (intOf kv).toNat)
  case atStart => exact ⟨0, Nat.zero_le _, rfl, HB⟩
  case round =>
    obtain ⟨j, hj, rfl, BX⟩ := hrel
    have x3 : wr.cell? ⟨w.heap.size, 3, none⟩ = some (.slice ao l.length cap) := (vb_cells BX.out.2.1).2.2.2
    clear a0 a1 a2 a3 b0 b1 b2 b3
    by_cases hlt : j < l.length
    · have hi : (j : Int) < (l.length : Int) := by omega
      obtain ⟨q, x, g, off, co, hq, hm, rfl, hg, -, hc, cc0⟩ := HV.out.get hlt
      obtain ⟨q', x', g2, off2, co2, hq', -, rfl, hg2, -, hc2, dd0⟩ := HV2.out.get hlt
      rw [hq] at hq'
      obtain ⟨rfl, rfl⟩ : q = q' ∧ x = x' := by simpa using hq'
      obtain ⟨po, pc, rfl, -⟩ := hc.form
      obtain ⟨po2, pc2, rfl, -⟩ := hc2.form
      have hd := Below.refl wr.heap.size wr
      have D0 : Hid (Raw2 w (.mk k n t l) l (some ⟨g, off, none⟩) (some ⟨g2, off2, none⟩) cap cap2 j q x g off po pc g2 off2 po2 pc2 wr.drew) := Lib.hid (Raw2.mono (V := wr) ⟨BX.out.2.1, BX.out.2.2, BX.out.1, hc.kept fun b _ hb' => ⟨BX.out.1.block b hb', Nat.lt_of_lt_of_le hb' BX.out.1.size, trivial⟩, hc2.kept fun b _ hb' => ⟨BX.out.1.block b hb', Nat.lt_of_lt_of_le hb' BX.out.1.size, trivial⟩, hg, hg2, cc0, dd0⟩ (belowD hd))
      obtain ⟨hwi', hwi⟩ : wrap64 ((j : Int) + 1) = (j : Int) + 1 ∧ IntKind.i64.wrap ((j : Int) + 1) = (j : Int) + 1 := wr_sm (by omega) (by have := HL.out; omega)
      have hN : ∀ w, (binOp .neq 62 (.agg #[.bool q.b, .int .i64 q.n, .string q.t]) (.agg #[.bool q.b, .int .i64 q.n, .string q.t])).run Tryz.prog w = .ok (.bool false) w := fun w => by have := key_neq q q w; rw [K.same_self] at this; exact this
      have HC : ∀ V, VIn V (.slice po x.xs.length pc) x.xs → VIn V (.slice po2 x.xs.length pc2) x.xs → Calls Tryz.prog 32 #[.agg #[.int .i64 x.k, .int .i64 x.n, .string x.t, .slice po x.xs.length pc], .agg #[.int .i64 x.k, .int .i64 x.n, .string x.t, .slice po2 x.xs.length pc2]] V (BoolPost V true) := fun V h1 h2 => IH.out (q, x) hm V _ _ h1 h2
      have HS0 := Lib.hid D0.out.all
      have HLT := Lib.hid hlt
      clear hc hc2 cc0 dd0 hq hm hg hg2 hq' hlt hd x3
      obtain ⟨z3, -⟩ := HS0.out
      have z3 : wr.cell? ⟨w.heap.size, 3, none⟩ = some (.slice (some ⟨g, off, none⟩) l.length cap) := z3
      go_wp2_with fail
      go_region_held3 (fun V => V.cell? ⟨w.heap.size, 3, none⟩ = some (.slice (some ⟨g, off, none⟩) l.length cap) ∧ V.cell? ⟨w.heap.size + 1, 3, none⟩ = some (.slice (some ⟨g2, off2, none⟩) l.length cap2) ∧ V.cell? ⟨g, off + j * 7, none⟩ = some (.bool q.b) ∧ V.cell? ⟨g, off + j * 7 + 1, none⟩ = some (.int .i64 q.n) ∧ V.cell? ⟨g, off + j * 7 + 2, none⟩ = some (.string q.t) ∧ V.cell? ⟨g, off + j * 7 + 3, none⟩ = some (.int .i64 x.k) ∧ V.cell? ⟨g, off + j * 7 + 4, none⟩ = some (.int .i64 x.n) ∧ V.cell? ⟨g, off + j * 7 + 5, none⟩ = some (.string x.t) ∧ V.cell? ⟨g, off + j * 7 + 6, none⟩ = some (.slice po x.xs.length pc) ∧ V.cell? ⟨g2, off2 + j * 7, none⟩ = some (.bool q.b) ∧ V.cell? ⟨g2, off2 + j * 7 + 1, none⟩ = some (.int .i64 q.n) ∧ V.cell? ⟨g2, off2 + j * 7 + 2, none⟩ = some (.string q.t) ∧ V.cell? ⟨g2, off2 + j * 7 + 3, none⟩ = some (.int .i64 x.k) ∧ V.cell? ⟨g2, off2 + j * 7 + 4, none⟩ = some (.int .i64 x.n) ∧ V.cell? ⟨g2, off2 + j * 7 + 5, none⟩ = some (.string x.t) ∧ V.cell? ⟨g2, off2 + j * 7 + 6, none⟩ = some (.slice po2 x.xs.length pc2))
        (first
          | exact HS0.out
          | exact HS1.out)
        (first
          | (go_at_call 32; refine (HC _ D0.out.vin D0.out.vin2).mono ?_; rintro e w1 ⟨rfl, hb⟩; have D1 := Lib.hid (D0.out.mono hb); have HS1 := Lib.hid D1.out.all; clear hb))
      go_wp2_with fail
      go_roundw
      case rel => exact ⟨j + 1, HLT.out, by go_num, Lib.hid ⟨D1.out.below, D1.out.a, D1.out.b⟩⟩
      case measure => have := HLT.out; simp [intOf]; omega
    · obtain rfl : j = l.length := by omega
      go_wp2_with fail
      go_ret
      exact ⟨rfl, BX.out.1⟩
end Go.Proofs.YtnaefnojmiolbaaGreatDoor

namespace Go.Proofs.YtnaefnojmiolbaaGreatDoor
open Go.RowKit

attribute [local go_sem] yld_undef
set_option maxHeartbeats 1600000 in
set_option maxRecDepth 100000 in
theorem rleft_any (v : VT) : ∀ (w : World) (c : Value) (n : Int), VIn w c v.xs → 0 ≤ n → n ≤ 2048 → Calls Tryz.prog 76 #[v.v c, .int .i64 n] w (IntPost w (leftV v n)) := by
  refine VT.ind (P := fun v => ∀ (w : World) (c : Value) (n : Int), VIn w c v.xs → 0 ≤ n → n ≤ 2048 → Calls Tryz.prog 76 #[v.v c, .int .i64 n] w (IntPost w (leftV v n))) ?_ v
  intro k m t l ih w c n hv h0 h1
  have hv : VIn w c l := hv
  have hfit := hv.fits
  obtain ⟨ao, cap, rfl, hlen⟩ := hv.form
  have HV := Lib.hid hv
  have IH := Lib.hid ih
  have HF := Lib.hid hfit
  have HB := Lib.hid (below_alloc1 w (VB (.mk k m t l) (.slice ao l.length cap)))
  have HX0 := Lib.hid (heap_alloc_new w (VB (.mk k m t l) (.slice ao l.length cap)))
  obtain ⟨a0, a1, a2, a3⟩ := vb_cells (heap_alloc_new w (VB (.mk k m t l) (.slice ao l.length cap)))
  obtain ⟨hw', hw⟩ := wr_sm (x := n - (l.length : Int)) (by omega) (by omega)
  obtain ⟨r, hr⟩ : ∃ r, r = leftV (.mk k m t l) n := ⟨_, rfl⟩
  have HR : Hid (r = leftL (l.drop 0) (n - l.length)) := Lib.hid (by rw [hr, leftV]; rfl)
  have HL := Lib.hid hlen
  have HN := Lib.hid h0
  rw [← hr]
  clear hv ih hfit hr hlen h0
  show Calls Tryz.prog 76 #[.agg #[.int .i64 k, .int .i64 m, .string t, .slice ao l.length cap], .int .i64 n] w (IntPost w r)
  go_enter Tryz.func76, Tryz.ntmps76
  go_wp2_with fail
  go_loopw [1, 5] (fun nv kv wr => ∃ (j : Nat) (x : Int), j ≤ l.length ∧ nv = .int .i64 x ∧ kv = .int .i64 j ∧ Hid (r = leftL (l.drop j) x ∧ x ≤ 2048 ∧ -140737488355328 ≤ x) ∧ Hid (Below w.heap.size w wr ∧ wr.heap[w.heap.size]? = some (VB (.mk k m t l) (.slice ao l.length cap)))) (fun _ kv _ => l.length - (intOf kv).toNat)
  case atStart => exact ⟨0, n - l.length, Nat.zero_le _, rfl, rfl, Lib.hid ⟨HR.out, by omega, by have := HL.out; have := HN.out; omega⟩, Lib.hid ⟨HB.out, HX0.out⟩⟩
  case round =>
    obtain ⟨j, x, hj, rfl, rfl, HX, BX⟩ := hrel
    have x3 : wr.cell? ⟨w.heap.size, 3, none⟩ = some (.slice ao l.length cap) := (vb_cells BX.out.2).2.2.2
    clear a0 a1 a2 a3
    obtain ⟨ex, hex⟩ : ∃ e, decide (0 ≤ x) = e := ⟨_, rfl⟩
    by_cases hlt : j < l.length
    · have hi : (j : Int) < (l.length : Int) := by omega
      cases ex
      · have hx : x < 0 := by have := of_decide_eq_false hex; omega
        have hrx : r = x := by rw [HX.out.1, leftL_neg hx]
        subst hrx
        clear hx
        go_wp2_with fail
        go_ret
        exact ⟨rfl, BX.out.1⟩
      · have hx : 0 ≤ x := of_decide_eq_true hex
        obtain ⟨q, v, g, off, co, cc, hq, hm, rfl, hc, d0, d1, d2, d3, d4, d5, d6⟩ := HV.out.getB hlt BX.out.1 rfl
        obtain ⟨hwi', hwi⟩ : wrap64 ((j : Int) + 1) = (j : Int) + 1 ∧ IntKind.i64.wrap ((j : Int) + 1) = (j : Int) + 1 := wr_sm (by omega) (by have := HL.out; omega)
        have HC : Calls Tryz.prog 76 #[.agg #[.int .i64 v.k, .int .i64 v.n, .string v.t, .slice co v.xs.length cc], .int .i64 x] wr (IntPost wr (leftV v x)) := IH.out (q, v) hm _ (.slice co v.xs.length cc) x hc hx HX.out.2.1
        have HD : Hid (leftL (l.drop j) x = leftL (l.drop (j + 1)) (leftV v x)) := Lib.hid (by rw [drop_at hq, leftL_cons, if_neg (by omega)])
        have HG := Lib.hid (leftV_ge v hc.fits x hx)
        have HGe := Lib.hid (leftV_le v x hx (fun _ _ => trivial))
        have HLT := Lib.hid hlt
        generalize leftV v x = y at HC HD HG HGe
        clear hc hq hm hlt hx
        go_wp2_with fail
        refine HC.mono ?_
        rintro e w5 ⟨rfl, hb⟩
        have B5 : Hid (Below w.heap.size w w5 ∧ w5.heap[w.heap.size]? = some (VB (.mk k m t l) (.slice (some ⟨g, off, none⟩) l.length cap))) := Lib.hid ⟨BX.out.1.trans (hb.mono BX.out.1.size), (hb.block _ (lt_of_block BX.out.2)).trans BX.out.2⟩
        clear hb HC
        go_wp2_with fail
        go_roundw
        case rel => exact ⟨j + 1, y, HLT.out, rfl, by go_num, Lib.hid ⟨by rw [HX.out.1, HD.out], by have := HGe.out; have := HX.out.2.1; omega, HG.out⟩, B5⟩
        case measure => have := HLT.out; simp [intOf]; omega
    · obtain rfl : j = l.length := by omega
      have hrx : r = x := by rw [HX.out.1, List.drop_length]; rfl
      subst hrx
      go_wp2_with fail
      go_ret
      exact ⟨rfl, BX.out.1⟩
/-- Two values that are the same, next numbers aside. -/
inductive AlikeV : VT → VT → Prop
  | plain (k n : Int) (t : ByteArray) (l l' : List It) (hk : 0 ≤ k ∧ k ≤ 3) : AlikeV (.mk k n t l) (.mk k n t l')
  | obj (n : Int) (t t' : ByteArray) (l l' : List It) : AlikeV (.mk 5 n t l) (.mk 5 n t' l')
  | list (n n' : Int) (t t' : ByteArray) (l l' : List It) (hl : l.length = l'.length) (hk : ∀ (j : Nat) (h1 : j < l.length) (h2 : j < l'.length), (l[j]).1 = (l'[j]).1) (h : ∀ (j : Nat) (h1 : j < l.length) (h2 : j < l'.length), AlikeV (l[j]).2 (l'[j]).2) : AlikeV (.mk 4 n t l) (.mk 4 n' t' l')
/-- Two boxes, and what lies under both. -/
structure AL (w : World) (a b : VT) (c d : Value) (V : World) : Prop where
  below : Below w.heap.size w V
  a : V.heap[w.heap.size]? = some (VB a c)
  b : V.heap[w.heap.size + 1]? = some (VB b d)
theorem AL.mono {w V V' : World} {a b : VT} {c d : Value} (h : AL w a b c d V) (hb : Below V.heap.size V V') : AL w a b c d V' :=
  ⟨h.below.trans (hb.mono h.below.size), (hb.block _ (lt_of_block h.a)).trans h.a, (hb.block _ (lt_of_block h.b)).trans h.b⟩
end Go.Proofs.YtnaefnojmiolbaaGreatDoor

namespace Go.Proofs.YtnaefnojmiolbaaGreatDoor
open Go.RowKit

mutual
/-- Can a value that may be be said? -/
def saidV : VT → Bool
  | .mk k _ t l => (!(decide (k = 5)) && Lib.validD t.toList) && saidL l
def saidL : List (K × VT) → Bool
  | [] => true
  | (q, x) :: r => (Lib.validD q.t.toList && saidV x) && saidL r
end
theorem saidL_cons (x : It) (r : List It) : saidL (x :: r) = ((Lib.validD x.1.t.toList && saidV x.2) && saidL r) := by cases x; rw [saidL]
theorem saidL_iff : ∀ {l : List It}, saidL l = true ↔ ∀ x ∈ l, Lib.validD x.1.t.toList = true ∧ saidV x.2 = true
  | [] => by simp [saidL]
  | x :: r => by rw [saidL_cons, Bool.and_eq_true, Bool.and_eq_true, saidL_iff (l := r)]; simp
/-- Are the keys i, i + 1 and so on? -/
def rowP : Nat → List It → Bool
  | _, [] => true
  | i, x :: r => if x.1.b = true ∨ x.1.n ≠ i then false else rowP (i + 1) r
def keyJ (k : K) : Bs := if k.b = true then k.t.toList else Lib.itoa k.n
/-- What stands ahead of an item. -/
def commaJ (i : Nat) (a : Bs) : Bs := if 0 < i then a ++ [44] else a
def nameJ (plain : Bool) (k : K) (a : Bs) : Bs := if plain = true then a else (a ++ quoteP (keyJ k)) ++ [58]
def openJ (plain : Bool) : UInt8 := if plain = true then 91 else 123
def shutJ (plain : Bool) : UInt8 := if plain = true then 93 else 125
def boolJ (n : Int) : Bs := if n = 1 then [116, 114, 117, 101] else [102, 97, 108, 115, 101]
def leafJ (k n : Int) (t : ByteArray) : Bs := if k = 0 then [110, 117, 108, 108] else if k = 1 then boolJ n else if k = 2 then Lib.itoa n else if k = 3 then quoteP t.toList else []
mutual
/-- What is written behind a text: nothing more where it is too long already. -/
def jpV : VT → Bs → Bs
  | .mk k n t l, a => if 131072 < a.length then a else if k = 4 then jpL (rowP 0 l) 0 l (a ++ [openJ (rowP 0 l)]) ++ [shutJ (rowP 0 l)] else a ++ leafJ k n t
def jpL (plain : Bool) : Nat → List (K × VT) → Bs → Bs
  | _, [], a => a
  | i, (q, x) :: r, a => jpL plain (i + 1) r (jpV x (nameJ plain q (commaJ i a)))
end
mutual
/-- A value's whole text. -/
def jtV : VT → Bs
  | .mk k n t l => if k = 4 then openJ (rowP 0 l) :: (jtL (rowP 0 l) 0 l ++ [shutJ (rowP 0 l)]) else leafJ k n t
def jtL (plain : Bool) : Nat → List (K × VT) → Bs
  | _, [] => []
  | i, (q, x) :: r => nameJ plain q (commaJ i []) ++ (jtV x ++ jtL plain (i + 1) r)
end
theorem jpL_cons (p : Bool) (i : Nat) (x : It) (r : List It) (a : Bs) : jpL p i (x :: r) a = jpL p (i + 1) r (jpV x.2 (nameJ p x.1 (commaJ i a))) := by cases x; rw [jpL]
theorem jtL_cons (p : Bool) (i : Nat) (x : It) (r : List It) : jtL p i (x :: r) = nameJ p x.1 (commaJ i []) ++ (jtV x.2 ++ jtL p (i + 1) r) := by cases x; rw [jtL]
theorem lead_app (p : Bool) (q : K) (i : Nat) (a : Bs) : nameJ p q (commaJ i a) = a ++ nameJ p q (commaJ i []) := by
  unfold nameJ commaJ
  split <;> split <;> simp
/-- What was written stays. -/
theorem jp_adds (v : VT) : ∀ a, ∃ u, jpV v a = a ++ u := by
  refine VT.ind (P := fun v => ∀ a, ∃ u, jpV v a = a ++ u) ?_ v
  intro k n t l ih a
  have hl : ∀ (r : List It), (∀ x ∈ r, x ∈ l) → ∀ p i a, ∃ u, jpL p i r a = a ++ u := by
    intro r
    induction r with
    | nil => intro _ p i a; exact ⟨[], by rw [jpL]; simp⟩
    | cons x r ihr =>
      intro hr p i a
      obtain ⟨u, hu⟩ := ih x (hr x (by simp)) (nameJ p x.1 (commaJ i a))
      obtain ⟨u2, hu2⟩ := ihr (fun y hy => hr y (by simp [hy])) p (i + 1) (jpV x.2 (nameJ p x.1 (commaJ i a)))
      rw [jpL_cons, hu2, hu, lead_app]
      exact ⟨nameJ p x.1 (commaJ i []) ++ (u ++ u2), by simp⟩
  rw [jpV]
  split
  · exact ⟨[], by simp⟩
  · split
    · obtain ⟨u, hu⟩ := hl l (fun _ h => h) (rowP 0 l) 0 (a ++ [openJ (rowP 0 l)])
      rw [hu]
      exact ⟨openJ (rowP 0 l) :: (u ++ [shutJ (rowP 0 l)]), by simp⟩
    · exact ⟨_, rfl⟩
theorem jpL_adds : ∀ (r : List It) (p : Bool) (i : Nat) (a : Bs), ∃ u, jpL p i r a = a ++ u
  | [], p, i, a => ⟨[], by rw [jpL]; simp⟩
  | x :: r, p, i, a => by
    obtain ⟨u, hu⟩ := jp_adds x.2 (nameJ p x.1 (commaJ i a))
    obtain ⟨u2, hu2⟩ := jpL_adds r p (i + 1) (jpV x.2 (nameJ p x.1 (commaJ i a)))
    rw [jpL_cons, hu2, hu, lead_app]
    exact ⟨nameJ p x.1 (commaJ i []) ++ (u ++ u2), by simp⟩
theorem jpL_mono (r : List It) (p : Bool) (i : Nat) (a : Bs) : a.length ≤ (jpL p i r a).length := by
  obtain ⟨u, hu⟩ := jpL_adds r p i a
  rw [hu, List.length_append]; omega
/-- What is not too long is the whole. -/
theorem jp_whole (v : VT) : ∀ a, (jpV v a).length ≤ 131072 → jpV v a = a ++ jtV v := by
  refine VT.ind (P := fun v => ∀ a, (jpV v a).length ≤ 131072 → jpV v a = a ++ jtV v) ?_ v
  intro k n t l ih a h
  have hl : ∀ (r : List It), (∀ x ∈ r, x ∈ l) → ∀ p i a, (jpL p i r a).length ≤ 131072 → jpL p i r a = a ++ jtL p i r := by
    intro r
    induction r with
    | nil => intro _ p i a _; rw [jpL, jtL]; simp
    | cons x r ihr =>
      intro hr p i a h
      rw [jpL_cons] at h ⊢
      have h1 := jpL_mono r p (i + 1) (jpV x.2 (nameJ p x.1 (commaJ i a)))
      rw [ihr (fun y hy => hr y (by simp [hy])) p (i + 1) _ h, ih x (hr x (by simp)) _ (by omega), jtL_cons, lead_app]
      simp
  rw [jpV] at h ⊢
  rw [jtV]
  split at h
  · rename_i hc; omega
  · rename_i hc
    rw [if_neg hc]
    split at h
    · rename_i h4
      rw [if_pos h4, if_pos h4]
      rw [List.length_append] at h
      rw [hl l (fun _ h => h) _ 0 _ (by omega)]
      simp
    · rename_i h4
      rw [if_neg h4, if_neg h4]
/-- A whole that is not too long is what is written. -/
theorem jp_short (v : VT) : ∀ a, (a ++ jtV v).length ≤ 131072 → jpV v a = a ++ jtV v := by
  refine VT.ind (P := fun v => ∀ a, (a ++ jtV v).length ≤ 131072 → jpV v a = a ++ jtV v) ?_ v
  intro k n t l ih a h
  have hl : ∀ (r : List It), (∀ x ∈ r, x ∈ l) → ∀ p i a, (a ++ jtL p i r).length ≤ 131072 → jpL p i r a = a ++ jtL p i r := by
    intro r
    induction r with
    | nil => intro _ p i a _; rw [jpL, jtL]; simp
    | cons x r ihr =>
      intro hr p i a h
      rw [jtL_cons] at h ⊢
      simp only [List.length_append] at h
      rw [jpL_cons, lead_app, ih x (hr x (by simp)) _ (by simp only [List.length_append]; omega), ihr (fun y hy => hr y (by simp [hy])) p (i + 1) _ (by simp only [List.length_append]; omega)]
      simp
  have h0 : ¬ 131072 < a.length := by rw [List.length_append] at h; omega
  rw [jpV, if_neg h0]
  rw [jtV] at h ⊢
  split at h
  · rename_i h4
    rw [if_pos h4, if_pos h4, hl l (fun _ h => h) _ 0 _ (by simp only [List.length_append, List.length_cons, List.length_nil] at h ⊢; omega)]
    simp
  · rename_i h4
    rw [if_neg h4, if_neg h4]

/-! What was written is read back. -/
theorem itemsL_all {n d : Int} : ∀ {l : List It} {met : List K}, itemsL n d met l = true → ∀ x ∈ l, mayV x.2 (d + 1) = true ∧ (x.1.b = false → 0 ≤ n → x.1.n < n)
  | [], _, _ => fun x hx => by cases hx
  | y :: l, met, h => by
    rw [itemsL_at] at h
    simp only [Bool.and_eq_true, Bool.not_eq_true'] at h
    obtain ⟨⟨-, b⟩, c, e⟩ := h
    intro x hx
    rcases List.mem_cons.1 hx with rfl | hx
    · refine ⟨b, fun h1 h2 => ?_⟩
      rw [h1] at c
      simp at c
      exact c h2
    · exact itemsL_all e x hx
/-- No key's text in a value is long. -/
inductive KSm : VT → Prop
  | mk (k n : Int) (t : ByteArray) (l : List It) (h : ∀ x ∈ l, x.1.t.size ≤ 1073741824) (hs : ∀ x ∈ l, KSm x.2) : KSm (.mk k n t l)
def GoodS (v : VT) : Prop := v.Good ∧ KSm v
/-- A value that may be, and can be said, within so many lists. -/
inductive JW : Nat → VT → Prop
  | nul (d : Nat) : JW d (.mk 0 0 ⟨#[]⟩ [])
  | bool (d : Nat) (n : Int) (h : n = 0 ∨ n = 1) : JW d (.mk 1 n ⟨#[]⟩ [])
  | int (d : Nat) (n : Int) (h0 : -9223372036854775808 ≤ n) (h1 : n ≤ 9223372036854775807) : JW d (.mk 2 n ⟨#[]⟩ [])
  | text (d : Nat) (t : ByteArray) (hv : Lib.validD t.toList = true) (hz : t.size ≤ 65536) : JW d (.mk 3 0 t [])
  | list (d : Nat) (n : Int) (l : List It) (once : Once l) (norm : ∀ x ∈ l, x.1.Norm) (val : ∀ x ∈ l, Lib.validD x.1.t.toList = true) (sub : ∀ x ∈ l, JW d x.2) : JW (d + 1) (.mk 4 n ⟨#[]⟩ l)
theorem empty_is {t : ByteArray} (h : emptyT t = true) : t = ⟨#[]⟩ := by
  unfold emptyT at h
  apply ba_ext
  rw [List.isEmpty_iff] at h
  rw [h, ByteArray.toList_eq]
theorem jw_of (v : VT) : v.Good → saidV v = true → ∀ k : Nat, mayV v (64 - (k : Int)) = true → JW k v := by
  refine VT.ind (P := fun v => v.Good → saidV v = true → ∀ k : Nat, mayV v (64 - (k : Int)) = true → JW k v) ?_ v
  intro k n t l ih hg hs d hm
  obtain ⟨-, gn, -, gl⟩ := VT.Good.parts hg
  rw [saidV] at hs
  simp only [Bool.and_eq_true, Bool.not_eq_true', decide_eq_false_iff_not] at hs
  obtain ⟨⟨hk, hv⟩, hl⟩ := hs
  rw [mayV] at hm
  split at hm
  · simp only [Bool.and_eq_true, decide_eq_true_eq] at hm
    obtain ⟨rfl, rfl, e⟩ := hm
    rw [empty_is e]; subst k; exact .nul d
  split at hm
  · simp only [Bool.and_eq_true, decide_eq_true_eq] at hm
    obtain ⟨rfl, h, e⟩ := hm
    rw [empty_is e]; subst k; exact .bool d n h
  split at hm
  · simp only [Bool.and_eq_true, decide_eq_true_eq] at hm
    obtain ⟨rfl, e⟩ := hm
    rw [empty_is e]; subst k; exact .int d n gn.1 gn.2
  split at hm
  · simp only [Bool.and_eq_true, decide_eq_true_eq] at hm
    obtain ⟨rfl, rfl, hz⟩ := hm
    subst k; exact .text d t hv hz
  split at hm
  · simp only [Bool.and_eq_true, decide_eq_true_eq] at hm
    obtain ⟨⟨⟨⟨e, -⟩, -⟩, hd⟩, hi⟩ := hm
    obtain ⟨d, rfl⟩ : ∃ e, d = e + 1 := ⟨d - 1, by omega⟩
    obtain ⟨o1, o2⟩ := itemsL_once hi
    have ha := itemsL_all hi
    have hl := saidL_iff.1 hl
    rw [empty_is e]; subst k
    refine .list d n l o1 (fun x hx => ⟨(gl x hx).1, (o2 x hx).1⟩) (fun x hx => (hl x hx).1) fun x hx => ?_
    have := (ha x hx).1
    rw [show (64 : Int) - ((d + 1 : Nat) : Int) + 1 = 64 - (d : Int) by omega] at this
    exact ih x hx (gl x hx).2 (hl x hx).2 d this
  · cases hm

/-- No value's text goes on here. -/
def StopJ (b : Bs) : Prop := ∀ c r, b = c :: r → isDig c = false ∧ isFr c = false ∧ isBl c = false
theorem itoa_first (n : Int) : ∃ c r, Lib.itoa n = c :: r ∧ firstB c = true := by
  rw [itoa_form]
  split
  · exact ⟨45, _, rfl, by decide⟩
  · obtain ⟨x, r, hx⟩ := List.exists_cons_of_ne_nil (decDigits_ne n.natAbs)
    exact ⟨x, r, by rw [hx]; rfl, of_dig x (decDigits_dig n.natAbs x (by rw [hx]; simp))⟩
section
variable {s : ByteArray}
end
/-- The same keys, like values. -/
structure RelJ (pre xs : List It) : Prop where
  len : pre.length = xs.length
  key : ∀ (j : Nat) (h1 : j < pre.length) (h2 : j < xs.length), (pre[j]).1 = (xs[j]).1
  alike : ∀ (j : Nat) (h1 : j < pre.length) (h2 : j < xs.length), AlikeV (pre[j]).2 (xs[j]).2
theorem RelJ.nil : RelJ [] [] := ⟨rfl, fun j h => by simp at h, fun j h => by simp at h⟩
theorem RelJ.snoc {pre xs : List It} (h : RelJ pre xs) {q : K} {x y : VT} (hxy : AlikeV x y) : RelJ (pre ++ [(q, x)]) (xs ++ [(q, y)]) := by
  refine ⟨by simp [h.len], fun j h1 h2 => ?_, fun j h1 h2 => ?_⟩
  · rw [List.getElem_append, List.getElem_append]
    simp only [List.length_append, List.length_cons, List.length_nil] at h1 h2
    split
    · rename_i hj
      rw [dif_pos (by have := h.len; omega)]
      exact h.key j hj (by have := h.len; omega)
    · rw [dif_neg (by have := h.len; omega)]
      simp
  · rw [List.getElem_append, List.getElem_append]
    simp only [List.length_append, List.length_cons, List.length_nil] at h1 h2
    split
    · rename_i hj
      rw [dif_pos (by have := h.len; omega)]
      exact h.alike j hj (by have := h.len; omega)
    · rw [dif_neg (by have := h.len; omega)]
      simpa using hxy
theorem itoa_ascii (n : Int) : ∀ c ∈ Lib.itoa n, c.toNat < 128 := by
  intro c hc
  rw [itoa_form] at hc
  rcases List.mem_append.1 hc with hc | hc
  · split at hc
    · rw [List.mem_singleton.1 hc]; decide
    · cases hc
  · have := (isDig_iff c).1 (decDigits_dig _ c hc)
    omega
theorem ascii_valid : ∀ l : Bs, (∀ c ∈ l, c.toNat < 128) → Lib.validD l = true
  | [], _ => Lib.validD_nil
  | c :: l, h => by
    have hc := h c (by simp)
    rw [Lib.validD_step _ (by simp), Lib.decodeL_ascii _ _ hc, if_neg (by simp; omega)]
    exact ascii_valid l fun x hx => h x (by simp [hx])
theorem keyJ_valid {k : K} (h : Lib.validD k.t.toList = true) : Lib.validD (keyJ k) = true := by
  unfold keyJ
  split
  · exact h
  · exact ascii_valid _ (itoa_ascii _)
/-- A reading gives what a writing wrote. -/
def BackJ (s : ByteArray) (val : JValF) (v : VT) : Prop := ∀ a b m, s.toList = a ++ (jtV v ++ b) → StopJ b → m + countV v ≤ 2048 → ∃ y, val a.length m = .ok (y, (a ++ jtV v).length, m + countV v) ∧ AlikeV v y
section
variable {s : ByteArray}
end
end Go.Proofs.YtnaefnojmiolbaaGreatDoor
