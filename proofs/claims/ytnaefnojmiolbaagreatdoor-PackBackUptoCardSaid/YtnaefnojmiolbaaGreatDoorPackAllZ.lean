/-
  What may be packed may be written. Of no program but the writer's words.
  The walk of thing: whether one may be.
  The walk of write.
  The walk of Pack.
-/
import Derived.Test.YtnaefnojmiolbaaGreatDoorWriterZ
import Derived.Test.YtnaefnojmiolbaaGreatDoorPureWZ
import Derived.Test.YtnaefnojmiolbaaGreatDoorCaughtZ
import Derived.Test.YtnaefnojmiolbaaGreatDoorReadFZ
namespace Go.Proofs.YtnaefnojmiolbaaGreatDoor
open Go.RowKit

theorem emptyT_size {t : ByteArray} (h : emptyT t = true) : t.size = 0 := by
  unfold emptyT at h
  rw [List.isEmpty_iff] at h
  rw [← size_toList, h]
  rfl
theorem itemsL_all {n d : Int} : ∀ {l : List It} {met : List K}, itemsL n d met l = true → ∀ x ∈ l, mayV x.2 (d + 1) = true
  | [], _, _, x, hx => by cases hx
  | y :: l, met, h, x, hx => by
    rw [itemsL_at] at h
    simp only [Bool.and_eq_true] at h
    rcases List.mem_cons.1 hx with rfl | hx
    · exact h.1.2
    · exact itemsL_all h.2.2 x hx
theorem withinL_all {N : Int} : ∀ {l : List It}, withinL l N = true → ∀ x ∈ l, withinV x.2 N = true
  | [], _, x, hx => by cases hx
  | (q, y) :: l, h, x, hx => by
    rw [withinL_cons, Bool.and_eq_true] at h
    rcases List.mem_cons.1 hx with rfl | hx
    · exact h.1
    · exact withinL_all h.2 x hx
theorem wok_of (N : Nat) (y : VT) : ∀ d : Int, GoodS y → mayV y d = true → withinV y N = true → WOk N y := by
  refine VT.ind (P := fun y => ∀ d : Int, GoodS y → mayV y d = true → withinV y N = true → WOk N y) ?_ y
  intro k n t l ih d hg hm hw
  obtain ⟨g1, g2⟩ := hg
  obtain ⟨hk, hn, ht, hxs⟩ := g1.parts
  simp only [VT.k, VT.n, VT.t, VT.xs] at hk hn ht hxs
  cases g2 with
  | mk _ _ _ _ s1 s2 =>
  rw [withinV] at hw
  simp only [Bool.and_eq_true, Bool.not_eq_true', Bool.and_eq_false_iff, decide_eq_false_iff_not] at hw
  rw [mayV] at hm
  split at hm
  · simp only [Bool.and_eq_true, decide_eq_true_eq] at hm
    obtain ⟨rfl, rfl, e⟩ := hm
    exact .mk _ _ _ _ (fun e => by omega) hn (by omega) (by rw [emptyT_size e]; omega) (fun x hx => by cases hx) (fun x hx => by cases hx) (by simp)
  split at hm
  · simp only [Bool.and_eq_true, decide_eq_true_eq] at hm
    obtain ⟨rfl, -, e⟩ := hm
    exact .mk _ _ _ _ (fun e => by omega) hn (by omega) (by rw [emptyT_size e]; omega) (fun x hx => by cases hx) (fun x hx => by cases hx) (by simp)
  split at hm
  · simp only [Bool.and_eq_true, decide_eq_true_eq] at hm
    obtain ⟨rfl, e⟩ := hm
    exact .mk _ _ _ _ (fun e => by omega) hn (by omega) (by rw [emptyT_size e]; omega) (fun x hx => by cases hx) (fun x hx => by cases hx) (by simp)
  split at hm
  · simp only [Bool.and_eq_true, decide_eq_true_eq] at hm
    obtain ⟨rfl, -, e⟩ := hm
    exact .mk _ _ _ _ (fun e => by omega) hn (by omega) (by omega) (fun x hx => by cases hx) (fun x hx => by cases hx) (by simp)
  split at hm
  · simp only [Bool.and_eq_true, decide_eq_true_eq] at hm
    obtain ⟨rfl, h0, e⟩ := hm
    rename_i h5
    exact .mk _ _ _ _ (fun _ => ⟨by omega, by rcases hw.1 with h | h; exact absurd h5 h; omega⟩) hn (by omega) (by rw [emptyT_size e]; omega) (fun x hx => by cases hx) (fun x hx => by cases hx) (by simp)
  split at hm
  · simp only [Bool.and_eq_true, decide_eq_true_eq] at hm
    obtain ⟨⟨⟨⟨e, -⟩, h2⟩, -⟩, hi⟩ := hm
    exact .mk _ _ _ _ (fun e => by omega) hn (by omega) (by rw [emptyT_size e]; omega) (fun x hx => ⟨s1 x hx, (hxs x hx).1.lo, (hxs x hx).1.hi⟩)
      (fun x hx => ih x hx (d + 1) ⟨(hxs x hx).2, s2 x hx⟩ (itemsL_all hi x hx) (withinL_all hw.2 x hx)) (by omega)
  · cases hm
/-- Items that may be a thing's may be written. -/
theorem propsW_wok {N : Nat} : ∀ {l : List It} {met : List ByteArray}, propsW N met l = true → (∀ x ∈ l, KG x.1 ∧ GoodS x.2) → LOkW N l
  | [], _, _, _, x, hx => by cases hx
  | y :: l, met, h, hg, x, hx => by
    rw [propsW] at h
    split at h
    · cases h
    · rename_i hc
      simp only [Bool.or_eq_true, Bool.not_eq_true', not_or, Bool.not_eq_false] at hc
      rcases List.mem_cons.1 hx with rfl | hx
      · have g := hg x (by simp)
        have hr := hc.1.2
        unfold rightV at hr
        rw [Bool.and_eq_true] at hr
        exact ⟨⟨g.1.2, g.1.1.lo, g.1.1.hi⟩, wok_of N x.2 0 g.2 hr.2 hc.2⟩
      · exact propsW_wok h (fun z hz => hg z (by simp [hz])) x hx
theorem thingsW_wok {N : Nat} : ∀ {F : List TP} {left : Int}, thingsW N left F = true → (∀ th ∈ F, th.1.size ≤ 1073741824 ∧ th.2.length ≤ 140737488355328 ∧ ∀ x ∈ th.2, KG x.1 ∧ GoodS x.2) → FOkW N F
  | [], _, _, _, t, ht => by cases ht
  | y :: F, left, h, hg, t, ht => by
    rw [thingsW] at h
    split at h
    · cases h
    · split at h
      · cases h
      · rename_i hb
        rcases List.mem_cons.1 ht with rfl | ht
        · obtain ⟨g1, g2, g3⟩ := hg t (by simp)
          unfold thingW at hb
          rw [Bool.not_eq_false, Bool.and_eq_true] at hb
          exact ⟨g1, propsW_wok hb.2 g3, g2⟩
        · exact thingsW_wok h (fun z hz => hg z (by simp [hz])) t ht
/-- What a writer gives up for. -/
theorem itemsW_err {N : Nat} {put : PutF} (HP : ∀ x S e, WOk N x → put x S = .error e → e = 4) : ∀ {l : List It} {S : WS} {e : Int}, LOkW N l → itemsW put l S = .error e → e = 4
  | [], S, e, _, h => by rw [itemsW] at h; cases h
  | x :: l, S, e, ho, h => by
    rw [itemsW] at h
    split at h
    · rename_i h1
      cases h
      exact HP _ _ _ (ho x (by simp)).2 h1
    · exact itemsW_err HP (fun y hy => ho y (by simp [hy])) h
theorem bracesW_err {N : Nat} {sub : Option PutF} (HP : ∀ put, sub = some put → ∀ x S e, WOk N x → put x S = .error e → e = 4) {l : List It} {S : WS} {e : Int} (ho : LOkW N l) (h : bracesW sub l S = .error e) : e = 4 := by
  unfold bracesW at h
  split at h
  · cases h; rfl
  · split at h
    · rename_i h1
      cases h
      exact itemsW_err (HP _ rfl) ho h1
    · cases h
theorem graphW_err {F : List TP} (hF : FOkW F.length F) {sub : Option PutF} (HP : ∀ put, sub = some put → ∀ x S e, WOk F.length x → put x S = .error e → e = 4) {y : VT} {S : WS} {e : Int} (hy : WOk F.length y) (h : graphW F sub y S = .error e) : e = 4 := by
  unfold graphW at h
  cases hy with
  | mk k n t l hk hn hkk ht hx hs hlx =>
  have hk5 : k = 0 ∨ k = 1 ∨ k = 2 ∨ k = 3 ∨ k = 4 ∨ k = 5 := by omega
  rcases hk5 with rfl | rfl | rfl | rfl | rfl | rfl
  · rw [valueW_0] at h; cases h
  · rw [valueW_1] at h; cases h
  · rw [valueW_2] at h; cases h
  · rw [valueW_3] at h; cases h
  · rw [valueW_4] at h; exact bracesW_err HP (fun x hm => ⟨hx x hm, hs x hm⟩) h
  · rw [valueW_5] at h
    unfold objectW at h
    split at h
    · cases h
    · split at h
      · rename_i hth
        have := hk rfl
        rw [List.getElem?_eq_none_iff] at hth
        omega
      · rename_i th hth
        obtain ⟨i, e⟩ := List.getElem?_eq_some_iff.1 hth
        exact bracesW_err HP (hF th (by rw [← e]; exact List.getElem_mem _)).2.1 h
theorem gvalW_err {F : List TP} (hF : FOkW F.length F) : ∀ (k : Nat) (x : VT) (S : WS) (e : Int), WOk F.length x → gvalW F k x S = .error e → e = 4
  | 0, _, _, _, hx, h => graphW_err hF (fun _ e => by cases e) hx h
  | k + 1, _, _, _, hx, h => graphW_err hF (sub := some (gvalW F k)) (fun put e => by cases e; exact gvalW_err hF k) hx h
end Go.Proofs.YtnaefnojmiolbaaGreatDoor

namespace Go.Proofs.YtnaefnojmiolbaaGreatDoor
open Go.RowKit

attribute [local go_sem] yld_undef
def metS (met : List ByteArray) (x : ByteArray) : Option Bool := if metW met x = true then some true else none
theorem metW_cons (met : List ByteArray) (q y : ByteArray) : metW (q :: met) y = (decide (q = y) || metW met y) := by unfold metW; rw [List.any_cons]
theorem metS_put (met : List ByteArray) (q : ByteArray) : (fun y => if y = q then some true else metS met y) = metS (q :: met) := by
  funext y
  unfold metS
  rw [metW_cons]
  by_cases h : y = q
  · subst h; simp
  · have h2 : ¬ q = y := fun e => h e.symm
    simp [h, h2]
theorem propsW_cons (many : Int) (met : List ByteArray) (x : It) (l : List It) : propsW many met (x :: l) = ((x.1.b && K.same x.1.norm x.1 && !metW met x.1.t && rightV x.2 && withinV x.2 many) && propsW many (x.1.t :: met) l) := by
  rw [propsW]
  cases x.1.b <;> cases K.same x.1.norm x.1 <;> cases metW met x.1.t <;> cases rightV x.2 <;> cases withinV x.2 many <;> simp
/-- A round of a thing's items is under way. -/
structure TI (w : World) (B1 B2 mb : Nat) (cls : ByteArray) (c : Value) (q : K) (x : VT) (co : Option Addr) (cc : Nat) (met : List ByteArray) (cnt : Nat) (V : World) : Prop where
  tabs : Tabs V
  box : V.heap[B1]? = some (.cells #[.string cls, c] 48 (0, 0))
  blk : V.heap[B2]? = some (IB (q, x) (.slice co x.xs.length cc))
  map : mSB.Is V mb (metS met) cnt
  vin : VIn V (.slice co x.xs.length cc) x.xs
  below : Below w.heap.size w V
section
variable {w V V' : World} {B1 B2 mb : Nat} {cls : ByteArray} {c : Value} {q : K} {x : VT} {co : Option Addr} {cc : Nat} {met : List ByteArray} {cnt : Nat}
theorem TI.mono (h : TI w B1 B2 mb cls c q x co cc met cnt V) (hb : Below V.heap.size V V') : TI w B1 B2 mb cls c q x co cc met cnt V' :=
  ⟨h.tabs.mono hb, (hb.block _ (lt_of_block h.box)).trans h.box, (hb.block _ (lt_of_block h.blk)).trans h.blk, h.map.under hb, h.vin.under hb, h.below.trans (hb.mono h.below.size)⟩
def TS (B2 mb : Nat) (q : K) (x : VT) (co : Option Addr) (cc : Nat) (e2 : Bool) (V : World) : Prop :=
  V.cell? ⟨B2, 0, none⟩ = some (.bool q.b) ∧ V.cell? ⟨B2, 1, none⟩ = some (.int .i64 q.n) ∧ V.cell? ⟨B2, 2, none⟩ = some (.string q.t) ∧ V.cell? ⟨B2, 3, none⟩ = some (.int .i64 x.k) ∧ V.cell? ⟨B2, 4, none⟩ = some (.int .i64 x.n) ∧ V.cell? ⟨B2, 5, none⟩ = some (.string x.t) ∧ V.cell? ⟨B2, 6, none⟩ = some (.slice co x.xs.length cc) ∧
    (Instr.lookup 104 (.map (some mb)) (.string q.t) false).run Tryz.prog V = .ok (.bool e2) V
theorem TI.all (h : TI w B1 B2 mb cls c q x co cc met cnt V) (hq : q.t.size ≤ maxLen) {e2 : Bool} (he : metW met q.t = e2) : TS B2 mb q x co cc e2 V := by
  obtain ⟨b0, b1, b2, b3, b4, b5, b6⟩ := ib_cells h.blk
  refine ⟨b0, b1, b2, b3, b4, b5, b6, ?_⟩
  have := h.map.look1 (x := q.t) hq
  rw [← he]
  have e : (metS met q.t).getD mSB.z = metW met q.t := by
    unfold metS
    cases metW met q.t <;> rfl
  rw [e] at this
  exact this
end
set_option maxHeartbeats 12800000 in
set_option maxRecDepth 100000 in
theorem thing_any (cls : ByteArray) (l : List It) (hl : GoodL l) (many : Int) (w : World) (c : Value) (hv : VIn w c l) (ht : Tabs w) :
    Calls Tryz.prog 43 #[.agg #[.string cls, c], .int .i64 many] w (BoolPost w (thingW (cls, l) many)) := by
  have hmm := @run_makeMap Tryz.prog
  obtain ⟨ao, cap, rfl, hlen⟩ := hv.form
  obtain ⟨r0, hr0⟩ : ∃ r, r = thingW (cls, l) many := ⟨_, rfl⟩
  rw [← hr0]
  unfold thingW at hr0
  simp only at hr0
  obtain ⟨nm, hnm⟩ : ∃ e, nameP cls.toList = e := ⟨_, rfl⟩
  rw [hnm] at hr0
  have HR0 := Lib.hid hr0
  have HB := Lib.hid (below_alloc1 w (.cells #[.string cls, .slice ao l.length cap] 48))
  have HBX := Lib.hid (heap_alloc_new w (.cells #[.string cls, .slice ao l.length cap] 48))
  have HNM := name_any cls (w.alloc (.cells #[.string cls, .slice ao l.length cap] 48)) (ht.mono HB.out)
  rw [hnm] at HNM
  have HV := Lib.hid hv
  have HT := Lib.hid (fun W' hb => ht.mono hb : ∀ W', Below w.heap.size w W' → Tabs W')
  have HG := Lib.hid (goodL_iff.1 hl)
  have HLN := Lib.hid hlen
  obtain ⟨x0, x1⟩ : (w.alloc (.cells #[.string cls, .slice ao l.length cap] 48)).cell? ⟨w.heap.size, 0, none⟩ = some (.string cls) ∧ (w.alloc (.cells #[.string cls, .slice ao l.length cap] 48)).cell? ⟨w.heap.size, 1, none⟩ = some (.slice ao l.length cap) := ⟨cell_blk HBX.out 0, cell_blk HBX.out 1⟩
  clear hl hv ht hr0 hnm hlen
  go_enter Tryz.func43, Tryz.ntmps43
  go_wp2_with fail
  refine HNM.mono ?_
  rintro _ w1 ⟨rfl, hb1⟩
  have HB1 := Lib.hid (HB.out.trans (hb1.mono HB.out.size))
  have HBX1 := Lib.hid ((hb1.block _ (lt_of_block HBX.out)).trans HBX.out)
  clear HNM x0 x1 hb1
  cases nm
  · have hrf : r0 = false := HR0.out
    subst hrf
    go_wp2_with fail
    go_ret
    exact ⟨rfl, HB1.out⟩
  obtain ⟨r, hr⟩ : ∃ r, r = propsW many [] l := ⟨_, rfl⟩
  have hre : r0 = r := by rw [HR0.out, hr]; rfl
  subst hre
  have HRR : Hid (r0 = propsW many [] (l.drop 0)) := Lib.hid hr
  have BM : Hid ((w1.alloc (.map #[] 0)).heap[w.heap.size]? = some (.cells #[.string cls, .slice ao l.length cap] 48 (0, 0))) := Lib.hid (alloc_blk HBX1.out _)
  have x1 := cell_blk BM.out 1
  have M0 : Hid (0 ≤ 0 ∧ mSB.Is (w1.alloc (.map #[] 0)) w1.heap.size (metS []) 0 ∧ (w1.alloc (.map #[] 0)).heap[w.heap.size]? = some (.cells #[.string cls, .slice ao l.length cap] 48 (0, 0)) ∧ Below w.heap.size w (w1.alloc (.map #[] 0))) :=
    Lib.hid ⟨Nat.le_refl _, (MSpec.made (S := mSB) w1).congr (G := metS []) (fun x _ => rfl), BM.out, HB1.out.alloc HB1.out.size _⟩
  clear hr
  go_wp2_with fail
  obtain ⟨mb, hmb⟩ : ∃ mb, mb = w1.heap.size := ⟨_, rfl⟩
  have HMB : Hid (w.heap.size + 1 ≤ mb) := Lib.hid (by rw [hmb]; have := lt_of_block HBX1.out; omega)
  rw [← hmb] at M0 ⊢
  clear hmb x1
  go_loopw [16] (fun kv wr => ∃ (j : Nat) (met : List ByteArray) (cnt : Nat), j ≤ l.length ∧ kv = .int .i64 j ∧ Hid (r0 = propsW many met (l.drop j)) ∧ Hid (cnt ≤ j ∧ mSB.Is wr mb (metS met) cnt ∧ wr.heap[w.heap.size]? = some (.cells #[.string cls, .slice ao l.length cap] 48 (0, 0)) ∧ Below w.heap.size w wr)) (fun kv _ => l.length - (intOf kv).toNat)
  case atStart => exact ⟨0, [], 0, Nat.zero_le _, rfl, HRR, M0⟩
  case round =>
    obtain ⟨j, met, cnt, hj, rfl, HX, MX⟩ := hrel
    clear HB1 HBX1 BM M0 HRR HBX HB HR0
    by_cases hlt : j < l.length
    · obtain ⟨q, v, g, off, co, cc, hq, hm, rfl, hc, d0, d1, d2, d3, d4, d5, d6⟩ := HV.out.getB hlt MX.out.2.2.2 rfl
      obtain ⟨qb, qn, qt⟩ := q
      have hi : (j : Int) < (l.length : Int) := by omega
      obtain ⟨hwi', hwi⟩ : wrap64 ((j : Int) + 1) = (j : Int) + 1 ∧ IntKind.i64.wrap ((j : Int) + 1) = (j : Int) + 1 := wr_sm (by omega) (by have := HLN.out; omega)
      have D0 : Hid (TI w w.heap.size wr.heap.size mb cls (.slice (some ⟨g, off, none⟩) l.length cap) ⟨qb, qn, qt⟩ v co cc met cnt (wr.alloc (IB (⟨qb, qn, qt⟩, v) (.slice co v.xs.length cc))).drew) :=
        Lib.hid ((TI.mono (V := wr.alloc (IB (⟨qb, qn, qt⟩, v) (.slice co v.xs.length cc))) ⟨HT.out _ (MX.out.2.2.2.alloc MX.out.2.2.2.size _), alloc_blk MX.out.2.2.1 _, heap_alloc_new _ _, MX.out.2.1.under (below_alloc1 _ _), hc.under (below_alloc1 _ _), MX.out.2.2.2.alloc MX.out.2.2.2.size _⟩) (belowD (Below.refl _ _)))
      obtain ⟨q1, hq1⟩ : ∃ q1, q1 = (K.mk qb qn qt).norm := ⟨_, rfl⟩
      have hgq := HG.out (⟨qb, qn, qt⟩, v) hm
      have HN : ∀ w, Tabs w → Calls Tryz.prog 80 #[.agg #[.bool qb, .int .i64 qn, .string qt]] w fun e w' => e = .returned (.agg #[.bool q1.b, .int .i64 q1.n, .string q1.t]) ∧ Below w.heap.size w w' := fun w ht => by
        rw [hq1]; exact norm_any ⟨qb, qn, qt⟩ hgq.1 w ht
      obtain ⟨f2, hf2⟩ : ∃ f2, metW met qt = f2 := ⟨_, rfl⟩
      obtain ⟨f1, hf1⟩ : ∃ f1, K.same q1 ⟨qb, qn, qt⟩ = f1 := ⟨_, rfl⟩
      have hN : ∀ w, (binOp .neq 62 (.agg #[.bool q1.b, .int .i64 q1.n, .string q1.t]) (.agg #[.bool qb, .int .i64 qn, .string qt])).run Tryz.prog w = .ok (.bool (!f1)) w := fun w => by rw [← hf1]; exact key_neq q1 ⟨qb, qn, qt⟩ w
      obtain ⟨f3, hf3⟩ : ∃ f3, rightV v = f3 := ⟨_, rfl⟩
      have HM : ∀ w, VIn w (.slice co v.xs.length cc) v.xs → Tabs w → Calls Tryz.prog 24 #[.agg #[.int .i64 v.k, .int .i64 v.n, .string v.t, .slice co v.xs.length cc]] w (BoolPost w f3) := fun w h1 h2 => by
        rw [← hf3]; exact right_any v hgq.2 w _ h1 h2
      obtain ⟨f4, hf4⟩ : ∃ f4, withinV v many = f4 := ⟨_, rfl⟩
      have HW : ∀ w, VIn w (.slice co v.xs.length cc) v.xs → Calls Tryz.prog 41 #[.agg #[.int .i64 v.k, .int .i64 v.n, .string v.t, .slice co v.xs.length cc], .int .i64 many] w (BoolPost w f4) := fun w h1 => by
        rw [← hf4]; exact within_any v w _ many h1
      have HRn : Hid (r0 = ((qb && f1 && !f2 && f3 && f4) && propsW many (qt :: met) (l.drop (j + 1)))) := Lib.hid (by rw [HX.out, drop_at hq, propsW_cons]; simp only; rw [← hq1, hf1, hf2, hf3, hf4])
      have HGT : Hid ((K.mk qb qn qt).t.size ≤ maxLen) := Lib.hid (Nat.le_trans hgq.1.sz (by decide))
      have HF2 : Hid (metW met (K.mk qb qn qt).t = f2) := Lib.hid hf2
      have HS0 := Lib.hid (D0.out.all HGT.out HF2.out)
      have HLT := Lib.hid hlt
      clear hc hq hm hlt hq1 hf1 hf2 hf3 hf4 hgq
      simp only at d0 d1 d2 d3 d4 d5 d6
      go_wp2_with fail
      cases qb
      · have hrf : r0 = false := by rw [HRn.out]; rfl
        subst hrf
        clear HRn HX
        refine wp_region_noPanic ?_
        refine wp_region_held_drew (S := (fun V => V.cell? ⟨wr.heap.size, 0, none⟩ = some (.bool false) ∧ V.cell? ⟨wr.heap.size, 1, none⟩ = some (.int .i64 qn) ∧ V.cell? ⟨wr.heap.size, 2, none⟩ = some (.string qt) ∧ V.cell? ⟨wr.heap.size, 3, none⟩ = some (.int .i64 v.k) ∧ V.cell? ⟨wr.heap.size, 4, none⟩ = some (.int .i64 v.n) ∧ V.cell? ⟨wr.heap.size, 5, none⟩ = some (.string v.t) ∧ V.cell? ⟨wr.heap.size, 6, none⟩ = some (.slice co v.xs.length cc) ∧ (Instr.lookup 104 (.map (some mb)) (.string qt) false).run Tryz.prog V = .ok (.bool f2) V)) (by kernel_rfl) (by exact HS0.out) (fun hHeld => ?_)
        refine wpAnyH_take (i := 0) (oi := ?oa0) (v := ?va0) ?hia0 (by kernel_rfl) (by kernel_rfl) (by kernel_rfl) (fun _ _ _ h => h) ?hya0 (by assumption) ?resta0
        case hia0 => simp only [gA, gZ]; rfl
        case hya0 =>
          refine Or.inl ⟨by rfl, ?_⟩
          intro w hSw; (try dsimp only at hSw); go_simp <;> (with_reducible rfl)
        (try simp only [Act.put, pA, pZ, pS])
        refine wpAnyH_take (i := 1) (oi := ?oa1) (v := ?va1) ?hia1 (by kernel_rfl) (by kernel_rfl) (by kernel_rfl) (fun _ _ _ h => h) ?hya1 (by assumption) ?resta1
        case hia1 => simp only [gA, gS, gZ]; rfl
        case hya1 =>
          refine Or.inl ⟨by rfl, ?_⟩
          intro w hSw; (try dsimp only at hSw); go_simp <;> (with_reducible rfl)
        (try simp only [Act.put, pA, pZ, pS])
        refine wpAnyH_take (i := 2) (oi := ?oa2) (v := ?va2) ?hia2 (by kernel_rfl) (by kernel_rfl) (by kernel_rfl) (fun _ _ _ h => h) ?hya2 (by assumption) ?resta2
        case hia2 => simp only [gA, gS, gZ]; rfl
        case hya2 =>
          refine Or.inl ⟨by rfl, ?_⟩
          intro w hSw; (try dsimp only at hSw); go_simp <;> (with_reducible rfl)
        (try simp only [Act.put, pA, pZ, pS])
        refine wpAnyH_take (i := 3) (oi := ?oa3) (v := ?va3) ?hia3 (by kernel_rfl) (by kernel_rfl) (by kernel_rfl) (fun _ _ _ h => h) ?hya3 (by assumption) ?resta3
        case hia3 => simp only [gA, gS, gZ]; rfl
        case hya3 =>
          refine Or.inl ⟨by rfl, ?_⟩
          intro w hSw; (try dsimp only at hSw); go_simp <;> (with_reducible rfl)
        (try simp only [Act.put, pA, pZ, pS])
        refine wpAnyH_take (i := 4) (oi := ?oa4) (v := ?va4) ?hia4 (by kernel_rfl) (by kernel_rfl) (by kernel_rfl) (fun _ _ _ h => h) ?hya4 (by assumption) ?resta4
        case hia4 => simp only [gA, gS, gZ]; rfl
        case hya4 =>
          refine Or.inl ⟨by rfl, ?_⟩
          intro w hSw; (try dsimp only at hSw); go_simp <;> (with_reducible rfl)
        (try simp only [Act.put, pA, pZ, pS])
        refine wpAnyH_take (i := 5) (oi := ?oa5) (v := undef) ?hia5 (by kernel_rfl) (by kernel_rfl) (by kernel_rfl) (fun _ _ _ h => h) ?hya5 (by assumption) ?resta5
        case hia5 => simp only [gA, gS, gZ]; rfl
        case hya5 => exact Or.inr ⟨by rfl, rfl⟩
        (try simp only [Act.put, pA, pZ, pS])
        refine wpAnyH_take (i := 6) (oi := ?oa6) (v := undef) ?hia6 (by kernel_rfl) (by kernel_rfl) (by kernel_rfl) (fun _ _ _ h => h) ?hya6 (by assumption) ?resta6
        case hia6 => simp only [gA, gS, gZ]; rfl
        case hya6 => exact Or.inr ⟨by rfl, rfl⟩
        (try simp only [Act.put, pA, pZ, pS])
        refine wpAnyH_take (i := 7) (oi := ?oa7) (v := undef) ?hia7 (by kernel_rfl) (by kernel_rfl) (by kernel_rfl) (fun _ _ _ h => h) ?hya7 (by assumption) ?resta7
        case hia7 => simp only [gA, gS, gZ]; rfl
        case hya7 => exact Or.inr ⟨by rfl, rfl⟩
        (try simp only [Act.put, pA, pZ, pS])
        refine wpAnyH_take (i := 8) (oi := ?oa8) (v := undef) ?hia8 (by kernel_rfl) (by kernel_rfl) (by kernel_rfl) (fun _ _ _ h => h) ?hya8 (by assumption) ?resta8
        case hia8 => simp only [gA, gS, gZ]; rfl
        case hya8 => exact Or.inr ⟨by rfl, rfl⟩
        (try simp only [Act.put, pA, pZ, pS])
        refine wpAnyH_take (i := 9) (oi := ?oa9) (v := undef) ?hia9 (by kernel_rfl) (by kernel_rfl) (by kernel_rfl) (fun _ _ _ h => h) ?hya9 (by assumption) ?resta9
        case hia9 => simp only [gA, gS, gZ]; rfl
        case hya9 => exact Or.inr ⟨by rfl, rfl⟩
        (try simp only [Act.put, pA, pZ, pS])
        refine wpAnyH_take (i := 10) (oi := ?oa10) (v := undef) ?hia10 (by kernel_rfl) (by kernel_rfl) (by kernel_rfl) (fun _ _ _ h => h) ?hya10 (by assumption) ?resta10
        case hia10 => simp only [gA, gS, gZ]; rfl
        case hya10 => exact Or.inr ⟨by rfl, rfl⟩
        (try simp only [Act.put, pA, pZ, pS])
        refine wpAnyH_take (i := 11) (oi := ?oa11) (v := ?va11) ?hia11 (by kernel_rfl) (by kernel_rfl) (by kernel_rfl) (fun _ _ _ h => h) ?hya11 (by assumption) ?resta11
        case hia11 => simp only [gA, gS, gZ]; rfl
        case hya11 =>
          refine Or.inl ⟨by rfl, ?_⟩
          intro w hSw; (try dsimp only at hSw); go_simp <;> (with_reducible rfl)
        (try simp only [Act.put, pA, pZ, pS])
        refine wpAnyH_take (i := 12) (oi := ?oa12) (v := ?va12) ?hia12 (by kernel_rfl) (by kernel_rfl) (by kernel_rfl) (fun _ _ _ h => h) ?hya12 (by assumption) ?resta12
        case hia12 => simp only [gA, gS, gZ]; rfl
        case hya12 =>
          refine Or.inl ⟨by rfl, ?_⟩
          intro w hSw; (try dsimp only at hSw); go_simp <;> (with_reducible rfl)
        (try simp only [Act.put, pA, pZ, pS])
        refine wpAnyH_take (i := 13) (oi := ?oa13) (v := undef) ?hia13 (by kernel_rfl) (by kernel_rfl) (by kernel_rfl) (fun _ _ _ h => h) ?hya13 (by assumption) ?resta13
        case hia13 => simp only [gA, gS, gZ]; rfl
        case hya13 => exact Or.inr ⟨by rfl, rfl⟩
        (try simp only [Act.put, pA, pZ, pS])
        refine wpAnyH_take (i := 14) (oi := ?oa14) (v := undef) ?hia14 (by kernel_rfl) (by kernel_rfl) (by kernel_rfl) (fun _ _ _ h => h) ?hya14 (by assumption) ?resta14
        case hia14 => simp only [gA, gS, gZ]; rfl
        case hya14 => exact Or.inr ⟨by rfl, rfl⟩
        (try simp only [Act.put, pA, pZ, pS])
        refine wpAnyH_take (i := 15) (oi := ?oa15) (v := undef) ?hia15 (by kernel_rfl) (by kernel_rfl) (by kernel_rfl) (fun _ _ _ h => h) ?hya15 (by assumption) ?resta15
        case hia15 => simp only [gA, gS, gZ]; rfl
        case hya15 => exact Or.inr ⟨by rfl, rfl⟩
        (try simp only [Act.put, pA, pZ, pS])
        refine wpAnyH_take (i := 16) (oi := ?oa16) (v := undef) ?hia16 (by kernel_rfl) (by kernel_rfl) (by kernel_rfl) (fun _ _ _ h => h) ?hya16 (by assumption) ?resta16
        case hia16 => simp only [gA, gS, gZ]; rfl
        case hya16 => exact Or.inr ⟨by rfl, rfl⟩
        (try simp only [Act.put, pA, pZ, pS])
        refine wpAnyH_take (i := 17) (oi := ?oa17) (v := undef) ?hia17 (by kernel_rfl) (by kernel_rfl) (by kernel_rfl) (fun _ _ _ h => h) ?hya17 (by assumption) ?resta17
        case hia17 => simp only [gA, gS, gZ]; rfl
        case hya17 => exact Or.inr ⟨by rfl, rfl⟩
        (try simp only [Act.put, pA, pZ, pS])
        refine wpAnyH_take (i := 18) (oi := ?oa18) (v := ?va18) ?hia18 (by kernel_rfl) (by kernel_rfl) (by kernel_rfl) (fun _ _ _ h => h) ?hya18 (by assumption) ?resta18
        case hia18 => simp only [gA, gS, gZ]; rfl
        case hya18 =>
          refine Or.inl ⟨by rfl, ?_⟩
          intro w hSw; (try dsimp only at hSw); go_simp <;> (with_reducible rfl)
        (try simp only [Act.put, pA, pZ, pS])
        refine wpAnyH_take (i := 19) (oi := ?oa19) (v := ?va19) ?hia19 (by kernel_rfl) (by kernel_rfl) (by kernel_rfl) (fun _ _ _ h => h) ?hya19 (by assumption) ?resta19
        case hia19 => simp only [gA, gS, gZ]; rfl
        case hya19 =>
          refine Or.inl ⟨by rfl, ?_⟩
          intro w hSw; (try dsimp only at hSw); go_simp <;> (with_reducible rfl)
        (try simp only [Act.put, pA, pZ, pS])
        refine wpAnyH_take (i := 20) (oi := ?oa20) (v := undef) ?hia20 (by kernel_rfl) (by kernel_rfl) (by kernel_rfl) (fun _ _ _ h => h) ?hya20 (by assumption) ?resta20
        case hia20 => simp only [gA, gS, gZ]; rfl
        case hya20 => exact Or.inr ⟨by rfl, rfl⟩
        (try simp only [Act.put, pA, pZ, pS])
        refine wpAnyH_take (i := 21) (oi := ?oa21) (v := undef) ?hia21 (by kernel_rfl) (by kernel_rfl) (by kernel_rfl) (fun _ _ _ h => h) ?hya21 (by assumption) ?resta21
        case hia21 => simp only [gA, gS, gZ]; rfl
        case hya21 => exact Or.inr ⟨by rfl, rfl⟩
        (try simp only [Act.put, pA, pZ, pS])
        refine wpAnyH_take (i := 22) (oi := ?oa22) (v := undef) ?hia22 (by kernel_rfl) (by kernel_rfl) (by kernel_rfl) (fun _ _ _ h => h) ?hya22 (by assumption) ?resta22
        case hia22 => simp only [gA, gS, gZ]; rfl
        case hya22 => exact Or.inr ⟨by rfl, rfl⟩
        (try simp only [Act.put, pA, pZ, pS])
        refine wpAnyH_take (i := 23) (oi := ?oa23) (v := undef) ?hia23 (by kernel_rfl) (by kernel_rfl) (by kernel_rfl) (fun _ _ _ h => h) ?hya23 (by assumption) ?resta23
        case hia23 => simp only [gA, gS, gZ]; rfl
        case hya23 => exact Or.inr ⟨by rfl, rfl⟩
        (try simp only [Act.put, pA, pZ, pS])
        refine wpAnyH_take (i := 24) (oi := ?oa24) (v := ?va24) ?hia24 (by kernel_rfl) (by kernel_rfl) (by kernel_rfl) (fun _ _ _ h => h) ?hya24 (by assumption) ?resta24
        case hia24 => simp only [gA, gS, gZ]; rfl
        case hya24 =>
          refine Or.inl ⟨by rfl, ?_⟩
          intro w hSw; (try dsimp only at hSw); go_simp <;> (with_reducible rfl)
        (try simp only [Act.put, pA, pZ, pS])
        refine wpAnyH_take (i := 25) (oi := ?oa25) (v := ?va25) ?hia25 (by kernel_rfl) (by kernel_rfl) (by kernel_rfl) (fun _ _ _ h => h) ?hya25 (by assumption) ?resta25
        case hia25 => simp only [gA, gS, gZ]; rfl
        case hya25 =>
          refine Or.inl ⟨by rfl, ?_⟩
          intro w hSw; (try dsimp only at hSw); go_simp <;> (with_reducible rfl)
        (try simp only [Act.put, pA, pZ, pS])
        refine wpAnyH_take (i := 26) (oi := ?oa26) (v := undef) ?hia26 (by kernel_rfl) (by kernel_rfl) (by kernel_rfl) (fun _ _ _ h => h) ?hya26 (by assumption) ?resta26
        case hia26 => simp only [gA, gS, gZ]; rfl
        case hya26 => exact Or.inr ⟨by rfl, rfl⟩
        (try simp only [Act.put, pA, pZ, pS])
        refine wpAnyH_take (i := 27) (oi := ?oa27) (v := undef) ?hia27 (by kernel_rfl) (by kernel_rfl) (by kernel_rfl) (fun _ _ _ h => h) ?hya27 (by assumption) ?resta27
        case hia27 => simp only [gA, gS, gZ]; rfl
        case hya27 => exact Or.inr ⟨by rfl, rfl⟩
        (try simp only [Act.put, pA, pZ, pS])
        refine wpAnyH_take (i := 28) (oi := ?oa28) (v := undef) ?hia28 (by kernel_rfl) (by kernel_rfl) (by kernel_rfl) (fun _ _ _ h => h) ?hya28 (by assumption) ?resta28
        case hia28 => simp only [gA, gS, gZ]; rfl
        case hya28 => exact Or.inr ⟨by rfl, rfl⟩
        (try simp only [Act.put, pA, pZ, pS])
        refine wpAnyH_take (i := 29) (oi := ?oa29) (v := undef) ?hia29 (by kernel_rfl) (by kernel_rfl) (by kernel_rfl) (fun _ _ _ h => h) ?hya29 (by assumption) ?resta29
        case hia29 => simp only [gA, gS, gZ]; rfl
        case hya29 => exact Or.inr ⟨by rfl, rfl⟩
        (try simp only [Act.put, pA, pZ, pS])
        refine wpAnyH_take (i := 30) (oi := ?oa30) (v := undef) ?hia30 (by kernel_rfl) (by kernel_rfl) (by kernel_rfl) (fun _ _ _ h => h) ?hya30 (by assumption) ?resta30
        case hia30 => simp only [gA, gS, gZ]; rfl
        case hya30 => exact Or.inr ⟨by rfl, rfl⟩
        (try simp only [Act.put, pA, pZ, pS])
        refine wpAnyH_take (i := 31) (oi := ?oa31) (v := ?va31) ?hia31 (by kernel_rfl) (by kernel_rfl) (by kernel_rfl) (fun _ _ _ h => h) ?hya31 (by assumption) ?resta31
        case hia31 => simp only [gA, gS, gZ]; rfl
        case hya31 =>
          refine Or.inl ⟨by rfl, ?_⟩
          intro w hSw; (try dsimp only at hSw); go_simp <;> (with_reducible rfl)
        (try simp only [Act.put, pA, pZ, pS])
        refine wpAnyH_done (by kernel_rfl) ?_ _
        refine NoPanic.normal ?_
        go_wp2_with fail
        go_ret
        exact ⟨rfl, D0.out.below⟩
      cases f1
      · have hrf : r0 = false := by rw [HRn.out]; rfl
        subst hrf
        clear HRn HX
        refine wp_region_noPanic ?_
        refine wp_region_held_drew (S := (fun V => V.cell? ⟨wr.heap.size, 0, none⟩ = some (.bool true) ∧ V.cell? ⟨wr.heap.size, 1, none⟩ = some (.int .i64 qn) ∧ V.cell? ⟨wr.heap.size, 2, none⟩ = some (.string qt) ∧ V.cell? ⟨wr.heap.size, 3, none⟩ = some (.int .i64 v.k) ∧ V.cell? ⟨wr.heap.size, 4, none⟩ = some (.int .i64 v.n) ∧ V.cell? ⟨wr.heap.size, 5, none⟩ = some (.string v.t) ∧ V.cell? ⟨wr.heap.size, 6, none⟩ = some (.slice co v.xs.length cc) ∧ (Instr.lookup 104 (.map (some mb)) (.string qt) false).run Tryz.prog V = .ok (.bool f2) V)) (by kernel_rfl) (by exact HS0.out) (fun hHeld => ?_)
        refine wpAnyH_take (i := 0) (oi := ?ob0) (v := ?vb0) ?hib0 (by kernel_rfl) (by kernel_rfl) (by kernel_rfl) (fun _ _ _ h => h) ?hyb0 (by assumption) ?restb0
        case hib0 => simp only [gA, gZ]; rfl
        case hyb0 =>
          refine Or.inl ⟨by rfl, ?_⟩
          intro w hSw; (try dsimp only at hSw); go_simp <;> (with_reducible rfl)
        (try simp only [Act.put, pA, pZ, pS])
        refine wpAnyH_take (i := 1) (oi := ?ob1) (v := ?vb1) ?hib1 (by kernel_rfl) (by kernel_rfl) (by kernel_rfl) (fun _ _ _ h => h) ?hyb1 (by assumption) ?restb1
        case hib1 => simp only [gA, gS, gZ]; rfl
        case hyb1 =>
          refine Or.inl ⟨by rfl, ?_⟩
          intro w hSw; (try dsimp only at hSw); go_simp <;> (with_reducible rfl)
        (try simp only [Act.put, pA, pZ, pS])
        refine wpAnyH_take (i := 2) (oi := ?ob2) (v := ?vb2) ?hib2 (by kernel_rfl) (by kernel_rfl) (by kernel_rfl) (fun _ _ _ h => h) ?hyb2 (by assumption) ?restb2
        case hib2 => simp only [gA, gS, gZ]; rfl
        case hyb2 =>
          refine Or.inl ⟨by rfl, ?_⟩
          intro w hSw; (try dsimp only at hSw); go_simp <;> (with_reducible rfl)
        (try simp only [Act.put, pA, pZ, pS])
        refine wpAnyH_take (i := 3) (oi := ?ob3) (v := ?vb3) ?hib3 (by kernel_rfl) (by kernel_rfl) (by kernel_rfl) (fun _ _ _ h => h) ?hyb3 (by assumption) ?restb3
        case hib3 => simp only [gA, gS, gZ]; rfl
        case hyb3 =>
          refine Or.inl ⟨by rfl, ?_⟩
          intro w hSw; (try dsimp only at hSw); go_simp <;> (with_reducible rfl)
        (try simp only [Act.put, pA, pZ, pS])
        refine wpAnyH_take (i := 4) (oi := ?ob4) (v := ?vb4) ?hib4 (by kernel_rfl) (by kernel_rfl) (by kernel_rfl) (fun _ _ _ h => h) ?hyb4 (by assumption) ?restb4
        case hib4 => simp only [gA, gS, gZ]; rfl
        case hyb4 =>
          refine Or.inl ⟨by rfl, ?_⟩
          intro w hSw; (try dsimp only at hSw); go_simp <;> (with_reducible rfl)
        (try simp only [Act.put, pA, pZ, pS])
        refine wpAnyH_take (i := 5) (oi := ?ob5) (v := ?vb5) ?hib5 (by kernel_rfl) (by kernel_rfl) (by kernel_rfl) (fun _ _ _ h => h) ?hyb5 (by assumption) ?restb5
        case hib5 => simp only [gA, gS, gZ]; rfl
        case hyb5 =>
          refine Or.inl ⟨by rfl, ?_⟩
          intro w hSw; (try dsimp only at hSw); go_simp <;> (with_reducible rfl)
        (try simp only [Act.put, pA, pZ, pS])
        refine wpAnyH_take (i := 6) (oi := ?ob6) (v := ?vb6) ?hib6 (by kernel_rfl) (by kernel_rfl) (by kernel_rfl) (fun _ _ _ h => h) ?hyb6 (by assumption) ?restb6
        case hib6 => simp only [gA, gS, gZ]; rfl
        case hyb6 =>
          refine Or.inl ⟨by rfl, ?_⟩
          intro w hSw; (try dsimp only at hSw); go_simp <;> (with_reducible rfl)
        (try simp only [Act.put, pA, pZ, pS])
        refine wpAnyH_take (i := 8) (oi := ?ob8) (v := ?vb8) ?hib8 (by kernel_rfl) (by kernel_rfl) (by kernel_rfl) (fun _ _ _ h => h) ?hyb8 (by assumption) ?restb8
        case hib8 => simp only [gA, gS, gZ]; rfl
        case hyb8 =>
          refine Or.inl ⟨by rfl, ?_⟩
          intro w hSw; (try dsimp only at hSw); go_simp <;> (with_reducible rfl)
        (try simp only [Act.put, pA, pZ, pS])
        refine wpAnyH_take (i := 9) (oi := ?ob9) (v := ?vb9) ?hib9 (by kernel_rfl) (by kernel_rfl) (by kernel_rfl) (fun _ _ _ h => h) ?hyb9 (by assumption) ?restb9
        case hib9 => simp only [gA, gS, gZ]; rfl
        case hyb9 =>
          refine Or.inl ⟨by rfl, ?_⟩
          intro w hSw; (try dsimp only at hSw); go_simp <;> (with_reducible rfl)
        (try simp only [Act.put, pA, pZ, pS])
        refine wpAnyH_ready (rs := [7]) (by kernel_rfl) (by simp) ?_
        refine AllReadyH.cons rfl (fun K hK => ?_) AllReadyH.nil
        go_simp
        refine (HN _ D0.out.tabs).mono ?_; rintro e w1 ⟨rfl, hb⟩; have D1 := Lib.hid (D0.out.mono hb); have HS1 := Lib.hid (D1.out.all HGT.out HF2.out); clear hb
        refine hK.out _ _ HS1.out (fun hHeldb7 => ?_)
        clear hK K
        (try simp only [Act.put, pA, pZ, pS])
        refine wpAnyH_take (i := 10) (oi := ?ob10) (v := ?vb10) ?hib10 (by kernel_rfl) (by kernel_rfl) (by kernel_rfl) (fun _ _ _ h => h) ?hyb10 (by assumption) ?restb10
        case hib10 => simp only [gA, gS, gZ]; rfl
        case hyb10 =>
          refine Or.inl ⟨by rfl, ?_⟩
          intro w hSw; (try dsimp only at hSw); go_simp <;> (with_reducible rfl)
        (try simp only [Act.put, pA, pZ, pS])
        refine wpAnyH_take (i := 11) (oi := ?ob11) (v := ?vb11) ?hib11 (by kernel_rfl) (by kernel_rfl) (by kernel_rfl) (fun _ _ _ h => h) ?hyb11 (by assumption) ?restb11
        case hib11 => simp only [gA, gS, gZ]; rfl
        case hyb11 =>
          refine Or.inl ⟨by rfl, ?_⟩
          intro w hSw; (try dsimp only at hSw); go_simp <;> (with_reducible rfl)
        (try simp only [Act.put, pA, pZ, pS])
        refine wpAnyH_take (i := 12) (oi := ?ob12) (v := ?vb12) ?hib12 (by kernel_rfl) (by kernel_rfl) (by kernel_rfl) (fun _ _ _ h => h) ?hyb12 (by assumption) ?restb12
        case hib12 => simp only [gA, gS, gZ]; rfl
        case hyb12 =>
          refine Or.inl ⟨by rfl, ?_⟩
          intro w hSw; (try dsimp only at hSw); go_simp <;> (with_reducible rfl)
        (try simp only [Act.put, pA, pZ, pS])
        refine wpAnyH_take (i := 13) (oi := ?ob13) (v := undef) ?hib13 (by kernel_rfl) (by kernel_rfl) (by kernel_rfl) (fun _ _ _ h => h) ?hyb13 (by assumption) ?restb13
        case hib13 => simp only [gA, gS, gZ]; rfl
        case hyb13 => exact Or.inr ⟨by rfl, rfl⟩
        (try simp only [Act.put, pA, pZ, pS])
        refine wpAnyH_take (i := 14) (oi := ?ob14) (v := undef) ?hib14 (by kernel_rfl) (by kernel_rfl) (by kernel_rfl) (fun _ _ _ h => h) ?hyb14 (by assumption) ?restb14
        case hib14 => simp only [gA, gS, gZ]; rfl
        case hyb14 => exact Or.inr ⟨by rfl, rfl⟩
        (try simp only [Act.put, pA, pZ, pS])
        refine wpAnyH_take (i := 15) (oi := ?ob15) (v := undef) ?hib15 (by kernel_rfl) (by kernel_rfl) (by kernel_rfl) (fun _ _ _ h => h) ?hyb15 (by assumption) ?restb15
        case hib15 => simp only [gA, gS, gZ]; rfl
        case hyb15 => exact Or.inr ⟨by rfl, rfl⟩
        (try simp only [Act.put, pA, pZ, pS])
        refine wpAnyH_take (i := 16) (oi := ?ob16) (v := undef) ?hib16 (by kernel_rfl) (by kernel_rfl) (by kernel_rfl) (fun _ _ _ h => h) ?hyb16 (by assumption) ?restb16
        case hib16 => simp only [gA, gS, gZ]; rfl
        case hyb16 => exact Or.inr ⟨by rfl, rfl⟩
        (try simp only [Act.put, pA, pZ, pS])
        refine wpAnyH_take (i := 17) (oi := ?ob17) (v := undef) ?hib17 (by kernel_rfl) (by kernel_rfl) (by kernel_rfl) (fun _ _ _ h => h) ?hyb17 (by assumption) ?restb17
        case hib17 => simp only [gA, gS, gZ]; rfl
        case hyb17 => exact Or.inr ⟨by rfl, rfl⟩
        (try simp only [Act.put, pA, pZ, pS])
        refine wpAnyH_take (i := 18) (oi := ?ob18) (v := ?vb18) ?hib18 (by kernel_rfl) (by kernel_rfl) (by kernel_rfl) (fun _ _ _ h => h) ?hyb18 (by assumption) ?restb18
        case hib18 => simp only [gA, gS, gZ]; rfl
        case hyb18 =>
          refine Or.inl ⟨by rfl, ?_⟩
          intro w hSw; (try dsimp only at hSw); go_simp <;> (with_reducible rfl)
        (try simp only [Act.put, pA, pZ, pS])
        refine wpAnyH_take (i := 19) (oi := ?ob19) (v := ?vb19) ?hib19 (by kernel_rfl) (by kernel_rfl) (by kernel_rfl) (fun _ _ _ h => h) ?hyb19 (by assumption) ?restb19
        case hib19 => simp only [gA, gS, gZ]; rfl
        case hyb19 =>
          refine Or.inl ⟨by rfl, ?_⟩
          intro w hSw; (try dsimp only at hSw); go_simp <;> (with_reducible rfl)
        (try simp only [Act.put, pA, pZ, pS])
        refine wpAnyH_take (i := 20) (oi := ?ob20) (v := undef) ?hib20 (by kernel_rfl) (by kernel_rfl) (by kernel_rfl) (fun _ _ _ h => h) ?hyb20 (by assumption) ?restb20
        case hib20 => simp only [gA, gS, gZ]; rfl
        case hyb20 => exact Or.inr ⟨by rfl, rfl⟩
        (try simp only [Act.put, pA, pZ, pS])
        refine wpAnyH_take (i := 21) (oi := ?ob21) (v := undef) ?hib21 (by kernel_rfl) (by kernel_rfl) (by kernel_rfl) (fun _ _ _ h => h) ?hyb21 (by assumption) ?restb21
        case hib21 => simp only [gA, gS, gZ]; rfl
        case hyb21 => exact Or.inr ⟨by rfl, rfl⟩
        (try simp only [Act.put, pA, pZ, pS])
        refine wpAnyH_take (i := 22) (oi := ?ob22) (v := undef) ?hib22 (by kernel_rfl) (by kernel_rfl) (by kernel_rfl) (fun _ _ _ h => h) ?hyb22 (by assumption) ?restb22
        case hib22 => simp only [gA, gS, gZ]; rfl
        case hyb22 => exact Or.inr ⟨by rfl, rfl⟩
        (try simp only [Act.put, pA, pZ, pS])
        refine wpAnyH_take (i := 23) (oi := ?ob23) (v := undef) ?hib23 (by kernel_rfl) (by kernel_rfl) (by kernel_rfl) (fun _ _ _ h => h) ?hyb23 (by assumption) ?restb23
        case hib23 => simp only [gA, gS, gZ]; rfl
        case hyb23 => exact Or.inr ⟨by rfl, rfl⟩
        (try simp only [Act.put, pA, pZ, pS])
        refine wpAnyH_take (i := 24) (oi := ?ob24) (v := ?vb24) ?hib24 (by kernel_rfl) (by kernel_rfl) (by kernel_rfl) (fun _ _ _ h => h) ?hyb24 (by assumption) ?restb24
        case hib24 => simp only [gA, gS, gZ]; rfl
        case hyb24 =>
          refine Or.inl ⟨by rfl, ?_⟩
          intro w hSw; (try dsimp only at hSw); go_simp <;> (with_reducible rfl)
        (try simp only [Act.put, pA, pZ, pS])
        refine wpAnyH_take (i := 25) (oi := ?ob25) (v := ?vb25) ?hib25 (by kernel_rfl) (by kernel_rfl) (by kernel_rfl) (fun _ _ _ h => h) ?hyb25 (by assumption) ?restb25
        case hib25 => simp only [gA, gS, gZ]; rfl
        case hyb25 =>
          refine Or.inl ⟨by rfl, ?_⟩
          intro w hSw; (try dsimp only at hSw); go_simp <;> (with_reducible rfl)
        (try simp only [Act.put, pA, pZ, pS])
        refine wpAnyH_take (i := 26) (oi := ?ob26) (v := undef) ?hib26 (by kernel_rfl) (by kernel_rfl) (by kernel_rfl) (fun _ _ _ h => h) ?hyb26 (by assumption) ?restb26
        case hib26 => simp only [gA, gS, gZ]; rfl
        case hyb26 => exact Or.inr ⟨by rfl, rfl⟩
        (try simp only [Act.put, pA, pZ, pS])
        refine wpAnyH_take (i := 27) (oi := ?ob27) (v := undef) ?hib27 (by kernel_rfl) (by kernel_rfl) (by kernel_rfl) (fun _ _ _ h => h) ?hyb27 (by assumption) ?restb27
        case hib27 => simp only [gA, gS, gZ]; rfl
        case hyb27 => exact Or.inr ⟨by rfl, rfl⟩
        (try simp only [Act.put, pA, pZ, pS])
        refine wpAnyH_take (i := 28) (oi := ?ob28) (v := undef) ?hib28 (by kernel_rfl) (by kernel_rfl) (by kernel_rfl) (fun _ _ _ h => h) ?hyb28 (by assumption) ?restb28
        case hib28 => simp only [gA, gS, gZ]; rfl
        case hyb28 => exact Or.inr ⟨by rfl, rfl⟩
        (try simp only [Act.put, pA, pZ, pS])
        refine wpAnyH_take (i := 29) (oi := ?ob29) (v := undef) ?hib29 (by kernel_rfl) (by kernel_rfl) (by kernel_rfl) (fun _ _ _ h => h) ?hyb29 (by assumption) ?restb29
        case hib29 => simp only [gA, gS, gZ]; rfl
        case hyb29 => exact Or.inr ⟨by rfl, rfl⟩
        (try simp only [Act.put, pA, pZ, pS])
        refine wpAnyH_take (i := 30) (oi := ?ob30) (v := undef) ?hib30 (by kernel_rfl) (by kernel_rfl) (by kernel_rfl) (fun _ _ _ h => h) ?hyb30 (by assumption) ?restb30
        case hib30 => simp only [gA, gS, gZ]; rfl
        case hyb30 => exact Or.inr ⟨by rfl, rfl⟩
        (try simp only [Act.put, pA, pZ, pS])
        refine wpAnyH_take (i := 31) (oi := ?ob31) (v := ?vb31) ?hib31 (by kernel_rfl) (by kernel_rfl) (by kernel_rfl) (fun _ _ _ h => h) ?hyb31 (by assumption) ?restb31
        case hib31 => simp only [gA, gS, gZ]; rfl
        case hyb31 =>
          refine Or.inl ⟨by rfl, ?_⟩
          intro w hSw; (try dsimp only at hSw); go_simp <;> (with_reducible rfl)
        (try simp only [Act.put, pA, pZ, pS])
        refine wpAnyH_done (by kernel_rfl) ?_ _
        refine NoPanic.normal ?_
        go_wp2_with fail
        go_ret
        exact ⟨rfl, D1.out.below⟩
      cases f2
      rotate_left
      · have hrf : r0 = false := by rw [HRn.out]; rfl
        subst hrf
        clear HRn HX
        refine wp_region_noPanic ?_
        refine wp_region_held_drew (S := (fun V => V.cell? ⟨wr.heap.size, 0, none⟩ = some (.bool true) ∧ V.cell? ⟨wr.heap.size, 1, none⟩ = some (.int .i64 qn) ∧ V.cell? ⟨wr.heap.size, 2, none⟩ = some (.string qt) ∧ V.cell? ⟨wr.heap.size, 3, none⟩ = some (.int .i64 v.k) ∧ V.cell? ⟨wr.heap.size, 4, none⟩ = some (.int .i64 v.n) ∧ V.cell? ⟨wr.heap.size, 5, none⟩ = some (.string v.t) ∧ V.cell? ⟨wr.heap.size, 6, none⟩ = some (.slice co v.xs.length cc) ∧ (Instr.lookup 104 (.map (some mb)) (.string qt) false).run Tryz.prog V = .ok (.bool true) V)) (by kernel_rfl) (by exact HS0.out) (fun hHeld => ?_)
        refine wpAnyH_take (i := 0) (oi := ?oc0) (v := ?vc0) ?hic0 (by kernel_rfl) (by kernel_rfl) (by kernel_rfl) (fun _ _ _ h => h) ?hyc0 (by assumption) ?restc0
        case hic0 => simp only [gA, gZ]; rfl
        case hyc0 =>
          refine Or.inl ⟨by rfl, ?_⟩
          intro w hSw; (try dsimp only at hSw); go_simp <;> (with_reducible rfl)
        (try simp only [Act.put, pA, pZ, pS])
        refine wpAnyH_take (i := 1) (oi := ?oc1) (v := ?vc1) ?hic1 (by kernel_rfl) (by kernel_rfl) (by kernel_rfl) (fun _ _ _ h => h) ?hyc1 (by assumption) ?restc1
        case hic1 => simp only [gA, gS, gZ]; rfl
        case hyc1 =>
          refine Or.inl ⟨by rfl, ?_⟩
          intro w hSw; (try dsimp only at hSw); go_simp <;> (with_reducible rfl)
        (try simp only [Act.put, pA, pZ, pS])
        refine wpAnyH_take (i := 2) (oi := ?oc2) (v := ?vc2) ?hic2 (by kernel_rfl) (by kernel_rfl) (by kernel_rfl) (fun _ _ _ h => h) ?hyc2 (by assumption) ?restc2
        case hic2 => simp only [gA, gS, gZ]; rfl
        case hyc2 =>
          refine Or.inl ⟨by rfl, ?_⟩
          intro w hSw; (try dsimp only at hSw); go_simp <;> (with_reducible rfl)
        (try simp only [Act.put, pA, pZ, pS])
        refine wpAnyH_take (i := 3) (oi := ?oc3) (v := ?vc3) ?hic3 (by kernel_rfl) (by kernel_rfl) (by kernel_rfl) (fun _ _ _ h => h) ?hyc3 (by assumption) ?restc3
        case hic3 => simp only [gA, gS, gZ]; rfl
        case hyc3 =>
          refine Or.inl ⟨by rfl, ?_⟩
          intro w hSw; (try dsimp only at hSw); go_simp <;> (with_reducible rfl)
        (try simp only [Act.put, pA, pZ, pS])
        refine wpAnyH_take (i := 4) (oi := ?oc4) (v := ?vc4) ?hic4 (by kernel_rfl) (by kernel_rfl) (by kernel_rfl) (fun _ _ _ h => h) ?hyc4 (by assumption) ?restc4
        case hic4 => simp only [gA, gS, gZ]; rfl
        case hyc4 =>
          refine Or.inl ⟨by rfl, ?_⟩
          intro w hSw; (try dsimp only at hSw); go_simp <;> (with_reducible rfl)
        (try simp only [Act.put, pA, pZ, pS])
        refine wpAnyH_take (i := 5) (oi := ?oc5) (v := ?vc5) ?hic5 (by kernel_rfl) (by kernel_rfl) (by kernel_rfl) (fun _ _ _ h => h) ?hyc5 (by assumption) ?restc5
        case hic5 => simp only [gA, gS, gZ]; rfl
        case hyc5 =>
          refine Or.inl ⟨by rfl, ?_⟩
          intro w hSw; (try dsimp only at hSw); go_simp <;> (with_reducible rfl)
        (try simp only [Act.put, pA, pZ, pS])
        refine wpAnyH_take (i := 6) (oi := ?oc6) (v := ?vc6) ?hic6 (by kernel_rfl) (by kernel_rfl) (by kernel_rfl) (fun _ _ _ h => h) ?hyc6 (by assumption) ?restc6
        case hic6 => simp only [gA, gS, gZ]; rfl
        case hyc6 =>
          refine Or.inl ⟨by rfl, ?_⟩
          intro w hSw; (try dsimp only at hSw); go_simp <;> (with_reducible rfl)
        (try simp only [Act.put, pA, pZ, pS])
        refine wpAnyH_take (i := 8) (oi := ?oc8) (v := ?vc8) ?hic8 (by kernel_rfl) (by kernel_rfl) (by kernel_rfl) (fun _ _ _ h => h) ?hyc8 (by assumption) ?restc8
        case hic8 => simp only [gA, gS, gZ]; rfl
        case hyc8 =>
          refine Or.inl ⟨by rfl, ?_⟩
          intro w hSw; (try dsimp only at hSw); go_simp <;> (with_reducible rfl)
        (try simp only [Act.put, pA, pZ, pS])
        refine wpAnyH_take (i := 9) (oi := ?oc9) (v := ?vc9) ?hic9 (by kernel_rfl) (by kernel_rfl) (by kernel_rfl) (fun _ _ _ h => h) ?hyc9 (by assumption) ?restc9
        case hic9 => simp only [gA, gS, gZ]; rfl
        case hyc9 =>
          refine Or.inl ⟨by rfl, ?_⟩
          intro w hSw; (try dsimp only at hSw); go_simp <;> (with_reducible rfl)
        (try simp only [Act.put, pA, pZ, pS])
        refine wpAnyH_ready (rs := [7]) (by kernel_rfl) (by simp) ?_
        refine AllReadyH.cons rfl (fun K hK => ?_) AllReadyH.nil
        go_simp
        refine (HN _ D0.out.tabs).mono ?_; rintro e w1 ⟨rfl, hb⟩; have D1 := Lib.hid (D0.out.mono hb); have HS1 := Lib.hid (D1.out.all HGT.out HF2.out); clear hb
        refine hK.out _ _ HS1.out (fun hHeldc7 => ?_)
        clear hK K
        (try simp only [Act.put, pA, pZ, pS])
        refine wpAnyH_take (i := 10) (oi := ?oc10) (v := ?vc10) ?hic10 (by kernel_rfl) (by kernel_rfl) (by kernel_rfl) (fun _ _ _ h => h) ?hyc10 (by assumption) ?restc10
        case hic10 => simp only [gA, gS, gZ]; rfl
        case hyc10 =>
          refine Or.inl ⟨by rfl, ?_⟩
          intro w hSw; (try dsimp only at hSw); go_simp <;> (with_reducible rfl)
        (try simp only [Act.put, pA, pZ, pS])
        refine wpAnyH_take (i := 11) (oi := ?oc11) (v := ?vc11) ?hic11 (by kernel_rfl) (by kernel_rfl) (by kernel_rfl) (fun _ _ _ h => h) ?hyc11 (by assumption) ?restc11
        case hic11 => simp only [gA, gS, gZ]; rfl
        case hyc11 =>
          refine Or.inl ⟨by rfl, ?_⟩
          intro w hSw; (try dsimp only at hSw); go_simp <;> (with_reducible rfl)
        (try simp only [Act.put, pA, pZ, pS])
        refine wpAnyH_take (i := 12) (oi := ?oc12) (v := ?vc12) ?hic12 (by kernel_rfl) (by kernel_rfl) (by kernel_rfl) (fun _ _ _ h => h) ?hyc12 (by assumption) ?restc12
        case hic12 => simp only [gA, gS, gZ]; rfl
        case hyc12 =>
          refine Or.inl ⟨by rfl, ?_⟩
          intro w hSw; (try dsimp only at hSw); go_simp <;> (with_reducible rfl)
        (try simp only [Act.put, pA, pZ, pS])
        refine wpAnyH_take (i := 13) (oi := ?oc13) (v := ?vc13) ?hic13 (by kernel_rfl) (by kernel_rfl) (by kernel_rfl) (fun _ _ _ h => h) ?hyc13 (by assumption) ?restc13
        case hic13 => simp only [gA, gS, gZ]; rfl
        case hyc13 =>
          refine Or.inl ⟨by rfl, ?_⟩
          intro w hSw; (try dsimp only at hSw); go_simp <;> (with_reducible rfl)
        (try simp only [Act.put, pA, pZ, pS])
        refine wpAnyH_take (i := 14) (oi := ?oc14) (v := ?vc14) ?hic14 (by kernel_rfl) (by kernel_rfl) (by kernel_rfl) (fun _ _ _ h => h) ?hyc14 (by assumption) ?restc14
        case hic14 => simp only [gA, gS, gZ]; rfl
        case hyc14 =>
          refine Or.inl ⟨by rfl, ?_⟩
          intro w hSw; (try dsimp only at hSw); go_simp <;> (with_reducible rfl)
        (try simp only [Act.put, pA, pZ, pS])
        refine wpAnyH_take (i := 15) (oi := ?oc15) (v := ?vc15) ?hic15 (by kernel_rfl) (by kernel_rfl) (by kernel_rfl) (fun _ _ _ h => h) ?hyc15 (by assumption) ?restc15
        case hic15 => simp only [gA, gS, gZ]; rfl
        case hyc15 =>
          refine Or.inl ⟨by rfl, ?_⟩
          intro w hSw; (try dsimp only at hSw); go_simp <;> (with_reducible rfl)
        (try simp only [Act.put, pA, pZ, pS])
        refine wpAnyH_take (i := 16) (oi := ?oc16) (v := ?vc16) ?hic16 (by kernel_rfl) (by kernel_rfl) (by kernel_rfl) (fun _ _ _ h => h) ?hyc16 (by assumption) ?restc16
        case hic16 => simp only [gA, gS, gZ]; rfl
        case hyc16 =>
          refine Or.inl ⟨by rfl, ?_⟩
          intro w hSw; (try dsimp only at hSw); go_simp <;> (with_reducible rfl)
        (try simp only [Act.put, pA, pZ, pS])
        refine wpAnyH_take (i := 17) (oi := ?oc17) (v := ?vc17) ?hic17 (by kernel_rfl) (by kernel_rfl) (by kernel_rfl) (fun _ _ _ h => h) ?hyc17 (by assumption) ?restc17
        case hic17 => simp only [gA, gS, gZ]; rfl
        case hyc17 =>
          refine Or.inl ⟨by rfl, ?_⟩
          intro w hSw; (try dsimp only at hSw); go_simp <;> (with_reducible rfl)
        (try simp only [Act.put, pA, pZ, pS])
        refine wpAnyH_take (i := 18) (oi := ?oc18) (v := ?vc18) ?hic18 (by kernel_rfl) (by kernel_rfl) (by kernel_rfl) (fun _ _ _ h => h) ?hyc18 (by assumption) ?restc18
        case hic18 => simp only [gA, gS, gZ]; rfl
        case hyc18 =>
          refine Or.inl ⟨by rfl, ?_⟩
          intro w hSw; (try dsimp only at hSw); go_simp <;> (with_reducible rfl)
        (try simp only [Act.put, pA, pZ, pS])
        refine wpAnyH_take (i := 19) (oi := ?oc19) (v := ?vc19) ?hic19 (by kernel_rfl) (by kernel_rfl) (by kernel_rfl) (fun _ _ _ h => h) ?hyc19 (by assumption) ?restc19
        case hic19 => simp only [gA, gS, gZ]; rfl
        case hyc19 =>
          refine Or.inl ⟨by rfl, ?_⟩
          intro w hSw; (try dsimp only at hSw); go_simp <;> (with_reducible rfl)
        (try simp only [Act.put, pA, pZ, pS])
        refine wpAnyH_take (i := 20) (oi := ?oc20) (v := undef) ?hic20 (by kernel_rfl) (by kernel_rfl) (by kernel_rfl) (fun _ _ _ h => h) ?hyc20 (by assumption) ?restc20
        case hic20 => simp only [gA, gS, gZ]; rfl
        case hyc20 => exact Or.inr ⟨by rfl, rfl⟩
        (try simp only [Act.put, pA, pZ, pS])
        refine wpAnyH_take (i := 21) (oi := ?oc21) (v := undef) ?hic21 (by kernel_rfl) (by kernel_rfl) (by kernel_rfl) (fun _ _ _ h => h) ?hyc21 (by assumption) ?restc21
        case hic21 => simp only [gA, gS, gZ]; rfl
        case hyc21 => exact Or.inr ⟨by rfl, rfl⟩
        (try simp only [Act.put, pA, pZ, pS])
        refine wpAnyH_take (i := 22) (oi := ?oc22) (v := undef) ?hic22 (by kernel_rfl) (by kernel_rfl) (by kernel_rfl) (fun _ _ _ h => h) ?hyc22 (by assumption) ?restc22
        case hic22 => simp only [gA, gS, gZ]; rfl
        case hyc22 => exact Or.inr ⟨by rfl, rfl⟩
        (try simp only [Act.put, pA, pZ, pS])
        refine wpAnyH_take (i := 23) (oi := ?oc23) (v := undef) ?hic23 (by kernel_rfl) (by kernel_rfl) (by kernel_rfl) (fun _ _ _ h => h) ?hyc23 (by assumption) ?restc23
        case hic23 => simp only [gA, gS, gZ]; rfl
        case hyc23 => exact Or.inr ⟨by rfl, rfl⟩
        (try simp only [Act.put, pA, pZ, pS])
        refine wpAnyH_take (i := 24) (oi := ?oc24) (v := ?vc24) ?hic24 (by kernel_rfl) (by kernel_rfl) (by kernel_rfl) (fun _ _ _ h => h) ?hyc24 (by assumption) ?restc24
        case hic24 => simp only [gA, gS, gZ]; rfl
        case hyc24 =>
          refine Or.inl ⟨by rfl, ?_⟩
          intro w hSw; (try dsimp only at hSw); go_simp <;> (with_reducible rfl)
        (try simp only [Act.put, pA, pZ, pS])
        refine wpAnyH_take (i := 25) (oi := ?oc25) (v := ?vc25) ?hic25 (by kernel_rfl) (by kernel_rfl) (by kernel_rfl) (fun _ _ _ h => h) ?hyc25 (by assumption) ?restc25
        case hic25 => simp only [gA, gS, gZ]; rfl
        case hyc25 =>
          refine Or.inl ⟨by rfl, ?_⟩
          intro w hSw; (try dsimp only at hSw); go_simp <;> (with_reducible rfl)
        (try simp only [Act.put, pA, pZ, pS])
        refine wpAnyH_take (i := 26) (oi := ?oc26) (v := undef) ?hic26 (by kernel_rfl) (by kernel_rfl) (by kernel_rfl) (fun _ _ _ h => h) ?hyc26 (by assumption) ?restc26
        case hic26 => simp only [gA, gS, gZ]; rfl
        case hyc26 => exact Or.inr ⟨by rfl, rfl⟩
        (try simp only [Act.put, pA, pZ, pS])
        refine wpAnyH_take (i := 27) (oi := ?oc27) (v := undef) ?hic27 (by kernel_rfl) (by kernel_rfl) (by kernel_rfl) (fun _ _ _ h => h) ?hyc27 (by assumption) ?restc27
        case hic27 => simp only [gA, gS, gZ]; rfl
        case hyc27 => exact Or.inr ⟨by rfl, rfl⟩
        (try simp only [Act.put, pA, pZ, pS])
        refine wpAnyH_take (i := 28) (oi := ?oc28) (v := undef) ?hic28 (by kernel_rfl) (by kernel_rfl) (by kernel_rfl) (fun _ _ _ h => h) ?hyc28 (by assumption) ?restc28
        case hic28 => simp only [gA, gS, gZ]; rfl
        case hyc28 => exact Or.inr ⟨by rfl, rfl⟩
        (try simp only [Act.put, pA, pZ, pS])
        refine wpAnyH_take (i := 29) (oi := ?oc29) (v := undef) ?hic29 (by kernel_rfl) (by kernel_rfl) (by kernel_rfl) (fun _ _ _ h => h) ?hyc29 (by assumption) ?restc29
        case hic29 => simp only [gA, gS, gZ]; rfl
        case hyc29 => exact Or.inr ⟨by rfl, rfl⟩
        (try simp only [Act.put, pA, pZ, pS])
        refine wpAnyH_take (i := 30) (oi := ?oc30) (v := undef) ?hic30 (by kernel_rfl) (by kernel_rfl) (by kernel_rfl) (fun _ _ _ h => h) ?hyc30 (by assumption) ?restc30
        case hic30 => simp only [gA, gS, gZ]; rfl
        case hyc30 => exact Or.inr ⟨by rfl, rfl⟩
        (try simp only [Act.put, pA, pZ, pS])
        refine wpAnyH_take (i := 31) (oi := ?oc31) (v := ?vc31) ?hic31 (by kernel_rfl) (by kernel_rfl) (by kernel_rfl) (fun _ _ _ h => h) ?hyc31 (by assumption) ?restc31
        case hic31 => simp only [gA, gS, gZ]; rfl
        case hyc31 =>
          refine Or.inl ⟨by rfl, ?_⟩
          intro w hSw; (try dsimp only at hSw); go_simp <;> (with_reducible rfl)
        (try simp only [Act.put, pA, pZ, pS])
        refine wpAnyH_done (by kernel_rfl) ?_ _
        refine NoPanic.normal ?_
        go_wp2_with fail
        go_ret
        exact ⟨rfl, D1.out.below⟩
      cases f3
      · have hrf : r0 = false := by rw [HRn.out]; rfl
        subst hrf
        clear HRn HX
        refine wp_region_noPanic ?_
        refine wp_region_held_drew (S := (fun V => V.cell? ⟨wr.heap.size, 0, none⟩ = some (.bool true) ∧ V.cell? ⟨wr.heap.size, 1, none⟩ = some (.int .i64 qn) ∧ V.cell? ⟨wr.heap.size, 2, none⟩ = some (.string qt) ∧ V.cell? ⟨wr.heap.size, 3, none⟩ = some (.int .i64 v.k) ∧ V.cell? ⟨wr.heap.size, 4, none⟩ = some (.int .i64 v.n) ∧ V.cell? ⟨wr.heap.size, 5, none⟩ = some (.string v.t) ∧ V.cell? ⟨wr.heap.size, 6, none⟩ = some (.slice co v.xs.length cc) ∧ (Instr.lookup 104 (.map (some mb)) (.string qt) false).run Tryz.prog V = .ok (.bool false) V)) (by kernel_rfl) (by exact HS0.out) (fun hHeld => ?_)
        refine wpAnyH_take (i := 0) (oi := ?od0) (v := ?vd0) ?hid0 (by kernel_rfl) (by kernel_rfl) (by kernel_rfl) (fun _ _ _ h => h) ?hyd0 (by assumption) ?restd0
        case hid0 => simp only [gA, gZ]; rfl
        case hyd0 =>
          refine Or.inl ⟨by rfl, ?_⟩
          intro w hSw; (try dsimp only at hSw); go_simp <;> (with_reducible rfl)
        (try simp only [Act.put, pA, pZ, pS])
        refine wpAnyH_take (i := 1) (oi := ?od1) (v := ?vd1) ?hid1 (by kernel_rfl) (by kernel_rfl) (by kernel_rfl) (fun _ _ _ h => h) ?hyd1 (by assumption) ?restd1
        case hid1 => simp only [gA, gS, gZ]; rfl
        case hyd1 =>
          refine Or.inl ⟨by rfl, ?_⟩
          intro w hSw; (try dsimp only at hSw); go_simp <;> (with_reducible rfl)
        (try simp only [Act.put, pA, pZ, pS])
        refine wpAnyH_take (i := 2) (oi := ?od2) (v := ?vd2) ?hid2 (by kernel_rfl) (by kernel_rfl) (by kernel_rfl) (fun _ _ _ h => h) ?hyd2 (by assumption) ?restd2
        case hid2 => simp only [gA, gS, gZ]; rfl
        case hyd2 =>
          refine Or.inl ⟨by rfl, ?_⟩
          intro w hSw; (try dsimp only at hSw); go_simp <;> (with_reducible rfl)
        (try simp only [Act.put, pA, pZ, pS])
        refine wpAnyH_take (i := 3) (oi := ?od3) (v := ?vd3) ?hid3 (by kernel_rfl) (by kernel_rfl) (by kernel_rfl) (fun _ _ _ h => h) ?hyd3 (by assumption) ?restd3
        case hid3 => simp only [gA, gS, gZ]; rfl
        case hyd3 =>
          refine Or.inl ⟨by rfl, ?_⟩
          intro w hSw; (try dsimp only at hSw); go_simp <;> (with_reducible rfl)
        (try simp only [Act.put, pA, pZ, pS])
        refine wpAnyH_take (i := 4) (oi := ?od4) (v := ?vd4) ?hid4 (by kernel_rfl) (by kernel_rfl) (by kernel_rfl) (fun _ _ _ h => h) ?hyd4 (by assumption) ?restd4
        case hid4 => simp only [gA, gS, gZ]; rfl
        case hyd4 =>
          refine Or.inl ⟨by rfl, ?_⟩
          intro w hSw; (try dsimp only at hSw); go_simp <;> (with_reducible rfl)
        (try simp only [Act.put, pA, pZ, pS])
        refine wpAnyH_take (i := 5) (oi := ?od5) (v := ?vd5) ?hid5 (by kernel_rfl) (by kernel_rfl) (by kernel_rfl) (fun _ _ _ h => h) ?hyd5 (by assumption) ?restd5
        case hid5 => simp only [gA, gS, gZ]; rfl
        case hyd5 =>
          refine Or.inl ⟨by rfl, ?_⟩
          intro w hSw; (try dsimp only at hSw); go_simp <;> (with_reducible rfl)
        (try simp only [Act.put, pA, pZ, pS])
        refine wpAnyH_take (i := 6) (oi := ?od6) (v := ?vd6) ?hid6 (by kernel_rfl) (by kernel_rfl) (by kernel_rfl) (fun _ _ _ h => h) ?hyd6 (by assumption) ?restd6
        case hid6 => simp only [gA, gS, gZ]; rfl
        case hyd6 =>
          refine Or.inl ⟨by rfl, ?_⟩
          intro w hSw; (try dsimp only at hSw); go_simp <;> (with_reducible rfl)
        (try simp only [Act.put, pA, pZ, pS])
        refine wpAnyH_take (i := 8) (oi := ?od8) (v := ?vd8) ?hid8 (by kernel_rfl) (by kernel_rfl) (by kernel_rfl) (fun _ _ _ h => h) ?hyd8 (by assumption) ?restd8
        case hid8 => simp only [gA, gS, gZ]; rfl
        case hyd8 =>
          refine Or.inl ⟨by rfl, ?_⟩
          intro w hSw; (try dsimp only at hSw); go_simp <;> (with_reducible rfl)
        (try simp only [Act.put, pA, pZ, pS])
        refine wpAnyH_take (i := 9) (oi := ?od9) (v := ?vd9) ?hid9 (by kernel_rfl) (by kernel_rfl) (by kernel_rfl) (fun _ _ _ h => h) ?hyd9 (by assumption) ?restd9
        case hid9 => simp only [gA, gS, gZ]; rfl
        case hyd9 =>
          refine Or.inl ⟨by rfl, ?_⟩
          intro w hSw; (try dsimp only at hSw); go_simp <;> (with_reducible rfl)
        (try simp only [Act.put, pA, pZ, pS])
        refine wpAnyH_ready (rs := [7]) (by kernel_rfl) (by simp) ?_
        refine AllReadyH.cons rfl (fun K hK => ?_) AllReadyH.nil
        go_simp
        refine (HN _ D0.out.tabs).mono ?_; rintro e w1 ⟨rfl, hb⟩; have D1 := Lib.hid (D0.out.mono hb); have HS1 := Lib.hid (D1.out.all HGT.out HF2.out); clear hb
        refine hK.out _ _ HS1.out (fun hHeldd7 => ?_)
        clear hK K
        (try simp only [Act.put, pA, pZ, pS])
        refine wpAnyH_take (i := 10) (oi := ?od10) (v := ?vd10) ?hid10 (by kernel_rfl) (by kernel_rfl) (by kernel_rfl) (fun _ _ _ h => h) ?hyd10 (by assumption) ?restd10
        case hid10 => simp only [gA, gS, gZ]; rfl
        case hyd10 =>
          refine Or.inl ⟨by rfl, ?_⟩
          intro w hSw; (try dsimp only at hSw); go_simp <;> (with_reducible rfl)
        (try simp only [Act.put, pA, pZ, pS])
        refine wpAnyH_take (i := 11) (oi := ?od11) (v := ?vd11) ?hid11 (by kernel_rfl) (by kernel_rfl) (by kernel_rfl) (fun _ _ _ h => h) ?hyd11 (by assumption) ?restd11
        case hid11 => simp only [gA, gS, gZ]; rfl
        case hyd11 =>
          refine Or.inl ⟨by rfl, ?_⟩
          intro w hSw; (try dsimp only at hSw); go_simp <;> (with_reducible rfl)
        (try simp only [Act.put, pA, pZ, pS])
        refine wpAnyH_take (i := 12) (oi := ?od12) (v := ?vd12) ?hid12 (by kernel_rfl) (by kernel_rfl) (by kernel_rfl) (fun _ _ _ h => h) ?hyd12 (by assumption) ?restd12
        case hid12 => simp only [gA, gS, gZ]; rfl
        case hyd12 =>
          refine Or.inl ⟨by rfl, ?_⟩
          intro w hSw; (try dsimp only at hSw); go_simp <;> (with_reducible rfl)
        (try simp only [Act.put, pA, pZ, pS])
        refine wpAnyH_take (i := 13) (oi := ?od13) (v := ?vd13) ?hid13 (by kernel_rfl) (by kernel_rfl) (by kernel_rfl) (fun _ _ _ h => h) ?hyd13 (by assumption) ?restd13
        case hid13 => simp only [gA, gS, gZ]; rfl
        case hyd13 =>
          refine Or.inl ⟨by rfl, ?_⟩
          intro w hSw; (try dsimp only at hSw); go_simp <;> (with_reducible rfl)
        (try simp only [Act.put, pA, pZ, pS])
        refine wpAnyH_take (i := 14) (oi := ?od14) (v := ?vd14) ?hid14 (by kernel_rfl) (by kernel_rfl) (by kernel_rfl) (fun _ _ _ h => h) ?hyd14 (by assumption) ?restd14
        case hid14 => simp only [gA, gS, gZ]; rfl
        case hyd14 =>
          refine Or.inl ⟨by rfl, ?_⟩
          intro w hSw; (try dsimp only at hSw); go_simp <;> (with_reducible rfl)
        (try simp only [Act.put, pA, pZ, pS])
        refine wpAnyH_take (i := 15) (oi := ?od15) (v := ?vd15) ?hid15 (by kernel_rfl) (by kernel_rfl) (by kernel_rfl) (fun _ _ _ h => h) ?hyd15 (by assumption) ?restd15
        case hid15 => simp only [gA, gS, gZ]; rfl
        case hyd15 =>
          refine Or.inl ⟨by rfl, ?_⟩
          intro w hSw; (try dsimp only at hSw); go_simp <;> (with_reducible rfl)
        (try simp only [Act.put, pA, pZ, pS])
        refine wpAnyH_take (i := 16) (oi := ?od16) (v := ?vd16) ?hid16 (by kernel_rfl) (by kernel_rfl) (by kernel_rfl) (fun _ _ _ h => h) ?hyd16 (by assumption) ?restd16
        case hid16 => simp only [gA, gS, gZ]; rfl
        case hyd16 =>
          refine Or.inl ⟨by rfl, ?_⟩
          intro w hSw; (try dsimp only at hSw); go_simp <;> (with_reducible rfl)
        (try simp only [Act.put, pA, pZ, pS])
        refine wpAnyH_take (i := 17) (oi := ?od17) (v := ?vd17) ?hid17 (by kernel_rfl) (by kernel_rfl) (by kernel_rfl) (fun _ _ _ h => h) ?hyd17 (by assumption) ?restd17
        case hid17 => simp only [gA, gS, gZ]; rfl
        case hyd17 =>
          refine Or.inl ⟨by rfl, ?_⟩
          intro w hSw; (try dsimp only at hSw); go_simp <;> (with_reducible rfl)
        (try simp only [Act.put, pA, pZ, pS])
        refine wpAnyH_take (i := 18) (oi := ?od18) (v := ?vd18) ?hid18 (by kernel_rfl) (by kernel_rfl) (by kernel_rfl) (fun _ _ _ h => h) ?hyd18 (by assumption) ?restd18
        case hid18 => simp only [gA, gS, gZ]; rfl
        case hyd18 =>
          refine Or.inl ⟨by rfl, ?_⟩
          intro w hSw; (try dsimp only at hSw); go_simp <;> (with_reducible rfl)
        (try simp only [Act.put, pA, pZ, pS])
        refine wpAnyH_take (i := 19) (oi := ?od19) (v := ?vd19) ?hid19 (by kernel_rfl) (by kernel_rfl) (by kernel_rfl) (fun _ _ _ h => h) ?hyd19 (by assumption) ?restd19
        case hid19 => simp only [gA, gS, gZ]; rfl
        case hyd19 =>
          refine Or.inl ⟨by rfl, ?_⟩
          intro w hSw; (try dsimp only at hSw); go_simp <;> (with_reducible rfl)
        (try simp only [Act.put, pA, pZ, pS])
        refine wpAnyH_take (i := 20) (oi := ?od20) (v := ?vd20) ?hid20 (by kernel_rfl) (by kernel_rfl) (by kernel_rfl) (fun _ _ _ h => h) ?hyd20 (by assumption) ?restd20
        case hid20 => simp only [gA, gS, gZ]; rfl
        case hyd20 =>
          refine Or.inl ⟨by rfl, ?_⟩
          intro w hSw; (try dsimp only at hSw); go_simp <;> (with_reducible rfl)
        (try simp only [Act.put, pA, pZ, pS])
        refine wpAnyH_take (i := 21) (oi := ?od21) (v := ?vd21) ?hid21 (by kernel_rfl) (by kernel_rfl) (by kernel_rfl) (fun _ _ _ h => h) ?hyd21 (by assumption) ?restd21
        case hid21 => simp only [gA, gS, gZ]; rfl
        case hyd21 =>
          refine Or.inl ⟨by rfl, ?_⟩
          intro w hSw; (try dsimp only at hSw); go_simp <;> (with_reducible rfl)
        (try simp only [Act.put, pA, pZ, pS])
        refine wpAnyH_ready (rs := [22]) (by kernel_rfl) (by simp) ?_
        refine AllReadyH.cons rfl (fun K hK => ?_) AllReadyH.nil
        go_simp
        refine (HM _ D1.out.vin D1.out.tabs).mono ?_; rintro e w2 ⟨rfl, hb⟩; have D2 := Lib.hid (D1.out.mono hb); have HS2 := Lib.hid (D2.out.all HGT.out HF2.out); clear hb
        refine hK.out _ _ HS2.out (fun hHeldd22 => ?_)
        clear hK K
        (try simp only [Act.put, pA, pZ, pS])
        refine wpAnyH_take (i := 23) (oi := ?od23) (v := ?vd23) ?hid23 (by kernel_rfl) (by kernel_rfl) (by kernel_rfl) (fun _ _ _ h => h) ?hyd23 (by assumption) ?restd23
        case hid23 => simp only [gA, gS, gZ]; rfl
        case hyd23 =>
          refine Or.inl ⟨by rfl, ?_⟩
          intro w hSw; (try dsimp only at hSw); go_simp <;> (with_reducible rfl)
        (try simp only [Act.put, pA, pZ, pS])
        refine wpAnyH_take (i := 24) (oi := ?od24) (v := ?vd24) ?hid24 (by kernel_rfl) (by kernel_rfl) (by kernel_rfl) (fun _ _ _ h => h) ?hyd24 (by assumption) ?restd24
        case hid24 => simp only [gA, gS, gZ]; rfl
        case hyd24 =>
          refine Or.inl ⟨by rfl, ?_⟩
          intro w hSw; (try dsimp only at hSw); go_simp <;> (with_reducible rfl)
        (try simp only [Act.put, pA, pZ, pS])
        refine wpAnyH_take (i := 25) (oi := ?od25) (v := ?vd25) ?hid25 (by kernel_rfl) (by kernel_rfl) (by kernel_rfl) (fun _ _ _ h => h) ?hyd25 (by assumption) ?restd25
        case hid25 => simp only [gA, gS, gZ]; rfl
        case hyd25 =>
          refine Or.inl ⟨by rfl, ?_⟩
          intro w hSw; (try dsimp only at hSw); go_simp <;> (with_reducible rfl)
        (try simp only [Act.put, pA, pZ, pS])
        refine wpAnyH_take (i := 26) (oi := ?od26) (v := undef) ?hid26 (by kernel_rfl) (by kernel_rfl) (by kernel_rfl) (fun _ _ _ h => h) ?hyd26 (by assumption) ?restd26
        case hid26 => simp only [gA, gS, gZ]; rfl
        case hyd26 => exact Or.inr ⟨by rfl, rfl⟩
        (try simp only [Act.put, pA, pZ, pS])
        refine wpAnyH_take (i := 27) (oi := ?od27) (v := undef) ?hid27 (by kernel_rfl) (by kernel_rfl) (by kernel_rfl) (fun _ _ _ h => h) ?hyd27 (by assumption) ?restd27
        case hid27 => simp only [gA, gS, gZ]; rfl
        case hyd27 => exact Or.inr ⟨by rfl, rfl⟩
        (try simp only [Act.put, pA, pZ, pS])
        refine wpAnyH_take (i := 28) (oi := ?od28) (v := undef) ?hid28 (by kernel_rfl) (by kernel_rfl) (by kernel_rfl) (fun _ _ _ h => h) ?hyd28 (by assumption) ?restd28
        case hid28 => simp only [gA, gS, gZ]; rfl
        case hyd28 => exact Or.inr ⟨by rfl, rfl⟩
        (try simp only [Act.put, pA, pZ, pS])
        refine wpAnyH_take (i := 29) (oi := ?od29) (v := undef) ?hid29 (by kernel_rfl) (by kernel_rfl) (by kernel_rfl) (fun _ _ _ h => h) ?hyd29 (by assumption) ?restd29
        case hid29 => simp only [gA, gS, gZ]; rfl
        case hyd29 => exact Or.inr ⟨by rfl, rfl⟩
        (try simp only [Act.put, pA, pZ, pS])
        refine wpAnyH_take (i := 30) (oi := ?od30) (v := undef) ?hid30 (by kernel_rfl) (by kernel_rfl) (by kernel_rfl) (fun _ _ _ h => h) ?hyd30 (by assumption) ?restd30
        case hid30 => simp only [gA, gS, gZ]; rfl
        case hyd30 => exact Or.inr ⟨by rfl, rfl⟩
        (try simp only [Act.put, pA, pZ, pS])
        refine wpAnyH_take (i := 31) (oi := ?od31) (v := ?vd31) ?hid31 (by kernel_rfl) (by kernel_rfl) (by kernel_rfl) (fun _ _ _ h => h) ?hyd31 (by assumption) ?restd31
        case hid31 => simp only [gA, gS, gZ]; rfl
        case hyd31 =>
          refine Or.inl ⟨by rfl, ?_⟩
          intro w hSw; (try dsimp only at hSw); go_simp <;> (with_reducible rfl)
        (try simp only [Act.put, pA, pZ, pS])
        refine wpAnyH_done (by kernel_rfl) ?_ _
        refine NoPanic.normal ?_
        go_wp2_with fail
        go_ret
        exact ⟨rfl, D2.out.below⟩
      cases f4
      · have hrf : r0 = false := by rw [HRn.out]; rfl
        subst hrf
        clear HRn HX
        refine wp_region_noPanic ?_
        refine wp_region_held_drew (S := (fun V => V.cell? ⟨wr.heap.size, 0, none⟩ = some (.bool true) ∧ V.cell? ⟨wr.heap.size, 1, none⟩ = some (.int .i64 qn) ∧ V.cell? ⟨wr.heap.size, 2, none⟩ = some (.string qt) ∧ V.cell? ⟨wr.heap.size, 3, none⟩ = some (.int .i64 v.k) ∧ V.cell? ⟨wr.heap.size, 4, none⟩ = some (.int .i64 v.n) ∧ V.cell? ⟨wr.heap.size, 5, none⟩ = some (.string v.t) ∧ V.cell? ⟨wr.heap.size, 6, none⟩ = some (.slice co v.xs.length cc) ∧ (Instr.lookup 104 (.map (some mb)) (.string qt) false).run Tryz.prog V = .ok (.bool false) V)) (by kernel_rfl) (by exact HS0.out) (fun hHeld => ?_)
        refine wpAnyH_take (i := 0) (oi := ?oe0) (v := ?ve0) ?hie0 (by kernel_rfl) (by kernel_rfl) (by kernel_rfl) (fun _ _ _ h => h) ?hye0 (by assumption) ?reste0
        case hie0 => simp only [gA, gZ]; rfl
        case hye0 =>
          refine Or.inl ⟨by rfl, ?_⟩
          intro w hSw; (try dsimp only at hSw); go_simp <;> (with_reducible rfl)
        (try simp only [Act.put, pA, pZ, pS])
        refine wpAnyH_take (i := 1) (oi := ?oe1) (v := ?ve1) ?hie1 (by kernel_rfl) (by kernel_rfl) (by kernel_rfl) (fun _ _ _ h => h) ?hye1 (by assumption) ?reste1
        case hie1 => simp only [gA, gS, gZ]; rfl
        case hye1 =>
          refine Or.inl ⟨by rfl, ?_⟩
          intro w hSw; (try dsimp only at hSw); go_simp <;> (with_reducible rfl)
        (try simp only [Act.put, pA, pZ, pS])
        refine wpAnyH_take (i := 2) (oi := ?oe2) (v := ?ve2) ?hie2 (by kernel_rfl) (by kernel_rfl) (by kernel_rfl) (fun _ _ _ h => h) ?hye2 (by assumption) ?reste2
        case hie2 => simp only [gA, gS, gZ]; rfl
        case hye2 =>
          refine Or.inl ⟨by rfl, ?_⟩
          intro w hSw; (try dsimp only at hSw); go_simp <;> (with_reducible rfl)
        (try simp only [Act.put, pA, pZ, pS])
        refine wpAnyH_take (i := 3) (oi := ?oe3) (v := ?ve3) ?hie3 (by kernel_rfl) (by kernel_rfl) (by kernel_rfl) (fun _ _ _ h => h) ?hye3 (by assumption) ?reste3
        case hie3 => simp only [gA, gS, gZ]; rfl
        case hye3 =>
          refine Or.inl ⟨by rfl, ?_⟩
          intro w hSw; (try dsimp only at hSw); go_simp <;> (with_reducible rfl)
        (try simp only [Act.put, pA, pZ, pS])
        refine wpAnyH_take (i := 4) (oi := ?oe4) (v := ?ve4) ?hie4 (by kernel_rfl) (by kernel_rfl) (by kernel_rfl) (fun _ _ _ h => h) ?hye4 (by assumption) ?reste4
        case hie4 => simp only [gA, gS, gZ]; rfl
        case hye4 =>
          refine Or.inl ⟨by rfl, ?_⟩
          intro w hSw; (try dsimp only at hSw); go_simp <;> (with_reducible rfl)
        (try simp only [Act.put, pA, pZ, pS])
        refine wpAnyH_take (i := 5) (oi := ?oe5) (v := ?ve5) ?hie5 (by kernel_rfl) (by kernel_rfl) (by kernel_rfl) (fun _ _ _ h => h) ?hye5 (by assumption) ?reste5
        case hie5 => simp only [gA, gS, gZ]; rfl
        case hye5 =>
          refine Or.inl ⟨by rfl, ?_⟩
          intro w hSw; (try dsimp only at hSw); go_simp <;> (with_reducible rfl)
        (try simp only [Act.put, pA, pZ, pS])
        refine wpAnyH_take (i := 6) (oi := ?oe6) (v := ?ve6) ?hie6 (by kernel_rfl) (by kernel_rfl) (by kernel_rfl) (fun _ _ _ h => h) ?hye6 (by assumption) ?reste6
        case hie6 => simp only [gA, gS, gZ]; rfl
        case hye6 =>
          refine Or.inl ⟨by rfl, ?_⟩
          intro w hSw; (try dsimp only at hSw); go_simp <;> (with_reducible rfl)
        (try simp only [Act.put, pA, pZ, pS])
        refine wpAnyH_take (i := 8) (oi := ?oe8) (v := ?ve8) ?hie8 (by kernel_rfl) (by kernel_rfl) (by kernel_rfl) (fun _ _ _ h => h) ?hye8 (by assumption) ?reste8
        case hie8 => simp only [gA, gS, gZ]; rfl
        case hye8 =>
          refine Or.inl ⟨by rfl, ?_⟩
          intro w hSw; (try dsimp only at hSw); go_simp <;> (with_reducible rfl)
        (try simp only [Act.put, pA, pZ, pS])
        refine wpAnyH_take (i := 9) (oi := ?oe9) (v := ?ve9) ?hie9 (by kernel_rfl) (by kernel_rfl) (by kernel_rfl) (fun _ _ _ h => h) ?hye9 (by assumption) ?reste9
        case hie9 => simp only [gA, gS, gZ]; rfl
        case hye9 =>
          refine Or.inl ⟨by rfl, ?_⟩
          intro w hSw; (try dsimp only at hSw); go_simp <;> (with_reducible rfl)
        (try simp only [Act.put, pA, pZ, pS])
        refine wpAnyH_ready (rs := [7]) (by kernel_rfl) (by simp) ?_
        refine AllReadyH.cons rfl (fun K hK => ?_) AllReadyH.nil
        go_simp
        refine (HN _ D0.out.tabs).mono ?_; rintro e w1 ⟨rfl, hb⟩; have D1 := Lib.hid (D0.out.mono hb); have HS1 := Lib.hid (D1.out.all HGT.out HF2.out); clear hb
        refine hK.out _ _ HS1.out (fun hHelde7 => ?_)
        clear hK K
        (try simp only [Act.put, pA, pZ, pS])
        refine wpAnyH_take (i := 10) (oi := ?oe10) (v := ?ve10) ?hie10 (by kernel_rfl) (by kernel_rfl) (by kernel_rfl) (fun _ _ _ h => h) ?hye10 (by assumption) ?reste10
        case hie10 => simp only [gA, gS, gZ]; rfl
        case hye10 =>
          refine Or.inl ⟨by rfl, ?_⟩
          intro w hSw; (try dsimp only at hSw); go_simp <;> (with_reducible rfl)
        (try simp only [Act.put, pA, pZ, pS])
        refine wpAnyH_take (i := 11) (oi := ?oe11) (v := ?ve11) ?hie11 (by kernel_rfl) (by kernel_rfl) (by kernel_rfl) (fun _ _ _ h => h) ?hye11 (by assumption) ?reste11
        case hie11 => simp only [gA, gS, gZ]; rfl
        case hye11 =>
          refine Or.inl ⟨by rfl, ?_⟩
          intro w hSw; (try dsimp only at hSw); go_simp <;> (with_reducible rfl)
        (try simp only [Act.put, pA, pZ, pS])
        refine wpAnyH_take (i := 12) (oi := ?oe12) (v := ?ve12) ?hie12 (by kernel_rfl) (by kernel_rfl) (by kernel_rfl) (fun _ _ _ h => h) ?hye12 (by assumption) ?reste12
        case hie12 => simp only [gA, gS, gZ]; rfl
        case hye12 =>
          refine Or.inl ⟨by rfl, ?_⟩
          intro w hSw; (try dsimp only at hSw); go_simp <;> (with_reducible rfl)
        (try simp only [Act.put, pA, pZ, pS])
        refine wpAnyH_take (i := 13) (oi := ?oe13) (v := ?ve13) ?hie13 (by kernel_rfl) (by kernel_rfl) (by kernel_rfl) (fun _ _ _ h => h) ?hye13 (by assumption) ?reste13
        case hie13 => simp only [gA, gS, gZ]; rfl
        case hye13 =>
          refine Or.inl ⟨by rfl, ?_⟩
          intro w hSw; (try dsimp only at hSw); go_simp <;> (with_reducible rfl)
        (try simp only [Act.put, pA, pZ, pS])
        refine wpAnyH_take (i := 14) (oi := ?oe14) (v := ?ve14) ?hie14 (by kernel_rfl) (by kernel_rfl) (by kernel_rfl) (fun _ _ _ h => h) ?hye14 (by assumption) ?reste14
        case hie14 => simp only [gA, gS, gZ]; rfl
        case hye14 =>
          refine Or.inl ⟨by rfl, ?_⟩
          intro w hSw; (try dsimp only at hSw); go_simp <;> (with_reducible rfl)
        (try simp only [Act.put, pA, pZ, pS])
        refine wpAnyH_take (i := 15) (oi := ?oe15) (v := ?ve15) ?hie15 (by kernel_rfl) (by kernel_rfl) (by kernel_rfl) (fun _ _ _ h => h) ?hye15 (by assumption) ?reste15
        case hie15 => simp only [gA, gS, gZ]; rfl
        case hye15 =>
          refine Or.inl ⟨by rfl, ?_⟩
          intro w hSw; (try dsimp only at hSw); go_simp <;> (with_reducible rfl)
        (try simp only [Act.put, pA, pZ, pS])
        refine wpAnyH_take (i := 16) (oi := ?oe16) (v := ?ve16) ?hie16 (by kernel_rfl) (by kernel_rfl) (by kernel_rfl) (fun _ _ _ h => h) ?hye16 (by assumption) ?reste16
        case hie16 => simp only [gA, gS, gZ]; rfl
        case hye16 =>
          refine Or.inl ⟨by rfl, ?_⟩
          intro w hSw; (try dsimp only at hSw); go_simp <;> (with_reducible rfl)
        (try simp only [Act.put, pA, pZ, pS])
        refine wpAnyH_take (i := 17) (oi := ?oe17) (v := ?ve17) ?hie17 (by kernel_rfl) (by kernel_rfl) (by kernel_rfl) (fun _ _ _ h => h) ?hye17 (by assumption) ?reste17
        case hie17 => simp only [gA, gS, gZ]; rfl
        case hye17 =>
          refine Or.inl ⟨by rfl, ?_⟩
          intro w hSw; (try dsimp only at hSw); go_simp <;> (with_reducible rfl)
        (try simp only [Act.put, pA, pZ, pS])
        refine wpAnyH_take (i := 18) (oi := ?oe18) (v := ?ve18) ?hie18 (by kernel_rfl) (by kernel_rfl) (by kernel_rfl) (fun _ _ _ h => h) ?hye18 (by assumption) ?reste18
        case hie18 => simp only [gA, gS, gZ]; rfl
        case hye18 =>
          refine Or.inl ⟨by rfl, ?_⟩
          intro w hSw; (try dsimp only at hSw); go_simp <;> (with_reducible rfl)
        (try simp only [Act.put, pA, pZ, pS])
        refine wpAnyH_take (i := 19) (oi := ?oe19) (v := ?ve19) ?hie19 (by kernel_rfl) (by kernel_rfl) (by kernel_rfl) (fun _ _ _ h => h) ?hye19 (by assumption) ?reste19
        case hie19 => simp only [gA, gS, gZ]; rfl
        case hye19 =>
          refine Or.inl ⟨by rfl, ?_⟩
          intro w hSw; (try dsimp only at hSw); go_simp <;> (with_reducible rfl)
        (try simp only [Act.put, pA, pZ, pS])
        refine wpAnyH_take (i := 20) (oi := ?oe20) (v := ?ve20) ?hie20 (by kernel_rfl) (by kernel_rfl) (by kernel_rfl) (fun _ _ _ h => h) ?hye20 (by assumption) ?reste20
        case hie20 => simp only [gA, gS, gZ]; rfl
        case hye20 =>
          refine Or.inl ⟨by rfl, ?_⟩
          intro w hSw; (try dsimp only at hSw); go_simp <;> (with_reducible rfl)
        (try simp only [Act.put, pA, pZ, pS])
        refine wpAnyH_take (i := 21) (oi := ?oe21) (v := ?ve21) ?hie21 (by kernel_rfl) (by kernel_rfl) (by kernel_rfl) (fun _ _ _ h => h) ?hye21 (by assumption) ?reste21
        case hie21 => simp only [gA, gS, gZ]; rfl
        case hye21 =>
          refine Or.inl ⟨by rfl, ?_⟩
          intro w hSw; (try dsimp only at hSw); go_simp <;> (with_reducible rfl)
        (try simp only [Act.put, pA, pZ, pS])
        refine wpAnyH_ready (rs := [22]) (by kernel_rfl) (by simp) ?_
        refine AllReadyH.cons rfl (fun K hK => ?_) AllReadyH.nil
        go_simp
        refine (HM _ D1.out.vin D1.out.tabs).mono ?_; rintro e w2 ⟨rfl, hb⟩; have D2 := Lib.hid (D1.out.mono hb); have HS2 := Lib.hid (D2.out.all HGT.out HF2.out); clear hb
        refine hK.out _ _ HS2.out (fun hHelde22 => ?_)
        clear hK K
        (try simp only [Act.put, pA, pZ, pS])
        refine wpAnyH_take (i := 23) (oi := ?oe23) (v := ?ve23) ?hie23 (by kernel_rfl) (by kernel_rfl) (by kernel_rfl) (fun _ _ _ h => h) ?hye23 (by assumption) ?reste23
        case hie23 => simp only [gA, gS, gZ]; rfl
        case hye23 =>
          refine Or.inl ⟨by rfl, ?_⟩
          intro w hSw; (try dsimp only at hSw); go_simp <;> (with_reducible rfl)
        (try simp only [Act.put, pA, pZ, pS])
        refine wpAnyH_take (i := 24) (oi := ?oe24) (v := ?ve24) ?hie24 (by kernel_rfl) (by kernel_rfl) (by kernel_rfl) (fun _ _ _ h => h) ?hye24 (by assumption) ?reste24
        case hie24 => simp only [gA, gS, gZ]; rfl
        case hye24 =>
          refine Or.inl ⟨by rfl, ?_⟩
          intro w hSw; (try dsimp only at hSw); go_simp <;> (with_reducible rfl)
        (try simp only [Act.put, pA, pZ, pS])
        refine wpAnyH_take (i := 25) (oi := ?oe25) (v := ?ve25) ?hie25 (by kernel_rfl) (by kernel_rfl) (by kernel_rfl) (fun _ _ _ h => h) ?hye25 (by assumption) ?reste25
        case hie25 => simp only [gA, gS, gZ]; rfl
        case hye25 =>
          refine Or.inl ⟨by rfl, ?_⟩
          intro w hSw; (try dsimp only at hSw); go_simp <;> (with_reducible rfl)
        (try simp only [Act.put, pA, pZ, pS])
        refine wpAnyH_take (i := 26) (oi := ?oe26) (v := ?ve26) ?hie26 (by kernel_rfl) (by kernel_rfl) (by kernel_rfl) (fun _ _ _ h => h) ?hye26 (by assumption) ?reste26
        case hie26 => simp only [gA, gS, gZ]; rfl
        case hye26 =>
          refine Or.inl ⟨by rfl, ?_⟩
          intro w hSw; (try dsimp only at hSw); go_simp <;> (with_reducible rfl)
        (try simp only [Act.put, pA, pZ, pS])
        refine wpAnyH_take (i := 27) (oi := ?oe27) (v := ?ve27) ?hie27 (by kernel_rfl) (by kernel_rfl) (by kernel_rfl) (fun _ _ _ h => h) ?hye27 (by assumption) ?reste27
        case hie27 => simp only [gA, gS, gZ]; rfl
        case hye27 =>
          refine Or.inl ⟨by rfl, ?_⟩
          intro w hSw; (try dsimp only at hSw); go_simp <;> (with_reducible rfl)
        (try simp only [Act.put, pA, pZ, pS])
        refine wpAnyH_take (i := 28) (oi := ?oe28) (v := ?ve28) ?hie28 (by kernel_rfl) (by kernel_rfl) (by kernel_rfl) (fun _ _ _ h => h) ?hye28 (by assumption) ?reste28
        case hie28 => simp only [gA, gS, gZ]; rfl
        case hye28 =>
          refine Or.inl ⟨by rfl, ?_⟩
          intro w hSw; (try dsimp only at hSw); go_simp <;> (with_reducible rfl)
        (try simp only [Act.put, pA, pZ, pS])
        refine wpAnyH_ready (rs := [29]) (by kernel_rfl) (by simp) ?_
        refine AllReadyH.cons rfl (fun K hK => ?_) AllReadyH.nil
        go_simp
        refine (HW _ D2.out.vin).mono ?_; rintro e w3 ⟨rfl, hb⟩; have D3 := Lib.hid (D2.out.mono hb); have HS3 := Lib.hid (D3.out.all HGT.out HF2.out); clear hb
        refine hK.out _ _ HS3.out (fun hHelde29 => ?_)
        clear hK K
        (try simp only [Act.put, pA, pZ, pS])
        refine wpAnyH_take (i := 30) (oi := ?oe30) (v := ?ve30) ?hie30 (by kernel_rfl) (by kernel_rfl) (by kernel_rfl) (fun _ _ _ h => h) ?hye30 (by assumption) ?reste30
        case hie30 => simp only [gA, gS, gZ]; rfl
        case hye30 =>
          refine Or.inl ⟨by rfl, ?_⟩
          intro w hSw; (try dsimp only at hSw); go_simp <;> (with_reducible rfl)
        (try simp only [Act.put, pA, pZ, pS])
        refine wpAnyH_take (i := 31) (oi := ?oe31) (v := ?ve31) ?hie31 (by kernel_rfl) (by kernel_rfl) (by kernel_rfl) (fun _ _ _ h => h) ?hye31 (by assumption) ?reste31
        case hie31 => simp only [gA, gS, gZ]; rfl
        case hye31 =>
          refine Or.inl ⟨by rfl, ?_⟩
          intro w hSw; (try dsimp only at hSw); go_simp <;> (with_reducible rfl)
        (try simp only [Act.put, pA, pZ, pS])
        refine wpAnyH_done (by kernel_rfl) ?_ _
        refine NoPanic.normal ?_
        go_wp2_with fail
        go_ret
        exact ⟨rfl, D3.out.below⟩
      have HR2 : Hid (r0 = propsW many (qt :: met) (l.drop (j + 1))) := Lib.hid (by rw [HRn.out]; rfl)
      clear HRn HX
      refine wp_region_noPanic ?_
      refine wp_region_held_drew (S := (fun V => V.cell? ⟨wr.heap.size, 0, none⟩ = some (.bool true) ∧ V.cell? ⟨wr.heap.size, 1, none⟩ = some (.int .i64 qn) ∧ V.cell? ⟨wr.heap.size, 2, none⟩ = some (.string qt) ∧ V.cell? ⟨wr.heap.size, 3, none⟩ = some (.int .i64 v.k) ∧ V.cell? ⟨wr.heap.size, 4, none⟩ = some (.int .i64 v.n) ∧ V.cell? ⟨wr.heap.size, 5, none⟩ = some (.string v.t) ∧ V.cell? ⟨wr.heap.size, 6, none⟩ = some (.slice co v.xs.length cc) ∧ (Instr.lookup 104 (.map (some mb)) (.string qt) false).run Tryz.prog V = .ok (.bool false) V)) (by kernel_rfl) (by exact HS0.out) (fun hHeld => ?_)
      refine wpAnyH_take (i := 0) (oi := ?of0) (v := ?vf0) ?hif0 (by kernel_rfl) (by kernel_rfl) (by kernel_rfl) (fun _ _ _ h => h) ?hyf0 (by assumption) ?restf0
      case hif0 => simp only [gA, gZ]; rfl
      case hyf0 =>
        refine Or.inl ⟨by rfl, ?_⟩
        intro w hSw; (try dsimp only at hSw); go_simp <;> (with_reducible rfl)
      (try simp only [Act.put, pA, pZ, pS])
      refine wpAnyH_take (i := 1) (oi := ?of1) (v := ?vf1) ?hif1 (by kernel_rfl) (by kernel_rfl) (by kernel_rfl) (fun _ _ _ h => h) ?hyf1 (by assumption) ?restf1
      case hif1 => simp only [gA, gS, gZ]; rfl
      case hyf1 =>
        refine Or.inl ⟨by rfl, ?_⟩
        intro w hSw; (try dsimp only at hSw); go_simp <;> (with_reducible rfl)
      (try simp only [Act.put, pA, pZ, pS])
      refine wpAnyH_take (i := 2) (oi := ?of2) (v := ?vf2) ?hif2 (by kernel_rfl) (by kernel_rfl) (by kernel_rfl) (fun _ _ _ h => h) ?hyf2 (by assumption) ?restf2
      case hif2 => simp only [gA, gS, gZ]; rfl
      case hyf2 =>
        refine Or.inl ⟨by rfl, ?_⟩
        intro w hSw; (try dsimp only at hSw); go_simp <;> (with_reducible rfl)
      (try simp only [Act.put, pA, pZ, pS])
      refine wpAnyH_take (i := 3) (oi := ?of3) (v := ?vf3) ?hif3 (by kernel_rfl) (by kernel_rfl) (by kernel_rfl) (fun _ _ _ h => h) ?hyf3 (by assumption) ?restf3
      case hif3 => simp only [gA, gS, gZ]; rfl
      case hyf3 =>
        refine Or.inl ⟨by rfl, ?_⟩
        intro w hSw; (try dsimp only at hSw); go_simp <;> (with_reducible rfl)
      (try simp only [Act.put, pA, pZ, pS])
      refine wpAnyH_take (i := 4) (oi := ?of4) (v := ?vf4) ?hif4 (by kernel_rfl) (by kernel_rfl) (by kernel_rfl) (fun _ _ _ h => h) ?hyf4 (by assumption) ?restf4
      case hif4 => simp only [gA, gS, gZ]; rfl
      case hyf4 =>
        refine Or.inl ⟨by rfl, ?_⟩
        intro w hSw; (try dsimp only at hSw); go_simp <;> (with_reducible rfl)
      (try simp only [Act.put, pA, pZ, pS])
      refine wpAnyH_take (i := 5) (oi := ?of5) (v := ?vf5) ?hif5 (by kernel_rfl) (by kernel_rfl) (by kernel_rfl) (fun _ _ _ h => h) ?hyf5 (by assumption) ?restf5
      case hif5 => simp only [gA, gS, gZ]; rfl
      case hyf5 =>
        refine Or.inl ⟨by rfl, ?_⟩
        intro w hSw; (try dsimp only at hSw); go_simp <;> (with_reducible rfl)
      (try simp only [Act.put, pA, pZ, pS])
      refine wpAnyH_take (i := 6) (oi := ?of6) (v := ?vf6) ?hif6 (by kernel_rfl) (by kernel_rfl) (by kernel_rfl) (fun _ _ _ h => h) ?hyf6 (by assumption) ?restf6
      case hif6 => simp only [gA, gS, gZ]; rfl
      case hyf6 =>
        refine Or.inl ⟨by rfl, ?_⟩
        intro w hSw; (try dsimp only at hSw); go_simp <;> (with_reducible rfl)
      (try simp only [Act.put, pA, pZ, pS])
      refine wpAnyH_take (i := 8) (oi := ?of8) (v := ?vf8) ?hif8 (by kernel_rfl) (by kernel_rfl) (by kernel_rfl) (fun _ _ _ h => h) ?hyf8 (by assumption) ?restf8
      case hif8 => simp only [gA, gS, gZ]; rfl
      case hyf8 =>
        refine Or.inl ⟨by rfl, ?_⟩
        intro w hSw; (try dsimp only at hSw); go_simp <;> (with_reducible rfl)
      (try simp only [Act.put, pA, pZ, pS])
      refine wpAnyH_take (i := 9) (oi := ?of9) (v := ?vf9) ?hif9 (by kernel_rfl) (by kernel_rfl) (by kernel_rfl) (fun _ _ _ h => h) ?hyf9 (by assumption) ?restf9
      case hif9 => simp only [gA, gS, gZ]; rfl
      case hyf9 =>
        refine Or.inl ⟨by rfl, ?_⟩
        intro w hSw; (try dsimp only at hSw); go_simp <;> (with_reducible rfl)
      (try simp only [Act.put, pA, pZ, pS])
      refine wpAnyH_ready (rs := [7]) (by kernel_rfl) (by simp) ?_
      refine AllReadyH.cons rfl (fun K hK => ?_) AllReadyH.nil
      go_simp
      refine (HN _ D0.out.tabs).mono ?_; rintro e w1 ⟨rfl, hb⟩; have D1 := Lib.hid (D0.out.mono hb); have HS1 := Lib.hid (D1.out.all HGT.out HF2.out); clear hb
      refine hK.out _ _ HS1.out (fun hHeldf7 => ?_)
      clear hK K
      (try simp only [Act.put, pA, pZ, pS])
      refine wpAnyH_take (i := 10) (oi := ?of10) (v := ?vf10) ?hif10 (by kernel_rfl) (by kernel_rfl) (by kernel_rfl) (fun _ _ _ h => h) ?hyf10 (by assumption) ?restf10
      case hif10 => simp only [gA, gS, gZ]; rfl
      case hyf10 =>
        refine Or.inl ⟨by rfl, ?_⟩
        intro w hSw; (try dsimp only at hSw); go_simp <;> (with_reducible rfl)
      (try simp only [Act.put, pA, pZ, pS])
      refine wpAnyH_take (i := 11) (oi := ?of11) (v := ?vf11) ?hif11 (by kernel_rfl) (by kernel_rfl) (by kernel_rfl) (fun _ _ _ h => h) ?hyf11 (by assumption) ?restf11
      case hif11 => simp only [gA, gS, gZ]; rfl
      case hyf11 =>
        refine Or.inl ⟨by rfl, ?_⟩
        intro w hSw; (try dsimp only at hSw); go_simp <;> (with_reducible rfl)
      (try simp only [Act.put, pA, pZ, pS])
      refine wpAnyH_take (i := 12) (oi := ?of12) (v := ?vf12) ?hif12 (by kernel_rfl) (by kernel_rfl) (by kernel_rfl) (fun _ _ _ h => h) ?hyf12 (by assumption) ?restf12
      case hif12 => simp only [gA, gS, gZ]; rfl
      case hyf12 =>
        refine Or.inl ⟨by rfl, ?_⟩
        intro w hSw; (try dsimp only at hSw); go_simp <;> (with_reducible rfl)
      (try simp only [Act.put, pA, pZ, pS])
      refine wpAnyH_take (i := 13) (oi := ?of13) (v := ?vf13) ?hif13 (by kernel_rfl) (by kernel_rfl) (by kernel_rfl) (fun _ _ _ h => h) ?hyf13 (by assumption) ?restf13
      case hif13 => simp only [gA, gS, gZ]; rfl
      case hyf13 =>
        refine Or.inl ⟨by rfl, ?_⟩
        intro w hSw; (try dsimp only at hSw); go_simp <;> (with_reducible rfl)
      (try simp only [Act.put, pA, pZ, pS])
      refine wpAnyH_take (i := 14) (oi := ?of14) (v := ?vf14) ?hif14 (by kernel_rfl) (by kernel_rfl) (by kernel_rfl) (fun _ _ _ h => h) ?hyf14 (by assumption) ?restf14
      case hif14 => simp only [gA, gS, gZ]; rfl
      case hyf14 =>
        refine Or.inl ⟨by rfl, ?_⟩
        intro w hSw; (try dsimp only at hSw); go_simp <;> (with_reducible rfl)
      (try simp only [Act.put, pA, pZ, pS])
      refine wpAnyH_take (i := 15) (oi := ?of15) (v := ?vf15) ?hif15 (by kernel_rfl) (by kernel_rfl) (by kernel_rfl) (fun _ _ _ h => h) ?hyf15 (by assumption) ?restf15
      case hif15 => simp only [gA, gS, gZ]; rfl
      case hyf15 =>
        refine Or.inl ⟨by rfl, ?_⟩
        intro w hSw; (try dsimp only at hSw); go_simp <;> (with_reducible rfl)
      (try simp only [Act.put, pA, pZ, pS])
      refine wpAnyH_take (i := 16) (oi := ?of16) (v := ?vf16) ?hif16 (by kernel_rfl) (by kernel_rfl) (by kernel_rfl) (fun _ _ _ h => h) ?hyf16 (by assumption) ?restf16
      case hif16 => simp only [gA, gS, gZ]; rfl
      case hyf16 =>
        refine Or.inl ⟨by rfl, ?_⟩
        intro w hSw; (try dsimp only at hSw); go_simp <;> (with_reducible rfl)
      (try simp only [Act.put, pA, pZ, pS])
      refine wpAnyH_take (i := 17) (oi := ?of17) (v := ?vf17) ?hif17 (by kernel_rfl) (by kernel_rfl) (by kernel_rfl) (fun _ _ _ h => h) ?hyf17 (by assumption) ?restf17
      case hif17 => simp only [gA, gS, gZ]; rfl
      case hyf17 =>
        refine Or.inl ⟨by rfl, ?_⟩
        intro w hSw; (try dsimp only at hSw); go_simp <;> (with_reducible rfl)
      (try simp only [Act.put, pA, pZ, pS])
      refine wpAnyH_take (i := 18) (oi := ?of18) (v := ?vf18) ?hif18 (by kernel_rfl) (by kernel_rfl) (by kernel_rfl) (fun _ _ _ h => h) ?hyf18 (by assumption) ?restf18
      case hif18 => simp only [gA, gS, gZ]; rfl
      case hyf18 =>
        refine Or.inl ⟨by rfl, ?_⟩
        intro w hSw; (try dsimp only at hSw); go_simp <;> (with_reducible rfl)
      (try simp only [Act.put, pA, pZ, pS])
      refine wpAnyH_take (i := 19) (oi := ?of19) (v := ?vf19) ?hif19 (by kernel_rfl) (by kernel_rfl) (by kernel_rfl) (fun _ _ _ h => h) ?hyf19 (by assumption) ?restf19
      case hif19 => simp only [gA, gS, gZ]; rfl
      case hyf19 =>
        refine Or.inl ⟨by rfl, ?_⟩
        intro w hSw; (try dsimp only at hSw); go_simp <;> (with_reducible rfl)
      (try simp only [Act.put, pA, pZ, pS])
      refine wpAnyH_take (i := 20) (oi := ?of20) (v := ?vf20) ?hif20 (by kernel_rfl) (by kernel_rfl) (by kernel_rfl) (fun _ _ _ h => h) ?hyf20 (by assumption) ?restf20
      case hif20 => simp only [gA, gS, gZ]; rfl
      case hyf20 =>
        refine Or.inl ⟨by rfl, ?_⟩
        intro w hSw; (try dsimp only at hSw); go_simp <;> (with_reducible rfl)
      (try simp only [Act.put, pA, pZ, pS])
      refine wpAnyH_take (i := 21) (oi := ?of21) (v := ?vf21) ?hif21 (by kernel_rfl) (by kernel_rfl) (by kernel_rfl) (fun _ _ _ h => h) ?hyf21 (by assumption) ?restf21
      case hif21 => simp only [gA, gS, gZ]; rfl
      case hyf21 =>
        refine Or.inl ⟨by rfl, ?_⟩
        intro w hSw; (try dsimp only at hSw); go_simp <;> (with_reducible rfl)
      (try simp only [Act.put, pA, pZ, pS])
      refine wpAnyH_ready (rs := [22]) (by kernel_rfl) (by simp) ?_
      refine AllReadyH.cons rfl (fun K hK => ?_) AllReadyH.nil
      go_simp
      refine (HM _ D1.out.vin D1.out.tabs).mono ?_; rintro e w2 ⟨rfl, hb⟩; have D2 := Lib.hid (D1.out.mono hb); have HS2 := Lib.hid (D2.out.all HGT.out HF2.out); clear hb
      refine hK.out _ _ HS2.out (fun hHeldf22 => ?_)
      clear hK K
      (try simp only [Act.put, pA, pZ, pS])
      refine wpAnyH_take (i := 23) (oi := ?of23) (v := ?vf23) ?hif23 (by kernel_rfl) (by kernel_rfl) (by kernel_rfl) (fun _ _ _ h => h) ?hyf23 (by assumption) ?restf23
      case hif23 => simp only [gA, gS, gZ]; rfl
      case hyf23 =>
        refine Or.inl ⟨by rfl, ?_⟩
        intro w hSw; (try dsimp only at hSw); go_simp <;> (with_reducible rfl)
      (try simp only [Act.put, pA, pZ, pS])
      refine wpAnyH_take (i := 24) (oi := ?of24) (v := ?vf24) ?hif24 (by kernel_rfl) (by kernel_rfl) (by kernel_rfl) (fun _ _ _ h => h) ?hyf24 (by assumption) ?restf24
      case hif24 => simp only [gA, gS, gZ]; rfl
      case hyf24 =>
        refine Or.inl ⟨by rfl, ?_⟩
        intro w hSw; (try dsimp only at hSw); go_simp <;> (with_reducible rfl)
      (try simp only [Act.put, pA, pZ, pS])
      refine wpAnyH_take (i := 25) (oi := ?of25) (v := ?vf25) ?hif25 (by kernel_rfl) (by kernel_rfl) (by kernel_rfl) (fun _ _ _ h => h) ?hyf25 (by assumption) ?restf25
      case hif25 => simp only [gA, gS, gZ]; rfl
      case hyf25 =>
        refine Or.inl ⟨by rfl, ?_⟩
        intro w hSw; (try dsimp only at hSw); go_simp <;> (with_reducible rfl)
      (try simp only [Act.put, pA, pZ, pS])
      refine wpAnyH_take (i := 26) (oi := ?of26) (v := ?vf26) ?hif26 (by kernel_rfl) (by kernel_rfl) (by kernel_rfl) (fun _ _ _ h => h) ?hyf26 (by assumption) ?restf26
      case hif26 => simp only [gA, gS, gZ]; rfl
      case hyf26 =>
        refine Or.inl ⟨by rfl, ?_⟩
        intro w hSw; (try dsimp only at hSw); go_simp <;> (with_reducible rfl)
      (try simp only [Act.put, pA, pZ, pS])
      refine wpAnyH_take (i := 27) (oi := ?of27) (v := ?vf27) ?hif27 (by kernel_rfl) (by kernel_rfl) (by kernel_rfl) (fun _ _ _ h => h) ?hyf27 (by assumption) ?restf27
      case hif27 => simp only [gA, gS, gZ]; rfl
      case hyf27 =>
        refine Or.inl ⟨by rfl, ?_⟩
        intro w hSw; (try dsimp only at hSw); go_simp <;> (with_reducible rfl)
      (try simp only [Act.put, pA, pZ, pS])
      refine wpAnyH_take (i := 28) (oi := ?of28) (v := ?vf28) ?hif28 (by kernel_rfl) (by kernel_rfl) (by kernel_rfl) (fun _ _ _ h => h) ?hyf28 (by assumption) ?restf28
      case hif28 => simp only [gA, gS, gZ]; rfl
      case hyf28 =>
        refine Or.inl ⟨by rfl, ?_⟩
        intro w hSw; (try dsimp only at hSw); go_simp <;> (with_reducible rfl)
      (try simp only [Act.put, pA, pZ, pS])
      refine wpAnyH_ready (rs := [29]) (by kernel_rfl) (by simp) ?_
      refine AllReadyH.cons rfl (fun K hK => ?_) AllReadyH.nil
      go_simp
      refine (HW _ D2.out.vin).mono ?_; rintro e w3 ⟨rfl, hb⟩; have D3 := Lib.hid (D2.out.mono hb); have HS3 := Lib.hid (D3.out.all HGT.out HF2.out); clear hb
      refine hK.out _ _ HS3.out (fun hHeldf29 => ?_)
      clear hK K
      (try simp only [Act.put, pA, pZ, pS])
      refine wpAnyH_take (i := 30) (oi := ?of30) (v := ?vf30) ?hif30 (by kernel_rfl) (by kernel_rfl) (by kernel_rfl) (fun _ _ _ h => h) ?hyf30 (by assumption) ?restf30
      case hif30 => simp only [gA, gS, gZ]; rfl
      case hyf30 =>
        refine Or.inl ⟨by rfl, ?_⟩
        intro w hSw; (try dsimp only at hSw); go_simp <;> (with_reducible rfl)
      (try simp only [Act.put, pA, pZ, pS])
      refine wpAnyH_take (i := 31) (oi := ?of31) (v := ?vf31) ?hif31 (by kernel_rfl) (by kernel_rfl) (by kernel_rfl) (fun _ _ _ h => h) ?hyf31 (by assumption) ?restf31
      case hif31 => simp only [gA, gS, gZ]; rfl
      case hyf31 =>
        refine Or.inl ⟨by rfl, ?_⟩
        intro w hSw; (try dsimp only at hSw); go_simp <;> (with_reducible rfl)
      (try simp only [Act.put, pA, pZ, pS])
      refine wpAnyH_done (by kernel_rfl) ?_ _
      refine NoPanic.normal ?_
      obtain ⟨w4, hput0, i4, g4⟩ := D3.out.map.put (by have h1 := MX.out.1; have h2 := HLT.out; have h3 := HLN.out; unfold maxLen; omega) (x := qt) HGT.out (a := true) trivial
      have hput : (Instr.mapUpdate 104 (.map (some mb)) (.string qt) (.bool true)).run Tryz.prog w3 = .ok () w4 := hput0
      have X4 : Hid (mSB.Is w4 mb (metS (qt :: met)) (if (metS met qt).isSome = true then cnt else cnt + 1) ∧ w4.heap[w.heap.size]? = some (.cells #[.string cls, .slice (some ⟨g, off, none⟩) l.length cap] 48 (0, 0)) ∧ Below w.heap.size w w4) :=
        Lib.hid ⟨i4.congr (fun y _ => congrFun (metS_put met qt).symm y), (g4.block _ (lt_of_block D3.out.box) (fun e => by have := Option.some.inj e; have := HMB.out; omega)).trans D3.out.box,
          D3.out.below.trans ⟨g4.os, g4.tape, g4.output, g4.size, fun k hk => g4.block k (Nat.lt_of_lt_of_le hk D3.out.below.size) (fun e => by have := Option.some.inj e; have := HMB.out; omega)⟩⟩
      have HCN : Hid ((if (metS met qt).isSome = true then cnt else cnt + 1) ≤ j + 1) := Lib.hid (by have := MX.out.1; split <;> omega)
      generalize (if (metS met qt).isSome = true then cnt else cnt + 1) = cnt' at X4 HCN
      obtain ⟨b0, b1, b2, b3, b4, b5, b6, -⟩ := HS3.out
      simp only at b0 b1 b2 b3 b4 b5 b6
      clear hput0 i4 g4 hN HN HM HW
      go_wp2_with fail
      go_roundw
      case rel => exact ⟨j + 1, qt :: met, cnt', HLT.out, by go_num, HR2, Lib.hid ⟨HCN.out, X4.out⟩⟩
      case measure => have := HLT.out; simp [intOf]; omega
    · obtain rfl : j = l.length := by omega
      have hrt : r0 = true := by rw [HX.out, List.drop_length]; rfl
      subst hrt
      go_wp2_with fail
      go_ret
      exact ⟨rfl, MX.out.2.2.2⟩
end Go.Proofs.YtnaefnojmiolbaaGreatDoor

namespace Go.Proofs.YtnaefnojmiolbaaGreatDoor
open Go.RowKit Go.Shelf

attribute [local go_sem] yld_undef
/-- What write leaves. -/
def W44 (w : World) (x : WR) (e : Ending) (w' : World) : Prop :=
  Below w.heap.size w w' ∧ match x with
  | .ok S => e = .returned (.tuple #[.string (str S.t), .agg #[.int .i64 0, .int .i64 0]])
  | .error c => e = .returned (.tuple #[.string ⟨#[]⟩, .agg #[.int .i64 c, .int .i64 0]])
theorem ThAt.under {w w' : World} {tv : Value} {F : List TP} (h : ThAt w tv F) (hb : Below w.heap.size w w') : ThAt w' tv F := by
  obtain ⟨ta, tc, e, hl, h⟩ := h
  refine ⟨ta, tc, e, hl, fun i hi => ?_⟩
  obtain ⟨g, off, c, e1, hg, hv, c0, c1⟩ := h i hi
  exact ⟨g, off, c, e1, Nat.lt_of_lt_of_le hg hb.size, hv.under hb, (hb.cell (p := ⟨g, off + i * 2, none⟩) hg).trans c0, (hb.cell (p := ⟨g, off + i * 2 + 1, none⟩) hg).trans c1⟩
theorem bracesW_some {sub : Option PutF} {l : List It} {S S' : WS} (h : bracesW sub l S = .ok S') : S'.t ≠ [] := by
  unfold bracesW at h
  split at h
  · cases h
  · split at h
    · cases h
    · cases h; simp
/-- Something is written. -/
theorem graphW_some {F : List TP} {N : Nat} {sub : Option PutF} {y : VT} {S S' : WS} (hy : WOk N y) (h : graphW F sub y S = .ok S') : S'.t ≠ [] := by
  unfold graphW at h
  cases hy with
  | mk k n t l hk hn hkk ht hx hs hlx =>
  have hk5 : k = 0 ∨ k = 1 ∨ k = 2 ∨ k = 3 ∨ k = 4 ∨ k = 5 := by omega
  rcases hk5 with rfl | rfl | rfl | rfl | rfl | rfl
  · rw [valueW_0] at h; cases h; simp
  · rw [valueW_1] at h; cases h; simp
  · rw [valueW_2] at h; cases h; simp
  · rw [valueW_3] at h; cases h; simp [textW]
  · rw [valueW_4] at h; exact bracesW_some h
  · rw [valueW_5] at h
    unfold objectW at h
    split at h
    · cases h; simp
    · split at h
      · cases h
      · exact bracesW_some h
theorem Wr.new {w0 : World} (ht : Tabs w0) (N : Nat) (tv : Value) : Wr w0 N tv (w0.heap.size + 1) w0.heap.size ((w0.alloc (.map #[] 0)).alloc (.cells #[.pointer none, .slice none 0 0, tv, .map (some w0.heap.size)] 110)) (.pointer none) (.slice none 0 0) ⟨[], []⟩ := by
  have hb : Below w0.heap.size w0 ((w0.alloc (.map #[] 0)).alloc (.cells #[.pointer none, .slice none 0 0, tv, .map (some w0.heap.size)] 110)) := ((Below.refl _ _).alloc (Nat.le_refl _) _).alloc (by simp) _
  have hm := (MSpec.made (S := mII) w0).congr (G := begunF []) (fun _ _ => rfl)
  refine ⟨⟨by have := heap_alloc_new (w0.alloc (.map #[] 0)) (.cells #[.pointer none, .slice none 0 0, tv, .map (some w0.heap.size)] 110); simpa using this, Owns.empty _ _ _, by simp [Value.ownBlock], .inl rfl, .inr ⟨rfl, rfl⟩⟩, hm.under (below_alloc1 _ _), hb, Nat.le_succ _, Nat.le_refl _, fun g e => by simp [Value.ownBlock] at e, ht, List.nodup_nil, fun x hx => by cases hx⟩
set_option maxHeartbeats 12800000 in
set_option maxRecDepth 100000 in
theorem write_any (F : List TP) {w : World} {tv : Value} {y : VT} {c : Value} (hF : ThAt w tv F) (hFo : FOkW F.length F) (hv : VIn w c y.xs) (ho : WOk F.length y) (ht : Tabs w) : Calls Tryz.prog 44 #[y.v c, tv] w (W44 w (gvalW F 64 y ⟨[], []⟩)) := by
  obtain ⟨ao, cap, rfl, hlen⟩ := hv.form
  obtain ⟨ta, tc, htv, -⟩ := id hF
  subst htv
  obtain ⟨x, hx⟩ : ∃ x, x = gvalW F 64 y ⟨[], []⟩ := ⟨_, rfl⟩
  have hne : ∀ S', x = .ok S' → S'.t ≠ [] := fun S' e => graphW_some (sub := some (gvalW F 63)) ho (hx.symm.trans e)
  obtain ⟨k, n, t, l⟩ := y
  have hb2 : Below w.heap.size w ((w.alloc (.cells #[.int .i64 k, .int .i64 n, .string t, .slice ao l.length cap] 24)).alloc (.cells #[.int .i64 0, .int .i64 0] 33)) := ((Below.refl _ w).alloc (Nat.le_refl _) _).alloc (by simp) _
  have HV := wgraph_any F (hF.under hb2) hFo 64 (Nat.le_refl _) (Wr.new (ht.mono hb2) F.length (.slice ta F.length tc)) (by simp) (hv.under hb2) ho
  rw [← hx, show (64 - ((64 : Nat) : Int)) = 0 by omega] at HV
  rw [← hx]
  have hsz : ((w.alloc (.cells #[.int .i64 k, .int .i64 n, .string t, .slice ao l.length cap] 24)).alloc (.cells #[.int .i64 0, .int .i64 0] 33)).heap.size = w.heap.size + 1 + 1 := by simp
  simp only [VT.v, VT.k, VT.n, VT.t, VT.xs] at HV ⊢
  rw [hsz] at HV
  have HA : Hid (((w.alloc (.cells #[.int .i64 k, .int .i64 n, .string t, .slice ao l.length cap] 24)).alloc (.cells #[.int .i64 0, .int .i64 0] 33)).heap[w.heap.size]? = some (.cells #[.int .i64 k, .int .i64 n, .string t, .slice ao l.length cap] 24 (0, 0))) := Lib.hid (alloc_blk (heap_alloc_new w _) _)
  have HFB : Hid (((w.alloc (.cells #[.int .i64 k, .int .i64 n, .string t, .slice ao l.length cap] 24)).alloc (.cells #[.int .i64 0, .int .i64 0] 33)).heap[w.heap.size + 1]? = some (.cells #[.int .i64 0, .int .i64 0] 33 (0, 0))) := Lib.hid (by have := heap_alloc_new (w.alloc (.cells #[.int .i64 k, .int .i64 n, .string t, .slice ao l.length cap] 24)) (.cells #[.int .i64 0, .int .i64 0] 33); simpa using this)
  have HB := Lib.hid hb2
  have HNE := Lib.hid hne
  obtain ⟨z0, z1, z2, z3⟩ := vb4 (alloc_blk (alloc_blk HA.out (.map #[] 0)) (.cells #[.pointer none, .slice none 0 0, .slice ta F.length tc, .map (some ((w.alloc (.cells #[.int .i64 k, .int .i64 n, .string t, .slice ao l.length cap] 24)).alloc (.cells #[.int .i64 0, .int .i64 0] 33)).heap.size)] 110))
  have hmm := @run_makeMap Tryz.prog
  clear hF hv ho ht hb2 hx hne
  rw [hsz] at z0 z1 z2 z3
  clear hsz
  go_enter_defers Tryz.func44, Tryz.ntmps44
  go_wp2_with fail
  rcases x with er | S2
  · refine HV.mono ?_
    rintro _ w5 ⟨rfl, hb5⟩
    have HF5 := (hb5.block _ (lt_of_block HFB.out)).trans HFB.out
    have HA5 := (hb5.block _ (lt_of_block HA.out)).trans HA.out
    go_wp2_with fail
    refine leaves_cons (f := 81) (args := #[.pointer (some ⟨w.heap.size + 1, 0, none⟩)]) (by simp) (by simp [go_sem]) ?_
    refine (caught_panicking (w.heap.size + 1) er 0 0 0 _ HF5).mono ?_
    rintro e u' w6 ⟨rfl, rfl, rfl⟩
    obtain ⟨-, -, -, -, q0, q1, hb⟩ := caught_cells HF5 HA5 er 0
    have hb6 := HB.out.trans (hb5.mono HB.out.size)
    refine ⟨.tuple #[.string ⟨#[]⟩, .agg #[.int .i64 er, .int .i64 0]], by simp [results, Tryz.results44, go_sem, q0, q1], hb6.trans (hb _ hb6.size (Nat.le_succ _)), rfl⟩
  · refine HV.mono ?_
    rintro _ w5 ⟨rfl, ⟨p5, v5, hW5⟩, hK5⟩
    have HS := bstring_any hW5.bd (HNE.out _ rfl)
    have HW5 := Lib.hid hW5
    clear hW5 hK5
    go_wp2_with fail
    refine HS.mono ?_
    rintro _ w6 ⟨rfl, m6⟩
    have hb6 := below_mod HW5.out.below m6 HW5.out.below.size HW5.out.hv
    have HF6 := (hb6.block _ (lt_of_block HFB.out)).trans HFB.out
    have f0 := free_blk HF6 0; have f1 := free_blk HF6 1; have e0 := cell_blk HF6 0; have e1 := cell_blk HF6 1
    have HB6 := Lib.hid (HB.out.trans (hb6.mono HB.out.size))
    clear HS m6 hb6
    go_wp2_with fail
    have b7 := set_blk (set_blk HF6 0 (.int .i64 0)) 1 (.int .i64 0)
    have b7 : ((w6.setCell ⟨w.heap.size + 1, 0, none⟩ (.int .i64 0)).setCell ⟨w.heap.size + 1, 1, none⟩ (.int .i64 0)).heap[w.heap.size + 1]? = some (.cells #[.int .i64 0, .int .i64 0] 33 (0, 0)) := by simpa using b7
    have b8 := alloc_blk b7 (.cells #[.int .i64 0, .int .i64 0] 141)
    have q0 := cell_blk b8 0
    have q1 := cell_blk b8 1
    have h7 : Below w.heap.size w (((w6.setCell ⟨w.heap.size + 1, 0, none⟩ (.int .i64 0)).setCell ⟨w.heap.size + 1, 1, none⟩ (.int .i64 0)).alloc (.cells #[.int .i64 0, .int .i64 0] 141)) := ((HB6.out.setCell (p := ⟨w.heap.size + 1, 0, none⟩) (Nat.le_succ _) _).setCell (p := ⟨w.heap.size + 1, 1, none⟩) (Nat.le_succ _) _).alloc (by have := HB6.out.size; simpa using this) _
    refine leaves_cons (f := 81) (args := #[.pointer (some ⟨w.heap.size + 1, 0, none⟩)]) (by simp) (by simp [go_sem]) ?_
    refine (caught_idle (w.heap.size + 1) _).mono ?_
    rintro e u' w8 ⟨rfl, rfl, rfl⟩
    exact ⟨.tuple #[.string (str S2.t), .agg #[.int .i64 0, .int .i64 0]], by simp [results, Tryz.results44, go_sem, q0, q1], h7, rfl⟩
end Go.Proofs.YtnaefnojmiolbaaGreatDoor

namespace Go.Proofs.YtnaefnojmiolbaaGreatDoor
open Go.RowKit

attribute [local go_sem] yld_undef
/-- What Pack leaves. -/
def PackPost (w : World) (r : ByteArray × Int) (e : Ending) (w' : World) : Prop := e = .returned (.tuple #[.string r.1, .int .i64 r.2]) ∧ Below w.heap.size w w'
theorem thingsW_cons (many left : Int) (t : TP) (r : List TP) : thingsW many left (t :: r) = (!decide (leftL t.2 (left - t.2.length) < 0) && (thingW t many && thingsW many (leftL t.2 (left - t.2.length)) r)) := by
  rw [thingsW]
  by_cases h : leftL t.2 (left - t.2.length) < 0
  · simp [h]
  · cases thingW t many <;> simp [h]
set_option maxHeartbeats 12800000 in
set_option maxRecDepth 100000 in
theorem pack_any (F : List TP) {w : World} {tv : Value} {y : VT} {c : Value} (hF : ThAt w tv F) (hg : GoodS y) (hv : VIn w c y.xs) (hT : ∀ th ∈ F, th.1.size ≤ 1073741824 ∧ ∀ x ∈ th.2, KG x.1 ∧ GoodS x.2) (ht : Tabs w) :
    Calls Tryz.prog 17 #[y.v c, tv] w (PackPost w (packP y F)) := by
  obtain ⟨ao, cap, rfl, hlen⟩ := hv.form
  obtain ⟨ta, tc, htv, hFl, hth⟩ := id hF
  subst htv
  obtain ⟨x, hx⟩ : ∃ x, x = packP y F := ⟨_, rfl⟩
  rw [← hx]
  unfold packP at hx
  obtain ⟨f1, hf1⟩ : ∃ e, rightV y = e := ⟨_, rfl⟩
  obtain ⟨f2, hf2⟩ : ∃ e, withinV y F.length = e := ⟨_, rfl⟩
  obtain ⟨r, hr⟩ : ∃ e, thingsW F.length (leftV y 2048) F = e := ⟨_, rfl⟩
  obtain ⟨n0, hn0⟩ : ∃ e, leftV y 2048 = e := ⟨_, rfl⟩
  obtain ⟨gx, hgx⟩ : ∃ e, gvalW F 64 y ⟨[], []⟩ = e := ⟨_, rfl⟩
  have hn0b : f1 = true → 0 ≤ n0 ∧ n0 ≤ 2048 := fun e => by
    rw [← hf1] at e
    unfold rightV at e
    rw [Bool.and_eq_true, decide_eq_true_eq, hn0] at e
    have := leftV_le y 2048 (by omega) (fun _ _ => trivial)
    omega
  have hwr : f1 = true → f2 = true → r = true → FOkW F.length F ∧ WOk F.length y := fun e1 e2 e3 => by
    rw [← hf1] at e1
    unfold rightV at e1
    rw [Bool.and_eq_true] at e1
    rw [← hf2] at e2
    rw [← hr] at e3
    exact ⟨thingsW_wok e3 (fun th hm => ⟨(hT th hm).1, by
      obtain ⟨i, hi, rfl⟩ := List.getElem_of_mem hm
      obtain ⟨g, off, cx, -, -, hvx, -⟩ := hth i hi
      obtain ⟨_, _, _, h⟩ := hvx.form
      exact h, (hT th hm).2⟩), wok_of F.length y 0 hg e1.2 e2⟩
  rw [hf1, hf2, hr, hgx] at hx
  rw [hn0] at hr
  have HX := Lib.hid hx
  have HN0 := Lib.hid hn0b
  have HWR := Lib.hid hwr
  have HRI := Lib.hid hr
  have HTH := Lib.hid hth
  have HTT := Lib.hid hT
  have HFF := Lib.hid hF
  have HVV := Lib.hid hv
  have HTA := Lib.hid (fun W' hb => ht.mono hb : ∀ W', Below w.heap.size w W' → Tabs W')
  have HGX := Lib.hid hgx
  have HR : ∀ W, VIn W (.slice ao y.xs.length cap) y.xs → Tabs W → Calls Tryz.prog 24 #[.agg #[.int .i64 y.k, .int .i64 y.n, .string y.t, .slice ao y.xs.length cap]] W (BoolPost W f1) := fun W h1 h2 => by rw [← hf1]; exact right_any y hg.1 W _ h1 h2
  have HW : ∀ W, VIn W (.slice ao y.xs.length cap) y.xs → Calls Tryz.prog 41 #[.agg #[.int .i64 y.k, .int .i64 y.n, .string y.t, .slice ao y.xs.length cap], .int .i64 (F.length : Int)] W (BoolPost W f2) := fun W h1 => by rw [← hf2]; exact within_any y W _ _ h1
  have HM : ∀ W, VIn W (.slice ao y.xs.length cap) y.xs → Calls Tryz.prog 42 #[.agg #[.int .i64 y.k, .int .i64 y.n, .string y.t, .slice ao y.xs.length cap], .int .i64 2048] W (IntPost W n0) := fun W h1 => by rw [← hn0]; exact room_any y W _ 2048 h1 (by omega) (by omega)
  have HB := Lib.hid (below_alloc1 w (.cells #[.int .i64 y.k, .int .i64 y.n, .string y.t, .slice ao y.xs.length cap] 24))
  have HA := Lib.hid (heap_alloc_new w (.cells #[.int .i64 y.k, .int .i64 y.n, .string y.t, .slice ao y.xs.length cap] 24))
  obtain ⟨z0, z1, z2, z3⟩ := vb4 HA.out
  clear hx hn0b hwr hr hth hT hF hv ht hgx hf1 hf2 hn0
  simp only [VT.v]
  go_enter Tryz.func17, Tryz.ntmps17
  go_wp2_with fail
  refine (HR _ (HVV.out.under HB.out) (HTA.out _ HB.out)).mono ?_
  rintro _ w1 ⟨rfl, hb⟩
  have HB1 := Lib.hid (HB.out.trans (hb.mono HB.out.size))
  have HA1 := Lib.hid ((hb.block _ (lt_of_block HA.out)).trans HA.out)
  obtain ⟨z0, z1, z2, z3⟩ := vb4 HA1.out
  clear hb
  cases f1
  · have hxe : x = (⟨#[]⟩, 1) := HX.out
    subst hxe
    go_wp2_with fail
    go_ret2
    exact ⟨rfl, HB1.out⟩
  go_wp2_with fail
  refine (HW _ (HVV.out.under HB1.out)).mono ?_
  rintro _ w2 ⟨rfl, hb⟩
  have HB2 := Lib.hid (HB1.out.trans (hb.mono HB1.out.size))
  have HA2 := Lib.hid ((hb.block _ (lt_of_block HA1.out)).trans HA1.out)
  obtain ⟨z0, z1, z2, z3⟩ := vb4 HA2.out
  clear hb HB1 HA1
  cases f2
  · have hxe : x = (⟨#[]⟩, 1) := HX.out
    subst hxe
    go_wp2_with fail
    go_ret2
    exact ⟨rfl, HB2.out⟩
  go_wp2_with fail
  refine (HM _ (HVV.out.under HB2.out)).mono ?_
  rintro _ w3 ⟨rfl, hb⟩
  have HB3 := Lib.hid (HB2.out.trans (hb.mono HB2.out.size))
  have HA3 := Lib.hid ((hb.block _ (lt_of_block HA2.out)).trans HA2.out)
  clear hb HB2 HA2
  have HL0 : Hid (r = thingsW F.length n0 (F.drop 0)) := Lib.hid HRI.out.symm
  clear z0 z1 z2 z3
  go_wp2_with fail
  go_loopw [6, 25] (fun nv kv wr => ∃ (j : Nat) (left : Int), j ≤ F.length ∧ nv = .int .i64 left ∧ kv = .int .i64 j ∧ Hid (r = thingsW F.length left (F.drop j)) ∧ Hid (0 ≤ left ∧ left ≤ 2048) ∧ Hid (wr.heap[w.heap.size]? = some (.cells #[.int .i64 y.k, .int .i64 y.n, .string y.t, .slice ao y.xs.length cap] 24 (0, 0)) ∧ Below w.heap.size w wr)) (fun _ kv _ => F.length - (intOf kv).toNat)
  case atStart => exact ⟨0, n0, Nat.zero_le _, rfl, rfl, HL0, Lib.hid (HN0.out (by first | rfl | trivial)), Lib.hid ⟨HA3.out, HB3.out⟩⟩
  case round =>
    obtain ⟨j, left, hj, rfl, rfl, HL, HLF, HK⟩ := hrel
    clear HL0 HA3 HB3
    by_cases hlt : j < F.length
    · obtain ⟨g, off, cx, rfl, hgw, hvx, g0, g1⟩ := HTH.out j hlt
      obtain ⟨t1, t2⟩ := HTT.out _ (List.getElem_mem hlt)
      have hget : F[j]? = some F[j] := List.getElem?_eq_getElem hlt
      generalize F[j] = th at hvx g0 t1 t2 hget
      obtain ⟨cls, props⟩ := th
      obtain ⟨co, cc, rfl, hcl⟩ := hvx.form
      simp only at hvx g0 g1 t1 t2 hcl
      have hi : (j : Int) < (F.length : Int) := by omega
      obtain ⟨hwi', hwi⟩ := wr_sm (x := (j : Int) + 1) (by omega) (by omega)
      have G0 : wr.cell? ⟨g, off + j * 2, none⟩ = some (.string cls) := (HK.out.2.cell (p := ⟨g, off + j * 2, none⟩) hgw).trans g0
      have G1 : wr.cell? ⟨g, off + j * 2 + 1, none⟩ = some (.slice co props.length cc) := (HK.out.2.cell (p := ⟨g, off + j * 2 + 1, none⟩) hgw).trans g1
      obtain ⟨left2, hleft2⟩ : ∃ e, leftL props (left - props.length) = e := ⟨_, rfl⟩
      obtain ⟨f5, hf5⟩ : ∃ e, thingW (cls, props) F.length = e := ⟨_, rfl⟩
      have hl2 : left2 ≤ 2048 := by have := leftL_le props (left - props.length); have := HLF.out; omega
      have HGL : Hid (GoodL props) := Lib.hid (goodL_iff.2 fun x hx => ⟨(t2 x hx).1.1, (t2 x hx).2.1⟩)
      have HVX := Lib.hid hvx
      have HRM : ∀ W, VIn W (.slice co props.length cc) props → Calls Tryz.prog 42 #[.agg #[.int .i64 0, .int .i64 0, .string ⟨#[]⟩, .slice co props.length cc], .int .i64 left] W (IntPost W left2) := fun W h1 => by
        have := room_any (.mk 0 0 ⟨#[]⟩ props) W (.slice co props.length cc) left h1 HLF.out.1 HLF.out.2
        rw [leftV_eq] at this
        rw [← hleft2]
        exact this
      have HTG : ∀ W, VIn W (.slice co props.length cc) props → Tabs W → Calls Tryz.prog 43 #[.agg #[.string cls, .slice co props.length cc], .int .i64 (F.length : Int)] W (BoolPost W f5) := fun W h1 h2 => by rw [← hf5]; exact thing_any cls props HGL.out F.length W _ h1 h2
      have HLn : Hid (r = (!decide (left2 < 0) && (f5 && thingsW F.length left2 (F.drop (j + 1))))) := Lib.hid (by rw [HL.out, drop_at hget, thingsW_cons]; simp only; rw [hleft2, hf5])
      have HBN : Hid ((wr.alloc (.cells #[.string cls, .slice co props.length cc] 48)).heap[wr.heap.size]? = some (.cells #[.string cls, .slice co props.length cc] 48 (0, 0))) := Lib.hid (heap_alloc_new wr _)
      have HBB := Lib.hid (HK.out.2.alloc HK.out.2.size (.cells #[.string cls, .slice co props.length cc] 48))
      have HBA := Lib.hid (alloc_blk HK.out.1 (.cells #[.string cls, .slice co props.length cc] 48))
      have s1 := cell_blk HBN.out 1
      have hvw := HRM _ (HVX.out.under HBB.out)
      have HLT := Lib.hid hlt
      have HL2 := Lib.hid hl2
      obtain ⟨b, hb0⟩ : ∃ e, decide (left2 < 0) = e := ⟨_, rfl⟩
      rw [hb0] at HLn
      clear HL hleft2 hf5 t1 t2 hget g0 g1 hvx hl2 HRM
      go_wp2_with fail
      refine hvw.mono ?_
      rintro _ w4 ⟨rfl, hb⟩
      have HB4 := Lib.hid (HBB.out.trans (hb.mono HBB.out.size))
      have HA4 := Lib.hid ((hb.block _ (lt_of_block HBA.out)).trans HBA.out)
      have HN4 := Lib.hid ((hb.block _ (lt_of_block HBN.out)).trans HBN.out)
      have q0 := cell_blk HN4.out 0
      have q1 := cell_blk HN4.out 1
      have hvt := HTG _ (HVX.out.under HB4.out) (HTA.out _ HB4.out)
      clear hb HBB HBA HBN s1 hvw HTG
      cases b
      · have hnn : 0 ≤ left2 := by have := of_decide_eq_false hb0; omega
        go_wp2_with fail
        refine hvt.mono ?_
        rintro _ w5 ⟨rfl, hb⟩
        have HB5 := Lib.hid (HB4.out.trans (hb.mono HB4.out.size))
        have HA5 := Lib.hid ((hb.block _ (lt_of_block HA4.out)).trans HA4.out)
        clear hb q0 q1
        cases f5
        · have hrf : r = false := by rw [HLn.out]; rfl
          have hxe : x = (⟨#[]⟩, 1) := by have := HX.out; rw [hrf] at this; exact this
          subst hxe
          go_wp2_with fail
          go_ret2
          exact ⟨rfl, HB5.out⟩
        · have HR2 : Hid (r = thingsW F.length left2 (F.drop (j + 1))) := Lib.hid (by rw [HLn.out]; rfl)
          go_wp2_with fail
          go_roundw
          case rel => exact ⟨j + 1, left2, HLT.out, rfl, by go_num, HR2, Lib.hid ⟨hnn, HL2.out⟩, Lib.hid ⟨HA5.out, HB5.out⟩⟩
          case measure => have := HLT.out; simp [intOf]; omega
      · have hrf : r = false := by rw [HLn.out]; rfl
        have hxe : x = (⟨#[]⟩, 1) := by have := HX.out; rw [hrf] at this; exact this
        subst hxe
        go_wp2_with fail
        go_ret2
        exact ⟨rfl, HB4.out⟩
    · obtain rfl : j = F.length := by omega
      have hrt : r = true := by rw [HL.out, List.drop_length]; rfl
      obtain ⟨hw1, hw2⟩ := HWR.out (by first | rfl | trivial) (by first | rfl | trivial) hrt
      have hxe : x = packR gx := by have := HX.out; rw [hrt] at this; exact this
      have HXE := Lib.hid hxe
      have HW44 := write_any F (HFF.out.under HK.out.2) hw1 (HVV.out.under HK.out.2) hw2 (HTA.out _ HK.out.2)
      have HE4 : Hid (∀ e, gx = .error e → e = 4) := Lib.hid (fun e h => gvalW_err hw1 64 y ⟨[], []⟩ e hw2 (HGX.out.trans h))
      rw [HGX.out] at HW44
      simp only [VT.v] at HW44
      obtain ⟨z0, z1, z2, z3⟩ := vb4 HK.out.1
      clear hxe hw1 hw2
      rcases gx with er | S2
      · have hee := HE4.out _ rfl
        subst hee
        have hxe : x = (⟨#[]⟩, 4) := HXE.out
        subst hxe
        go_wp2_with fail
        refine HW44.mono ?_
        rintro e w5 ⟨hb, rfl⟩
        have HB5 := Lib.hid (HK.out.2.trans (hb.mono HK.out.2.size))
        clear hb
        go_wp2_with fail
        go_quiet (fail)
        go_wp2_with fail
        go_ret2
        exact ⟨rfl, belowN (HB5.out.alloc HB5.out.size _) _⟩
      · have hxe : x = if 65536 < S2.t.length then (⟨#[]⟩, 2) else (str S2.t, 0) := HXE.out
        obtain ⟨sz, hsz⟩ : ∃ sz, sz = str S2.t := ⟨_, rfl⟩
        have hlen2 : sz.size = S2.t.length := by rw [hsz, str_size]
        rw [← hsz] at hxe
        have HWS : Calls Tryz.prog 44 #[.agg #[.int .i64 y.k, .int .i64 y.n, .string y.t, .slice ao y.xs.length cap], .slice ta F.length tc] wr (fun e w' => e = .returned (.tuple #[.string sz, .agg #[.int .i64 0, .int .i64 0]]) ∧ Below wr.heap.size wr w') := HW44.mono fun e w' h => ⟨by rw [hsz]; exact h.2, h.1⟩
        clear HW44 HXE HE4
        by_cases hbig : 65536 < S2.t.length
        · rw [if_pos hbig] at hxe
          subst hxe
          have hs1 : (65536 : Int) < (sz.size : Int) := by omega
          have hs2 : 65536 < sz.size := by omega
          clear hsz hlen2 hbig
          go_wp2_with fail
          refine HWS.mono ?_
          rintro e w5 ⟨rfl, hb⟩
          have HB5 := Lib.hid (HK.out.2.trans (hb.mono HK.out.2.size))
          clear hb
          go_wp2_with fail
          go_ret2
          exact ⟨rfl, HB5.out.alloc HB5.out.size _⟩
        · rw [if_neg hbig] at hxe
          subst hxe
          have hs1 : ¬ (65536 : Int) < (sz.size : Int) := by omega
          have hs2 : ¬ 65536 < sz.size := by omega
          clear hsz hlen2 hbig
          go_wp2_with fail
          refine HWS.mono ?_
          rintro e w5 ⟨rfl, hb⟩
          have HB5 := Lib.hid (HK.out.2.trans (hb.mono HK.out.2.size))
          clear hb
          go_wp2_with fail
          go_ret2
          exact ⟨rfl, HB5.out.alloc HB5.out.size _⟩
end Go.Proofs.YtnaefnojmiolbaaGreatDoor
