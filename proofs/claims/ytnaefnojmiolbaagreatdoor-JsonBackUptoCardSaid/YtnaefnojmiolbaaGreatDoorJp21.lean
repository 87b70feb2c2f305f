/-
  JSON: the walks of said and row.
-/
import Derived.Test.YtnaefnojmiolbaaGreatDoorJp20
import Derived.Test.YtnaefnojmiolbaaGreatDoorShelfV
namespace Go.Proofs.YtnaefnojmiolbaaGreatDoor
open Go.RowKit Go.Shelf

attribute [local go_sem] yld_undef
theorem valid_any (t : ByteArray) (h : t.size ≤ 140737488351232) (w : World) (ht : Tabs w) : Calls Tryz.prog 53 #[.string t] w (BoolPost w (Lib.validD t.toList)) := by
  have := Tryz.utf8_ValidString t w (by omega) ht.utf
  rw [bl_eq]
  exact this
theorem s1c {w V : World} {B : Nat} {v : VT} {c : Value} (h : S1 w B (VB v c) V) : Hid (S1 w B (VB v c) V) ∧ V.cell? ⟨B, 0, none⟩ = some (.int .i64 v.k) ∧ V.cell? ⟨B, 2, none⟩ = some (.string v.t) :=
  ⟨Lib.hid h, (vb_cells h.2.a).1, (vb_cells h.2.a).2.2.1⟩
theorem s1i {w V : World} {B : Nat} {x : It} {c : Value} (h : S1 w B (IB x c) V) : Hid (S1 w B (IB x c) V) ∧ V.cell? ⟨B, 2, none⟩ = some (.string x.1.t) ∧ V.cell? ⟨B, 3, none⟩ = some (.int .i64 x.2.k) ∧ V.cell? ⟨B, 4, none⟩ = some (.int .i64 x.2.n) ∧ V.cell? ⟨B, 5, none⟩ = some (.string x.2.t) ∧ V.cell? ⟨B, 6, none⟩ = some c :=
  ⟨Lib.hid h, (ib_cells h.2.a).2.2.1, (ib_cells h.2.a).2.2.2.1, (ib_cells h.2.a).2.2.2.2.1, (ib_cells h.2.a).2.2.2.2.2.1, (ib_cells h.2.a).2.2.2.2.2.2⟩
theorem s1k {w V : World} {B : Nat} {x : It} {c : Value} (h : S1 w B (IB x c) V) : Hid (S1 w B (IB x c) V) ∧ V.cell? ⟨B, 0, none⟩ = some (.bool x.1.b) ∧ V.cell? ⟨B, 1, none⟩ = some (.int .i64 x.1.n) :=
  ⟨Lib.hid h, (ib_cells h.2.a).1, (ib_cells h.2.a).2.1⟩
set_option maxHeartbeats 3200000 in
set_option maxRecDepth 100000 in
theorem jsaid_any (v : VT) : v.Good → ∀ (w : World) (c : Value), VIn w c v.xs → Tabs w → Calls Tryz.prog 25 #[v.v c] w (BoolPost w (saidV v)) := by
  refine VT.ind (P := fun v => v.Good → ∀ (w : World) (c : Value), VIn w c v.xs → Tabs w → Calls Tryz.prog 25 #[v.v c] w (BoolPost w (saidV v))) ?_ v
  intro k n t l ih hg w c hv ht
  have hv : VIn w c l := hv
  obtain ⟨-, -, hts, hgl⟩ := VT.Good.parts hg
  have hts : t.size ≤ 140737488351232 := hts
  have hgl : ∀ x ∈ l, x.1.Good ∧ x.2.Good := hgl
  obtain ⟨ao, cap, rfl, hlen⟩ := hv.form
  have IH := Lib.hid (fun x hx => ih x hx (hgl x hx).2)
  have HV := Lib.hid hv
  have HL := Lib.hid hlen
  have HG := Lib.hid hgl
  have HS0 : Hid (S1 w w.heap.size (VB (.mk k n t l) (.slice ao l.length cap)) (w.alloc (VB (.mk k n t l) (.slice ao l.length cap)))) := Lib.hid ⟨ht, at1_start w _⟩
  obtain ⟨bv, hbv⟩ : ∃ bv, bv = Lib.validD t.toList := ⟨_, rfl⟩
  have HVA := Lib.hid (fun W hW => valid_any t hts W hW)
  rw [← hbv] at HVA
  obtain ⟨r, hr⟩ : ∃ r, r = saidV (.mk k n t l) := ⟨_, rfl⟩
  rw [← hr]
  rw [saidV, ← hbv] at hr
  have HR := Lib.hid hr
  have HT := Lib.hid ht
  clear hv hlen hgl ih hr hbv ht hg hts
  show Calls Tryz.prog 25 #[.agg #[.int .i64 k, .int .i64 n, .string t, .slice ao l.length cap]] w _
  obtain ⟨a0, a1, a2, a3⟩ := vb_cells HS0.out.2.a
  by_cases h5 : k = 5
  · have hrf : r = false := by rw [HR.out, h5]; rfl
    subst hrf
    have hk : (k == 5) = true := by rw [h5]; rfl
    clear h5
    go_enter Tryz.func25, Tryz.ntmps25
    go_wp2_with fail
    go_ret
    exact ⟨rfl, HS0.out.below⟩
  · have hk : (k == 5) = false := by simp [h5]
    have HR2 : Hid (r = (bv && saidL l)) := Lib.hid (by rw [HR.out]; simp [h5])
    clear HR h5
    go_enter Tryz.func25, Tryz.ntmps25
    go_wp2_with fail
    refine (HVA.out _ HS0.out.tabs).mono ?_
    rintro _ wq ⟨rfl, hb⟩
    have HQ : Hid (S1 w w.heap.size (VB (.mk k n t l) (.slice ao l.length cap)) wq) := Lib.hid (HS0.out.mono hb)
    clear hb a0 a1 a2 a3
    cases bv
    · have hrf : r = false := HR2.out
      subst hrf
      go_wp2_with fail
      go_ret
      exact ⟨rfl, HQ.out.below⟩
    have HX0 : Hid (r = saidL (l.drop 0)) := Lib.hid HR2.out
    have HB0 : Hid (Below w.heap.size w wq) := Lib.hid HQ.out.below
    have a3 : wq.cell? ⟨w.heap.size, 3, none⟩ = some (.slice ao l.length cap) := (vb_cells HQ.out.2.a).2.2.2
    clear HR2
    go_wp2_with fail
    go_loopw [17] (fun kv wr => ∃ (j : Nat), j ≤ l.length ∧ kv = .int .i64 j ∧ Hid (r = saidL (l.drop j)) ∧ Hid (Below w.heap.size w wr)) (fun kv _ => l.length - (intOf kv).toNat)
    case atStart => exact ⟨0, Nat.zero_le _, rfl, HX0, HB0⟩
    case round =>
      clear HX0 HB0 a3 HQ HS0 hk
      obtain ⟨j, hj, rfl, HX, BX⟩ := hrel
      by_cases hlt : j < l.length
      · obtain ⟨q, x, g, off, co, cc, hq, hm, rfl, hc, d0, d1, d2, d3, d4, d5, d6⟩ := HV.out.getB hlt BX.out rfl
        have hi : (j : Int) < (l.length : Int) := by omega
        obtain ⟨hwi', hwi⟩ : wrap64 ((j : Int) + 1) = (j : Int) + 1 ∧ IntKind.i64.wrap ((j : Int) + 1) = (j : Int) + 1 := wr_sm (by omega) (by have := HL.out; omega)
        have HTR : Hid (Tabs wr) := Lib.hid (HT.out.mono BX.out)
        have HS1 : Hid (S1 wr wr.heap.size (IB (q, x) (.slice co x.xs.length cc)) (wr.alloc (IB (q, x) (.slice co x.xs.length cc)))) := Lib.hid ⟨HTR.out, at1_start wr _⟩
        have HKA := Lib.hid (fun W hW => valid_any q.t (HG.out (q, x) hm).1.sz W hW)
        have HC : Hid (∀ W, Below wr.heap.size wr W → Calls Tryz.prog 25 #[.agg #[.int .i64 x.k, .int .i64 x.n, .string x.t, .slice co x.xs.length cc]] W (BoolPost W (saidV x))) := Lib.hid (fun W hW => IH.out (q, x) hm W (.slice co x.xs.length cc) (hc.under hW) (HTR.out.mono hW))
        have HX2 : Hid (r = ((Lib.validD q.t.toList && saidV x) && saidL (l.drop (j + 1)))) := Lib.hid (by rw [HX.out, drop_at hq, saidL_cons])
        obtain ⟨b1, hb1⟩ : ∃ b1, b1 = Lib.validD q.t.toList := ⟨_, rfl⟩
        obtain ⟨b2, hb2⟩ : ∃ b2, b2 = saidV x := ⟨_, rfl⟩
        rw [← hb1] at HKA HX2
        rw [← hb2] at HC HX2
        have HLT := Lib.hid hlt
        clear hc hq hm hlt HX hb1 hb2
        obtain ⟨f0, f1, f2, f3, f4, f5, f6⟩ := ib_cells HS1.out.2.a
        go_wp2_with fail
        cases b1
        · have hrf : r = false := HX2.out
          subst hrf
          refine (HKA.out _ HS1.out.tabs).mono ?_
          rintro _ wq1 ⟨rfl, hb⟩
          have HQ1 : Hid (S1 wr wr.heap.size (IB (q, x) (.slice co x.xs.length cc)) wq1) := Lib.hid (HS1.out.mono hb)
          clear hb
          go_wp2_with fail
          go_ret
          exact ⟨rfl, BX.out.trans (HQ1.out.below.mono BX.out.size)⟩
        · have HX3 : Hid (r = (b2 && saidL (l.drop (j + 1)))) := HX2
          clear HX2
          refine (HKA.out _ HS1.out.tabs).mono ?_
          rintro _ wq1 ⟨rfl, hb⟩
          have HQ1 : Hid (S1 wr wr.heap.size (IB (q, x) (.slice co x.xs.length cc)) wq1) := Lib.hid (HS1.out.mono hb)
          clear hb
          obtain ⟨e0, e1, e2, e3, e4, e5, e6⟩ := ib_cells HQ1.out.2.a
          go_wp2_with fail
          refine (HC.out _ HQ1.out.below).mono ?_
          rintro _ wq2 ⟨rfl, hb⟩
          have HQ2 : Hid (S1 wr wr.heap.size (IB (q, x) (.slice co x.xs.length cc)) wq2) := Lib.hid (HQ1.out.mono hb)
          clear hb e0 e1 e2 e3 e4 e5 e6
          have HBQ : Hid (Below w.heap.size w wq2) := Lib.hid (BX.out.trans (HQ2.out.below.mono BX.out.size))
          clear HQ1 HQ2 HS1
          cases b2
          · have hrf : r = false := HX3.out
            subst hrf
            go_wp2_with fail
            go_ret
            exact ⟨rfl, HBQ.out⟩
          · go_wp2_with fail
            go_roundw
            case rel => exact ⟨j + 1, HLT.out, by go_num, Lib.hid HX3.out, HBQ⟩
            case measure => have := HLT.out; simp [intOf]; omega
      · obtain rfl : j = l.length := by omega
        have hrx : r = true := by rw [HX.out, List.drop_length, saidL]
        subst hrx
        go_wp2_with fail
        go_ret
        exact ⟨rfl, BX.out⟩
theorem rowP_at {l : List It} {j : Nat} {q : K} {x : VT} (h : l[j]? = some (q, x)) : rowP j (l.drop j) = if q.b = true ∨ q.n ≠ j then false else rowP (j + 1) (l.drop (j + 1)) := by rw [drop_at h, rowP]
set_option maxHeartbeats 3200000 in
set_option maxRecDepth 100000 in
theorem jrow_any (l : List It) (w : World) (c : Value) (hv : VIn w c l) (ht : Tabs w) : Calls Tryz.prog 58 #[c] w (BoolPost w (rowP 0 l)) := by
  obtain ⟨ao, cap, rfl, hlen⟩ := hv.form
  obtain ⟨r, hr⟩ : ∃ r, r = rowP 0 (l.drop 0) := ⟨_, rfl⟩
  rw [List.drop_zero] at hr
  rw [← hr]
  have HX0 : Hid (r = rowP 0 (l.drop 0)) := Lib.hid hr
  have HV := Lib.hid hv
  have HL := Lib.hid hlen
  have HT := Lib.hid ht
  have HB0 := Lib.hid (Below.refl w.heap.size w)
  clear hr hv hlen ht
  go_enter Tryz.func58, Tryz.ntmps58
  go_wp2_with fail
  go_loopw [7] (fun kv wr => ∃ (j : Nat), j ≤ l.length ∧ kv = .int .i64 j ∧ Hid (r = rowP j (l.drop j)) ∧ Hid (Below w.heap.size w wr)) (fun kv _ => l.length - (intOf kv).toNat)
  case atStart => exact ⟨0, Nat.zero_le _, rfl, HX0, HB0⟩
  case round =>
    clear HX0 HB0
    obtain ⟨j, hj, rfl, HX, BX⟩ := hrel
    by_cases hlt : j < l.length
    · obtain ⟨q, x, g, off, co, cc, hq, hm, rfl, hc, d0, d1, d2, d3, d4, d5, d6⟩ := HV.out.getB hlt BX.out rfl
      have hi : (j : Int) < (l.length : Int) := by omega
      obtain ⟨hwi', hwi⟩ : wrap64 ((j : Int) + 1) = (j : Int) + 1 ∧ IntKind.i64.wrap ((j : Int) + 1) = (j : Int) + 1 := wr_sm (by omega) (by have := HL.out; omega)
      have HS1 : Hid (S1 wr wr.heap.size (IB (q, x) (.slice co x.xs.length cc)) (wr.alloc (IB (q, x) (.slice co x.xs.length cc)))) := Lib.hid ⟨HT.out.mono BX.out, at1_start wr _⟩
      have HX2 : Hid (r = if q.b = true ∨ q.n ≠ j then false else rowP (j + 1) (l.drop (j + 1))) := Lib.hid (by rw [HX.out, rowP_at hq])
      obtain ⟨b, qn, qt⟩ := q
      obtain ⟨e, he⟩ : ∃ e, (qn != (j : Int)) = e := ⟨_, rfl⟩
      have HE := Lib.hid he
      have HX2 : Hid (r = if b = true ∨ qn ≠ j then false else rowP (j + 1) (l.drop (j + 1))) := HX2
      have HLT := Lib.hid hlt
      have HBQ : Hid (Below w.heap.size w (wr.alloc (IB (⟨b, qn, qt⟩, x) (.slice co x.xs.length cc)))) := Lib.hid (BX.out.alloc BX.out.size _)
      clear hc hq hm hlt HX
      obtain ⟨f0, f1, f2, f3, f4, f5, f6⟩ := ib_cells HS1.out.2.a
      simp only at f0 f1 f2 d0 d1 d2 d3 d4 d5
      cases b with
      | false =>
        cases e with
        | false =>
          have HX3 : Hid (r = rowP (j + 1) (l.drop (j + 1))) := Lib.hid (by
            have h2 := HE.out
            rw [HX2.out, if_neg]
            rintro (h | h)
            · cases h
            · simp at h2; exact h h2)
          go_wp2_with fail
          go_roundw
          case rel => exact ⟨j + 1, HLT.out, by go_num, HX3, HBQ⟩
          case measure => have := HLT.out; simp [intOf]; omega
        | true =>
          have hrf : r = false := by
            have h2 := HE.out
            rw [HX2.out, if_pos]
            right
            simpa using h2
          subst hrf
          go_wp2_with fail
          go_ret
          exact ⟨rfl, HBQ.out⟩
      | true =>
        have hrf : r = false := by rw [HX2.out, if_pos (.inl rfl)]
        subst hrf
        clear he
        go_wp2_with fail
        go_ret
        exact ⟨rfl, HBQ.out⟩
    · obtain rfl : j = l.length := by omega
      have hrx : r = true := by rw [HX.out, List.drop_length, rowP]
      subst hrx
      go_wp2_with fail
      go_ret
      exact ⟨rfl, BX.out⟩
end Go.Proofs.YtnaefnojmiolbaaGreatDoor
