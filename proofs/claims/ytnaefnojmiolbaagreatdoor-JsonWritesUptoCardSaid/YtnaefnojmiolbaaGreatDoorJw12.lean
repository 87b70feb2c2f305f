/-
  JSON: the walks of said and row.
  JSON, the document's side: the walk of said (printed by genSaidRZ.py).
  JSON, the document's side: the walk of row (printed by genRowRZ.py).
  A builder in memory; the walks of copyCheck, WriteString, Len, Reset, String, WriteByte, WriteRune.
-/
import Derived.Test.YtnaefnojmiolbaaGreatDoorJw11
import Derived.Test.YtnaefnojmiolbaaGreatDoorShelfV
import Derived.Test.YtnaefnojmiolbaaGreatDoorJw9
import Derived.Test.YtnaefnojmiolbaaGreatDoorJw8
import Derived.Test.YtnaefnojmiolbaaGreatDoorShelf
import Derived.Test.YtnaefnojmiolbaaGreatDoorShelfJ
import Derived.Lib.Builder
import Derived.Lib.RuneBytes
import Derived.Laws.Externs
namespace Go.Proofs.YtnaefnojmiolbaaGreatDoor
open Go.RowKit Go.Shelf

attribute [local go_sem] yld_undef
theorem valid_any (t : ByteArray) (h : t.size ≤ 140737488351232) (w : World) (ht : Tabs w) : Calls Tryz.prog 53 #[.string t] w (BoolPost w (Lib.validD t.toList)) := by
  have := Tryz.utf8_ValidString t w (by omega) ht.utf
  rw [bl_eq]
  exact this
set_option maxHeartbeats 3200000 in
set_option maxRecDepth 100000 in
theorem jsaid_any (v : VT) : v.Good → ∀ (w : World) (c : Value), VIn w c v.xs → Tabs w → Calls Tryz.prog 25 #[v.v c] w (BoolPost w (saidV v)) := by
  refine VT.ind (P := fun v => v.Good → ∀ (w : World) (c : Value), VIn w c v.xs → Tabs w → Calls Tryz.prog 25 #[v.v c] w (BoolPost w (saidV v))) ?_ v
  intro k n t l ih hg w c hv ht
  have hv : VIn w c l := hv
  obtain ⟨-, -, hts, hgl⟩ := VT.Good.parts hg
  have hts : t.size ≤ 140737488351232 := hts
  have hgl : ∀ x ∈ l, x.1.Good ∧ x.2.Good := hgl
  obtain ⟨ao, cap, rfl, hlen⟩ := hv.form
  have IH := Lib.hid (fun x hx => ih x hx (hgl x hx).2)
  have HV := Lib.hid hv
  have HL := Lib.hid hlen
  have HG := Lib.hid hgl
  have HS0 : Hid (S1 w w.heap.size (VB (.mk k n t l) (.slice ao l.length cap)) (w.alloc (VB (.mk k n t l) (.slice ao l.length cap)))) := Lib.hid ⟨ht, at1_start w _⟩
  obtain ⟨bv, hbv⟩ : ∃ bv, bv = Lib.validD t.toList := ⟨_, rfl⟩
  have HVA := Lib.hid (fun W hW => valid_any t hts W hW)
  rw [← hbv] at HVA
  obtain ⟨r, hr⟩ : ∃ r, r = saidV (.mk k n t l) := ⟨_, rfl⟩
  rw [← hr]
  rw [saidV, ← hbv] at hr
  have HR := Lib.hid hr
  have HT := Lib.hid ht
  clear hv hlen hgl ih hr hbv ht hg hts
  show Calls Tryz.prog 25 #[.agg #[.int .i64 k, .int .i64 n, .string t, .slice ao l.length cap]] w _
  obtain ⟨a0, a1, a2, a3⟩ := vb_cells HS0.out.2.a
  by_cases h5 : k = 5
  · have hrf : r = false := by rw [HR.out, h5]; rfl
    subst hrf
    have hk : (k == 5) = true := by rw [h5]; rfl
    clear h5
    go_enter Tryz.func25, Tryz.ntmps25
    go_wp2_with fail
    go_ret
    exact ⟨rfl, HS0.out.below⟩
  · have hk : (k == 5) = false := by simp [h5]
    have HR2 : Hid (r = (bv && saidL l)) := Lib.hid (by rw [HR.out]; simp [h5])
    clear HR h5
    go_enter Tryz.func25, Tryz.ntmps25
    go_wp2_with fail
    refine (HVA.out _ HS0.out.tabs).mono ?_
    rintro _ wq ⟨rfl, hb⟩
    have HQ : Hid (S1 w w.heap.size (VB (.mk k n t l) (.slice ao l.length cap)) wq) := Lib.hid (HS0.out.mono hb)
    clear hb a0 a1 a2 a3
    cases bv
    · have hrf : r = false := HR2.out
      subst hrf
      go_wp2_with fail
      go_ret
      exact ⟨rfl, HQ.out.below⟩
    have HX0 : Hid (r = saidL (l.drop 0)) := Lib.hid HR2.out
    have HB0 : Hid (Below w.heap.size w wq) := Lib.hid HQ.out.below
    have a3 : wq.cell? ⟨w.heap.size, 3, none⟩ = some (.slice ao l.length cap) := (vb_cells HQ.out.2.a).2.2.2
    clear HR2
    go_wp2_with fail
    go_loopw [17] (fun kv wr => ∃ (j : Nat), j ≤ l.length ∧ kv = .int .i64 j ∧ Hid (r = saidL (l.drop j)) ∧ Hid (Below w.heap.size w wr)) (fun kv _ => l.length - (intOf kv).toNat)
    case atStart => exact ⟨0, Nat.zero_le _, rfl, HX0, HB0⟩
    case round =>
      clear HX0 HB0 a3 HQ HS0 hk
      obtain ⟨j, hj, rfl, HX, BX⟩ := hrel
      by_cases hlt : j < l.length
      · obtain ⟨q, x, g, off, co, cc, hq, hm, rfl, hc, d0, d1, d2, d3, d4, d5, d6⟩ := HV.out.getB hlt BX.out rfl
        have hi : (j : Int) < (l.length : Int) := by omega
        obtain ⟨hwi', hwi⟩ : wrap64 ((j : Int) + 1) = (j : Int) + 1 ∧ IntKind.i64.wrap ((j : Int) + 1) = (j : Int) + 1 := wr_sm (by omega) (by have := HL.out; omega)
        have HTR : Hid (Tabs wr) := Lib.hid (HT.out.mono BX.out)
        have HS1 : Hid (S1 wr wr.heap.size (IB (q, x) (.slice co x.xs.length cc)) (wr.alloc (IB (q, x) (.slice co x.xs.length cc)))) := Lib.hid ⟨HTR.out, at1_start wr _⟩
        have HKA := Lib.hid (fun W hW => valid_any q.t (HG.out (q, x) hm).1.sz W hW)
        have HC : Hid (∀ W, Below wr.heap.size wr W → Calls Tryz.prog 25 #[.agg #[.int .i64 x.k, .int .i64 x.n, .string x.t, .slice co x.xs.length cc]] W (BoolPost W (saidV x))) := Lib.hid (fun W hW => IH.out (q, x) hm W (.slice co x.xs.length cc) (hc.under hW) (HTR.out.mono hW))
        have HX2 : Hid (r = ((Lib.validD q.t.toList && saidV x) && saidL (l.drop (j + 1)))) := Lib.hid (by rw [HX.out, drop_at hq, saidL_cons])
        obtain ⟨b1, hb1⟩ : ∃ b1, b1 = Lib.validD q.t.toList := ⟨_, rfl⟩
        obtain ⟨b2, hb2⟩ : ∃ b2, b2 = saidV x := ⟨_, rfl⟩
        rw [← hb1] at HKA HX2
        rw [← hb2] at HC HX2
        have HLT := Lib.hid hlt
        clear hc hq hm hlt HX hb1 hb2
        obtain ⟨f0, f1, f2, f3, f4, f5, f6⟩ := ib_cells HS1.out.2.a
        go_wp2_with fail
        cases b1
        · have hrf : r = false := HX2.out
          subst hrf
          refine (HKA.out _ HS1.out.tabs).mono ?_
          rintro _ wq1 ⟨rfl, hb⟩
          have HQ1 : Hid (S1 wr wr.heap.size (IB (q, x) (.slice co x.xs.length cc)) wq1) := Lib.hid (HS1.out.mono hb)
          clear hb
          go_wp2_with fail
          go_ret
          exact ⟨rfl, BX.out.trans (HQ1.out.below.mono BX.out.size)⟩
        · have HX3 : Hid (r = (b2 && saidL (l.drop (j + 1)))) := HX2
          clear HX2
          refine (HKA.out _ HS1.out.tabs).mono ?_
          rintro _ wq1 ⟨rfl, hb⟩
          have HQ1 : Hid (S1 wr wr.heap.size (IB (q, x) (.slice co x.xs.length cc)) wq1) := Lib.hid (HS1.out.mono hb)
          clear hb
          obtain ⟨e0, e1, e2, e3, e4, e5, e6⟩ := ib_cells HQ1.out.2.a
          go_wp2_with fail
          refine (HC.out _ HQ1.out.below).mono ?_
          rintro _ wq2 ⟨rfl, hb⟩
          have HQ2 : Hid (S1 wr wr.heap.size (IB (q, x) (.slice co x.xs.length cc)) wq2) := Lib.hid (HQ1.out.mono hb)
          clear hb e0 e1 e2 e3 e4 e5 e6
          have HBQ : Hid (Below w.heap.size w wq2) := Lib.hid (BX.out.trans (HQ2.out.below.mono BX.out.size))
          clear HQ1 HQ2 HS1
          cases b2
          · have hrf : r = false := HX3.out
            subst hrf
            go_wp2_with fail
            go_ret
            exact ⟨rfl, HBQ.out⟩
          · go_wp2_with fail
            go_roundw
            case rel => exact ⟨j + 1, HLT.out, by go_num, Lib.hid HX3.out, HBQ⟩
            case measure => have := HLT.out; simp [intOf]; omega
      · obtain rfl : j = l.length := by omega
        have hrx : r = true := by rw [HX.out, List.drop_length, saidL]
        subst hrx
        go_wp2_with fail
        go_ret
        exact ⟨rfl, BX.out⟩
theorem rowP_at {l : List It} {j : Nat} {q : K} {x : VT} (h : l[j]? = some (q, x)) : rowP j (l.drop j) = if q.b = true ∨ q.n ≠ j then false else rowP (j + 1) (l.drop (j + 1)) := by rw [drop_at h, rowP]
set_option maxHeartbeats 3200000 in
set_option maxRecDepth 100000 in
theorem jrow_any (l : List It) (w : World) (c : Value) (hv : VIn w c l) (ht : Tabs w) : Calls Tryz.prog 58 #[c] w (BoolPost w (rowP 0 l)) := by
  obtain ⟨ao, cap, rfl, hlen⟩ := hv.form
  obtain ⟨r, hr⟩ : ∃ r, r = rowP 0 (l.drop 0) := ⟨_, rfl⟩
  rw [List.drop_zero] at hr
  rw [← hr]
  have HX0 : Hid (r = rowP 0 (l.drop 0)) := Lib.hid hr
  have HV := Lib.hid hv
  have HL := Lib.hid hlen
  have HT := Lib.hid ht
  have HB0 := Lib.hid (Below.refl w.heap.size w)
  clear hr hv hlen ht
  go_enter Tryz.func58, Tryz.ntmps58
  go_wp2_with fail
  go_loopw [7] (fun kv wr => ∃ (j : Nat), j ≤ l.length ∧ kv = .int .i64 j ∧ Hid (r = rowP j (l.drop j)) ∧ Hid (Below w.heap.size w wr)) (fun kv _ => l.length - (intOf kv).toNat)
  case atStart => exact ⟨0, Nat.zero_le _, rfl, HX0, HB0⟩
  case round =>
    clear HX0 HB0
    obtain ⟨j, hj, rfl, HX, BX⟩ := hrel
    by_cases hlt : j < l.length
    · obtain ⟨q, x, g, off, co, cc, hq, hm, rfl, hc, d0, d1, d2, d3, d4, d5, d6⟩ := HV.out.getB hlt BX.out rfl
      have hi : (j : Int) < (l.length : Int) := by omega
      obtain ⟨hwi', hwi⟩ : wrap64 ((j : Int) + 1) = (j : Int) + 1 ∧ IntKind.i64.wrap ((j : Int) + 1) = (j : Int) + 1 := wr_sm (by omega) (by have := HL.out; omega)
      have HS1 : Hid (S1 wr wr.heap.size (IB (q, x) (.slice co x.xs.length cc)) (wr.alloc (IB (q, x) (.slice co x.xs.length cc)))) := Lib.hid ⟨HT.out.mono BX.out, at1_start wr _⟩
      have HX2 : Hid (r = if q.b = true ∨ q.n ≠ j then false else rowP (j + 1) (l.drop (j + 1))) := Lib.hid (by rw [HX.out, rowP_at hq])
      obtain ⟨b, qn, qt⟩ := q
      obtain ⟨e, he⟩ : ∃ e, (qn != (j : Int)) = e := ⟨_, rfl⟩
      have HE := Lib.hid he
      have HX2 : Hid (r = if b = true ∨ qn ≠ j then false else rowP (j + 1) (l.drop (j + 1))) := HX2
      have HLT := Lib.hid hlt
      have HBQ : Hid (Below w.heap.size w (wr.alloc (IB (⟨b, qn, qt⟩, x) (.slice co x.xs.length cc)))) := Lib.hid (BX.out.alloc BX.out.size _)
      clear hc hq hm hlt HX
      obtain ⟨f0, f1, f2, f3, f4, f5, f6⟩ := ib_cells HS1.out.2.a
      simp only at f0 f1 f2 d0 d1 d2 d3 d4 d5
      cases b with
      | false =>
        cases e with
        | false =>
          have HX3 : Hid (r = rowP (j + 1) (l.drop (j + 1))) := Lib.hid (by
            have h2 := HE.out
            rw [HX2.out, if_neg]
            rintro (h | h)
            · cases h
            · simp at h2; exact h h2)
          go_wp2_with fail
          go_roundw
          case rel => exact ⟨j + 1, HLT.out, by go_num, HX3, HBQ⟩
          case measure => have := HLT.out; simp [intOf]; omega
        | true =>
          have hrf : r = false := by
            have h2 := HE.out
            rw [HX2.out, if_pos]
            right
            simpa using h2
          subst hrf
          go_wp2_with fail
          go_ret
          exact ⟨rfl, HBQ.out⟩
      | true =>
        have hrf : r = false := by rw [HX2.out, if_pos (.inl rfl)]
        subst hrf
        clear he
        go_wp2_with fail
        go_ret
        exact ⟨rfl, HBQ.out⟩
    · obtain rfl : j = l.length := by omega
      have hrx : r = true := by rw [HX.out, List.drop_length, rowP]
      subst hrx
      go_wp2_with fail
      go_ret
      exact ⟨rfl, BX.out⟩
end Go.Proofs.YtnaefnojmiolbaaGreatDoor

namespace Go.Proofs.YtnaefnojmiolbaaGreatDoor
open Go.RowKit Go.Shelf

attribute [local go_sem] yld_undef
set_option maxHeartbeats 3200000 in
set_option maxRecDepth 100000 in
theorem rsaid_any (v : VT) : v.Good → ∀ (w : World) (c : Value), VIn w c v.xs → Tabs w → Calls Tryz.prog 30 #[v.v c] w (BoolPost w (saidV v)) := by
  refine VT.ind (P := fun v => v.Good → ∀ (w : World) (c : Value), VIn w c v.xs → Tabs w → Calls Tryz.prog 30 #[v.v c] w (BoolPost w (saidV v))) ?_ v
  intro k n t l ih hg w c hv ht
  have hv : VIn w c l := hv
  obtain ⟨-, -, hts, hgl⟩ := VT.Good.parts hg
  have hts : t.size ≤ 140737488351232 := hts
  have hgl : ∀ x ∈ l, x.1.Good ∧ x.2.Good := hgl
  obtain ⟨ao, cap, rfl, hlen⟩ := hv.form
  have IH := Lib.hid (fun x hx => ih x hx (hgl x hx).2)
  have HV := Lib.hid hv
  have HL := Lib.hid hlen
  have HG := Lib.hid hgl
  have HS0 : Hid (S1 w w.heap.size (VB (.mk k n t l) (.slice ao l.length cap)) (w.alloc (VB (.mk k n t l) (.slice ao l.length cap)))) := Lib.hid ⟨ht, at1_start w _⟩
  obtain ⟨bv, hbv⟩ : ∃ bv, bv = Lib.validD t.toList := ⟨_, rfl⟩
  have HVA := Lib.hid (fun W => rutf8_any t (by omega) W)
  rw [← hbv] at HVA
  obtain ⟨r, hr⟩ : ∃ r, r = saidV (.mk k n t l) := ⟨_, rfl⟩
  rw [← hr]
  rw [saidV, ← hbv] at hr
  have HR := Lib.hid hr
  have HT := Lib.hid ht
  clear hv hlen hgl ih hr hbv ht hg hts
  show Calls Tryz.prog 30 #[.agg #[.int .i64 k, .int .i64 n, .string t, .slice ao l.length cap]] w _
  obtain ⟨a0, a1, a2, a3⟩ := vb_cells HS0.out.2.a
  by_cases h5 : k = 5
  · have hrf : r = false := by rw [HR.out, h5]; rfl
    subst hrf
    have hk : (k == 5) = true := by rw [h5]; rfl
    clear h5
    go_enter Tryz.func30, Tryz.ntmps30
    go_wp2_with fail
    go_ret
    exact ⟨rfl, HS0.out.below⟩
  · have hk : (k == 5) = false := by simp [h5]
    have HR2 : Hid (r = (bv && saidL l)) := Lib.hid (by rw [HR.out]; simp [h5])
    clear HR h5
    go_enter Tryz.func30, Tryz.ntmps30
    go_wp2_with fail
    refine (HVA.out _).mono ?_
    rintro _ wq ⟨rfl, rfl⟩
    cases bv
    · have hrf : r = false := HR2.out
      subst hrf
      go_wp2_with fail
      go_ret
      exact ⟨rfl, HS0.out.below⟩
    have HX0 : Hid (r = saidL (l.drop 0)) := Lib.hid HR2.out
    clear HR2 a0 a1 a2 a3
    go_wp2_with fail
    go_loopw [3] (fun kv wr => ∃ (j : Nat), j ≤ l.length ∧ kv = .int .i64 j ∧ Hid (r = saidL (l.drop j)) ∧ Hid (S1 w w.heap.size (VB (.mk k n t l) (.slice ao l.length cap)) wr)) (fun kv _ => l.length - (intOf kv).toNat)
    case atStart => exact ⟨0, Nat.zero_le _, rfl, HX0, HS0⟩
    case round =>
      clear HX0 HS0 hk HVA
      obtain ⟨j, hj, rfl, HX, SX⟩ := hrel
      have BX := Lib.hid SX.out.below
      have a3 : wr.cell? ⟨w.heap.size, 3, none⟩ = some (.slice ao l.length cap) := (vb_cells SX.out.2.a).2.2.2
      by_cases hlt : j < l.length
      · obtain ⟨q, x, g, off, co, cc, hq, hm, rfl, hc, d0, d1, d2, d3, d4, d5, d6⟩ := HV.out.getB hlt BX.out rfl
        have hi : (j : Int) < (l.length : Int) := by omega
        obtain ⟨hwi', hwi⟩ : wrap64 ((j : Int) + 1) = (j : Int) + 1 ∧ IntKind.i64.wrap ((j : Int) + 1) = (j : Int) + 1 := wr_sm (by omega) (by have := HL.out; omega)
        have HTR : Hid (Tabs wr) := Lib.hid (HT.out.mono BX.out)
        have HKA := Lib.hid (fun W => rutf8_any q.t (by have h9 : q.t.size ≤ 140737488351232 := (HG.out (q, x) hm).1.sz; omega) W)
        have HC : Hid (Calls Tryz.prog 30 #[.agg #[.int .i64 x.k, .int .i64 x.n, .string x.t, .slice co x.xs.length cc]] wr (BoolPost wr (saidV x))) := Lib.hid (IH.out (q, x) hm wr (.slice co x.xs.length cc) hc HTR.out)
        have HX2 : Hid (r = ((Lib.validD q.t.toList && saidV x) && saidL (l.drop (j + 1)))) := Lib.hid (by rw [HX.out, drop_at hq, saidL_cons])
        obtain ⟨b1, hb1⟩ : ∃ b1, b1 = Lib.validD q.t.toList := ⟨_, rfl⟩
        obtain ⟨b2, hb2⟩ : ∃ b2, b2 = saidV x := ⟨_, rfl⟩
        rw [← hb1] at HKA HX2
        rw [← hb2] at HC HX2
        have HLT := Lib.hid hlt
        clear hc hq hm hlt HX hb1 hb2
        go_wp2_with fail
        cases b1
        · have hrf : r = false := HX2.out
          subst hrf
          refine (HKA.out _).mono ?_
          rintro _ wq1 ⟨rfl, rfl⟩
          go_wp2_with fail
          go_ret
          exact ⟨rfl, BX.out⟩
        · have HX3 : Hid (r = (b2 && saidL (l.drop (j + 1)))) := HX2
          clear HX2
          refine (HKA.out _).mono ?_
          rintro _ wq1 ⟨rfl, rfl⟩
          go_wp2_with fail
          refine HC.out.mono ?_
          rintro _ wq2 ⟨rfl, hb⟩
          have SX2 := Lib.hid (SX.out.mono hb)
          clear hb a3 d0 d1 d2 d3 d4 d5 d6
          cases b2
          · have hrf : r = false := HX3.out
            subst hrf
            go_wp2_with fail
            go_ret
            exact ⟨rfl, SX2.out.below⟩
          · go_wp2_with fail
            go_roundw
            case rel => exact ⟨j + 1, HLT.out, by go_num, Lib.hid HX3.out, SX2⟩
            case measure => have := HLT.out; simp [intOf]; omega
      · obtain rfl : j = l.length := by omega
        have hrx : r = true := by rw [HX.out, List.drop_length, saidL]
        subst hrx
        go_wp2_with fail
        go_ret
        exact ⟨rfl, BX.out⟩
end Go.Proofs.YtnaefnojmiolbaaGreatDoor

namespace Go.Proofs.YtnaefnojmiolbaaGreatDoor
open Go.RowKit Go.Shelf

/-- The keys are the numbers from j on, in order. -/
def rowR : Nat → List It → Bool
  | _, [] => true
  | j, x :: r => if K.same x.1 ⟨false, j, ⟨#[]⟩⟩ = true then rowR (j + 1) r else false
theorem rowR_at {l : List It} {j : Nat} {q : K} {x : VT} (h : l[j]? = some (q, x)) : rowR j (l.drop j) = if K.same q ⟨false, j, ⟨#[]⟩⟩ = true then rowR (j + 1) (l.drop (j + 1)) else false := by rw [drop_at h, rowR]
theorem rowR_eq : ∀ (l : List It) (j : Nat), (∀ x ∈ l, x.1.Norm) → rowR j l = rowP j l
  | [], _, _ => by rw [rowR, rowP]
  | (q, x) :: r, j, h => by
    have hq : q.Norm := h (q, x) List.mem_cons_self
    have he : q.norm = q := hq.same
    rw [rowR, rowP, rowR_eq r (j + 1) (fun y hy => h y (List.mem_cons_of_mem _ hy))]
    obtain ⟨b, n, t⟩ := q
    by_cases c : b = true ∨ n ≠ j
    · rw [if_pos c, if_neg]
      rw [K.same_iff]
      intro e
      have e1 : b = false := congrArg K.b e
      have e2 : n = j := congrArg K.n e
      rcases c with c | c
      · rw [e1] at c; cases c
      · exact c e2
    · rw [if_neg c, if_pos]
      have c1 : b = false := by cases b <;> simp_all
      have c2 : n = j := by
        by_cases z : n = j
        · exact z
        · exact absurd (.inr z) c
      subst c1 c2
      rw [K.same_iff, ← he]
      rfl
attribute [local go_sem] yld_undef
set_option maxHeartbeats 3200000 in
set_option maxRecDepth 100000 in
theorem rrow_any (l : List It) (w : World) (c : Value) (hv : VIn w c l) : Calls Tryz.prog 63 #[c] w (fun e w' => e = .returned (.bool (rowR 0 l)) ∧ w' = w) := by
  obtain ⟨ao, cap, rfl, hlen⟩ := hv.form
  obtain ⟨r, hr⟩ : ∃ r, r = rowR 0 (l.drop 0) := ⟨_, rfl⟩
  rw [List.drop_zero] at hr
  rw [← hr]
  have HX0 : Hid (r = rowR 0 (l.drop 0)) := Lib.hid hr
  have HV := Lib.hid hv
  have HL := Lib.hid hlen
  clear hr hv hlen
  go_enter Tryz.func63, Tryz.ntmps63
  go_wp2_with fail
  go_loopw [3] (fun kv wr => ∃ (j : Nat), j ≤ l.length ∧ kv = .int .i64 j ∧ Hid (r = rowR j (l.drop j)) ∧ wr = w) (fun kv _ => l.length - (intOf kv).toNat)
  case atStart => exact ⟨0, Nat.zero_le _, rfl, HX0, rfl⟩
  case round =>
    clear HX0
    obtain ⟨j, hj, rfl, HX, rfl⟩ := hrel
    by_cases hlt : j < l.length
    · obtain ⟨q, x, g, off, co, cc, hq, hm, rfl, hc, d0, d1, d2, d3, d4, d5, d6⟩ := HV.out.getB hlt (Below.refl wr.heap.size wr) rfl
      have hi : (j : Int) < (l.length : Int) := by omega
      obtain ⟨hwi', hwi⟩ : wrap64 ((j : Int) + 1) = (j : Int) + 1 ∧ IntKind.i64.wrap ((j : Int) + 1) = (j : Int) + 1 := wr_sm (by omega) (by have := HL.out; omega)
      have HX2 : Hid (r = if K.same q ⟨false, j, ⟨#[]⟩⟩ = true then rowR (j + 1) (l.drop (j + 1)) else false) := Lib.hid (by rw [HX.out, rowR_at hq])
      have hN : ∀ w, (binOp .neq 62 (.agg #[.bool q.b, .int .i64 q.n, .string q.t]) (.agg #[.bool false, .int .i64 j, .string ⟨#[]⟩])).run Tryz.prog w = .ok (.bool (!K.same q ⟨false, j, ⟨#[]⟩⟩)) w := fun w => key_neq q ⟨false, j, ⟨#[]⟩⟩ w
      obtain ⟨e, he⟩ : ∃ e, K.same q ⟨false, (j : Int), ⟨#[]⟩⟩ = e := ⟨_, rfl⟩
      rw [he] at HX2 hN
      have HLT := Lib.hid hlt
      clear hc hq hm hlt HX he
      cases e with
      | true =>
        have HX3 : Hid (r = rowR (j + 1) (l.drop (j + 1))) := Lib.hid (by rw [HX2.out, if_pos rfl])
        simp only [Bool.not_true] at hN
        go_wp2_with fail
        go_roundw
        case rel => exact ⟨j + 1, HLT.out, by go_num, HX3, by trivial⟩
        case measure => have := HLT.out; simp [intOf]; omega
      | false =>
        have hrf : r = false := by rw [HX2.out, if_neg (by decide)]
        subst hrf
        simp only [Bool.not_false] at hN
        go_wp2_with fail
        go_ret
        exact ⟨rfl, rfl⟩
    · obtain rfl : j = l.length := by omega
      have hrx : r = true := by rw [HX.out, List.drop_length, rowR]
      subst hrx
      go_wp2_with fail
      go_ret
      exact ⟨rfl, rfl⟩
end Go.Proofs.YtnaefnojmiolbaaGreatDoor

namespace Go.Proofs.YtnaefnojmiolbaaGreatDoor
open Go.RowKit Go.Shelf

/-- A block's type, and how many cells lie behind the builder in it. -/
def TB (T : TypeId) (n : Nat) : Prop := (T = 56 ∧ n = 0) ∨ (T = 110 ∧ n = 2)
/-- A builder in memory, other fields behind it. -/
structure BuildIs (w : World) (T : TypeId) (b : Nat) (p v : Value) (rest : List Value) (l : Bs) : Prop where
  blk : w.heap[b]? = some (.cells (p :: v :: rest).toArray T (0, 0))
  own : OwnsB w 5 v l
  ne : v.ownBlock ≠ some b
  pp : p = .pointer none ∨ p = .pointer (some ⟨b, 0, none⟩)
  tb : TB T rest.length
theorem info56 : ∃ j, Tryz.prog.info? 56 = some j ∧ j.size = 2 := Option.map_eq_some_iff.1 (show (Tryz.prog.info? 56).map (·.size) = some 2 by kernel_rfl)
theorem lies56 : Tryz.prog.cellsOf 56 = 2 ∧ liesAt Tryz.prog Tryz.prog.depth 56 1 0 56 1 = true := ⟨by kernel_rfl, by kernel_rfl⟩
theorem lies110 : Tryz.prog.cellsOf 110 = 4 ∧ liesAt Tryz.prog Tryz.prog.depth 110 1 0 56 1 = true := ⟨by kernel_rfl, by kernel_rfl⟩
theorem TB.lies {T : TypeId} {n : Nat} (h : TB T n) : liesAt Tryz.prog Tryz.prog.depth T ((2 + n) / Tryz.prog.cellsOf T) 0 56 1 = true := by
  rcases h with ⟨rfl, rfl⟩ | ⟨rfl, rfl⟩
  · rw [lies56.1]; exact lies56.2
  · rw [lies110.1]; exact lies110.2
section
variable {w w' : World} {T : TypeId} {b : Nat} {p v : Value} {rest : List Value} {l : Bs}
theorem BuildIs.mod {Z : Nat → Prop} (i : BuildIs w T b p v rest l) (m : Mod Z w w') (h1 : ¬ Z b) (h2 : ∀ g, v.ownBlock = some g → ¬ Z g) : BuildIs w' T b p v rest l :=
  ⟨m.blk i.blk h1, Owns.mod i.own m h2, i.ne, i.pp, i.tb⟩
theorem BuildIs.below (i : BuildIs w T b p v rest l) (hb : Below w.heap.size w w') : BuildIs w' T b p v rest l :=
  i.mod (Mod.of_below (F := fun _ => False) hb) (fun x => x) (fun _ _ x => x)
theorem BuildIs.cells (i : BuildIs w T b p v rest l) : w.cell? ⟨b, 0, none⟩ = some p ∧ w.cell? ⟨b, 1, none⟩ = some v ∧ w.frozen? ⟨b, 0, none⟩ = false ∧ w.frozen? ⟨b, 1, none⟩ = false :=
  ⟨by rw [cell_blk i.blk 0]; simp, by rw [cell_blk i.blk 1]; simp, free_blk i.blk 0, free_blk i.blk 1⟩
set_option maxRecDepth 100000 in
theorem check_any (i : BuildIs w T b p v rest l) : Calls Tryz.prog 88 #[.pointer (some ⟨b, 0, none⟩)] w fun e w' => e = .returned (.tuple #[]) ∧ BuildIs w' T b (.pointer (some ⟨b, 0, none⟩)) v rest l ∧ Mod (fun k => k = b) w w' := by
  obtain ⟨j, hj, hjs⟩ := info56
  obtain ⟨c0, -, f0, -⟩ := i.cells
  have I := Lib.hid i
  rcases i.pp with rfl | rfl
  · have hsh : w.shape? b = some (T, 2 + rest.length) := by simp [World.shape?, i.blk]; omega
    have hlies := i.tb.lies
    clear i
    go_enter Tryz.func88, Tryz.ntmps88
    go_wp2
    rw [Lib.run_to_unsafe w ⟨b, 0, none⟩ Tryz.underlying53 Tryz.underlying154 hj (by rw [hjs]; decide) hsh (by show 0 < 2 + rest.length; omega)]
    simp only [Result.andThen]
    rw [Oper.upon_value]
    go_wp2
    rw [run_callFunc_extern Tryz.func121 (by kernel_rfl) (by kernel_rfl) (by kernel_rfl) (e := Extern.AbiNoEscape.same) (by kernel_rfl)]
    rw [Lib.run_noEscape]
    simp only [Result.andThen]
    rw [Oper.upon_value]
    go_wp2
    rw [Lib.run_from_unsafe w ⟨b, 0, none⟩ Tryz.underlying154 Tryz.underlying53 hj hsh hlies]
    simp only [Result.andThen]
    rw [Oper.upon_value]
    go_wp2
    go_end0
    have m : Mod (fun k => k = b) w (w.setCell ⟨b, 0, none⟩ (.pointer (some ⟨b, 0, none⟩))) := (Mod.refl _ _).setCell _ _ (fun _ => rfl)
    refine ⟨rfl, ⟨?_, Owns.mod I.out.own m (fun g e x => I.out.ne (by rw [e, x])), I.out.ne, .inr rfl, I.out.tb⟩, m⟩
    have := set_blk I.out.blk 0 (.pointer (some ⟨b, 0, none⟩))
    simpa using this
  · clear i
    go_enter Tryz.func88, Tryz.ntmps88
    go_wp2
    rw [Lib.run_neq_ptr_same w _ Tryz.underlying53 hj]
    go_wp2
    go_end0
    exact ⟨rfl, I.out, Mod.refl _ _⟩
/-- What a call that writes leaves. -/
def WritePost (w : World) (T : TypeId) (b : Nat) (v : Value) (rest : List Value) (l : Bs) (r : Value) (e : Ending) (w' : World) : Prop :=
  e = .returned r ∧ ∃ v', BuildIs w' T b (.pointer (some ⟨b, 0, none⟩)) v' rest l ∧ Mod (fun k => k = b ∨ v.ownBlock = some k) w w' ∧ (v'.ownBlock = v.ownBlock ∨ ∃ g, v'.ownBlock = some g ∧ w.heap.size ≤ g)
set_option maxHeartbeats 1600000 in
set_option maxRecDepth 100000 in
theorem wstr_any (i : BuildIs w T b p v rest l) (s : ByteArray) (hl : l.length + s.size ≤ 140737488355328) : Calls Tryz.prog 54 #[.pointer (some ⟨b, 0, none⟩), .string s] w (WritePost w T b v rest (l ++ s.toList) (.tuple #[.int .i64 s.size, .nilIface])) := by
  have HC := check_any i
  have hbl := Lib.hid (lt_of_block i.blk)
  have HL := Lib.hid hl
  clear i hl
  go_enter Tryz.func54, Tryz.ntmps54
  go_wp2_with fail
  refine HC.mono ?_
  rintro e w1 ⟨rfl, i1, m1⟩
  have I1 := Lib.hid i1
  have M1 := Lib.hid m1
  obtain ⟨ao, cap, rfl, hlc, hcm, hno, -⟩ := OwnsB.any i1.own
  obtain ⟨-, x1, -, -⟩ := i1.cells
  have hO : Hid (OwnsB w1 5 (.slice ao l.length cap) l) := Lib.hid I1.out.own
  clear i1 m1 HC hlc hcm hno
  go_wp2_with (at_builtin; refine wpList_append_str rfl (.tmp 12) (.tmp 13) 54 9 rfl 5 Tryz.underlying54 Tryz.underlying9 info5 (.slice ao l.length cap) l (by rfl) hO.out s (by rfl) HL.out ?_; intro v3 w3 o3 g3 n3; obtain ⟨a7, c7, hv7, -⟩ := OwnsB.any o3; generalize (List.length _) = L7 at hv7; subst hv7; have O3 := Lib.hid o3; have G3 := Lib.hid (⟨g3, n3⟩ : _ ∧ _); have q1 : w3.cell? ⟨b, 1, none⟩ = some (.slice ao l.length cap) := by { rw [cell_blk ((g3.block b (lt_of_block I1.out.blk) (fun e => I1.out.ne e.symm)).trans I1.out.blk) 1]; simp }; have f1 := free_blk ((g3.block b (lt_of_block I1.out.blk) (fun e => I1.out.ne e.symm)).trans I1.out.blk) 1; clear o3 g3 n3)
  go_ret2
  have hs1 := M1.out.size
  have hb := hbl.out
  have mB : Mod (fun k => k = b ∨ (Value.slice ao l.length cap).ownBlock = some k) w w3 := (M1.out.mono (fun _ _ e => .inl e)).grown G3.out.1 (fun k e _ => .inr e)
  have b3 : w3.heap[b]? = some (.cells (Value.pointer (some ⟨b, 0, none⟩) :: Value.slice ao l.length cap :: rest).toArray T (0, 0)) := (G3.out.1.block b (lt_of_block I1.out.blk) (fun e => I1.out.ne e.symm)).trans I1.out.blk
  have hne : (Value.slice a7 L7 c7).ownBlock ≠ some b := fun e => by
    rcases G3.out.2 with h | ⟨g, h, hg⟩
    · exact I1.out.ne (h ▸ e)
    · rw [h] at e; cases e; omega
  refine ⟨rfl, .slice a7 L7 c7, ⟨?_, ?_, hne, .inr rfl, I1.out.tb⟩, mB.setCell _ _ (fun _ => .inl rfl), ?_⟩
  · have := set_blk b3 1 (.slice a7 L7 c7)
    simpa using this
  · have m : Mod (fun k => k = b) w3 (w3.setCell ⟨b, 1, none⟩ (.slice a7 L7 c7)) := (Mod.refl _ _).setCell _ _ (fun _ => rfl)
    exact Owns.mod O3.out m (fun g e x => hne (by rw [e, x]))
  · rcases G3.out.2 with h | ⟨g, h, hg⟩
    · exact .inl h
    · exact .inr ⟨g, h, by omega⟩
set_option maxRecDepth 100000 in
theorem blen_any (i : BuildIs w T b p v rest l) : Calls Tryz.prog 27 #[.pointer (some ⟨b, 0, none⟩)] w fun e w' => e = .returned (.int .i64 l.length) ∧ w' = w := by
  obtain ⟨-, x1, -, -⟩ := i.cells
  obtain ⟨ao, cap, rfl, hlc, hcm, hno, -⟩ := OwnsB.any i.own
  clear i hlc hcm hno
  go_enter Tryz.func27, Tryz.ntmps27
  go_wp2_with fail
  go_ret
  exact ⟨rfl, rfl⟩
theorem freeze_mod (w : World) (g n : Nat) : Mod (fun k => k = g) w (w.freeze ⟨g, 0, none⟩ n) := by
  unfold World.freeze
  split
  · exact Mod.refl _ _
  · exact ⟨rfl, rfl, rfl, by simp, fun k hk hf => by
      simp only [Array.getElem?_modify]
      rw [if_neg (fun e => hf e.symm)]⟩
theorem c5 : Tryz.prog.cellsOf 5 = 1 := by kernel_rfl
set_option maxHeartbeats 4000000 in
set_option maxRecDepth 100000 in
theorem bstring_any (i : BuildIs w T b p v rest l) (hl : l ≠ []) : Calls Tryz.prog 28 #[.pointer (some ⟨b, 0, none⟩)] w fun e w' => e = .returned (.string (str l)) ∧ Mod (fun k => v.ownBlock = some k) w w' := by
  have hr := i.own.row
  have e1 : (bRows l).flatten = Lib.byteCells l := bRows_flat l
  have e2 : (bRows l).length = l.length := bRows_len l
  rw [e1, e2] at hr
  have hl0 : l.length ≠ 0 := by simpa using hl
  obtain ⟨g, cap, cur, rfl, hg, hnc, hcm, hcs, htake⟩ : ∃ g cap cur, v = .slice (some ⟨g, 0, none⟩) l.length cap ∧ w.heap[g]? = some (.cells cur 5 (0, 0)) ∧ l.length ≤ cap ∧ cap ≤ maxLen ∧ cur.size = cap * 1 ∧ cur.toList.take (l.length * 1) = Lib.byteCells l := by
    rcases hr.2 with ⟨_, hz⟩ | ⟨g, cap, cur, hv, -, r⟩
    · exact absurd hz hl0
    · exact ⟨g, cap, cur, hv, r⟩
  obtain ⟨-, c1, -, -⟩ := i.cells
  have c1 : w.drew.cell? ⟨b, 1, none⟩ = some (.slice (some ⟨g, 0, none⟩) l.length cap) := c1
  have hSD : (Builtin.unsafeSliceData_ #[54] 92 #[.slice (some ⟨g, 0, none⟩) l.length cap]).run Tryz.prog w.drew = .ok (.pointer (some ⟨g, 0, none⟩)) w.drew :=
    Lib.run_unsafeSliceData_row _ _ _ _ _ _ (by omega)
  have hUS : (Builtin.unsafeString_ #[92, 3] 9 #[.pointer (some ⟨g, 0, none⟩), .int .i64 l.length]).run Tryz.prog w.drew = .ok (.string ⟨l.toArray⟩) (w.drew.freeze ⟨g, 0, none⟩ l.length) := by
    refine Lib.run_unsafeString_row w.drew 92 3 9 5 Tryz.underlying92 c5 g cur.size (by have hg' : w.drew.heap[g]? = some (.cells cur 5 (0, 0)) := hg; simp [World.shape?, hg']) l hl (by omega) (by unfold maxLen at hcm; omega) ?_
    intro j x hx
    have := hr.cells (g := g) rfl j (.int .u8 x.toNat) (by simp [Lib.byteCells, hx])
    exact this
  have hm : Mod (fun k => (Value.slice (some ⟨g, 0, none⟩) l.length cap).ownBlock = some k) w (w.drew.freeze ⟨g, 0, none⟩ l.length) := by
    have h0 : Below (w.heap.size) w w.drew := (Below.refl _ _).drew
    exact (Mod.of_below h0).trans ((freeze_mod w.drew g l.length).mono (fun k _ e => by rw [show k = g from e]; rfl))
  have mixed : Tryz.prog.follows Departure.mixedOrders = true := by kernel_rfl
  clear i hr hcs htake hcm hnc e1 e2 hl hg
  go_enter Tryz.func28, Tryz.ntmps28
  go_wp2
  go_region_o
  all_goals (go_wp2; go_ret; exact ⟨rfl, hm⟩)
set_option maxHeartbeats 1600000 in
set_option maxRecDepth 100000 in
theorem wbyte_any (i : BuildIs w T b p v rest l) (c : UInt8) (hl : l.length ≤ 140737488351232) : Calls Tryz.prog 132 #[.pointer (some ⟨b, 0, none⟩), .int .u8 c.toNat] w (WritePost w T b v rest (l ++ [c]) .nilIface) := by
  have HC := check_any i
  have hbl := Lib.hid (lt_of_block i.blk)
  clear i
  go_enter Tryz.func132, Tryz.ntmps132
  go_wp2_with fail
  refine HC.mono ?_
  rintro e w1 ⟨rfl, i1, m1⟩
  have I1 := Lib.hid i1
  have M1 := Lib.hid m1
  have I2 := Lib.hid (i1.below (below_alloc1 w1 (.cells #[.int .u8 c.toNat] 5)))
  obtain ⟨ao, cap, rfl, hlc, hcm, hno, -⟩ := OwnsB.any i1.own
  obtain ⟨-, x1, -, -⟩ := I1.out.cells
  have hO : Hid (Owns (w1.alloc (.cells #[.int .u8 c.toNat] 5)) 5 1 (.slice ao l.length cap) (bRows l)) := I2.out.own
  have hL := Lib.hid (lies_new w1 [.int .u8 c.toNat] 5 rfl)
  have hr1 : Hid ((bRows l).length + ([[Value.int .u8 c.toNat]] : List (List Value)).length ≤ maxLen) := by show _ ≤ _; unfold maxLen; rw [bRows_len]; simp; omega
  have hr2 : Hid (((bRows l).length + ([[Value.int .u8 c.toNat]] : List (List Value)).length) * 1 ≤ 140737488355328) := by show _ ≤ _; rw [bRows_len]; simp; omega
  clear i1 m1 HC hlc hcm hno
  go_wp2_with (at_builtin; refine wpList_append_rows rfl (.tmp 11) (.tmp 13) 54 rfl 5 _ 1 1 Tryz.underlying54 info5 rfl (by decide) (.slice ao l.length cap) (bRows l) (by rfl) hO.out (some ⟨w1.heap.size, 0, none⟩) 1 1 [[.int .u8 c.toNat]] (by rfl) rfl (fun e => by cases e) hL.out (by simp [Value.oneCell']) (by simp) hr1.out (by have h := hr2.out; omega) ?_; intro v3 w3 o3 g3 n3; obtain ⟨a7, c7, hv7, -⟩ := o3.any; generalize (List.length _) = L7 at hv7; subst hv7; have O3 := Lib.hid o3; have G3 := Lib.hid (⟨g3, n3⟩ : _ ∧ _); have q1 : w3.cell? ⟨b, 1, none⟩ = some (.slice ao l.length cap) := by { rw [cell_blk ((g3.block b (lt_of_block I2.out.blk) (fun e => I2.out.ne e.symm)).trans I2.out.blk) 1]; simp }; have f1 := free_blk ((g3.block b (lt_of_block I2.out.blk) (fun e => I2.out.ne e.symm)).trans I2.out.blk) 1; clear o3 g3 n3)
  go_ret
  have hs1 := M1.out.size
  have hb := hbl.out
  have mA : Mod (fun k => k = b) w (w1.alloc (.cells #[.int .u8 c.toNat] 5)) := M1.out.alloc _
  have mB : Mod (fun k => k = b ∨ (Value.slice ao l.length cap).ownBlock = some k) w w3 := (mA.mono (fun _ _ e => .inl e)).grown G3.out.1 (fun k e _ => .inr e)
  have b3 : w3.heap[b]? = some (.cells (Value.pointer (some ⟨b, 0, none⟩) :: Value.slice ao l.length cap :: rest).toArray T (0, 0)) := (G3.out.1.block b (lt_of_block I2.out.blk) (fun e => I2.out.ne e.symm)).trans I2.out.blk
  have hne : (Value.slice a7 L7 c7).ownBlock ≠ some b := fun e => by
    rcases G3.out.2 with h | ⟨g, h, hg⟩
    · exact I2.out.ne (h ▸ e)
    · rw [h] at e; cases e; simp at hg; omega
  refine ⟨rfl, .slice a7 L7 c7, ⟨?_, ?_, hne, .inr rfl, I1.out.tb⟩, mB.setCell _ _ (fun _ => .inl rfl), ?_⟩
  · have := set_blk b3 1 (.slice a7 L7 c7)
    simpa using this
  · have o : OwnsB w3 5 (.slice a7 L7 c7) (l ++ [c]) := by unfold OwnsB; rw [bRows_append]; exact O3.out
    have m : Mod (fun k => k = b) w3 (w3.setCell ⟨b, 1, none⟩ (.slice a7 L7 c7)) := (Mod.refl _ _).setCell _ _ (fun _ => rfl)
    exact Owns.mod o m (fun g e x => hne (by rw [e, x]))
  · rcases G3.out.2 with h | ⟨g, h, hg⟩
    · exact .inl h
    · exact .inr ⟨g, h, by simp at hg; omega⟩
theorem bstring0_any (i : BuildIs w T b p (.slice none 0 0) rest l) : Calls Tryz.prog 28 #[.pointer (some ⟨b, 0, none⟩)] w fun e w' => e = .returned (.string (str [])) ∧ Below w.heap.size w w' := by
  obtain ⟨-, c1, -, -⟩ := i.cells
  have c1 : w.drew.cell? ⟨b, 1, none⟩ = some (.slice none 0 0) := c1
  have mixed : Tryz.prog.follows Departure.mixedOrders = true := by kernel_rfl
  have hSD : (Builtin.unsafeSliceData_ #[54] 92 #[.slice none 0 0]).run Tryz.prog w.drew = .ok (.pointer none) w.drew := Lib.run_unsafeSliceData_nil _ _ _ _ _
  have hUS : (Builtin.unsafeString_ #[92, 3] 9 #[.pointer none, .int .i64 0]).run Tryz.prog w.drew = .ok (.string .empty) w.drew := Lib.run_unsafeString_none _ _ _ _ _
  clear i
  go_enter Tryz.func28, Tryz.ntmps28
  go_wp2
  go_region_o
  all_goals (go_wp2; go_ret; exact ⟨rfl, (Below.refl _ _).drew⟩)
theorem own_from {B : Nat} (h : OwnsB w 5 v l) (hv : ∀ g, v.ownBlock = some g → B ≤ g) : w.ownsRow B 5 1 v l.length (Lib.byteCells l) := by
  have h := h.row
  have e1 : (bRows l).flatten = Lib.byteCells l := bRows_flat l
  rw [e1, bRows_len] at h
  refine ⟨h.1, ?_⟩
  rcases h.2 with hn | ⟨g, cap, cur, rfl, hb, hgg, rest⟩
  · exact .inl hn
  · exact .inr ⟨g, cap, cur, rfl, hv g rfl, hgg, rest⟩
theorem own_to {B n : Nat} (h : w.ownsRow B 5 1 v n (Lib.byteCells l)) : OwnsB w 5 v l ∧ (∀ g, v.ownBlock = some g → B ≤ g) := by
  have e1 : (bRows l).flatten = Lib.byteCells l := bRows_flat l
  have hn : n = l.length := by have := h.1; simp [Lib.byteCells] at this; omega
  subst hn
  refine ⟨⟨?_, bRows_size l, bRows_one l⟩, ?_⟩
  · rw [e1, bRows_len]
    refine ⟨h.1, ?_⟩
    rcases h.2 with hn | ⟨g, cap, cur, rfl, hb, hgg, rest⟩
    · exact .inl hn
    · exact .inr ⟨g, cap, cur, rfl, Nat.zero_le _, hgg, rest⟩
  · rcases h.2 with ⟨rfl, -⟩ | ⟨g, cap, cur, rfl, hb, hgg, rest⟩
    · intro g e; simp [Value.ownBlock] at e
    · intro g' e; simp [Value.ownBlock] at e; omega
end
/-- Blocks from a builder on that are builders or hold bytes. -/
def BY (b : Nat) (w : World) (k : Nat) : Prop := b ≤ k ∧ ∃ cs ty fr, w.heap[k]? = some (.cells cs ty fr) ∧ (ty = 5 ∨ ty = 56)
/-- Nothing else has turned. -/
abbrev KW (b : Nat) (w w' : World) : Prop := Mod (BY b w) w w'
theorem KW.trans {b : Nat} {w w1 w2 : World} (h : KW b w w1) (k : KW b w1 w2) : KW b w w2 :=
  Mod.trans' h k fun i hi hg => Classical.byContradiction fun hn => hn ⟨hg.1, by
    obtain ⟨cs, ty, fr, e, ht⟩ := hg.2
    exact ⟨cs, ty, fr, by rw [← h.block i hi hn]; exact e, ht⟩⟩
theorem KW.of_below {b : Nat} {w w' : World} (h : Below w.heap.size w w') : KW b w w' := Mod.of_below h
theorem KW.below {b : Nat} {w w' : World} (h : KW b w w') (hb : b ≤ w.heap.size) : Below b w w' := h.belowB (fun k hk x => by have := x.1; omega) hb
/-- A builder of its own, its bytes behind it. -/
structure BB (w : World) (b : Nat) (l : Bs) : Prop where
  is : ∃ p v, BuildIs w 56 b p v [] l ∧ (∀ g, v.ownBlock = some g → b < g) ∧ (l = [] → v = .slice none 0 0)
theorem tb56 : TB 56 ([] : List Value).length := .inl ⟨rfl, rfl⟩
theorem BB.lt {w : World} {b : Nat} {l : Bs} (h : BB w b l) : b < w.heap.size := by obtain ⟨p, v, i, -⟩ := h.is; exact lt_of_block i.blk
theorem BB.kept {w w' : World} {b : Nat} {l : Bs} (h : BB w b l) (hk : ∀ k cs ty fr, w.heap[k]? = some (.cells cs ty fr) → b ≤ k → (ty = 5 ∨ ty = 56) → w'.heap[k]? = some (.cells cs ty fr)) : BB w' b l := by
  obtain ⟨p, v, i, hu, he⟩ := h.is
  refine ⟨p, v, ⟨hk b _ 56 _ i.blk (Nat.le_refl _) (.inr rfl), Owns.kept i.own ?_, i.ne, i.pp, i.tb⟩, hu, he⟩
  intro g hg
  rcases i.own.row.2 with ⟨rfl, -⟩ | ⟨g', cap, cur, rfl, -, hgg, -⟩
  · simp [Value.ownBlock] at hg
  · simp [Value.ownBlock] at hg; subst hg
    rw [hgg]
    exact hk _ _ _ _ hgg (Nat.le_of_lt (hu _ rfl)) (.inl rfl)
theorem BB.below {w w' : World} {b : Nat} {l : Bs} (h : BB w b l) (hb : Below w.heap.size w w') : BB w' b l :=
  h.kept fun k _ _ _ e _ _ => (hb.block k (lt_of_block e)).trans e
theorem BB.mod {F : Nat → Prop} {w w' : World} {b : Nat} {l : Bs} (h : BB w b l) (hm : Mod F w w') (hF : ∀ k cs ty fr, F k → w.heap[k]? = some (.cells cs ty fr) → (ty = 5 ∨ ty = 56) → k < b) : BB w' b l :=
  h.kept fun k cs ty fr e hb ht => hm.blk e fun x => by have := hF k cs ty fr x e ht; omega
/-- What a call that writes leaves. -/
def BPost (w : World) (b : Nat) (l : Bs) (r : Value) (e : Ending) (w' : World) : Prop := e = .returned r ∧ BB w' b l ∧ KW b w w'
theorem BPost.of {w : World} {b : Nat} {v r : Value} {l : Bs} {e : Ending} {w' : World} (hne : l ≠ []) (hu : ∀ g, v.ownBlock = some g → b < g) {p : Value} {l0 : Bs} (i : BuildIs w 56 b p v [] l0) (h : WritePost w 56 b v [] l r e w') : BPost w b l r e w' := by
  obtain ⟨rfl, v', i', m, hv⟩ := h
  have hb := lt_of_block i.blk
  refine ⟨rfl, ⟨_, v', i', ?_, fun e => absurd e hne⟩, m.mono ?_⟩
  · intro g hg
    rcases hv with h | ⟨g', h, hg'⟩
    · exact hu g (h ▸ hg)
    · rw [h] at hg; cases hg; omega
  · rintro k hk (rfl | hx)
    · exact ⟨Nat.le_refl _, _, 56, _, i.blk, .inr rfl⟩
    · refine ⟨Nat.le_of_lt (hu _ hx), ?_⟩
      rcases i.own.row.2 with ⟨rfl, -⟩ | ⟨g', cap, cur, rfl, -, hgg, -⟩
      · simp [Value.ownBlock] at hx
      · simp [Value.ownBlock] at hx; subst hx
        exact ⟨cur, 5, _, hgg, .inl rfl⟩
theorem wstrB {w : World} {b : Nat} {l : Bs} (h : BB w b l) (s : ByteArray) (hs : s.toList ≠ []) (hl : l.length + s.size ≤ 140737488355328) : Calls Tryz.prog 54 #[.pointer (some ⟨b, 0, none⟩), .string s] w (BPost w b (l ++ s.toList) (.tuple #[.int .i64 s.size, .nilIface])) := by
  obtain ⟨p, v, i, hu, -⟩ := h.is
  exact (wstr_any i s hl).mono fun e w' hp => BPost.of (by simp [hs]) hu i hp
theorem wbyteB {w : World} {b : Nat} {l : Bs} (h : BB w b l) (c : UInt8) (hl : l.length ≤ 140737488351232) : Calls Tryz.prog 132 #[.pointer (some ⟨b, 0, none⟩), .int .u8 c.toNat] w (BPost w b (l ++ [c]) .nilIface) := by
  obtain ⟨p, v, i, hu, -⟩ := h.is
  exact (wbyte_any i c hl).mono fun e w' hp => BPost.of (by simp) hu i hp
theorem blenB {w : World} {b : Nat} {l : Bs} (h : BB w b l) : Calls Tryz.prog 27 #[.pointer (some ⟨b, 0, none⟩)] w fun e w' => e = .returned (.int .i64 l.length) ∧ w' = w := by
  obtain ⟨p, v, i, -⟩ := h.is
  exact blen_any i
theorem bstringB {w : World} {b : Nat} {l : Bs} (h : BB w b l) : Calls Tryz.prog 28 #[.pointer (some ⟨b, 0, none⟩)] w fun e w' => e = .returned (.string (str l)) ∧ KW (b + 1) w w' := by
  obtain ⟨p, v, i, hu, he⟩ := h.is
  by_cases hl : l = []
  · subst hl
    obtain rfl := he rfl
    exact (bstring0_any i).mono fun e w' hp => ⟨hp.1, Mod.of_below hp.2⟩
  · refine (bstring_any i hl).mono fun e w' hp => ⟨hp.1, hp.2.mono ?_⟩
    intro k hk hx
    refine ⟨hu _ hx, ?_⟩
    rcases i.own.row.2 with ⟨rfl, -⟩ | ⟨g', cap, cur, rfl, -, hgg, -⟩
    · simp [Value.ownBlock] at hx
    · simp [Value.ownBlock] at hx; subst hx
      exact ⟨cur, 5, _, hgg, .inl rfl⟩
set_option maxHeartbeats 1600000 in
set_option maxRecDepth 100000 in
theorem wruneB {w : World} {b : Nat} {l : Bs} (h : BB w b l) (r : Int) (h0 : -2147483648 ≤ r) (h1 : r ≤ 2147483647) (hl : l.length ≤ 140737488351232) :
    Calls Tryz.prog 91 #[.pointer (some ⟨b, 0, none⟩), .int .i32 r] w (BPost w b (l ++ Lib.encodeRune r) (.tuple #[.int .i64 (Lib.encodeRune r).length, .nilIface])) := by
  obtain ⟨p, v, i, hu, he⟩ := h.is
  have HC := check_any i
  have HI := Lib.hid (⟨i, hu⟩ : _ ∧ _)
  clear i he h hu
  go_enter Tryz.func91, Tryz.ntmps91
  go_wp2_with fail
  refine HC.mono ?_
  rintro e w1 ⟨rfl, i1, m1⟩
  have I1 := Lib.hid i1
  have M1 := Lib.hid m1
  have hb1 := lt_of_block i1.blk
  have HA := Tryz.utf8_AppendRune_plain (b + 1) v l.length (Lib.byteCells l) r h0 h1 w1 (own_from i1.own (fun g hg => HI.out.2 g hg)) (by omega) hb1
  obtain ⟨ao, cap, rfl, hlc, hcm, hno, -⟩ := OwnsB.any i1.own
  obtain ⟨-, x1, -, -⟩ := I1.out.cells
  clear i1 m1 HC hlc hcm hno
  go_wp2_with fail
  refine HA.mono ?_
  rintro e w2 ⟨v2, rfl, o2, o, g2⟩
  rw [← Lib.byteCells_encodeRune] at o2
  have e2 : Lib.byteCells l ++ Lib.byteCells (Lib.encodeRune r) = Lib.byteCells (l ++ Lib.encodeRune r) := by simp [Lib.byteCells]
  rw [e2] at o2
  obtain ⟨o2, u2⟩ := own_to o2
  obtain ⟨ao2, cap2, rfl, -⟩ := OwnsB.any o2
  have m2 : Mod (fun k => (Value.slice ao l.length cap).ownBlock = some k) w1 w2 := ((Mod.refl _ w1).alloc o).grown g2 (fun k e _ => e)
  have b2 := m2.blk I1.out.blk (fun e => I1.out.ne e)
  have B2 := Lib.hid b2
  have q1 : w2.cell? ⟨b, 1, none⟩ = some (.slice ao l.length cap) := by rw [cell_blk b2 1]; simp
  have f1 := free_blk b2 1
  have HH := Lib.hid (⟨o2, m2, u2⟩ : _ ∧ _ ∧ _)
  have hw : IntKind.i64.wrap (((l ++ Lib.encodeRune r).length : Int) - (l.length : Int)) = (Lib.encodeRune r).length := by
    have := Lib.runeCells_le r
    rw [Lib.runeCells_length] at this
    rw [List.length_append]; rw [IntKind.wrap_i64]; omega
  clear HA o2 m2 b2 x1 g2 u2 e2
  generalize hL : (l ++ Lib.encodeRune r).length = L at HH hw
  have HL := Lib.hid hL
  generalize hK : (Lib.encodeRune r).length = K at hw ⊢
  have HK := Lib.hid hK
  clear hL hK
  have hw' : wrap64 ((L : Int) - (l.length : Int)) = K := by unfold wrap64; rw [IntKind.wrap_i64] at hw; omega
  go_wp2_with fail
  go_ret2
  have hs1 := M1.out.size
  rw [← HL.out] at HH ⊢
  have hne : (Value.slice ao2 (l ++ Lib.encodeRune r).length cap2).ownBlock ≠ some b := fun e => by have := HH.out.2.2 _ e; omega
  refine ⟨by rw [HK.out]; rfl, ⟨_, .slice ao2 (l ++ Lib.encodeRune r).length cap2, ⟨?_, ?_, hne, .inr rfl, tb56⟩, fun g hg => HH.out.2.2 g hg, ?_⟩, ?_⟩
  · have := set_blk B2.out 1 (.slice ao2 (l ++ Lib.encodeRune r).length cap2)
    simpa using this
  · have m : Mod (fun k => k = b) w2 (w2.setCell ⟨b, 1, none⟩ (.slice ao2 (l ++ Lib.encodeRune r).length cap2)) := (Mod.refl _ _).setCell _ _ (fun _ => rfl)
    exact Owns.mod HH.out.1 m (fun g e x => hne (by rw [e, x]))
  · intro e
    have := Lib.runeCells_le r
    rw [Lib.runeCells_length] at this
    have := congrArg List.length e
    rw [List.length_append, List.length_nil] at this
    omega
  · have mB : Mod (fun k => k = b ∨ (Value.slice ao l.length cap).ownBlock = some k) w w2 := (M1.out.mono (fun _ _ e => .inl e)).trans (HH.out.2.1.mono (fun _ _ e => .inr e))
    refine (mB.setCell _ _ (fun _ => .inl rfl)).mono ?_
    rintro k hk (rfl | hx)
    · exact ⟨Nat.le_refl _, _, 56, _, HI.out.1.blk, .inr rfl⟩
    · refine ⟨Nat.le_of_lt (HI.out.2 _ hx), ?_⟩
      rcases HI.out.1.own.row.2 with ⟨e, -⟩ | ⟨g', cap, cur, e, -, hgg, -⟩
      · rw [e] at hx; simp [Value.ownBlock] at hx
      · rw [e] at hx; simp [Value.ownBlock] at hx; subst hx
        exact ⟨cur, 5, _, hgg, .inl rfl⟩
end Go.Proofs.YtnaefnojmiolbaaGreatDoor
