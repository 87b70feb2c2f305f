/-
  The document's Find, may, Few and Right at every answer (printed by genMayRZ.py).
-/
import Derived.Test.YtnaefnojmiolbaaGreatDoorJw21
import Derived.Test.YtnaefnojmiolbaaGreatDoorJw11
import Derived.Test.YtnaefnojmiolbaaGreatDoorJw22
import Derived.Test.YtnaefnojmiolbaaGreatDoorJw4
namespace Go.Proofs.YtnaefnojmiolbaaGreatDoor
open Go.RowKit

attribute [local go_sem] yld_undef
/-- Find answers a place where the key is there, and below 0 where it is not. -/
def FindPost (w : World) (k : K) (l : List It) (e : Ending) (w' : World) : Prop := ∃ x : Int, e = .returned (.int .i64 x) ∧ (decide (0 ≤ x) = decide (∃ y ∈ l, y.1 = k)) ∧ Below w.heap.size w w'
set_option maxHeartbeats 3200000 in
set_option maxRecDepth 100000 in
theorem rfind_any (k : K) (l : List It) (w : World) (c : Value) (hv : VIn w c l) : Calls Tryz.prog 48 #[c, .agg #[.bool k.b, .int .i64 k.n, .string k.t]] w (FindPost w k l) := by
  obtain ⟨ao, cap, rfl, hlen⟩ := hv.form
  have HV := Lib.hid hv
  have HL := Lib.hid hlen
  have HB := Lib.hid (below_alloc1 w (KB k.b k.n k.t))
  have HX0 := Lib.hid (heap_alloc_new w (KB k.b k.n k.t))
  clear hv hlen
  go_enter Tryz.func48, Tryz.ntmps48
  go_wp2_with fail
  go_loopw [5] (fun kv wr => ∃ (j : Nat), j ≤ l.length ∧ kv = .int .i64 j ∧ Hid (∀ i (h : i < l.length), i < j → l[i].1 ≠ k) ∧ Hid (Below w.heap.size w wr ∧ wr.heap[w.heap.size]? = some (KB k.b k.n k.t))) (fun kv _ => l.length - (intOf kv).toNat)
  case atStart => exact ⟨0, Nat.zero_le _, rfl, Lib.hid (fun i _ h => by omega), Lib.hid ⟨HB.out, HX0.out⟩⟩
  case round =>
    obtain ⟨j, hj, rfl, HF, BX⟩ := hrel
    by_cases hlt : j < l.length
    · have hi : (j : Int) < (l.length : Int) := by omega
      obtain ⟨q, x, g, off, co, cc, hq, hm, rfl, hc, r0, r1, r2, r3, r4, r5, r6⟩ := HV.out.getB hlt BX.out.1 rfl
      obtain ⟨hwi', hwi⟩ : wrap64 ((j : Int) + 1) = (j : Int) + 1 ∧ IntKind.i64.wrap ((j : Int) + 1) = (j : Int) + 1 := wr_sm (by omega) (by have := HL.out; omega)
      obtain ⟨e, he⟩ : ∃ e, K.same q k = e := ⟨_, rfl⟩
      have hN : ∀ w, (binOp .eql 62 (.agg #[.bool q.b, .int .i64 q.n, .string q.t]) (.agg #[.bool k.b, .int .i64 k.n, .string k.t])).run Tryz.prog w = .ok (.bool e) w := fun w => by rw [← he]; exact key_eql q k w
      have hqi : (l[j]'hlt).1 = q := by rw [List.getElem?_eq_getElem hlt] at hq; exact congrArg Prod.fst (Option.some.inj hq)
      have HQE : Hid (e = true → q = k) := Lib.hid (fun h => K.same_iff.1 (he.trans h))
      have HQN : Hid (e = false → ∀ i (h : i < l.length), i < j + 1 → l[i].1 ≠ k) := Lib.hid (fun h i hi1 hi2 => by
        by_cases hij : i < j
        · exact HF.out i hi1 hij
        · obtain rfl : i = j := by omega
          rw [hqi]
          exact K.same_ne.1 (he.trans h))
      have HM : Hid ((q, x) ∈ l) := Lib.hid hm
      obtain ⟨z0, z1, z2⟩ := cells3 BX.out.2
      have HS0 : Hid (((fun V => V.cell? ⟨w.heap.size, 0, none⟩ = some (.bool k.b) ∧ V.cell? ⟨w.heap.size, 1, none⟩ = some (.int .i64 k.n) ∧ V.cell? ⟨w.heap.size, 2, none⟩ = some (.string k.t) ∧ V.cell? ⟨g, off + j * 7, none⟩ = some (.bool q.b) ∧ V.cell? ⟨g, off + j * 7 + 1, none⟩ = some (.int .i64 q.n) ∧ V.cell? ⟨g, off + j * 7 + 2, none⟩ = some (.string q.t)) wr.drew)) := Lib.hid ⟨z0, z1, z2, r0, r1, r2⟩
      have HLT := Lib.hid hlt
      clear hc hq hm hqi he HF z0 z1 z2 r0 r1 r2 r3 r4 r5 r6 hlt
      go_wp2_with fail
      refine wp_region_noPanic ?_
      refine wp_region_held_drew (S := (fun V => V.cell? ⟨w.heap.size, 0, none⟩ = some (.bool k.b) ∧ V.cell? ⟨w.heap.size, 1, none⟩ = some (.int .i64 k.n) ∧ V.cell? ⟨w.heap.size, 2, none⟩ = some (.string k.t) ∧ V.cell? ⟨g, off + j * 7, none⟩ = some (.bool q.b) ∧ V.cell? ⟨g, off + j * 7 + 1, none⟩ = some (.int .i64 q.n) ∧ V.cell? ⟨g, off + j * 7 + 2, none⟩ = some (.string q.t))) (by kernel_rfl) (by exact HS0.out) (fun hHeld => ?_)
      refine wpAnyH_take (i := 0) (oi := ?o0) (v := ?v0) ?hi0 (by kernel_rfl) (by kernel_rfl) (by kernel_rfl) (fun _ _ _ h => h) ?hy0 (by assumption) ?rest0
      case hi0 => simp only [gA, gZ]; rfl
      case hy0 =>
        refine Or.inl ⟨by rfl, ?_⟩
        intro w hSw; (try dsimp only at hSw); go_simp <;> (with_reducible rfl)
      (try simp only [Act.put, pA, pZ, pS])
      refine wpAnyH_take (i := 1) (oi := ?o1) (v := ?v1) ?hi1 (by kernel_rfl) (by kernel_rfl) (by kernel_rfl) (fun _ _ _ h => h) ?hy1 (by assumption) ?rest1
      case hi1 => simp only [gA, gS, gZ]; rfl
      case hy1 =>
        refine Or.inl ⟨by rfl, ?_⟩
        intro w hSw; (try dsimp only at hSw); go_simp <;> (with_reducible rfl)
      (try simp only [Act.put, pA, pZ, pS])
      refine wpAnyH_take (i := 2) (oi := ?o2) (v := ?v2) ?hi2 (by kernel_rfl) (by kernel_rfl) (by kernel_rfl) (fun _ _ _ h => h) ?hy2 (by assumption) ?rest2
      case hi2 => simp only [gA, gS, gZ]; rfl
      case hy2 =>
        refine Or.inl ⟨by rfl, ?_⟩
        intro w hSw; (try dsimp only at hSw); go_simp <;> (with_reducible rfl)
      (try simp only [Act.put, pA, pZ, pS])
      refine wpAnyH_take (i := 3) (oi := ?o3) (v := ?v3) ?hi3 (by kernel_rfl) (by kernel_rfl) (by kernel_rfl) (fun _ _ _ h => h) ?hy3 (by assumption) ?rest3
      case hi3 => simp only [gA, gS, gZ]; rfl
      case hy3 =>
        refine Or.inl ⟨by rfl, ?_⟩
        intro w hSw; (try dsimp only at hSw); go_simp <;> (with_reducible rfl)
      (try simp only [Act.put, pA, pZ, pS])
      refine wpAnyH_take (i := 4) (oi := ?o4) (v := ?v4) ?hi4 (by kernel_rfl) (by kernel_rfl) (by kernel_rfl) (fun _ _ _ h => h) ?hy4 (by assumption) ?rest4
      case hi4 => simp only [gA, gS, gZ]; rfl
      case hy4 =>
        refine Or.inl ⟨by rfl, ?_⟩
        intro w hSw; (try dsimp only at hSw); go_simp <;> (with_reducible rfl)
      (try simp only [Act.put, pA, pZ, pS])
      refine wpAnyH_take (i := 5) (oi := ?o5) (v := ?v5) ?hi5 (by kernel_rfl) (by kernel_rfl) (by kernel_rfl) (fun _ _ _ h => h) ?hy5 (by assumption) ?rest5
      case hi5 => simp only [gA, gS, gZ]; rfl
      case hy5 =>
        refine Or.inl ⟨by rfl, ?_⟩
        intro w hSw; (try dsimp only at hSw); go_simp <;> (with_reducible rfl)
      (try simp only [Act.put, pA, pZ, pS])
      refine wpAnyH_take (i := 6) (oi := ?o6) (v := ?v6) ?hi6 (by kernel_rfl) (by kernel_rfl) (by kernel_rfl) (fun _ _ _ h => h) ?hy6 (by assumption) ?rest6
      case hi6 => simp only [gA, gS, gZ]; rfl
      case hy6 =>
        refine Or.inl ⟨by rfl, ?_⟩
        intro w hSw; (try dsimp only at hSw); go_simp <;> (with_reducible rfl)
      (try simp only [Act.put, pA, pZ, pS])
      refine wpAnyH_done (by kernel_rfl) ?_ _
      refine NoPanic.normal ?_
      cases e with
      | true =>
        have HQT : Hid (q = k) := Lib.hid (HQE.out rfl)
        go_wp2_with fail
        go_ret
        exact ⟨j, rfl, by rw [decide_eq_true (by omega : (0 : Int) ≤ (j : Int)), decide_eq_true ⟨_, HM.out, HQT.out⟩], belowD BX.out.1⟩
      | false =>
        have HQM := Lib.hid (HQN.out rfl)
        go_wp2_with fail
        go_roundw
        case rel => exact ⟨j + 1, HLT.out, by go_num, HQM, Lib.hid ⟨belowD BX.out.1, BX.out.2⟩⟩
        case measure => have := HLT.out; simp [intOf]; omega
    · obtain rfl : j = l.length := by omega
      have HNO : Hid (¬ ∃ y ∈ l, y.1 = k) := Lib.hid (by
        rintro ⟨y, hy, e⟩
        obtain ⟨i, hi, rfl⟩ := List.getElem_of_mem hy
        exact HF.out i hi hi e)
      clear HF
      go_wp2_with fail
      go_ret
      exact ⟨-1, rfl, by rw [decide_eq_false (by decide : ¬ (0 : Int) ≤ -1), decide_eq_false HNO.out], BX.out.1⟩
set_option maxHeartbeats 1600000 in
set_option maxRecDepth 100000 in
theorem rmayg_0 (n : Int) (t : ByteArray) (ao : Option Addr) (m cap : Nat) (d : Int) (w : World) (e1 e2 e3 : Bool) (h1 : (n == 0) = e1) (h2 : t.toList.isEmpty = e2) (h3 : ((m : Int) == 0) = e3) :
    Calls Tryz.prog 59 #[.agg #[.int .i64 0, .int .i64 n, .string t, .slice ao m cap], .int .i64 d] w (BoolPost w (e3 && (e1 && e2))) := by
  obtain ⟨a0, a1, a2, a3⟩ := vb4 (heap_alloc_new w (.cells #[.int .i64 0, .int .i64 n, .string t, .slice ao m cap] 24))
  have HB := Lib.hid (below_alloc1 w (.cells #[.int .i64 0, .int .i64 n, .string t, .slice ao m cap] 24))
  cases e1 <;> cases e2 <;> cases e3 <;> (go_enter Tryz.func59, Tryz.ntmps59; go_wp2_with fail; go_ret; exact ⟨rfl, HB.out⟩)
set_option maxHeartbeats 1600000 in
set_option maxRecDepth 100000 in
theorem rmayg_1 (n : Int) (t : ByteArray) (ao : Option Addr) (m cap : Nat) (d : Int) (w : World) (e0 e1 e2 e3 : Bool) (h0 : (n == 0) = e0) (h1 : (n == 1) = e1) (h2 : t.toList.isEmpty = e2) (h3 : ((m : Int) == 0) = e3) :
    Calls Tryz.prog 59 #[.agg #[.int .i64 1, .int .i64 n, .string t, .slice ao m cap], .int .i64 d] w (BoolPost w (e3 && ((e0 || e1) && e2))) := by
  obtain ⟨a0, a1, a2, a3⟩ := vb4 (heap_alloc_new w (.cells #[.int .i64 1, .int .i64 n, .string t, .slice ao m cap] 24))
  have HB := Lib.hid (below_alloc1 w (.cells #[.int .i64 1, .int .i64 n, .string t, .slice ao m cap] 24))
  cases e0 <;> cases e1 <;> cases e2 <;> cases e3 <;> (go_enter Tryz.func59, Tryz.ntmps59; go_wp2_with fail; go_ret; exact ⟨rfl, HB.out⟩)
set_option maxHeartbeats 1600000 in
set_option maxRecDepth 100000 in
theorem rmayg_2 (n : Int) (t : ByteArray) (ao : Option Addr) (m cap : Nat) (d : Int) (w : World) (e2 e3 : Bool) (h2 : t.toList.isEmpty = e2) (h3 : ((m : Int) == 0) = e3) :
    Calls Tryz.prog 59 #[.agg #[.int .i64 2, .int .i64 n, .string t, .slice ao m cap], .int .i64 d] w (BoolPost w (e3 && e2)) := by
  obtain ⟨a0, a1, a2, a3⟩ := vb4 (heap_alloc_new w (.cells #[.int .i64 2, .int .i64 n, .string t, .slice ao m cap] 24))
  have HB := Lib.hid (below_alloc1 w (.cells #[.int .i64 2, .int .i64 n, .string t, .slice ao m cap] 24))
  cases e2 <;> cases e3 <;> (go_enter Tryz.func59, Tryz.ntmps59; go_wp2_with fail; go_ret; exact ⟨rfl, HB.out⟩)
set_option maxHeartbeats 1600000 in
set_option maxRecDepth 100000 in
theorem rmayg_3 (n : Int) (t : ByteArray) (ao : Option Addr) (m cap : Nat) (d : Int) (w : World) (e1 e2 e3 : Bool) (h1 : (n == 0) = e1) (h2 : decide ((t.size : Int) ≤ 65536) = e2) (h3 : ((m : Int) == 0) = e3) :
    Calls Tryz.prog 59 #[.agg #[.int .i64 3, .int .i64 n, .string t, .slice ao m cap], .int .i64 d] w (BoolPost w (e3 && (e1 && e2))) := by
  obtain ⟨a0, a1, a2, a3⟩ := vb4 (heap_alloc_new w (.cells #[.int .i64 3, .int .i64 n, .string t, .slice ao m cap] 24))
  have HB := Lib.hid (below_alloc1 w (.cells #[.int .i64 3, .int .i64 n, .string t, .slice ao m cap] 24))
  cases e1 <;> cases e2 <;> cases e3 <;> (go_enter Tryz.func59, Tryz.ntmps59; go_wp2_with fail; go_ret; exact ⟨rfl, HB.out⟩)
set_option maxHeartbeats 1600000 in
set_option maxRecDepth 100000 in
theorem rmayg_5 (n : Int) (t : ByteArray) (ao : Option Addr) (m cap : Nat) (d : Int) (w : World) (e1 e2 e3 : Bool) (h1 : decide (1 ≤ n) = e1) (h2 : t.toList.isEmpty = e2) (h3 : ((m : Int) == 0) = e3) :
    Calls Tryz.prog 59 #[.agg #[.int .i64 5, .int .i64 n, .string t, .slice ao m cap], .int .i64 d] w (BoolPost w (e3 && (e1 && e2))) := by
  obtain ⟨a0, a1, a2, a3⟩ := vb4 (heap_alloc_new w (.cells #[.int .i64 5, .int .i64 n, .string t, .slice ao m cap] 24))
  have HB := Lib.hid (below_alloc1 w (.cells #[.int .i64 5, .int .i64 n, .string t, .slice ao m cap] 24))
  cases e1 <;> cases e2 <;> cases e3 <;> (go_enter Tryz.func59, Tryz.ntmps59; go_wp2_with fail; go_ret; exact ⟨rfl, HB.out⟩)
set_option maxHeartbeats 1600000 in
set_option maxRecDepth 100000 in
theorem rmayg_other (k n : Int) (t : ByteArray) (ao : Option Addr) (m cap : Nat) (d : Int) (w : World) (h0 : (k == 0) = false) (h1 : (k == 1) = false) (h2 : (k == 2) = false) (h3 : (k == 3) = false) (h4 : (k == 4) = false) (h5 : (k == 5) = false) :
    Calls Tryz.prog 59 #[.agg #[.int .i64 k, .int .i64 n, .string t, .slice ao m cap], .int .i64 d] w (BoolPost w false) := by
  have hn : (k != 4) = true := by simpa using h4
  obtain ⟨a0, a1, a2, a3⟩ := vb4 (heap_alloc_new w (.cells #[.int .i64 k, .int .i64 n, .string t, .slice ao m cap] 24))
  have HB := Lib.hid (below_alloc1 w (.cells #[.int .i64 k, .int .i64 n, .string t, .slice ao m cap] 24))
  go_enter Tryz.func59, Tryz.ntmps59
  go_wp2_with fail
  go_ret
  exact ⟨rfl, HB.out⟩
set_option maxHeartbeats 3200000 in
set_option maxRecDepth 100000 in
theorem rmayg_bad (n : Int) (t : ByteArray) (ao : Option Addr) (m cap : Nat) (d : Int) (w : World) (g0 g1 g2 g3 : Bool) (h0 : t.toList.isEmpty = g0) (h1 : decide (n < -1) = g1) (h2 : decide (2048 < (m : Int)) = g2) (h3 : decide (64 ≤ d) = g3) (hb : (g0 && !g1 && !g2 && !g3) = false) :
    Calls Tryz.prog 59 #[.agg #[.int .i64 4, .int .i64 n, .string t, .slice ao m cap], .int .i64 d] w (BoolPost w false) := by
  obtain ⟨a0, a1, a2, a3⟩ := vb4 (heap_alloc_new w (.cells #[.int .i64 4, .int .i64 n, .string t, .slice ao m cap] 24))
  have HB := Lib.hid (below_alloc1 w (.cells #[.int .i64 4, .int .i64 n, .string t, .slice ao m cap] 24))
  cases g0 <;> cases g1 <;> cases g2 <;> cases g3 <;> first | (cases hb; done) | (go_enter Tryz.func59, Tryz.ntmps59; go_wp2_with fail; go_ret; exact ⟨rfl, HB.out⟩)
set_option maxHeartbeats 25600000 in
set_option maxRecDepth 100000 in
theorem rmayg_list (n : Int) (t : ByteArray) (l : List It) (hg : GoodL l) (d : Int) (h0 : 0 ≤ d) (hd : d < 64) (ht : t.toList.isEmpty = true) (hn : -1 ≤ n) (hl : l.length ≤ 2048)
    (ih : ∀ x ∈ l, ∀ (w : World) (c : Value), VCap w c x.2.xs → Tabs w → Calls Tryz.prog 59 #[x.2.v c, .int .i64 (d + 1)] w (BoolPost w (mayV x.2 (d + 1))))
    (ao : Option Addr) (cap : Nat) (w : World) (hv : VCap w (.slice ao l.length cap) l) (htb : Tabs w) : Calls Tryz.prog 59 #[.agg #[.int .i64 4, .int .i64 n, .string t, .slice ao l.length cap], .int .i64 d] w (BoolPost w (itemsL n d [] l)) := by
  have hcap : l.length ≤ cap := by
    obtain ⟨a, b, e, -, h⟩ := hv.form
    cases e
    exact h
  have HB := Lib.hid (below_alloc1 w (VB (.mk 4 n t l) (.slice ao l.length cap)))
  have HX0 := Lib.hid (heap_alloc_new w (VB (.mk 4 n t l) (.slice ao l.length cap)))
  obtain ⟨a0, a1, a2, a3⟩ := vb_cells HX0.out
  simp only [VT.k, VT.n, VT.t] at a0 a1 a2
  have HV := Lib.hid hv
  have IH := Lib.hid ih
  have HT := Lib.hid (fun W' hb => htb.mono hb : ∀ W', Below w.heap.size w W' → Tabs W')
  have HG := Lib.hid (goodL_iff.1 hg)
  have e1 : decide (n < -1) = false := by simp; omega
  have e2 : decide (2048 < (l.length : Int)) = false := by simp; omega
  have e3 : decide (64 ≤ d) = false := by simp; omega
  obtain ⟨hwd', hwd⟩ := wr_sm (x := d + 1) (by omega) (by omega)
  have HLL := Lib.hid hl
  have HCP := Lib.hid hcap
  obtain ⟨f0, hf0⟩ : ∃ e, decide (0 ≤ n) = e := ⟨_, rfl⟩
  have HF0 := Lib.hid hf0
  obtain ⟨r, hr⟩ : ∃ r, r = itemsL n d [] l := ⟨_, rfl⟩
  rw [← hr]
  have HR0 : Hid (r = itemsL n d [] (l.drop 0)) := Lib.hid hr
  clear hv ih hg htb hn hl hcap hd h0 hr
  go_enter Tryz.func59, Tryz.ntmps59
  go_wp2_with fail
  go_loopw [5] (fun kv wr => ∃ (j : Nat) (met : List K), j ≤ l.length ∧ kv = .int .i64 j ∧ Hid (r = itemsL n d met (l.drop j)) ∧ Hid (∀ k, k ∈ met ↔ ∃ y ∈ l.take j, y.1 = k) ∧ Hid (Below w.heap.size w wr ∧ wr.heap[w.heap.size]? = some (VB (.mk 4 n t l) (.slice ao l.length cap)))) (fun kv _ => l.length - (intOf kv).toNat)
  case atStart => exact ⟨0, [], Nat.zero_le _, rfl, HR0, Lib.hid (fun k => by simp), Lib.hid ⟨HB.out, HX0.out⟩⟩
  case round =>
    clear HR0
    obtain ⟨j, met, hj, rfl, HRJ, HME, BX⟩ := hrel
    have x3 : wr.cell? ⟨w.heap.size, 3, none⟩ = some (.slice ao l.length cap) := (vb_cells BX.out.2).2.2.2
    clear a0 a1 a2 a3
    by_cases hlt : j < l.length
    · have hi : (j : Int) < (l.length : Int) := by omega
      obtain ⟨q, x, g, off, co, cc, hq, hm, rfl, hc, r0, r1, r2, r3, r4, r5, r6⟩ := HV.out.getB hlt BX.out.1
      obtain ⟨hwi', hwi⟩ : wrap64 ((j : Int) + 1) = (j : Int) + 1 ∧ IntKind.i64.wrap ((j : Int) + 1) = (j : Int) + 1 := wr_sm (by omega) (by have := HLL.out; omega)
      have hjc : (j : Int) ≤ (cap : Int) := by have := HCP.out; omega
      have hj0 : (0 : Int) ≤ (j : Int) := by omega
      obtain ⟨qn, hqn⟩ : ∃ qn, qn = q.norm := ⟨_, rfl⟩
      have HN : ∀ W, Tabs W → Calls Tryz.prog 47 #[.agg #[.bool q.b, .int .i64 q.n, .string q.t]] W fun e w' => e = .returned (.agg #[.bool qn.b, .int .i64 qn.n, .string qn.t]) ∧ Below W.heap.size W w' := fun W h => by
        rw [hqn]
        exact Doc.rnorm_any q (HG.out _ hm).1 W h
      obtain ⟨f1, hf1⟩ : ∃ f1, K.same q qn = f1 := ⟨_, rfl⟩
      have hN : ∀ w, (binOp .neq 62 (.agg #[.bool q.b, .int .i64 q.n, .string q.t]) (.agg #[.bool qn.b, .int .i64 qn.n, .string qn.t])).run Tryz.prog w = .ok (.bool (!f1)) w := fun w => by rw [← hf1]; exact key_neq q qn w
      obtain ⟨f2, hf2⟩ : ∃ f2, decide (q ∈ met) = f2 := ⟨_, rfl⟩
      have HMET : Hid (decide (∃ y ∈ l.take j, y.1 = q) = decide (q ∈ met)) := Lib.hid (decide_eq_decide.2 (HME.out q).symm)
      have HFN : ∀ W, Below w.heap.size w W → Calls Tryz.prog 48 #[.slice (some ⟨g, off, none⟩) j cap, .agg #[.bool q.b, .int .i64 q.n, .string q.t]] W (FindPost W q (l.take j)) := fun W h => rfind_any q (l.take j) W _ ((HV.out.take (by omega)).under h)
      obtain ⟨f3, hf3⟩ : ∃ f3, mayV x (d + 1) = f3 := ⟨_, rfl⟩
      have HC : ∀ V, VCap V (.slice co x.xs.length cc) x.xs → Tabs V → Calls Tryz.prog 59 #[.agg #[.int .i64 x.k, .int .i64 x.n, .string x.t, .slice co x.xs.length cc], .int .i64 (d + 1)] V (BoolPost V f3) := fun V h1 h2 => by rw [← hf3]; exact IH.out (q, x) hm V _ h1 h2
      obtain ⟨f4, hf4⟩ : ∃ e, decide (n ≤ q.n) = e := ⟨_, rfl⟩
      have HRN : Hid (r = ((f1 && !f2 && f3) && (!(!q.b && f0 && f4) && itemsL n d (q :: met) (l.drop (j + 1))))) := Lib.hid (by rw [HRJ.out, drop_at hq, itemsL_at, K.same_comm, ← hqn, hf1, hf2, hf3, HF0.out, hf4])
      have HMN : Hid (∀ k, k ∈ q :: met ↔ ∃ y ∈ l.take (j + 1), y.1 = k) := Lib.hid (fun k => by
        have hz : l.take (j + 1) = l.take j ++ [(q, x)] := by rw [List.take_add_one, hq]; rfl
        rw [hz, List.mem_cons, HME.out k]
        constructor
        · rintro (rfl | ⟨y, hy, e⟩)
          · exact ⟨(k, x), by simp, rfl⟩
          · exact ⟨y, by simp [hy], e⟩
        · rintro ⟨y, hy, e⟩
          rcases List.mem_append.1 hy with hy | hy
          · exact .inr ⟨y, hy, e⟩
          · rw [List.mem_singleton.1 hy] at e
            exact .inl e.symm)
      have HB1 := Lib.hid (BX.out.1.alloc BX.out.1.size (KB q.b q.n q.t))
      have HK1 := Lib.hid (heap_alloc_new wr (KB q.b q.n q.t))
      have HV1 := Lib.hid (alloc_blk BX.out.2 (KB q.b q.n q.t))
      have hgl : g < wr.heap.size := cell_lt r3
      have six : ∀ {V : World}, Below (wr.alloc (KB q.b q.n q.t)).heap.size (wr.alloc (KB q.b q.n q.t)) V → ((fun V => V.cell? ⟨w.heap.size, 3, none⟩ = some (.slice (some ⟨g, off, none⟩) l.length cap) ∧ V.cell? ⟨wr.heap.size, 0, none⟩ = some (.bool q.b) ∧ V.cell? ⟨wr.heap.size, 1, none⟩ = some (.int .i64 q.n) ∧ V.cell? ⟨wr.heap.size, 2, none⟩ = some (.string q.t) ∧ V.cell? ⟨g, off + j * 7 + 3, none⟩ = some (.int .i64 x.k) ∧ V.cell? ⟨g, off + j * 7 + 4, none⟩ = some (.int .i64 x.n) ∧ V.cell? ⟨g, off + j * 7 + 5, none⟩ = some (.string x.t) ∧ V.cell? ⟨g, off + j * 7 + 6, none⟩ = some (.slice co x.xs.length cc)) V) := fun {V} hb => by
        have hbw : Below wr.heap.size wr V := (below_alloc1 wr (KB q.b q.n q.t)).trans (hb.mono (by simp))
        obtain ⟨z0, z1, z2⟩ := cells3 ((hb.block _ (lt_of_block HK1.out)).trans HK1.out)
        exact ⟨(vb_cells ((hb.block _ (lt_of_block HV1.out)).trans HV1.out)).2.2.2, z0, z1, z2, (hbw.cell (p := ⟨g, _, none⟩) hgl).trans r3, (hbw.cell (p := ⟨g, _, none⟩) hgl).trans r4, (hbw.cell (p := ⟨g, _, none⟩) hgl).trans r5, (hbw.cell (p := ⟨g, _, none⟩) hgl).trans r6⟩
      have HSX := @Lib.hid _ @six
      have HS0 := Lib.hid (six (Below.refl (wr.alloc (KB q.b q.n q.t)).heap.size (wr.alloc (KB q.b q.n q.t))).drew)
      have HD0 : Hid (Below (wr.alloc (KB q.b q.n q.t)).heap.size (wr.alloc (KB q.b q.n q.t)) (wr.alloc (KB q.b q.n q.t)).drew) := Lib.hid (Below.refl _ _).drew
      have HCC := Lib.hid (hc.under (below_alloc1 wr (KB q.b q.n q.t)))
      have HLT := Lib.hid hlt
      clear hc hq hm hlt six r3 r4 r5 r6 hqn hf1 hf3 HRJ HME
      cases f1 with
      | false =>
        have HRF : Hid (r = false) := Lib.hid HRN.out
        go_wp2_with fail
        refine wp_region_noPanic ?_
        refine wp_region_held_drew (S := (fun V => V.cell? ⟨w.heap.size, 3, none⟩ = some (.slice (some ⟨g, off, none⟩) l.length cap) ∧ V.cell? ⟨wr.heap.size, 0, none⟩ = some (.bool q.b) ∧ V.cell? ⟨wr.heap.size, 1, none⟩ = some (.int .i64 q.n) ∧ V.cell? ⟨wr.heap.size, 2, none⟩ = some (.string q.t) ∧ V.cell? ⟨g, off + j * 7 + 3, none⟩ = some (.int .i64 x.k) ∧ V.cell? ⟨g, off + j * 7 + 4, none⟩ = some (.int .i64 x.n) ∧ V.cell? ⟨g, off + j * 7 + 5, none⟩ = some (.string x.t) ∧ V.cell? ⟨g, off + j * 7 + 6, none⟩ = some (.slice co x.xs.length cc))) (by kernel_rfl) (by exact HS0.out) (fun hHeld => ?_)
        refine wpAnyH_take (i := 0) (oi := ?oA0) (v := ?vA0) ?hiA0 (by kernel_rfl) (by kernel_rfl) (by kernel_rfl) (fun _ _ _ h => h) ?hyA0 (by assumption) ?restA0
        case hiA0 => simp only [gA, gZ]; rfl
        case hyA0 =>
          refine Or.inl ⟨by rfl, ?_⟩
          intro w hSw; (try dsimp only at hSw); go_simp <;> (with_reducible rfl)
        (try simp only [Act.put, pA, pZ, pS])
        refine wpAnyH_take (i := 1) (oi := ?oA1) (v := ?vA1) ?hiA1 (by kernel_rfl) (by kernel_rfl) (by kernel_rfl) (fun _ _ _ h => h) ?hyA1 (by assumption) ?restA1
        case hiA1 => simp only [gA, gS, gZ]; rfl
        case hyA1 =>
          refine Or.inl ⟨by rfl, ?_⟩
          intro w hSw; (try dsimp only at hSw); go_simp <;> (with_reducible rfl)
        (try simp only [Act.put, pA, pZ, pS])
        refine wpAnyH_ready (rs := [2]) (by kernel_rfl) (by simp) ?_
        refine AllReadyH.cons rfl (fun K hK => ?_) AllReadyH.nil
        go_simp
        refine (HN _ (HT.out _ (HB1.out.trans (HD0.out.mono HB1.out.size)))).mono ?_
        rintro _ w1 ⟨rfl, hb⟩
        have HD1 : Hid (Below (wr.alloc (KB q.b q.n q.t)).heap.size (wr.alloc (KB q.b q.n q.t)) w1) := Lib.hid (HD0.out.trans hb)
        clear hb
        refine hK.out _ _ (HSX.out HD1.out) (fun hHeldA2 => ?_)
        clear hK K
        (try simp only [Act.put, pA, pZ, pS])
        refine wpAnyH_take (i := 3) (oi := ?oA3) (v := ?vA3) ?hiA3 (by kernel_rfl) (by kernel_rfl) (by kernel_rfl) (fun _ _ _ h => h) ?hyA3 (by assumption) ?restA3
        case hiA3 => simp only [gA, gS, gZ]; rfl
        case hyA3 =>
          refine Or.inl ⟨by rfl, ?_⟩
          intro w hSw; (try dsimp only at hSw); go_simp <;> (with_reducible rfl)
        (try simp only [Act.put, pA, pZ, pS])
        refine wpAnyH_take (i := 4) (oi := ?oA4) (v := ?vA4) ?hiA4 (by kernel_rfl) (by kernel_rfl) (by kernel_rfl) (fun _ _ _ h => h) ?hyA4 (by assumption) ?restA4
        case hiA4 => simp only [gA, gS, gZ]; rfl
        case hyA4 =>
          refine Or.inl ⟨by rfl, ?_⟩
          intro w hSw; (try dsimp only at hSw); go_simp <;> (with_reducible rfl)
        (try simp only [Act.put, pA, pZ, pS])
        refine wpAnyH_take (i := 5) (oi := ?oA5) (v := undef) ?hiA5 (by kernel_rfl) (by kernel_rfl) (by kernel_rfl) (fun _ _ _ h => h) ?hyA5 (by assumption) ?restA5
        case hiA5 => simp only [gA, gS, gZ]; rfl
        case hyA5 => exact Or.inr ⟨by rfl, rfl⟩
        (try simp only [Act.put, pA, pZ, pS])
        refine wpAnyH_take (i := 6) (oi := ?oA6) (v := undef) ?hiA6 (by kernel_rfl) (by kernel_rfl) (by kernel_rfl) (fun _ _ _ h => h) ?hyA6 (by assumption) ?restA6
        case hiA6 => simp only [gA, gS, gZ]; rfl
        case hyA6 => exact Or.inr ⟨by rfl, rfl⟩
        (try simp only [Act.put, pA, pZ, pS])
        refine wpAnyH_take (i := 7) (oi := ?oA7) (v := undef) ?hiA7 (by kernel_rfl) (by kernel_rfl) (by kernel_rfl) (fun _ _ _ h => h) ?hyA7 (by assumption) ?restA7
        case hiA7 => simp only [gA, gS, gZ]; rfl
        case hyA7 => exact Or.inr ⟨by rfl, rfl⟩
        (try simp only [Act.put, pA, pZ, pS])
        refine wpAnyH_take (i := 8) (oi := ?oA8) (v := undef) ?hiA8 (by kernel_rfl) (by kernel_rfl) (by kernel_rfl) (fun _ _ _ h => h) ?hyA8 (by assumption) ?restA8
        case hiA8 => simp only [gA, gS, gZ]; rfl
        case hyA8 => exact Or.inr ⟨by rfl, rfl⟩
        (try simp only [Act.put, pA, pZ, pS])
        refine wpAnyH_take (i := 9) (oi := ?oA9) (v := undef) ?hiA9 (by kernel_rfl) (by kernel_rfl) (by kernel_rfl) (fun _ _ _ h => h) ?hyA9 (by assumption) ?restA9
        case hiA9 => simp only [gA, gS, gZ]; rfl
        case hyA9 => exact Or.inr ⟨by rfl, rfl⟩
        (try simp only [Act.put, pA, pZ, pS])
        refine wpAnyH_take (i := 10) (oi := ?oA10) (v := undef) ?hiA10 (by kernel_rfl) (by kernel_rfl) (by kernel_rfl) (fun _ _ _ h => h) ?hyA10 (by assumption) ?restA10
        case hiA10 => simp only [gA, gS, gZ]; rfl
        case hyA10 => exact Or.inr ⟨by rfl, rfl⟩
        (try simp only [Act.put, pA, pZ, pS])
        refine wpAnyH_take (i := 11) (oi := ?oA11) (v := undef) ?hiA11 (by kernel_rfl) (by kernel_rfl) (by kernel_rfl) (fun _ _ _ h => h) ?hyA11 (by assumption) ?restA11
        case hiA11 => simp only [gA, gS, gZ]; rfl
        case hyA11 => exact Or.inr ⟨by rfl, rfl⟩
        (try simp only [Act.put, pA, pZ, pS])
        refine wpAnyH_take (i := 12) (oi := ?oA12) (v := ?vA12) ?hiA12 (by kernel_rfl) (by kernel_rfl) (by kernel_rfl) (fun _ _ _ h => h) ?hyA12 (by assumption) ?restA12
        case hiA12 => simp only [gA, gS, gZ]; rfl
        case hyA12 =>
          refine Or.inl ⟨by rfl, ?_⟩
          intro w hSw; (try dsimp only at hSw); go_simp <;> (with_reducible rfl)
        (try simp only [Act.put, pA, pZ, pS])
        refine wpAnyH_take (i := 13) (oi := ?oA13) (v := ?vA13) ?hiA13 (by kernel_rfl) (by kernel_rfl) (by kernel_rfl) (fun _ _ _ h => h) ?hyA13 (by assumption) ?restA13
        case hiA13 => simp only [gA, gS, gZ]; rfl
        case hyA13 =>
          refine Or.inl ⟨by rfl, ?_⟩
          intro w hSw; (try dsimp only at hSw); go_simp <;> (with_reducible rfl)
        (try simp only [Act.put, pA, pZ, pS])
        refine wpAnyH_take (i := 14) (oi := ?oA14) (v := undef) ?hiA14 (by kernel_rfl) (by kernel_rfl) (by kernel_rfl) (fun _ _ _ h => h) ?hyA14 (by assumption) ?restA14
        case hiA14 => simp only [gA, gS, gZ]; rfl
        case hyA14 => exact Or.inr ⟨by rfl, rfl⟩
        (try simp only [Act.put, pA, pZ, pS])
        refine wpAnyH_take (i := 15) (oi := ?oA15) (v := undef) ?hiA15 (by kernel_rfl) (by kernel_rfl) (by kernel_rfl) (fun _ _ _ h => h) ?hyA15 (by assumption) ?restA15
        case hiA15 => simp only [gA, gS, gZ]; rfl
        case hyA15 => exact Or.inr ⟨by rfl, rfl⟩
        (try simp only [Act.put, pA, pZ, pS])
        refine wpAnyH_take (i := 16) (oi := ?oA16) (v := undef) ?hiA16 (by kernel_rfl) (by kernel_rfl) (by kernel_rfl) (fun _ _ _ h => h) ?hyA16 (by assumption) ?restA16
        case hiA16 => simp only [gA, gS, gZ]; rfl
        case hyA16 => exact Or.inr ⟨by rfl, rfl⟩
        (try simp only [Act.put, pA, pZ, pS])
        refine wpAnyH_take (i := 17) (oi := ?oA17) (v := undef) ?hiA17 (by kernel_rfl) (by kernel_rfl) (by kernel_rfl) (fun _ _ _ h => h) ?hyA17 (by assumption) ?restA17
        case hiA17 => simp only [gA, gS, gZ]; rfl
        case hyA17 => exact Or.inr ⟨by rfl, rfl⟩
        (try simp only [Act.put, pA, pZ, pS])
        refine wpAnyH_take (i := 18) (oi := ?oA18) (v := undef) ?hiA18 (by kernel_rfl) (by kernel_rfl) (by kernel_rfl) (fun _ _ _ h => h) ?hyA18 (by assumption) ?restA18
        case hiA18 => simp only [gA, gS, gZ]; rfl
        case hyA18 => exact Or.inr ⟨by rfl, rfl⟩
        (try simp only [Act.put, pA, pZ, pS])
        refine wpAnyH_take (i := 19) (oi := ?oA19) (v := undef) ?hiA19 (by kernel_rfl) (by kernel_rfl) (by kernel_rfl) (fun _ _ _ h => h) ?hyA19 (by assumption) ?restA19
        case hiA19 => simp only [gA, gS, gZ]; rfl
        case hyA19 => exact Or.inr ⟨by rfl, rfl⟩
        (try simp only [Act.put, pA, pZ, pS])
        refine wpAnyH_take (i := 20) (oi := ?oA20) (v := undef) ?hiA20 (by kernel_rfl) (by kernel_rfl) (by kernel_rfl) (fun _ _ _ h => h) ?hyA20 (by assumption) ?restA20
        case hiA20 => simp only [gA, gS, gZ]; rfl
        case hyA20 => exact Or.inr ⟨by rfl, rfl⟩
        (try simp only [Act.put, pA, pZ, pS])
        refine wpAnyH_take (i := 21) (oi := ?oA21) (v := undef) ?hiA21 (by kernel_rfl) (by kernel_rfl) (by kernel_rfl) (fun _ _ _ h => h) ?hyA21 (by assumption) ?restA21
        case hiA21 => simp only [gA, gS, gZ]; rfl
        case hyA21 => exact Or.inr ⟨by rfl, rfl⟩
        (try simp only [Act.put, pA, pZ, pS])
        refine wpAnyH_take (i := 22) (oi := ?oA22) (v := undef) ?hiA22 (by kernel_rfl) (by kernel_rfl) (by kernel_rfl) (fun _ _ _ h => h) ?hyA22 (by assumption) ?restA22
        case hiA22 => simp only [gA, gS, gZ]; rfl
        case hyA22 => exact Or.inr ⟨by rfl, rfl⟩
        (try simp only [Act.put, pA, pZ, pS])
        refine wpAnyH_take (i := 23) (oi := ?oA23) (v := undef) ?hiA23 (by kernel_rfl) (by kernel_rfl) (by kernel_rfl) (fun _ _ _ h => h) ?hyA23 (by assumption) ?restA23
        case hiA23 => simp only [gA, gS, gZ]; rfl
        case hyA23 => exact Or.inr ⟨by rfl, rfl⟩
        (try simp only [Act.put, pA, pZ, pS])
        refine wpAnyH_take (i := 24) (oi := ?oA24) (v := ?vA24) ?hiA24 (by kernel_rfl) (by kernel_rfl) (by kernel_rfl) (fun _ _ _ h => h) ?hyA24 (by assumption) ?restA24
        case hiA24 => simp only [gA, gS, gZ]; rfl
        case hyA24 =>
          refine Or.inl ⟨by rfl, ?_⟩
          intro w hSw; (try dsimp only at hSw); go_simp <;> (with_reducible rfl)
        (try simp only [Act.put, pA, pZ, pS])
        refine wpAnyH_done (by kernel_rfl) ?_ _
        refine NoPanic.normal ?_
        go_wp2_with fail
        go_ret
        exact ⟨by rw [HRF.out]; rfl, HB1.out.trans (HD1.out.mono HB1.out.size)⟩
      | true =>
        cases f2 with
        | true =>
          have HRF : Hid (r = false) := Lib.hid HRN.out
          go_wp2_with fail
          refine wp_region_noPanic ?_
          refine wp_region_held_drew (S := (fun V => V.cell? ⟨w.heap.size, 3, none⟩ = some (.slice (some ⟨g, off, none⟩) l.length cap) ∧ V.cell? ⟨wr.heap.size, 0, none⟩ = some (.bool q.b) ∧ V.cell? ⟨wr.heap.size, 1, none⟩ = some (.int .i64 q.n) ∧ V.cell? ⟨wr.heap.size, 2, none⟩ = some (.string q.t) ∧ V.cell? ⟨g, off + j * 7 + 3, none⟩ = some (.int .i64 x.k) ∧ V.cell? ⟨g, off + j * 7 + 4, none⟩ = some (.int .i64 x.n) ∧ V.cell? ⟨g, off + j * 7 + 5, none⟩ = some (.string x.t) ∧ V.cell? ⟨g, off + j * 7 + 6, none⟩ = some (.slice co x.xs.length cc))) (by kernel_rfl) (by exact HS0.out) (fun hHeld => ?_)
          refine wpAnyH_take (i := 0) (oi := ?oB0) (v := ?vB0) ?hiB0 (by kernel_rfl) (by kernel_rfl) (by kernel_rfl) (fun _ _ _ h => h) ?hyB0 (by assumption) ?restB0
          case hiB0 => simp only [gA, gZ]; rfl
          case hyB0 =>
            refine Or.inl ⟨by rfl, ?_⟩
            intro w hSw; (try dsimp only at hSw); go_simp <;> (with_reducible rfl)
          (try simp only [Act.put, pA, pZ, pS])
          refine wpAnyH_take (i := 1) (oi := ?oB1) (v := ?vB1) ?hiB1 (by kernel_rfl) (by kernel_rfl) (by kernel_rfl) (fun _ _ _ h => h) ?hyB1 (by assumption) ?restB1
          case hiB1 => simp only [gA, gS, gZ]; rfl
          case hyB1 =>
            refine Or.inl ⟨by rfl, ?_⟩
            intro w hSw; (try dsimp only at hSw); go_simp <;> (with_reducible rfl)
          (try simp only [Act.put, pA, pZ, pS])
          refine wpAnyH_ready (rs := [2]) (by kernel_rfl) (by simp) ?_
          refine AllReadyH.cons rfl (fun K hK => ?_) AllReadyH.nil
          go_simp
          refine (HN _ (HT.out _ (HB1.out.trans (HD0.out.mono HB1.out.size)))).mono ?_
          rintro _ w1 ⟨rfl, hb⟩
          have HD1 : Hid (Below (wr.alloc (KB q.b q.n q.t)).heap.size (wr.alloc (KB q.b q.n q.t)) w1) := Lib.hid (HD0.out.trans hb)
          clear hb
          refine hK.out _ _ (HSX.out HD1.out) (fun hHeldB2 => ?_)
          clear hK K
          (try simp only [Act.put, pA, pZ, pS])
          refine wpAnyH_take (i := 3) (oi := ?oB3) (v := ?vB3) ?hiB3 (by kernel_rfl) (by kernel_rfl) (by kernel_rfl) (fun _ _ _ h => h) ?hyB3 (by assumption) ?restB3
          case hiB3 => simp only [gA, gS, gZ]; rfl
          case hyB3 =>
            refine Or.inl ⟨by rfl, ?_⟩
            intro w hSw; (try dsimp only at hSw); go_simp <;> (with_reducible rfl)
          (try simp only [Act.put, pA, pZ, pS])
          refine wpAnyH_take (i := 4) (oi := ?oB4) (v := ?vB4) ?hiB4 (by kernel_rfl) (by kernel_rfl) (by kernel_rfl) (fun _ _ _ h => h) ?hyB4 (by assumption) ?restB4
          case hiB4 => simp only [gA, gS, gZ]; rfl
          case hyB4 =>
            refine Or.inl ⟨by rfl, ?_⟩
            intro w hSw; (try dsimp only at hSw); go_simp <;> (with_reducible rfl)
          (try simp only [Act.put, pA, pZ, pS])
          refine wpAnyH_take (i := 5) (oi := ?oB5) (v := ?vB5) ?hiB5 (by kernel_rfl) (by kernel_rfl) (by kernel_rfl) (fun _ _ _ h => h) ?hyB5 (by assumption) ?restB5
          case hiB5 => simp only [gA, gS, gZ]; rfl
          case hyB5 =>
            refine Or.inl ⟨by rfl, ?_⟩
            intro w hSw; (try dsimp only at hSw); go_simp <;> (with_reducible rfl)
          (try simp only [Act.put, pA, pZ, pS])
          refine wpAnyH_take (i := 6) (oi := ?oB6) (v := ?vB6) ?hiB6 (by kernel_rfl) (by kernel_rfl) (by kernel_rfl) (fun _ _ _ h => h) ?hyB6 (by assumption) ?restB6
          case hiB6 => simp only [gA, gS, gZ]; rfl
          case hyB6 =>
            refine Or.inl ⟨by rfl, ?_⟩
            intro w hSw; (try dsimp only at hSw); go_simp <;> (with_reducible rfl)
          (try simp only [Act.put, pA, pZ, pS])
          refine wpAnyH_take (i := 7) (oi := ?oB7) (v := ?vB7) ?hiB7 (by kernel_rfl) (by kernel_rfl) (by kernel_rfl) (fun _ _ _ h => h) ?hyB7 (by assumption) ?restB7
          case hiB7 => simp only [gA, gS, gZ]; rfl
          case hyB7 =>
            refine Or.inl ⟨by rfl, ?_⟩
            intro w hSw; (try dsimp only at hSw); go_simp <;> (with_reducible rfl)
          (try simp only [Act.put, pA, pZ, pS])
          refine wpAnyH_take (i := 8) (oi := ?oB8) (v := ?vB8) ?hiB8 (by kernel_rfl) (by kernel_rfl) (by kernel_rfl) (fun _ _ _ h => h) ?hyB8 (by assumption) ?restB8
          case hiB8 => simp only [gA, gS, gZ]; rfl
          case hyB8 =>
            refine Or.inl ⟨by rfl, ?_⟩
            intro w hSw; (try dsimp only at hSw); go_simp <;> (with_reducible rfl)
          (try simp only [Act.put, pA, pZ, pS])
          refine wpAnyH_take (i := 9) (oi := ?oB9) (v := ?vB9) ?hiB9 (by kernel_rfl) (by kernel_rfl) (by kernel_rfl) (fun _ _ _ h => h) ?hyB9 (by assumption) ?restB9
          case hiB9 => simp only [gA, gS, gZ]; rfl
          case hyB9 =>
            refine Or.inl ⟨by rfl, ?_⟩
            intro w hSw; (try dsimp only at hSw); go_simp <;> (with_reducible rfl)
          (try simp only [Act.put, pA, pZ, pS])
          refine wpAnyH_ready (rs := [10]) (by kernel_rfl) (by simp) ?_
          refine AllReadyH.cons rfl (fun K hK => ?_) AllReadyH.nil
          go_simp
          refine (HFN _ (HB1.out.trans (HD1.out.mono HB1.out.size))).mono ?_
          rintro _ w2 ⟨y, rfl, hy, hb⟩
          have HD2 : Hid (Below (wr.alloc (KB q.b q.n q.t)).heap.size (wr.alloc (KB q.b q.n q.t)) w2) := Lib.hid (HD1.out.trans (hb.mono HD1.out.size))
          rw [HMET.out, hf2] at hy
          clear hb
          refine hK.out _ _ (HSX.out HD2.out) (fun hHeldB10 => ?_)
          clear hK K
          (try simp only [Act.put, pA, pZ, pS])
          refine wpAnyH_take (i := 11) (oi := ?oB11) (v := ?vB11) ?hiB11 (by kernel_rfl) (by kernel_rfl) (by kernel_rfl) (fun _ _ _ h => h) ?hyB11 (by assumption) ?restB11
          case hiB11 => simp only [gA, gS, gZ]; rfl
          case hyB11 =>
            refine Or.inl ⟨by rfl, ?_⟩
            intro w hSw; (try dsimp only at hSw); go_simp <;> (with_reducible rfl)
          (try simp only [Act.put, pA, pZ, pS])
          refine wpAnyH_take (i := 12) (oi := ?oB12) (v := ?vB12) ?hiB12 (by kernel_rfl) (by kernel_rfl) (by kernel_rfl) (fun _ _ _ h => h) ?hyB12 (by assumption) ?restB12
          case hiB12 => simp only [gA, gS, gZ]; rfl
          case hyB12 =>
            refine Or.inl ⟨by rfl, ?_⟩
            intro w hSw; (try dsimp only at hSw); go_simp <;> (with_reducible rfl)
          (try simp only [Act.put, pA, pZ, pS])
          refine wpAnyH_take (i := 13) (oi := ?oB13) (v := ?vB13) ?hiB13 (by kernel_rfl) (by kernel_rfl) (by kernel_rfl) (fun _ _ _ h => h) ?hyB13 (by assumption) ?restB13
          case hiB13 => simp only [gA, gS, gZ]; rfl
          case hyB13 =>
            refine Or.inl ⟨by rfl, ?_⟩
            intro w hSw; (try dsimp only at hSw); go_simp <;> (with_reducible rfl)
          (try simp only [Act.put, pA, pZ, pS])
          refine wpAnyH_take (i := 14) (oi := ?oB14) (v := undef) ?hiB14 (by kernel_rfl) (by kernel_rfl) (by kernel_rfl) (fun _ _ _ h => h) ?hyB14 (by assumption) ?restB14
          case hiB14 => simp only [gA, gS, gZ]; rfl
          case hyB14 => exact Or.inr ⟨by rfl, rfl⟩
          (try simp only [Act.put, pA, pZ, pS])
          refine wpAnyH_take (i := 15) (oi := ?oB15) (v := undef) ?hiB15 (by kernel_rfl) (by kernel_rfl) (by kernel_rfl) (fun _ _ _ h => h) ?hyB15 (by assumption) ?restB15
          case hiB15 => simp only [gA, gS, gZ]; rfl
          case hyB15 => exact Or.inr ⟨by rfl, rfl⟩
          (try simp only [Act.put, pA, pZ, pS])
          refine wpAnyH_take (i := 16) (oi := ?oB16) (v := undef) ?hiB16 (by kernel_rfl) (by kernel_rfl) (by kernel_rfl) (fun _ _ _ h => h) ?hyB16 (by assumption) ?restB16
          case hiB16 => simp only [gA, gS, gZ]; rfl
          case hyB16 => exact Or.inr ⟨by rfl, rfl⟩
          (try simp only [Act.put, pA, pZ, pS])
          refine wpAnyH_take (i := 17) (oi := ?oB17) (v := undef) ?hiB17 (by kernel_rfl) (by kernel_rfl) (by kernel_rfl) (fun _ _ _ h => h) ?hyB17 (by assumption) ?restB17
          case hiB17 => simp only [gA, gS, gZ]; rfl
          case hyB17 => exact Or.inr ⟨by rfl, rfl⟩
          (try simp only [Act.put, pA, pZ, pS])
          refine wpAnyH_take (i := 18) (oi := ?oB18) (v := undef) ?hiB18 (by kernel_rfl) (by kernel_rfl) (by kernel_rfl) (fun _ _ _ h => h) ?hyB18 (by assumption) ?restB18
          case hiB18 => simp only [gA, gS, gZ]; rfl
          case hyB18 => exact Or.inr ⟨by rfl, rfl⟩
          (try simp only [Act.put, pA, pZ, pS])
          refine wpAnyH_take (i := 19) (oi := ?oB19) (v := undef) ?hiB19 (by kernel_rfl) (by kernel_rfl) (by kernel_rfl) (fun _ _ _ h => h) ?hyB19 (by assumption) ?restB19
          case hiB19 => simp only [gA, gS, gZ]; rfl
          case hyB19 => exact Or.inr ⟨by rfl, rfl⟩
          (try simp only [Act.put, pA, pZ, pS])
          refine wpAnyH_take (i := 20) (oi := ?oB20) (v := undef) ?hiB20 (by kernel_rfl) (by kernel_rfl) (by kernel_rfl) (fun _ _ _ h => h) ?hyB20 (by assumption) ?restB20
          case hiB20 => simp only [gA, gS, gZ]; rfl
          case hyB20 => exact Or.inr ⟨by rfl, rfl⟩
          (try simp only [Act.put, pA, pZ, pS])
          refine wpAnyH_take (i := 21) (oi := ?oB21) (v := undef) ?hiB21 (by kernel_rfl) (by kernel_rfl) (by kernel_rfl) (fun _ _ _ h => h) ?hyB21 (by assumption) ?restB21
          case hiB21 => simp only [gA, gS, gZ]; rfl
          case hyB21 => exact Or.inr ⟨by rfl, rfl⟩
          (try simp only [Act.put, pA, pZ, pS])
          refine wpAnyH_take (i := 22) (oi := ?oB22) (v := undef) ?hiB22 (by kernel_rfl) (by kernel_rfl) (by kernel_rfl) (fun _ _ _ h => h) ?hyB22 (by assumption) ?restB22
          case hiB22 => simp only [gA, gS, gZ]; rfl
          case hyB22 => exact Or.inr ⟨by rfl, rfl⟩
          (try simp only [Act.put, pA, pZ, pS])
          refine wpAnyH_take (i := 23) (oi := ?oB23) (v := undef) ?hiB23 (by kernel_rfl) (by kernel_rfl) (by kernel_rfl) (fun _ _ _ h => h) ?hyB23 (by assumption) ?restB23
          case hiB23 => simp only [gA, gS, gZ]; rfl
          case hyB23 => exact Or.inr ⟨by rfl, rfl⟩
          (try simp only [Act.put, pA, pZ, pS])
          refine wpAnyH_take (i := 24) (oi := ?oB24) (v := ?vB24) ?hiB24 (by kernel_rfl) (by kernel_rfl) (by kernel_rfl) (fun _ _ _ h => h) ?hyB24 (by assumption) ?restB24
          case hiB24 => simp only [gA, gS, gZ]; rfl
          case hyB24 =>
            refine Or.inl ⟨by rfl, ?_⟩
            intro w hSw; (try dsimp only at hSw); go_simp <;> (with_reducible rfl)
          (try simp only [Act.put, pA, pZ, pS])
          refine wpAnyH_done (by kernel_rfl) ?_ _
          refine NoPanic.normal ?_
          go_wp2_with fail
          go_ret
          exact ⟨by rw [HRF.out]; rfl, HB1.out.trans (HD2.out.mono HB1.out.size)⟩
        | false =>
          cases f3 with
          | false =>
            have HRF : Hid (r = false) := Lib.hid HRN.out
            go_wp2_with fail
            refine wp_region_noPanic ?_
            refine wp_region_held_drew (S := (fun V => V.cell? ⟨w.heap.size, 3, none⟩ = some (.slice (some ⟨g, off, none⟩) l.length cap) ∧ V.cell? ⟨wr.heap.size, 0, none⟩ = some (.bool q.b) ∧ V.cell? ⟨wr.heap.size, 1, none⟩ = some (.int .i64 q.n) ∧ V.cell? ⟨wr.heap.size, 2, none⟩ = some (.string q.t) ∧ V.cell? ⟨g, off + j * 7 + 3, none⟩ = some (.int .i64 x.k) ∧ V.cell? ⟨g, off + j * 7 + 4, none⟩ = some (.int .i64 x.n) ∧ V.cell? ⟨g, off + j * 7 + 5, none⟩ = some (.string x.t) ∧ V.cell? ⟨g, off + j * 7 + 6, none⟩ = some (.slice co x.xs.length cc))) (by kernel_rfl) (by exact HS0.out) (fun hHeld => ?_)
            refine wpAnyH_take (i := 0) (oi := ?oC0) (v := ?vC0) ?hiC0 (by kernel_rfl) (by kernel_rfl) (by kernel_rfl) (fun _ _ _ h => h) ?hyC0 (by assumption) ?restC0
            case hiC0 => simp only [gA, gZ]; rfl
            case hyC0 =>
              refine Or.inl ⟨by rfl, ?_⟩
              intro w hSw; (try dsimp only at hSw); go_simp <;> (with_reducible rfl)
            (try simp only [Act.put, pA, pZ, pS])
            refine wpAnyH_take (i := 1) (oi := ?oC1) (v := ?vC1) ?hiC1 (by kernel_rfl) (by kernel_rfl) (by kernel_rfl) (fun _ _ _ h => h) ?hyC1 (by assumption) ?restC1
            case hiC1 => simp only [gA, gS, gZ]; rfl
            case hyC1 =>
              refine Or.inl ⟨by rfl, ?_⟩
              intro w hSw; (try dsimp only at hSw); go_simp <;> (with_reducible rfl)
            (try simp only [Act.put, pA, pZ, pS])
            refine wpAnyH_ready (rs := [2]) (by kernel_rfl) (by simp) ?_
            refine AllReadyH.cons rfl (fun K hK => ?_) AllReadyH.nil
            go_simp
            refine (HN _ (HT.out _ (HB1.out.trans (HD0.out.mono HB1.out.size)))).mono ?_
            rintro _ w1 ⟨rfl, hb⟩
            have HD1 : Hid (Below (wr.alloc (KB q.b q.n q.t)).heap.size (wr.alloc (KB q.b q.n q.t)) w1) := Lib.hid (HD0.out.trans hb)
            clear hb
            refine hK.out _ _ (HSX.out HD1.out) (fun hHeldC2 => ?_)
            clear hK K
            (try simp only [Act.put, pA, pZ, pS])
            refine wpAnyH_take (i := 3) (oi := ?oC3) (v := ?vC3) ?hiC3 (by kernel_rfl) (by kernel_rfl) (by kernel_rfl) (fun _ _ _ h => h) ?hyC3 (by assumption) ?restC3
            case hiC3 => simp only [gA, gS, gZ]; rfl
            case hyC3 =>
              refine Or.inl ⟨by rfl, ?_⟩
              intro w hSw; (try dsimp only at hSw); go_simp <;> (with_reducible rfl)
            (try simp only [Act.put, pA, pZ, pS])
            refine wpAnyH_take (i := 4) (oi := ?oC4) (v := ?vC4) ?hiC4 (by kernel_rfl) (by kernel_rfl) (by kernel_rfl) (fun _ _ _ h => h) ?hyC4 (by assumption) ?restC4
            case hiC4 => simp only [gA, gS, gZ]; rfl
            case hyC4 =>
              refine Or.inl ⟨by rfl, ?_⟩
              intro w hSw; (try dsimp only at hSw); go_simp <;> (with_reducible rfl)
            (try simp only [Act.put, pA, pZ, pS])
            refine wpAnyH_take (i := 5) (oi := ?oC5) (v := ?vC5) ?hiC5 (by kernel_rfl) (by kernel_rfl) (by kernel_rfl) (fun _ _ _ h => h) ?hyC5 (by assumption) ?restC5
            case hiC5 => simp only [gA, gS, gZ]; rfl
            case hyC5 =>
              refine Or.inl ⟨by rfl, ?_⟩
              intro w hSw; (try dsimp only at hSw); go_simp <;> (with_reducible rfl)
            (try simp only [Act.put, pA, pZ, pS])
            refine wpAnyH_take (i := 6) (oi := ?oC6) (v := ?vC6) ?hiC6 (by kernel_rfl) (by kernel_rfl) (by kernel_rfl) (fun _ _ _ h => h) ?hyC6 (by assumption) ?restC6
            case hiC6 => simp only [gA, gS, gZ]; rfl
            case hyC6 =>
              refine Or.inl ⟨by rfl, ?_⟩
              intro w hSw; (try dsimp only at hSw); go_simp <;> (with_reducible rfl)
            (try simp only [Act.put, pA, pZ, pS])
            refine wpAnyH_take (i := 7) (oi := ?oC7) (v := ?vC7) ?hiC7 (by kernel_rfl) (by kernel_rfl) (by kernel_rfl) (fun _ _ _ h => h) ?hyC7 (by assumption) ?restC7
            case hiC7 => simp only [gA, gS, gZ]; rfl
            case hyC7 =>
              refine Or.inl ⟨by rfl, ?_⟩
              intro w hSw; (try dsimp only at hSw); go_simp <;> (with_reducible rfl)
            (try simp only [Act.put, pA, pZ, pS])
            refine wpAnyH_take (i := 8) (oi := ?oC8) (v := ?vC8) ?hiC8 (by kernel_rfl) (by kernel_rfl) (by kernel_rfl) (fun _ _ _ h => h) ?hyC8 (by assumption) ?restC8
            case hiC8 => simp only [gA, gS, gZ]; rfl
            case hyC8 =>
              refine Or.inl ⟨by rfl, ?_⟩
              intro w hSw; (try dsimp only at hSw); go_simp <;> (with_reducible rfl)
            (try simp only [Act.put, pA, pZ, pS])
            refine wpAnyH_take (i := 9) (oi := ?oC9) (v := ?vC9) ?hiC9 (by kernel_rfl) (by kernel_rfl) (by kernel_rfl) (fun _ _ _ h => h) ?hyC9 (by assumption) ?restC9
            case hiC9 => simp only [gA, gS, gZ]; rfl
            case hyC9 =>
              refine Or.inl ⟨by rfl, ?_⟩
              intro w hSw; (try dsimp only at hSw); go_simp <;> (with_reducible rfl)
            (try simp only [Act.put, pA, pZ, pS])
            refine wpAnyH_ready (rs := [10]) (by kernel_rfl) (by simp) ?_
            refine AllReadyH.cons rfl (fun K hK => ?_) AllReadyH.nil
            go_simp
            refine (HFN _ (HB1.out.trans (HD1.out.mono HB1.out.size))).mono ?_
            rintro _ w2 ⟨y, rfl, hy, hb⟩
            have HD2 : Hid (Below (wr.alloc (KB q.b q.n q.t)).heap.size (wr.alloc (KB q.b q.n q.t)) w2) := Lib.hid (HD1.out.trans (hb.mono HD1.out.size))
            rw [HMET.out, hf2] at hy
            clear hb
            refine hK.out _ _ (HSX.out HD2.out) (fun hHeldC10 => ?_)
            clear hK K
            (try simp only [Act.put, pA, pZ, pS])
            refine wpAnyH_take (i := 11) (oi := ?oC11) (v := ?vC11) ?hiC11 (by kernel_rfl) (by kernel_rfl) (by kernel_rfl) (fun _ _ _ h => h) ?hyC11 (by assumption) ?restC11
            case hiC11 => simp only [gA, gS, gZ]; rfl
            case hyC11 =>
              refine Or.inl ⟨by rfl, ?_⟩
              intro w hSw; (try dsimp only at hSw); go_simp <;> (with_reducible rfl)
            (try simp only [Act.put, pA, pZ, pS])
            refine wpAnyH_take (i := 12) (oi := ?oC12) (v := ?vC12) ?hiC12 (by kernel_rfl) (by kernel_rfl) (by kernel_rfl) (fun _ _ _ h => h) ?hyC12 (by assumption) ?restC12
            case hiC12 => simp only [gA, gS, gZ]; rfl
            case hyC12 =>
              refine Or.inl ⟨by rfl, ?_⟩
              intro w hSw; (try dsimp only at hSw); go_simp <;> (with_reducible rfl)
            (try simp only [Act.put, pA, pZ, pS])
            refine wpAnyH_take (i := 13) (oi := ?oC13) (v := ?vC13) ?hiC13 (by kernel_rfl) (by kernel_rfl) (by kernel_rfl) (fun _ _ _ h => h) ?hyC13 (by assumption) ?restC13
            case hiC13 => simp only [gA, gS, gZ]; rfl
            case hyC13 =>
              refine Or.inl ⟨by rfl, ?_⟩
              intro w hSw; (try dsimp only at hSw); go_simp <;> (with_reducible rfl)
            (try simp only [Act.put, pA, pZ, pS])
            refine wpAnyH_take (i := 14) (oi := ?oC14) (v := ?vC14) ?hiC14 (by kernel_rfl) (by kernel_rfl) (by kernel_rfl) (fun _ _ _ h => h) ?hyC14 (by assumption) ?restC14
            case hiC14 => simp only [gA, gS, gZ]; rfl
            case hyC14 =>
              refine Or.inl ⟨by rfl, ?_⟩
              intro w hSw; (try dsimp only at hSw); go_simp <;> (with_reducible rfl)
            (try simp only [Act.put, pA, pZ, pS])
            refine wpAnyH_take (i := 15) (oi := ?oC15) (v := ?vC15) ?hiC15 (by kernel_rfl) (by kernel_rfl) (by kernel_rfl) (fun _ _ _ h => h) ?hyC15 (by assumption) ?restC15
            case hiC15 => simp only [gA, gS, gZ]; rfl
            case hyC15 =>
              refine Or.inl ⟨by rfl, ?_⟩
              intro w hSw; (try dsimp only at hSw); go_simp <;> (with_reducible rfl)
            (try simp only [Act.put, pA, pZ, pS])
            refine wpAnyH_take (i := 16) (oi := ?oC16) (v := ?vC16) ?hiC16 (by kernel_rfl) (by kernel_rfl) (by kernel_rfl) (fun _ _ _ h => h) ?hyC16 (by assumption) ?restC16
            case hiC16 => simp only [gA, gS, gZ]; rfl
            case hyC16 =>
              refine Or.inl ⟨by rfl, ?_⟩
              intro w hSw; (try dsimp only at hSw); go_simp <;> (with_reducible rfl)
            (try simp only [Act.put, pA, pZ, pS])
            refine wpAnyH_take (i := 17) (oi := ?oC17) (v := ?vC17) ?hiC17 (by kernel_rfl) (by kernel_rfl) (by kernel_rfl) (fun _ _ _ h => h) ?hyC17 (by assumption) ?restC17
            case hiC17 => simp only [gA, gS, gZ]; rfl
            case hyC17 =>
              refine Or.inl ⟨by rfl, ?_⟩
              intro w hSw; (try dsimp only at hSw); go_simp <;> (with_reducible rfl)
            (try simp only [Act.put, pA, pZ, pS])
            refine wpAnyH_take (i := 18) (oi := ?oC18) (v := ?vC18) ?hiC18 (by kernel_rfl) (by kernel_rfl) (by kernel_rfl) (fun _ _ _ h => h) ?hyC18 (by assumption) ?restC18
            case hiC18 => simp only [gA, gS, gZ]; rfl
            case hyC18 =>
              refine Or.inl ⟨by rfl, ?_⟩
              intro w hSw; (try dsimp only at hSw); go_simp <;> (with_reducible rfl)
            (try simp only [Act.put, pA, pZ, pS])
            refine wpAnyH_take (i := 19) (oi := ?oC19) (v := ?vC19) ?hiC19 (by kernel_rfl) (by kernel_rfl) (by kernel_rfl) (fun _ _ _ h => h) ?hyC19 (by assumption) ?restC19
            case hiC19 => simp only [gA, gS, gZ]; rfl
            case hyC19 =>
              refine Or.inl ⟨by rfl, ?_⟩
              intro w hSw; (try dsimp only at hSw); go_simp <;> (with_reducible rfl)
            (try simp only [Act.put, pA, pZ, pS])
            refine wpAnyH_take (i := 20) (oi := ?oC20) (v := ?vC20) ?hiC20 (by kernel_rfl) (by kernel_rfl) (by kernel_rfl) (fun _ _ _ h => h) ?hyC20 (by assumption) ?restC20
            case hiC20 => simp only [gA, gS, gZ]; rfl
            case hyC20 =>
              refine Or.inl ⟨by rfl, ?_⟩
              intro w hSw; (try dsimp only at hSw); go_simp <;> (with_reducible rfl)
            (try simp only [Act.put, pA, pZ, pS])
            refine wpAnyH_take (i := 21) (oi := ?oC21) (v := ?vC21) ?hiC21 (by kernel_rfl) (by kernel_rfl) (by kernel_rfl) (fun _ _ _ h => h) ?hyC21 (by assumption) ?restC21
            case hiC21 => simp only [gA, gS, gZ]; rfl
            case hyC21 =>
              refine Or.inl ⟨by rfl, ?_⟩
              intro w hSw; (try dsimp only at hSw); go_simp <;> (with_reducible rfl)
            (try simp only [Act.put, pA, pZ, pS])
            refine wpAnyH_ready (rs := [22]) (by kernel_rfl) (by simp) ?_
            refine AllReadyH.cons rfl (fun K hK => ?_) AllReadyH.nil
            go_simp
            refine (HC _ (HCC.out.under HD2.out) (HT.out _ (HB1.out.trans (HD2.out.mono HB1.out.size)))).mono ?_
            rintro _ w3 ⟨rfl, hb⟩
            have HD3 : Hid (Below (wr.alloc (KB q.b q.n q.t)).heap.size (wr.alloc (KB q.b q.n q.t)) w3) := Lib.hid (HD2.out.trans (hb.mono HD2.out.size))
            clear hb
            refine hK.out _ _ (HSX.out HD3.out) (fun hHeldC22 => ?_)
            clear hK K
            (try simp only [Act.put, pA, pZ, pS])
            refine wpAnyH_take (i := 23) (oi := ?oC23) (v := ?vC23) ?hiC23 (by kernel_rfl) (by kernel_rfl) (by kernel_rfl) (fun _ _ _ h => h) ?hyC23 (by assumption) ?restC23
            case hiC23 => simp only [gA, gS, gZ]; rfl
            case hyC23 =>
              refine Or.inl ⟨by rfl, ?_⟩
              intro w hSw; (try dsimp only at hSw); go_simp <;> (with_reducible rfl)
            (try simp only [Act.put, pA, pZ, pS])
            refine wpAnyH_take (i := 24) (oi := ?oC24) (v := ?vC24) ?hiC24 (by kernel_rfl) (by kernel_rfl) (by kernel_rfl) (fun _ _ _ h => h) ?hyC24 (by assumption) ?restC24
            case hiC24 => simp only [gA, gS, gZ]; rfl
            case hyC24 =>
              refine Or.inl ⟨by rfl, ?_⟩
              intro w hSw; (try dsimp only at hSw); go_simp <;> (with_reducible rfl)
            (try simp only [Act.put, pA, pZ, pS])
            refine wpAnyH_done (by kernel_rfl) ?_ _
            refine NoPanic.normal ?_
            go_wp2_with fail
            go_ret
            exact ⟨by rw [HRF.out]; rfl, HB1.out.trans (HD3.out.mono HB1.out.size)⟩
          | true =>
            go_wp2_with fail
            refine wp_region_noPanic ?_
            refine wp_region_held_drew (S := (fun V => V.cell? ⟨w.heap.size, 3, none⟩ = some (.slice (some ⟨g, off, none⟩) l.length cap) ∧ V.cell? ⟨wr.heap.size, 0, none⟩ = some (.bool q.b) ∧ V.cell? ⟨wr.heap.size, 1, none⟩ = some (.int .i64 q.n) ∧ V.cell? ⟨wr.heap.size, 2, none⟩ = some (.string q.t) ∧ V.cell? ⟨g, off + j * 7 + 3, none⟩ = some (.int .i64 x.k) ∧ V.cell? ⟨g, off + j * 7 + 4, none⟩ = some (.int .i64 x.n) ∧ V.cell? ⟨g, off + j * 7 + 5, none⟩ = some (.string x.t) ∧ V.cell? ⟨g, off + j * 7 + 6, none⟩ = some (.slice co x.xs.length cc))) (by kernel_rfl) (by exact HS0.out) (fun hHeld => ?_)
            refine wpAnyH_take (i := 0) (oi := ?oD0) (v := ?vD0) ?hiD0 (by kernel_rfl) (by kernel_rfl) (by kernel_rfl) (fun _ _ _ h => h) ?hyD0 (by assumption) ?restD0
            case hiD0 => simp only [gA, gZ]; rfl
            case hyD0 =>
              refine Or.inl ⟨by rfl, ?_⟩
              intro w hSw; (try dsimp only at hSw); go_simp <;> (with_reducible rfl)
            (try simp only [Act.put, pA, pZ, pS])
            refine wpAnyH_take (i := 1) (oi := ?oD1) (v := ?vD1) ?hiD1 (by kernel_rfl) (by kernel_rfl) (by kernel_rfl) (fun _ _ _ h => h) ?hyD1 (by assumption) ?restD1
            case hiD1 => simp only [gA, gS, gZ]; rfl
            case hyD1 =>
              refine Or.inl ⟨by rfl, ?_⟩
              intro w hSw; (try dsimp only at hSw); go_simp <;> (with_reducible rfl)
            (try simp only [Act.put, pA, pZ, pS])
            refine wpAnyH_ready (rs := [2]) (by kernel_rfl) (by simp) ?_
            refine AllReadyH.cons rfl (fun K hK => ?_) AllReadyH.nil
            go_simp
            refine (HN _ (HT.out _ (HB1.out.trans (HD0.out.mono HB1.out.size)))).mono ?_
            rintro _ w1 ⟨rfl, hb⟩
            have HD1 : Hid (Below (wr.alloc (KB q.b q.n q.t)).heap.size (wr.alloc (KB q.b q.n q.t)) w1) := Lib.hid (HD0.out.trans hb)
            clear hb
            refine hK.out _ _ (HSX.out HD1.out) (fun hHeldD2 => ?_)
            clear hK K
            (try simp only [Act.put, pA, pZ, pS])
            refine wpAnyH_take (i := 3) (oi := ?oD3) (v := ?vD3) ?hiD3 (by kernel_rfl) (by kernel_rfl) (by kernel_rfl) (fun _ _ _ h => h) ?hyD3 (by assumption) ?restD3
            case hiD3 => simp only [gA, gS, gZ]; rfl
            case hyD3 =>
              refine Or.inl ⟨by rfl, ?_⟩
              intro w hSw; (try dsimp only at hSw); go_simp <;> (with_reducible rfl)
            (try simp only [Act.put, pA, pZ, pS])
            refine wpAnyH_take (i := 4) (oi := ?oD4) (v := ?vD4) ?hiD4 (by kernel_rfl) (by kernel_rfl) (by kernel_rfl) (fun _ _ _ h => h) ?hyD4 (by assumption) ?restD4
            case hiD4 => simp only [gA, gS, gZ]; rfl
            case hyD4 =>
              refine Or.inl ⟨by rfl, ?_⟩
              intro w hSw; (try dsimp only at hSw); go_simp <;> (with_reducible rfl)
            (try simp only [Act.put, pA, pZ, pS])
            refine wpAnyH_take (i := 5) (oi := ?oD5) (v := ?vD5) ?hiD5 (by kernel_rfl) (by kernel_rfl) (by kernel_rfl) (fun _ _ _ h => h) ?hyD5 (by assumption) ?restD5
            case hiD5 => simp only [gA, gS, gZ]; rfl
            case hyD5 =>
              refine Or.inl ⟨by rfl, ?_⟩
              intro w hSw; (try dsimp only at hSw); go_simp <;> (with_reducible rfl)
            (try simp only [Act.put, pA, pZ, pS])
            refine wpAnyH_take (i := 6) (oi := ?oD6) (v := ?vD6) ?hiD6 (by kernel_rfl) (by kernel_rfl) (by kernel_rfl) (fun _ _ _ h => h) ?hyD6 (by assumption) ?restD6
            case hiD6 => simp only [gA, gS, gZ]; rfl
            case hyD6 =>
              refine Or.inl ⟨by rfl, ?_⟩
              intro w hSw; (try dsimp only at hSw); go_simp <;> (with_reducible rfl)
            (try simp only [Act.put, pA, pZ, pS])
            refine wpAnyH_take (i := 7) (oi := ?oD7) (v := ?vD7) ?hiD7 (by kernel_rfl) (by kernel_rfl) (by kernel_rfl) (fun _ _ _ h => h) ?hyD7 (by assumption) ?restD7
            case hiD7 => simp only [gA, gS, gZ]; rfl
            case hyD7 =>
              refine Or.inl ⟨by rfl, ?_⟩
              intro w hSw; (try dsimp only at hSw); go_simp <;> (with_reducible rfl)
            (try simp only [Act.put, pA, pZ, pS])
            refine wpAnyH_take (i := 8) (oi := ?oD8) (v := ?vD8) ?hiD8 (by kernel_rfl) (by kernel_rfl) (by kernel_rfl) (fun _ _ _ h => h) ?hyD8 (by assumption) ?restD8
            case hiD8 => simp only [gA, gS, gZ]; rfl
            case hyD8 =>
              refine Or.inl ⟨by rfl, ?_⟩
              intro w hSw; (try dsimp only at hSw); go_simp <;> (with_reducible rfl)
            (try simp only [Act.put, pA, pZ, pS])
            refine wpAnyH_take (i := 9) (oi := ?oD9) (v := ?vD9) ?hiD9 (by kernel_rfl) (by kernel_rfl) (by kernel_rfl) (fun _ _ _ h => h) ?hyD9 (by assumption) ?restD9
            case hiD9 => simp only [gA, gS, gZ]; rfl
            case hyD9 =>
              refine Or.inl ⟨by rfl, ?_⟩
              intro w hSw; (try dsimp only at hSw); go_simp <;> (with_reducible rfl)
            (try simp only [Act.put, pA, pZ, pS])
            refine wpAnyH_ready (rs := [10]) (by kernel_rfl) (by simp) ?_
            refine AllReadyH.cons rfl (fun K hK => ?_) AllReadyH.nil
            go_simp
            refine (HFN _ (HB1.out.trans (HD1.out.mono HB1.out.size))).mono ?_
            rintro _ w2 ⟨y, rfl, hy, hb⟩
            have HD2 : Hid (Below (wr.alloc (KB q.b q.n q.t)).heap.size (wr.alloc (KB q.b q.n q.t)) w2) := Lib.hid (HD1.out.trans (hb.mono HD1.out.size))
            rw [HMET.out, hf2] at hy
            clear hb
            refine hK.out _ _ (HSX.out HD2.out) (fun hHeldD10 => ?_)
            clear hK K
            (try simp only [Act.put, pA, pZ, pS])
            refine wpAnyH_take (i := 11) (oi := ?oD11) (v := ?vD11) ?hiD11 (by kernel_rfl) (by kernel_rfl) (by kernel_rfl) (fun _ _ _ h => h) ?hyD11 (by assumption) ?restD11
            case hiD11 => simp only [gA, gS, gZ]; rfl
            case hyD11 =>
              refine Or.inl ⟨by rfl, ?_⟩
              intro w hSw; (try dsimp only at hSw); go_simp <;> (with_reducible rfl)
            (try simp only [Act.put, pA, pZ, pS])
            refine wpAnyH_take (i := 12) (oi := ?oD12) (v := ?vD12) ?hiD12 (by kernel_rfl) (by kernel_rfl) (by kernel_rfl) (fun _ _ _ h => h) ?hyD12 (by assumption) ?restD12
            case hiD12 => simp only [gA, gS, gZ]; rfl
            case hyD12 =>
              refine Or.inl ⟨by rfl, ?_⟩
              intro w hSw; (try dsimp only at hSw); go_simp <;> (with_reducible rfl)
            (try simp only [Act.put, pA, pZ, pS])
            refine wpAnyH_take (i := 13) (oi := ?oD13) (v := ?vD13) ?hiD13 (by kernel_rfl) (by kernel_rfl) (by kernel_rfl) (fun _ _ _ h => h) ?hyD13 (by assumption) ?restD13
            case hiD13 => simp only [gA, gS, gZ]; rfl
            case hyD13 =>
              refine Or.inl ⟨by rfl, ?_⟩
              intro w hSw; (try dsimp only at hSw); go_simp <;> (with_reducible rfl)
            (try simp only [Act.put, pA, pZ, pS])
            refine wpAnyH_take (i := 14) (oi := ?oD14) (v := ?vD14) ?hiD14 (by kernel_rfl) (by kernel_rfl) (by kernel_rfl) (fun _ _ _ h => h) ?hyD14 (by assumption) ?restD14
            case hiD14 => simp only [gA, gS, gZ]; rfl
            case hyD14 =>
              refine Or.inl ⟨by rfl, ?_⟩
              intro w hSw; (try dsimp only at hSw); go_simp <;> (with_reducible rfl)
            (try simp only [Act.put, pA, pZ, pS])
            refine wpAnyH_take (i := 15) (oi := ?oD15) (v := ?vD15) ?hiD15 (by kernel_rfl) (by kernel_rfl) (by kernel_rfl) (fun _ _ _ h => h) ?hyD15 (by assumption) ?restD15
            case hiD15 => simp only [gA, gS, gZ]; rfl
            case hyD15 =>
              refine Or.inl ⟨by rfl, ?_⟩
              intro w hSw; (try dsimp only at hSw); go_simp <;> (with_reducible rfl)
            (try simp only [Act.put, pA, pZ, pS])
            refine wpAnyH_take (i := 16) (oi := ?oD16) (v := ?vD16) ?hiD16 (by kernel_rfl) (by kernel_rfl) (by kernel_rfl) (fun _ _ _ h => h) ?hyD16 (by assumption) ?restD16
            case hiD16 => simp only [gA, gS, gZ]; rfl
            case hyD16 =>
              refine Or.inl ⟨by rfl, ?_⟩
              intro w hSw; (try dsimp only at hSw); go_simp <;> (with_reducible rfl)
            (try simp only [Act.put, pA, pZ, pS])
            refine wpAnyH_take (i := 17) (oi := ?oD17) (v := ?vD17) ?hiD17 (by kernel_rfl) (by kernel_rfl) (by kernel_rfl) (fun _ _ _ h => h) ?hyD17 (by assumption) ?restD17
            case hiD17 => simp only [gA, gS, gZ]; rfl
            case hyD17 =>
              refine Or.inl ⟨by rfl, ?_⟩
              intro w hSw; (try dsimp only at hSw); go_simp <;> (with_reducible rfl)
            (try simp only [Act.put, pA, pZ, pS])
            refine wpAnyH_take (i := 18) (oi := ?oD18) (v := ?vD18) ?hiD18 (by kernel_rfl) (by kernel_rfl) (by kernel_rfl) (fun _ _ _ h => h) ?hyD18 (by assumption) ?restD18
            case hiD18 => simp only [gA, gS, gZ]; rfl
            case hyD18 =>
              refine Or.inl ⟨by rfl, ?_⟩
              intro w hSw; (try dsimp only at hSw); go_simp <;> (with_reducible rfl)
            (try simp only [Act.put, pA, pZ, pS])
            refine wpAnyH_take (i := 19) (oi := ?oD19) (v := ?vD19) ?hiD19 (by kernel_rfl) (by kernel_rfl) (by kernel_rfl) (fun _ _ _ h => h) ?hyD19 (by assumption) ?restD19
            case hiD19 => simp only [gA, gS, gZ]; rfl
            case hyD19 =>
              refine Or.inl ⟨by rfl, ?_⟩
              intro w hSw; (try dsimp only at hSw); go_simp <;> (with_reducible rfl)
            (try simp only [Act.put, pA, pZ, pS])
            refine wpAnyH_take (i := 20) (oi := ?oD20) (v := ?vD20) ?hiD20 (by kernel_rfl) (by kernel_rfl) (by kernel_rfl) (fun _ _ _ h => h) ?hyD20 (by assumption) ?restD20
            case hiD20 => simp only [gA, gS, gZ]; rfl
            case hyD20 =>
              refine Or.inl ⟨by rfl, ?_⟩
              intro w hSw; (try dsimp only at hSw); go_simp <;> (with_reducible rfl)
            (try simp only [Act.put, pA, pZ, pS])
            refine wpAnyH_take (i := 21) (oi := ?oD21) (v := ?vD21) ?hiD21 (by kernel_rfl) (by kernel_rfl) (by kernel_rfl) (fun _ _ _ h => h) ?hyD21 (by assumption) ?restD21
            case hiD21 => simp only [gA, gS, gZ]; rfl
            case hyD21 =>
              refine Or.inl ⟨by rfl, ?_⟩
              intro w hSw; (try dsimp only at hSw); go_simp <;> (with_reducible rfl)
            (try simp only [Act.put, pA, pZ, pS])
            refine wpAnyH_ready (rs := [22]) (by kernel_rfl) (by simp) ?_
            refine AllReadyH.cons rfl (fun K hK => ?_) AllReadyH.nil
            go_simp
            refine (HC _ (HCC.out.under HD2.out) (HT.out _ (HB1.out.trans (HD2.out.mono HB1.out.size)))).mono ?_
            rintro _ w3 ⟨rfl, hb⟩
            have HD3 : Hid (Below (wr.alloc (KB q.b q.n q.t)).heap.size (wr.alloc (KB q.b q.n q.t)) w3) := Lib.hid (HD2.out.trans (hb.mono HD2.out.size))
            clear hb
            refine hK.out _ _ (HSX.out HD3.out) (fun hHeldD22 => ?_)
            clear hK K
            (try simp only [Act.put, pA, pZ, pS])
            refine wpAnyH_take (i := 23) (oi := ?oD23) (v := ?vD23) ?hiD23 (by kernel_rfl) (by kernel_rfl) (by kernel_rfl) (fun _ _ _ h => h) ?hyD23 (by assumption) ?restD23
            case hiD23 => simp only [gA, gS, gZ]; rfl
            case hyD23 =>
              refine Or.inl ⟨by rfl, ?_⟩
              intro w hSw; (try dsimp only at hSw); go_simp <;> (with_reducible rfl)
            (try simp only [Act.put, pA, pZ, pS])
            refine wpAnyH_take (i := 24) (oi := ?oD24) (v := ?vD24) ?hiD24 (by kernel_rfl) (by kernel_rfl) (by kernel_rfl) (fun _ _ _ h => h) ?hyD24 (by assumption) ?restD24
            case hiD24 => simp only [gA, gS, gZ]; rfl
            case hyD24 =>
              refine Or.inl ⟨by rfl, ?_⟩
              intro w hSw; (try dsimp only at hSw); go_simp <;> (with_reducible rfl)
            (try simp only [Act.put, pA, pZ, pS])
            refine wpAnyH_done (by kernel_rfl) ?_ _
            refine NoPanic.normal ?_
            obtain ⟨c0, c1, c2⟩ := cells3 ((HD3.out.block _ (lt_of_block HK1.out)).trans HK1.out)
            obtain ⟨b0, b1, b2, b3⟩ := vb_cells ((HD3.out.block _ (lt_of_block HV1.out)).trans HV1.out)
            simp only [VT.k, VT.n, VT.t] at b0 b1 b2
            have B9 : Hid (Below w.heap.size w w3 ∧ w3.heap[w.heap.size]? = some (VB (.mk 4 n t l) (.slice (some ⟨g, off, none⟩) l.length cap))) := Lib.hid ⟨HB1.out.trans (HD3.out.mono HB1.out.size), (HD3.out.block _ (lt_of_block HV1.out)).trans HV1.out⟩
            clear r0 r1 r2 HN hN HFN HC HS0 HCC HD0
            cases hqb : q.b
            · rw [hqb] at c0
              have HR2 : Hid (r = (!(f0 && f4) && itemsL n d (q :: met) (l.drop (j + 1)))) := Lib.hid (by rw [HRN.out, hqb]; rfl)
              cases f0
              · have HR3 : Hid (r = itemsL n d (q :: met) (l.drop (j + 1))) := Lib.hid HR2.out
                go_wp2_with fail
                go_roundw
                case rel => exact ⟨j + 1, _, HLT.out, by go_num, HR3, HMN, B9⟩
                case measure => have := HLT.out; simp [intOf]; omega
              · cases f4
                · have HR3 : Hid (r = itemsL n d (q :: met) (l.drop (j + 1))) := Lib.hid HR2.out
                  go_wp2_with fail
                  go_roundw
                  case rel => exact ⟨j + 1, _, HLT.out, by go_num, HR3, HMN, B9⟩
                  case measure => have := HLT.out; simp [intOf]; omega
                · have HRF : Hid (r = false) := Lib.hid HR2.out
                  go_wp2_with fail
                  go_ret
                  exact ⟨by rw [HRF.out]; rfl, B9.out.1⟩
            · rw [hqb] at c0
              have HR3 : Hid (r = itemsL n d (q :: met) (l.drop (j + 1))) := Lib.hid (by rw [HRN.out, hqb]; rfl)
              go_wp2_with fail
              go_roundw
              case rel => exact ⟨j + 1, _, HLT.out, by go_num, HR3, HMN, B9⟩
              case measure => have := HLT.out; simp [intOf]; omega
    · obtain rfl : j = l.length := by omega
      have HRT : Hid (r = true) := Lib.hid (by rw [HRJ.out, List.drop_length, itemsL])
      clear HRJ HME
      go_wp2_with fail
      go_ret
      exact ⟨by rw [HRT.out]; rfl, BX.out.1⟩
theorem dec_beq (n k : Int) : decide (n = k) = (n == k) := by by_cases h : n = k <;> simp [h]
theorem rmayg_any (v : VT) : v.Good → ∀ d : Int, 0 ≤ d → ∀ (w : World) (c : Value), VCap w c v.xs → Tabs w → Calls Tryz.prog 59 #[v.v c, .int .i64 d] w (BoolPost w (mayV v d)) := by
  refine VT.ind (P := fun v => v.Good → ∀ d : Int, 0 ≤ d → ∀ (w : World) (c : Value), VCap w c v.xs → Tabs w → Calls Tryz.prog 59 #[v.v c, .int .i64 d] w (BoolPost w (mayV v d))) ?_ v
  intro k n t l ih hg d hd w c hv ht
  have hv : VCap w c l := hv
  obtain ⟨ao, cap, rfl, -, -⟩ := hv.form
  show Calls Tryz.prog 59 #[.agg #[.int .i64 k, .int .i64 n, .string t, .slice ao l.length cap], .int .i64 d] w _
  rw [mayV]
  by_cases k0 : k = 0
  · subst k0
    rw [if_pos rfl, nil_len, dec_beq]
    exact rmayg_0 n t ao _ cap d w _ _ _ rfl rfl rfl
  rw [if_neg k0]
  by_cases k1 : k = 1
  · subst k1
    rw [if_pos rfl, nil_len, show decide (n = 0 ∨ n = 1) = ((n == 0) || (n == 1)) by rw [Bool.decide_or, dec_beq, dec_beq]]
    exact rmayg_1 n t ao _ cap d w _ _ _ _ rfl rfl rfl rfl
  rw [if_neg k1]
  by_cases k2 : k = 2
  · subst k2
    rw [if_pos rfl, nil_len]
    exact rmayg_2 n t ao _ cap d w _ _ rfl rfl
  rw [if_neg k2]
  by_cases k3 : k = 3
  · subst k3
    rw [if_pos rfl, nil_len, dec_beq, show decide (t.size ≤ 65536) = decide ((t.size : Int) ≤ 65536) from decide_eq_decide.2 (by omega)]
    exact rmayg_3 n t ao _ cap d w _ _ _ rfl rfl rfl
  rw [if_neg k3]
  by_cases k5 : k = 5
  · subst k5
    rw [if_pos rfl, nil_len, show decide (0 < n) = decide (1 ≤ n) from decide_eq_decide.2 (by omega)]
    exact rmayg_5 n t ao _ cap d w _ _ _ rfl rfl rfl
  rw [if_neg k5]
  by_cases k4 : k = 4
  · subst k4
    rw [if_pos rfl]
    by_cases hok : (emptyT t && decide (-1 ≤ n) && decide (l.length ≤ 2048) && decide (d < 64)) = true
    · rw [hok, Bool.true_and]
      simp only [Bool.and_eq_true, decide_eq_true_eq] at hok
      obtain ⟨⟨⟨e, h1⟩, h2⟩, h3⟩ := hok
      have hgl := hg.parts.2.2.2
      exact rmayg_list n t l (goodL_iff.2 hgl) d hd h3 e h1 h2 (fun x hx w c hv ht => ih x hx (hgl x hx).2 (d + 1) (by omega) w c hv ht) ao cap w hv ht
    · have hok : (emptyT t && decide (-1 ≤ n) && decide (l.length ≤ 2048) && decide (d < 64)) = false := by simpa using hok
      rw [hok, Bool.false_and]
      refine rmayg_bad n t ao _ cap d w _ _ _ _ rfl rfl rfl rfl ?_
      rw [← hok, show decide (-1 ≤ n) = !decide (n < -1) by rw [← decide_not]; exact decide_eq_decide.2 (by omega), show decide (l.length ≤ 2048) = !decide (2048 < (l.length : Int)) by rw [← decide_not]; exact decide_eq_decide.2 (by omega), show decide (d < 64) = !decide (64 ≤ d) by rw [← decide_not]; exact decide_eq_decide.2 (by omega)]
      rfl
  rw [if_neg k4]
  have nb : ∀ {a b : Int}, ¬ a = b → (a == b) = false := fun h => by simpa using h
  exact rmayg_other k n t ao _ cap d w (nb k0) (nb k1) (nb k2) (nb k3) (nb k4) (nb k5)
set_option maxRecDepth 100000 in
theorem rfewg_any (v : VT) (w : World) (c : Value) (hv : VIn w c v.xs) : Calls Tryz.prog 36 #[v.v c] w (BoolPost w (decide (0 ≤ leftV v 2048))) := by
  obtain ⟨ao, cap, rfl, hlen⟩ := hv.form
  have HB := Lib.hid (below_alloc1 w (VB v (.slice ao v.xs.length cap)))
  obtain ⟨a0, a1, a2, a3⟩ := vb_cells (heap_alloc_new w (VB v (.slice ao v.xs.length cap)))
  have HL := rleft_any v (w.alloc (VB v (.slice ao v.xs.length cap))) (.slice ao v.xs.length cap) 2048 (hv.under HB.out) (by omega) (by omega)
  obtain ⟨y, hy⟩ : ∃ y, leftV v 2048 = y := ⟨_, rfl⟩
  rw [hy] at HL ⊢
  clear hv hlen hy
  simp only [VT.v] at HL ⊢
  go_enter Tryz.func36, Tryz.ntmps36
  go_wp2_with fail
  refine HL.mono ?_
  rintro e w1 ⟨rfl, hb⟩
  go_wp2_with fail
  go_ret
  exact ⟨rfl, HB.out.trans (hb.mono HB.out.size)⟩
set_option maxRecDepth 100000 in
theorem rrightg_any (v : VT) (hg : v.Good) (w : World) (c : Value) (hv : VCap w c v.xs) (ht : Tabs w) : Calls Tryz.prog 29 #[v.v c] w (BoolPost w (rightV v)) := by
  have H1 := fun W h => rfewg_any v W c h
  have H2 := fun W h1 h2 => rmayg_any v hg 0 (Int.le_refl _) W c h1 h2
  obtain ⟨ao, cap, rfl, -, -⟩ := hv.form
  have HB := Lib.hid (below_alloc1 w (VB v (.slice ao v.xs.length cap)))
  have HX := Lib.hid (heap_alloc_new w (VB v (.slice ao v.xs.length cap)))
  obtain ⟨a0, a1, a2, a3⟩ := vb_cells HX.out
  have HV := Lib.hid hv
  have HT := Lib.hid ht
  unfold rightV
  obtain ⟨p, hp⟩ : ∃ p, decide (0 ≤ leftV v 2048) = p := ⟨_, rfl⟩
  obtain ⟨s, hs⟩ : ∃ s, mayV v 0 = s := ⟨_, rfl⟩
  rw [hp] at H1 ⊢
  rw [hs] at H2 ⊢
  clear hv ht hg hp hs
  simp only [VT.v] at H1 H2 ⊢
  cases p with
  | false =>
    go_enter Tryz.func29, Tryz.ntmps29
    go_wp2_with fail
    refine (H1 _ (HV.out.vin.under HB.out)).mono ?_
    rintro e w1 ⟨rfl, hb1⟩
    go_wp2_with fail
    go_ret
    exact ⟨rfl, HB.out.trans (hb1.mono HB.out.size)⟩
  | true =>
    go_enter Tryz.func29, Tryz.ntmps29
    go_wp2_with fail
    refine (H1 _ (HV.out.vin.under HB.out)).mono ?_
    rintro e w1 ⟨rfl, hb1⟩
    have HB1 := Lib.hid (HB.out.trans (hb1.mono HB.out.size))
    obtain ⟨a0, a1, a2, a3⟩ := vb_cells ((hb1.block _ (lt_of_block HX.out)).trans HX.out)
    clear hb1
    go_wp2_with fail
    refine (H2 _ (HV.out.under HB1.out) (HT.out.mono HB1.out)).mono ?_
    rintro e w2 ⟨rfl, hb2⟩
    go_wp2_with fail
    go_ret
    exact ⟨rfl, HB1.out.trans (hb2.mono HB1.out.size)⟩
end Go.Proofs.YtnaefnojmiolbaaGreatDoor
