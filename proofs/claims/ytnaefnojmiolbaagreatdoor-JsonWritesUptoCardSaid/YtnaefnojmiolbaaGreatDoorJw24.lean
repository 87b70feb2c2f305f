/-
  JSON, the document's side: the walk of Encode; both sides say the same.
  JSON: the walk of the reader's unit.
  JSON: the walk of escape.
-/
import Derived.Test.YtnaefnojmiolbaaGreatDoorJw20
import Derived.Test.YtnaefnojmiolbaaGreatDoorJw23
import Derived.Test.YtnaefnojmiolbaaGreatDoorJw18
import Derived.Test.YtnaefnojmiolbaaGreatDoorJw15
import Derived.Lib.SlBytesConst
import Derived.Test.YtnaefnojmiolbaaGreatDoorJw12
namespace Go.Proofs.YtnaefnojmiolbaaGreatDoor
open Go.RowKit Go.Shelf

attribute [local go_sem] yld_undef
/-- What the document's Encode answers. -/
def encR (v : VT) : ByteArray × Int := if (rightV v && saidV v) = false then (⟨#[]⟩, 1) else if 65536 < (jrV v []).length then (⟨#[]⟩, 2) else (str (jrV v []), 0)
theorem encR_eq (v : VT) : encR v = encP v := by
  unfold encR encP
  split
  · rfl
  · rcases jr_jp v with ⟨e, h⟩ | ⟨h1, h2⟩
    · rw [e]
    · rw [if_pos h1, if_pos h2]
set_option maxHeartbeats 3200000 in
set_option maxRecDepth 100000 in
theorem rencode_any (v : VT) (hg : GoodS v) (w : World) (c : Value) (hv : VCap w c v.xs) (ht : TabsJ w) : Calls Tryz.prog 10 #[v.v c] w (EncPost w (encR v)) := by
  obtain ⟨ao, cap, rfl, -⟩ := hv.form
  obtain ⟨x, hx⟩ : ∃ x, x = encR v := ⟨_, rfl⟩
  rw [← hx]
  unfold encR at hx
  obtain ⟨p, hp⟩ : ∃ p, p = rightV v := ⟨_, rfl⟩
  obtain ⟨q, hq⟩ : ∃ q, q = saidV v := ⟨_, rfl⟩
  have HRI := Lib.hid (fun W (hW : Below w.heap.size w W) => rrightg_any v hg.1 W (.slice ao v.xs.length cap) (hv.under hW) (ht.tab.mono hW))
  have HSA := Lib.hid (fun W (hW : Below w.heap.size w W) => rsaid_any v hg.1 W (.slice ao v.xs.length cap) (hv.vin.under hW) (ht.tab.mono hW))
  rw [← hp] at hx HRI
  rw [← hq] at hx HSA
  have A0 : Hid (At1 w (w.alloc (VB v (.slice ao v.xs.length cap))) w.heap.size (VB v (.slice ao v.xs.length cap))) := Lib.hid (at1_start w _)
  have HV := Lib.hid (⟨hg, hv.vin, ht⟩ : _ ∧ _ ∧ _)
  have HPQ := Lib.hid (⟨hp, hq⟩ : _ ∧ _)
  have HX := Lib.hid hx
  obtain ⟨a0, a1, a2, a3⟩ := vb_cells A0.out.a
  clear hg hv ht hp hq hx
  simp only [VT.v] at HRI HSA ⊢
  cases p with
  | false =>
    have hx : x = (⟨#[]⟩, 1) := HX.out
    subst hx
    go_enter Tryz.func10, Tryz.ntmps10
    go_wp2_with fail
    refine (HRI.out _ A0.out.below).mono ?_
    rintro _ w1 ⟨rfl, hb1⟩
    have A1 := Lib.hid (A0.out.mono hb1)
    clear hb1
    go_wp2_with fail
    go_ret2
    exact ⟨rfl, A1.out.below⟩
  | true =>
    go_enter Tryz.func10, Tryz.ntmps10
    go_wp2_with fail
    refine (HRI.out _ A0.out.below).mono ?_
    rintro _ w1 ⟨rfl, hb1⟩
    have A1 := Lib.hid (A0.out.mono hb1)
    obtain ⟨a0, a1, a2, a3⟩ := vb_cells A1.out.a
    clear hb1
    go_wp2_with fail
    refine (HSA.out _ A1.out.below).mono ?_
    rintro _ w2 ⟨rfl, hb2⟩
    have A2 := Lib.hid (A1.out.mono hb2)
    obtain ⟨a0, a1, a2, a3⟩ := vb_cells A2.out.a
    clear hb2
    cases q with
    | false =>
      have hx : x = (⟨#[]⟩, 1) := HX.out
      subst hx
      go_wp2_with fail
      go_ret2
      exact ⟨rfl, A2.out.below⟩
    | true =>
      have hx : x = if 65536 < (jrV v []).length then (⟨#[]⟩, 2) else (str (jrV v []), 0) := HX.out
      have HX2 := Lib.hid hx
      have hjw := jw_right HV.out.1.1 HPQ.out.1.symm HPQ.out.2.symm
      have hcl := (right_may HPQ.out.1.symm).2
      have hln := jt_len v 64 hjw HV.out.1.2
      have hbd : (jtV v).length ≤ 140737488300000 := by
        have : countV v * 6443000000 ≤ 2048 * 6443000000 := Nat.mul_le_mul_right _ hcl
        omega
      have HWR : Hid (Calls Tryz.prog 31 #[.slice none 0 0, .agg #[.int .i64 v.k, .int .i64 v.n, .string v.t, .slice ao v.xs.length cap]] w2 (WPost w2 (.slice none 0 0) (jrV v []))) := Lib.hid (rwrite_any v 64 hjw HV.out.1.2 w w2 (.slice none 0 0) [] (.slice ao v.xs.length cap) (Owns.empty _ _ _) A2.out.below (fun g e => by cases e) HV.out.2.1 (by show 0 + _ ≤ 140737488300000; omega))
      obtain ⟨r, hr⟩ : ∃ r, r = jrV v [] := ⟨_, rfl⟩
      rw [← hr] at HX2 HWR
      clear hx hjw hcl hln hbd hr
      go_wp2_with fail
      refine HWR.out.mono ?_
      rintro _ w4 ⟨ro, rL, rc, rfl, o4, g4, -⟩
      obtain rfl := owns_len o4
      have J4 : Hid (Below w.heap.size w w4) := Lib.hid (A2.out.below.trans ⟨g4.os, g4.tape, g4.output, g4.size, fun k hk => g4.block k (Nat.lt_of_lt_of_le hk A2.out.below.size) (by rintro ⟨⟩)⟩)
      have hconv := run_back (P := Tryz.prog) (src := 54) (dst := 9) o4 Tryz.underlying54 Tryz.underlying5 Tryz.underlying9
      clear o4 g4 HWR
      by_cases hlong : 65536 < r.length
      · have hxe : x = (⟨#[]⟩, 2) := by rw [HX2.out, if_pos hlong]
        subst hxe
        have hl : decide ((65536 : Int) < (r.length : Int)) = true := by simp; omega
        go_wp2_with fail
        go_ret2
        exact ⟨rfl, J4.out⟩
      · have hxe : x = (str r, 0) := by rw [HX2.out, if_neg hlong]
        subst hxe
        have hl : decide ((65536 : Int) < (r.length : Int)) = false := by simp; omega
        go_wp2_with fail
        go_ret2
        exact ⟨rfl, J4.out⟩
end Go.Proofs.YtnaefnojmiolbaaGreatDoor

namespace Go.Proofs.YtnaefnojmiolbaaGreatDoor
open Go.RowKit

attribute [local go_sem] yld_undef
/-- Bytes that stand behind a first half, or a fault at the escape's beginning. -/
def litP (s : ByteArray) (f : Nat) : Bs → Nat → Except ER Nat
  | [], p => .ok p
  | c :: l, p => if ¬ p < s.size then .error (10, p) else if nowP s p ≠ c then .error (7, f) else litP s f l (p + 1)
/-- What stands behind a first half. -/
def pairP (s : ByteArray) (f n q : Nat) : Except ER (Nat × Nat) :=
  match litP s f [92, 117] q with
  | .error e => .error e
  | .ok q2 => match hexP s 4 0 q2 with
    | .error e => .error e
    | .ok (m, q3) => if m < 56320 ∨ 57343 < m then .error (7, f) else .ok (65536 + (n - 55296) * 1024 + (m - 56320), q3)
theorem unitP_pair {s : ByteArray} {f p n q : Nat} (h : hexP s 4 0 p = .ok (n, q)) (h0 : ¬ (n < 55296 ∨ 57343 < n)) (h1 : ¬ 56320 ≤ n) : unitP s f p = pairP s f n q := by
  unfold unitP pairP
  rw [h]
  simp only
  rw [if_neg h0, if_neg h1]
  by_cases a1 : q < s.size
  · by_cases a2 : nowP s q = 92
    · by_cases a3 : q + 1 < s.size
      · by_cases a4 : nowP s (q + 1) = 117
        · simp [litP, a1, a2, a3, a4]
          rfl
        · simp [litP, a1, a2, a3, a4]
      · simp [litP, a1, a2, a3]
    · simp [litP, a1, a2]
  · simp [litP, a1]
/-- A half that is no rune's. -/
def unitBad (y : Value) : Prop := ∃ n : Int, -2147483648 ≤ n ∧ n ≤ 2147483647 ∧ y = .tuple #[.int .i32 n, .bool false]
set_option maxHeartbeats 3200000 in
set_option maxRecDepth 100000 in
theorem junit_any (f : Nat) {w : World} {r : Nat} {s : ByteArray} {p m : Nat} {fw fa : Int} (h : Jd w r s p m fw fa) :
    Calls Tryz.prog 131 #[.pointer (some ⟨r, 0, none⟩), .int .i64 f] w (JPost (JF r) w r s (unitP s f p) unitBad fun a e w' => e = .returned (.tuple #[.int .i32 (a.1 : Int), .bool true]) ∧ Jd w' r s a.2 m fw fa) := by
  have HX := jhex_any h
  obtain ⟨x, hx⟩ : ∃ x, x = unitP s f p := ⟨_, rfl⟩
  rw [← hx]
  have hsz := h.hs
  have HR := Lib.hid h
  cases hh : hexP s 4 0 p with
  | error er =>
    have hx2 := hx
    unfold unitP at hx2
    rw [hh] at hx2 HX
    simp only at hx2
    subst hx2
    obtain ⟨c, a⟩ := er
    clear hx h
    go_enter Tryz.func131, Tryz.ntmps131
    go_wp2_with fail
    refine HX.mono ?_
    rintro _ w1 ⟨⟨_, rfl, rfl⟩, ⟨p1, m1, hj⟩, hm⟩
    go_wp2_with fail
    go_ret2
    exact ⟨⟨_, ⟨0, by decide, by decide, rfl⟩, rfl⟩, ⟨_, _, hj⟩, hm⟩
  | ok nq =>
    rw [hh] at HX
    obtain ⟨n, q⟩ := nq
    have hb := hexP_ok hh
    simp only at hb
    obtain ⟨hq, hn, hqs⟩ := hb
    have hqs := hqs (by omega)
    rw [show (0 + 1) * 16 ^ 4 = 65536 from rfl] at hn
    by_cases h1 : n < 55296
    · have hx2 := hx
      unfold unitP at hx2
      rw [hh] at hx2
      simp only at hx2
      rw [if_pos (.inl h1)] at hx2
      subst hx2
      have d1 : decide ((n : Int) < 55296) = true := by simp; omega
      clear hx h hh
      go_enter Tryz.func131, Tryz.ntmps131
      go_wp2_with fail
      refine HX.mono ?_
      rintro _ w1 ⟨⟨rfl, hj⟩, hm⟩
      go_wp2_with fail
      go_ret2
      exact ⟨⟨rfl, hj⟩, hm⟩
    by_cases h2 : 57343 < n
    · have hx2 := hx
      unfold unitP at hx2
      rw [hh] at hx2
      simp only at hx2
      rw [if_pos (.inr h2)] at hx2
      subst hx2
      have d1 : decide ((n : Int) < 55296) = false := by simp; omega
      have d2 : decide ((57343 : Int) < (n : Int)) = true := by simp; omega
      clear hx h hh
      go_enter Tryz.func131, Tryz.ntmps131
      go_wp2_with fail
      refine HX.mono ?_
      rintro _ w1 ⟨⟨rfl, hj⟩, hm⟩
      go_wp2_with fail
      go_ret2
      exact ⟨⟨rfl, hj⟩, hm⟩
    have d1 : decide ((n : Int) < 55296) = false := by simp; omega
    have d2 : decide ((57343 : Int) < (n : Int)) = false := by simp; omega
    by_cases h3 : 56320 ≤ n
    · have hx2 := hx
      unfold unitP at hx2
      rw [hh] at hx2
      simp only at hx2
      rw [if_neg (by omega), if_pos h3] at hx2
      subst hx2
      have d3 : decide ((56320 : Int) ≤ (n : Int)) = true := by simp; omega
      clear hx h hh
      go_enter Tryz.func131, Tryz.ntmps131
      go_wp2_with fail
      refine HX.mono ?_
      rintro _ w1 ⟨⟨rfl, hj⟩, hm⟩
      go_wp2_with fail
      refine (jfail_any 7 f hj).mono ?_
      rintro _ w2 ⟨rfl, hj2, hm2⟩
      go_wp2_with fail
      go_ret2
      exact ⟨⟨_, ⟨0, by decide, by decide, rfl⟩, rfl⟩, ⟨_, _, hj2⟩, hm.trans hm2⟩
    have d3 : decide ((56320 : Int) ≤ (n : Int)) = false := by simp; omega
    rw [unitP_pair hh (by omega) h3] at hx
    obtain ⟨y, hy⟩ : ∃ y, y = litP s f [92, 117] q := ⟨_, rfl⟩
    unfold pairP at hx
    rw [← hy] at hx
    have HY := Lib.hid hx
    have HL : Hid (y = litP s f ([92, 117].drop 0) (q + 0)) := Lib.hid hy
    have HN : Hid (55296 ≤ n ∧ n < 56320) := Lib.hid (by omega)
    have HQ0 := Lib.hid hqs
    clear hx hy h hh h1 h2 h3 hq hn hqs
    have kc := fun (w : World) (C : Array Value) (n c : Nat) => Lib.run_convert_bytes_const (P := Tryz.prog) w 54 5 C n c Tryz.underlying54 Tryz.underlying5
    go_enter Tryz.func131, Tryz.ntmps131
    go_wp2_with fail
    refine HX.mono ?_
    rintro _ w1 ⟨⟨rfl, hj⟩, hm⟩
    have HD0 : Hid (Jd w1 r s (q + 0) m fw fa) := Lib.hid hj
    have HM0 : Hid (Mod (JF r) w w1) := Lib.hid hm
    clear hj hm HX
    go_wp2_with fail
    have HG0 : Hid ((w1.alloc (.cells #[.int .u8 92, .int .u8 117] 5 (2, 3))).heap[w1.heap.size]? = some (.cells #[.int .u8 92, .int .u8 117] 5 (2, 3))) := Lib.hid (heap_alloc_new _ _)
    go_loopw [9, 36] (fun _ kv wr => ∃ j : Nat, j ≤ 2 ∧ kv = .int .i64 j ∧ Hid (y = litP s f (([92, 117] : Bs).drop j) (q + j)) ∧ Hid (Jd wr r s (q + j) m fw fa) ∧ Hid (Mod (JF r) w wr) ∧ Hid (wr.heap[w1.heap.size]? = some (.cells #[.int .u8 92, .int .u8 117] 5 (2, 3)))) (fun _ kv _ => 2 - (intOf kv).toNat)
    case atStart => exact ⟨0, by omega, rfl, HL, Lib.hid (HD0.out.under (below_alloc1 w1 _)), Lib.hid (HM0.out.alloc _), HG0⟩
    case round =>
      obtain ⟨j, hj, rfl, HLj, HR, HM, HG⟩ := hrel
      clear HL HD0 HM0 HG0 kc d1 d2 d3
      obtain ⟨q2, hq2⟩ : ∃ q2, q2 = q + j := ⟨_, rfl⟩
      have HQ := Lib.hid hq2
      rw [← hq2] at HLj HR
      clear hq2
      have hps := HR.out.hp
      have hmq := HR.out.hm
      by_cases hlt : j < 2
      · have hi : (j : Int) < 2 := by omega
        obtain ⟨hw', hw⟩ := wr_sm (x := (j : Int) + 1) (by omega) (by omega)
        obtain ⟨hq', hqw⟩ := wr_sm (x := (q2 : Int) + 1) (by omega) (by omega)
        obtain ⟨c, hc, hdr⟩ : ∃ c : UInt8, wr.cell? ⟨w1.heap.size, j, none⟩ = some (.int .u8 (c.toNat : Int)) ∧ ([92, 117] : Bs).drop j = c :: ([92, 117] : Bs).drop (j + 1) := by
          rcases (show j = 0 ∨ j = 1 by omega) with rfl | rfl
          · exact ⟨92, by rw [cell_blk HG.out 0]; rfl, rfl⟩
          · exact ⟨117, by rw [cell_blk HG.out 1]; rfl, rfl⟩
        have hl2 := HLj.out
        rw [hdr, litP] at hl2
        have HLT := Lib.hid hlt
        obtain ⟨c0, c1, -, -, -⟩ := HR.out.cells
        by_cases hin : q2 < s.size
        · have hi2 : decide ((s.size : Int) ≤ (q2 : Int)) = false := by simp; omega
          have hi3 : ¬ s.size ≤ q2 := by omega
          rw [if_neg (fun x => x hin)] at hl2
          have HIN := Lib.hid hin
          have HNW := fun W (hb : Below wr.heap.size wr W) => jnow_any (HR.out.under hb)
          obtain ⟨d, hd⟩ : ∃ d, nowP s q2 = d := ⟨_, rfl⟩
          rw [hd] at hl2
          simp only [hd] at HNW
          by_cases hcd : d = c
          · have hneq : ((d.toNat : Int) != (c.toNat : Int)) = false := by rw [hcd]; simp
            rw [if_neg (fun x => x hcd)] at hl2
            have HL2 := Lib.hid hl2
            clear hl2 hdr HLj hcd hd hin hlt
            go_wp2_with fail
            go_quiet (fail)
            go_wp2_with fail
            refine (HNW _ (belowN (Below.refl _ _) _)).mono ?_
            rintro _ w3 ⟨rfl, hb3⟩
            have HB3 : Hid (Below wr.heap.size wr w3) := Lib.hid ((belowN (Below.refl wr.heap.size wr) _).trans hb3)
            have HR3 := Lib.hid (HR.out.under HB3.out)
            obtain ⟨e0, e1, -, -, -⟩ := HR3.out.cells
            have ff := free_blk HR3.out.blk 1
            have HG3 : Hid (w3.heap[w1.heap.size]? = some (.cells #[.int .u8 92, .int .u8 117] 5 (2, 3))) := Lib.hid ((HB3.out.block _ (lt_of_block HG.out)).trans HG.out)
            clear hb3 HNW
            go_wp2_with fail
            go_roundw
            case rel => exact ⟨j + 1, by have := HLT.out; omega, by go_num, Lib.hid (by rw [HL2.out, HQ.out]; rfl), Lib.hid (by rw [show q + (j + 1) = q2 + 1 by have := HQ.out; omega]; exact HR3.out.setAt (by have := HIN.out; omega) (by omega) (by omega)), Lib.hid ((HM.out.trans (Mod.of_below HB3.out)).trans (setJ_mod _ _ _ _)), Lib.hid (set_other HG3.out (fun e => by have h2 := HG3.out; have h3 := HR3.out.blk; have e : w1.heap.size = r := e; rw [e, h3] at h2; simp at h2))⟩
            case measure => have := HLT.out; simp [intOf]; omega
          · have hneq : ((d.toNat : Int) != (c.toNat : Int)) = true := by
              rw [bne_iff_ne]; intro e; exact hcd (UInt8.toNat_inj.1 (by omega))
            rw [if_pos hcd] at hl2
            have hx2 := HY.out
            rw [hl2] at hx2
            simp only at hx2
            subst hx2
            clear hl2 hdr HLj hcd hd hin hlt
            go_wp2_with fail
            go_quiet (fail)
            go_wp2_with fail
            refine (HNW _ (belowN (Below.refl _ _) _)).mono ?_
            rintro _ w3 ⟨rfl, hb3⟩
            have HB3 : Hid (Below wr.heap.size wr w3) := Lib.hid ((belowN (Below.refl wr.heap.size wr) _).trans hb3)
            have HR3 := Lib.hid (HR.out.under HB3.out)
            clear hb3 HNW
            go_wp2_with fail
            refine (jfail_any 7 f HR3.out).mono ?_
            rintro _ w4 ⟨rfl, hj4, hm4⟩
            go_wp2_with fail
            go_ret2
            exact ⟨⟨_, ⟨0, by decide, by decide, rfl⟩, rfl⟩, ⟨_, _, hj4⟩, (HM.out.trans (Mod.of_below HB3.out)).trans hm4⟩
        · have hi2 : decide ((s.size : Int) ≤ (q2 : Int)) = true := by simp; omega
          have hi3 : s.size ≤ q2 := by omega
          rw [if_pos hin] at hl2
          have hx2 := HY.out
          rw [hl2] at hx2
          simp only at hx2
          subst hx2
          have HW : Hid (wrongC s q2 = 10) := Lib.hid (by unfold wrongC; rw [if_neg hin])
          clear hl2 hdr HLj hin hlt
          go_wp2_with fail
          go_quiet (fail)
          go_wp2_with fail
          have HR3 := HR.out.under (belowN (Below.refl _ wr) 1)
          refine (jwrong_any (HR.out.under (belowN (Below.refl _ _) _))).mono ?_
          rintro _ w4 ⟨rfl, hj4, hm4⟩
          rw [HW.out] at hj4
          go_wp2_with fail
          go_ret2
          exact ⟨⟨_, ⟨0, by decide, by decide, rfl⟩, rfl⟩, ⟨_, _, hj4⟩, (HM.out.trans (Mod.of_below (belowN (Below.refl _ _) _))).trans hm4⟩
      · obtain rfl : j = 2 := by omega
        have hl2 : y = .ok q2 := HLj.out
        have hx2 := HY.out
        rw [hl2] at hx2
        simp only at hx2
        have HX2 := jhex_any HR.out
        obtain ⟨z, hz⟩ : ∃ z : Int, 0 = z := ⟨_, rfl⟩
        obtain ⟨a, ha⟩ : ∃ a : Int, IntKind.i32.wrap ((n : Int) - 55296) = a := ⟨_, rfl⟩
        have ha2 := ha
        rw [wr32_sm (by have := HN.out; omega) (by have := HN.out; omega)] at ha2
        obtain ⟨b, hb⟩ : ∃ b : Int, IntKind.i32.wrap (a * 1024) = b := ⟨_, rfl⟩
        have hb2 := hb
        rw [wr32_sm (by have := HN.out; omega) (by have := HN.out; omega)] at hb2
        obtain ⟨d, hd⟩ : ∃ d : Int, IntKind.i32.wrap (65536 + b) = d := ⟨_, rfl⟩
        have hd2 := hd
        rw [wr32_sm (by have := HN.out; omega) (by have := HN.out; omega)] at hd2
        have HABD : Hid ((n : Int) - 55296 = a ∧ a * 1024 = b ∧ 65536 + b = d) := Lib.hid ⟨ha2, hb2, hd2⟩
        clear ha2 hb2 hd2
        cases hh2 : hexP s 4 0 q2 with
        | error er =>
          obtain ⟨cc, aa⟩ := er
          rw [hh2] at HX2 hx2
          simp only at hx2
          subst hx2
          rw [hz] at HX2
          have HZ := Lib.hid hz
          obtain ⟨g, hg⟩ : ∃ g : Int, IntKind.i32.wrap (z - 56320) = g := ⟨_, rfl⟩
          have hg2 := hg
          rw [wr32_sm (by omega) (by omega)] at hg2
          obtain ⟨o, ho⟩ : ∃ o : Int, IntKind.i32.wrap (d + g) = o := ⟨_, rfl⟩
          have HO : Hid (-2147483648 ≤ o ∧ o ≤ 2147483647) := Lib.hid (by
            obtain ⟨x1, x2, x3⟩ := HABD.out
            have := HN.out
            rw [wr32_sm (by omega) (by omega)] at ho
            omega)
          clear hg2 hz hl2 HLj hh2
          go_wp2_with fail
          refine HX2.mono ?_
          rintro _ w4 ⟨⟨_, rfl, rfl⟩, ⟨p4, m4, hj4⟩, hm4⟩
          go_wp2_with fail
          go_ret2
          exact ⟨⟨_, ⟨o, HO.out.1, HO.out.2, rfl⟩, rfl⟩, ⟨_, _, hj4⟩, HM.out.trans hm4⟩
        | ok mq =>
          obtain ⟨mm, q3⟩ := mq
          rw [hh2] at HX2 hx2
          simp only at hx2
          have hb3 := hexP_ok hh2
          simp only at hb3
          obtain ⟨-, hn3, -⟩ := hb3
          rw [show (0 + 1) * 16 ^ 4 = 65536 from rfl] at hn3
          by_cases hbad : mm < 56320 ∨ 57343 < mm
          · rw [if_pos hbad] at hx2
            subst hx2
            by_cases h1 : mm < 56320
            · have k1 : decide ((mm : Int) < 56320) = true := by simp; omega
              clear hbad hl2 HLj hh2 h1 hz
              go_wp2_with fail
              refine HX2.mono ?_
              rintro _ w4 ⟨⟨rfl, hj4⟩, hm4⟩
              go_wp2_with fail
              refine (jfail_any 7 f hj4).mono ?_
              rintro _ w5 ⟨rfl, hj5, hm5⟩
              go_wp2_with fail
              go_ret2
              exact ⟨⟨_, ⟨0, by decide, by decide, rfl⟩, rfl⟩, ⟨_, _, hj5⟩, (HM.out.trans hm4).trans hm5⟩
            · have k1 : decide ((mm : Int) < 56320) = false := by simp; omega
              have k2 : decide ((57343 : Int) < (mm : Int)) = true := by simp; omega
              clear hbad hl2 HLj hh2 h1 hz
              go_wp2_with fail
              refine HX2.mono ?_
              rintro _ w4 ⟨⟨rfl, hj4⟩, hm4⟩
              go_wp2_with fail
              refine (jfail_any 7 f hj4).mono ?_
              rintro _ w5 ⟨rfl, hj5, hm5⟩
              go_wp2_with fail
              go_ret2
              exact ⟨⟨_, ⟨0, by decide, by decide, rfl⟩, rfl⟩, ⟨_, _, hj5⟩, (HM.out.trans hm4).trans hm5⟩
          · rw [if_neg hbad] at hx2
            obtain ⟨o, hoo⟩ : ∃ o : Nat, 65536 + (n - 55296) * 1024 + (mm - 56320) = o := ⟨_, rfl⟩
            rw [hoo] at hx2
            subst hx2
            have k3 : ¬ mm < 56320 := by omega
            have k4 : ¬ 57343 < mm := by omega
            obtain ⟨g, hg⟩ : ∃ g : Int, IntKind.i32.wrap ((mm : Int) - 56320) = g := ⟨_, rfl⟩
            have hg2 := hg
            rw [wr32_sm (by omega) (by omega)] at hg2
            have ho : IntKind.i32.wrap (d + g) = (o : Int) := by
              obtain ⟨x1, x2, x3⟩ := HABD.out
              have := HN.out
              rw [wr32_sm (by omega) (by omega)]
              omega
            clear hbad hg2 hl2 HLj hh2 hz hoo
            go_wp2_with fail
            refine HX2.mono ?_
            rintro _ w4 ⟨⟨rfl, hj4⟩, hm4⟩
            go_wp2_with fail
            go_ret2
            exact ⟨⟨rfl, hj4⟩, HM.out.trans hm4⟩
end Go.Proofs.YtnaefnojmiolbaaGreatDoor

namespace Go.Proofs.YtnaefnojmiolbaaGreatDoor
open Go.RowKit

attribute [local go_sem] yld_undef
/-- The reader, and what is a builder's or holds bytes. -/
abbrev JB (r b : Nat) (w : World) (k : Nat) : Prop := k = r ∨ BY b w k
theorem BB.jf {w w' : World} {r b : Nat} {s : ByteArray} {p m : Nat} {fw fa : Int} {l : Bs} (hb : BB w b l) (hj : Jd w r s p m fw fa) (hm : Mod (JF r) w w') : BB w' b l :=
  hb.mod hm (fun k cs ty fr e h1 h2 => by
    rw [show k = r from e, hj.blk] at h1
    injection h1 with h1
    injection h1 with _ h1
    rw [← h1] at h2
    simp at h2)
theorem Jd.kw {w w' : World} {r b : Nat} {s : ByteArray} {p m : Nat} {fw fa : Int} (hj : Jd w r s p m fw fa) (hm : KW b w w') (h6 : 6 ≤ b) : Jd w' r s p m fw fa :=
  hj.mod hm (fun x => by
    obtain ⟨-, cs, ty, fr, e, ht⟩ := x
    rw [hj.blk] at e
    injection e with e
    injection e with _ e
    rw [← e] at ht
    simp at ht) (fun k x => Nat.le_trans h6 x.1)
theorem JB.kw {r b : Nat} {w w1 w2 : World} (h : Mod (JB r b w) w w1) (k : KW b w1 w2) : Mod (JB r b w) w w2 :=
  Mod.trans' h k fun i hi hg => Classical.byContradiction fun hn => hn (.inr ⟨hg.1, by
    obtain ⟨cs, ty, fr, e, ht⟩ := hg.2
    exact ⟨cs, ty, fr, by rw [← h.block i hi hn]; exact e, ht⟩⟩)
theorem JB.jf {r b : Nat} {w w1 w2 : World} (h : Mod (JB r b w) w w1) (k : Mod (JF r) w1 w2) : Mod (JB r b w) w w2 := Mod.trans' h k fun _ _ e => .inl e
theorem JB.of {r b : Nat} {w w1 : World} (h : Mod (JF r) w w1) : Mod (JB r b w) w w1 := h.mono fun _ _ e => .inl e
abbrev shortAbc : Bs := [34, 92, 47, 98, 102, 110, 114, 116]
def shortNo (d : UInt8) (i : Int) : Bool :=
  (i == 0 && d == 34) || (i == 1 && d == 92) || (i == 2 && d == 47) || (i == 3 && d == 8) || (i == 4 && d == 12) || (i == 5 && d == 10) || (i == 6 && d == 13) || (i == 7 && d == 9)
def shortChk (c : UInt8) : Bool := match shortR c with
  | none => decide (Lib.indexByte shortAbc c < (0 : Int))
  | some d => shortNo d (Lib.indexByte shortAbc c)
theorem short_all : ∀ x : Fin 256, shortChk (UInt8.ofNat x.val) = true := by decide +kernel
theorem short_any (c : UInt8) : match shortR c with
    | none => Lib.indexByte shortAbc c < (0 : Int)
    | some d => shortNo d (Lib.indexByte shortAbc c) = true := by
  have h := of_byte (P := fun c => shortChk c = true) short_all c
  unfold shortChk at h
  split at h
  · exact of_decide_eq_true h
  · exact h
theorem byte_eq (c : UInt8) (k : UInt8) : ((c.toNat : Int) == (k.toNat : Int)) = decide (c = k) := by
  by_cases h : c = k
  · rw [h]; simp
  · rw [decide_eq_false h, beq_eq_false_iff_ne]
    intro e
    exact h (UInt8.toNat_inj.1 (by omega))
set_option maxHeartbeats 3200000 in
set_option maxRecDepth 100000 in
theorem jesc_any {w : World} {r b : Nat} {s : ByteArray} {p m : Nat} {fw fa : Int} {acc : Bs} (h : Jd w r s p m fw fa) (hb : BB w b acc) (h6 : 6 ≤ b) (hp : p < s.size) (hl : acc.length ≤ 140737488351232) :
    Calls Tryz.prog 101 #[.pointer (some ⟨r, 0, none⟩), .pointer (some ⟨b, 0, none⟩)] w (JPost (JB r b w) w r s (escP s p) isFalse fun a e w' => e = .returned (.bool true) ∧ Jd w' r s a.2 m fw fa ∧ BB w' b (acc ++ a.1)) := by
  obtain ⟨x, hx⟩ : ∃ x, x = escP s p := ⟨_, rfl⟩
  rw [← hx]
  unfold escP at hx
  have hsz := h.hs
  have hml := h.hm
  obtain ⟨c0, c1, -, -, -⟩ := h.cells
  have ff := free_blk h.blk 1
  obtain ⟨hp', hpw⟩ := wr_sm (x := (p : Int) + 1) (by omega) (by omega)
  have HJ1 : Hid (Jd (w.setCell ⟨r, 1, none⟩ (.int .i64 ((p : Int) + 1))) r s (p + 1) m fw fa) := Lib.hid (h.setAt (by omega) (by omega) (by omega))
  have HM1 : Hid (Mod (JF r) w (w.setCell ⟨r, 1, none⟩ (.int .i64 ((p : Int) + 1)))) := Lib.hid (setJ_mod _ _ _ _)
  have HB1 : Hid (BB (w.setCell ⟨r, 1, none⟩ (.int .i64 ((p : Int) + 1))) b acc) := Lib.hid (hb.jf h (setJ_mod _ _ _ _))
  obtain ⟨e0, e1', -, -, -⟩ := HJ1.out.cells
  have e1 : (w.setCell ⟨r, 1, none⟩ (.int .i64 ((p : Int) + 1))).cell? ⟨r, 1, none⟩ = some (.int .i64 ((p : Int) + 1)) := by rw [e1']; simp
  clear e1'
  have HL := Lib.hid hl
  have H6 := Lib.hid h6
  clear h hb hl h6
  by_cases hin : p + 1 < s.size
  · have hi2 : ¬ s.size ≤ p + 1 := by omega
    have hi3 : ¬ ((s.size : Int) ≤ (p : Int) + 1) := by omega
    rw [if_neg (fun x => x hin)] at hx
    have HIN := Lib.hid hin
    obtain ⟨c, hc⟩ : ∃ c, nowP s (p + 1) = c := ⟨_, rfl⟩
    rw [hc] at hx
    have HNW : ∀ W, Below (w.setCell ⟨r, 1, none⟩ (.int .i64 ((p : Int) + 1))).heap.size (w.setCell ⟨r, 1, none⟩ (.int .i64 ((p : Int) + 1))) W → Calls Tryz.prog 73 #[.pointer (some ⟨r, 0, none⟩)] W fun e w' => e = .returned (.int .u8 c.toNat) ∧ Below W.heap.size W w' := fun W hb => by
      have := jnow_any (HJ1.out.under hb)
      rw [hc] at this
      exact this
    by_cases h117 : c = 117
    · have heq : ((c.toNat : Int) == 117) = true := by rw [h117]; rfl
      rw [if_pos h117] at hx
      obtain ⟨u, hu⟩ : ∃ u, u = unitP s p (p + 2) := ⟨_, rfl⟩
      rw [← hu] at hx
      have HU := Lib.hid hu
      have HX := Lib.hid hx
      obtain ⟨hq', hqw⟩ := wr_sm (x := (p : Int) + 1 + 1) (by omega) (by omega)
      clear hu hx hc h117 hin
      go_enter Tryz.func101, Tryz.ntmps101
      go_wp2_with fail
      go_quiet (fail)
      go_wp2_with fail
      refine (HNW _ (belowN (Below.refl _ _) _)).mono ?_
      rintro _ w3 ⟨rfl, hb3⟩
      have HB3 : Hid (Below (w.setCell ⟨r, 1, none⟩ (.int .i64 ((p : Int) + 1))).heap.size (w.setCell ⟨r, 1, none⟩ (.int .i64 ((p : Int) + 1))) w3) := Lib.hid ((belowN (Below.refl _ _) _).trans hb3)
      have HJ3 := Lib.hid (HJ1.out.under HB3.out)
      have HM3 : Hid (Mod (JF r) w w3) := Lib.hid (HM1.out.trans (Mod.of_below HB3.out))
      have HBB3 := Lib.hid (HB1.out.below HB3.out)
      obtain ⟨g0, g1, -, -, -⟩ := HJ3.out.cells
      have gf := free_blk HJ3.out.blk 1
      clear hb3 HNW HJ1 HM1 HB1 c0 c1 e0 e1 ff
      have g1' : w3.cell? ⟨r, 1, none⟩ = some (.int .i64 ((p : Int) + 1)) := by rw [g1]; simp
      clear g1
      go_wp2_with fail
      have HJ4 : Hid (Jd (w3.setCell ⟨r, 1, none⟩ (.int .i64 ((p : Int) + 1 + 1))) r s (p + 2) m fw fa) := Lib.hid (HJ3.out.setAt (by have := HIN.out; omega) (by omega) (by omega))
      have HB4 : Hid (BB (w3.setCell ⟨r, 1, none⟩ (.int .i64 ((p : Int) + 1 + 1))) b acc) := Lib.hid (HBB3.out.jf HJ3.out (setJ_mod _ _ _ _))
      have HM4 : Hid (Mod (JF r) w (w3.setCell ⟨r, 1, none⟩ (.int .i64 ((p : Int) + 1 + 1)))) := Lib.hid (HM3.out.trans (setJ_mod _ _ _ _))
      have HUC := junit_any p HJ4.out
      rw [← HU.out] at HUC
      clear HJ3 HBB3 HM3 HB3 g0 g1' gf
      rcases u with ⟨cc, aa⟩ | ⟨n, q⟩
      · have hx2 : x = .error (cc, aa) := HX.out
        subst hx2
        refine HUC.mono ?_
        rintro _ w5 ⟨⟨_, ⟨z, hz0, hz1, rfl⟩, rfl⟩, ⟨p5, m5, hj5⟩, hm5⟩
        have HJ5 := Lib.hid hj5
        have HM5 : Hid (Mod (JB r b w) w w5) := Lib.hid (JB.of (HM4.out.trans hm5))
        have HWR := wruneB (HB4.out.jf HJ4.out hm5) z hz0 hz1 HL.out
        clear hj5 hm5 HUC hz0 hz1
        go_wp2_with fail
        refine HWR.mono ?_
        rintro _ w6 ⟨rfl, hb6, hk6⟩
        have HJ6 := Lib.hid (HJ5.out.kw hk6 H6.out)
        have HM6 := Lib.hid (JB.kw HM5.out hk6)
        clear hb6 hk6 HWR
        go_wp2_with fail
        go_ret
        exact ⟨⟨_, rfl, rfl⟩, ⟨_, _, HJ6.out⟩, HM6.out⟩
      · have hx2 : x = .ok (Lib.encodeRune n, q) := HX.out
        subst hx2
        have hun := (unitP_ok HU.out.symm).1
        have hn1 : (n : Int) ≤ 2147483647 := by unfold IsRune at hun; simp only at hun; omega
        have hn0 : (-2147483648 : Int) ≤ (n : Int) := by omega
        refine HUC.mono ?_
        rintro _ w5 ⟨⟨rfl, hj5⟩, hm5⟩
        have HJ5 := Lib.hid hj5
        have HM5 : Hid (Mod (JB r b w) w w5) := Lib.hid (JB.of (HM4.out.trans hm5))
        have HWR := wruneB (HB4.out.jf HJ4.out hm5) n hn0 hn1 HL.out
        clear hj5 hm5 HUC hn0 hn1 hun
        go_wp2_with fail
        refine HWR.mono ?_
        rintro _ w6 ⟨rfl, hb6, hk6⟩
        have HJ6 := Lib.hid (HJ5.out.kw hk6 H6.out)
        have HM6 := Lib.hid (JB.kw HM5.out hk6)
        have HB6 := Lib.hid hb6
        clear hb6 hk6 HWR
        go_wp2_with fail
        go_ret
        exact ⟨⟨rfl, HJ6.out, HB6.out⟩, HM6.out⟩
    · have heq : ((c.toNat : Int) == 117) = false := by
        have := byte_eq c 117
        rw [decide_eq_false h117] at this
        exact this
      rw [if_neg h117] at hx
      have hsh := short_any c
      obtain ⟨y, hy⟩ : ∃ y, Lib.indexByte shortAbc c = y := ⟨_, rfl⟩
      rw [hy] at hsh
      have HI : ∀ W, Calls Tryz.prog 64 #[.string ⟨#[34, 92, 47, 98, 102, 110, 114, 116]⟩, .int .u8 (c.toNat : Int)] W fun e w' => e = .returned (.int .i64 y) ∧ w' = W := fun W => by
        have := idx_any ⟨#[34, 92, 47, 98, 102, 110, 114, 116]⟩ c W
        rw [bl_eq, show (⟨#[34, 92, 47, 98, 102, 110, 114, 116]⟩ : ByteArray).data.toList = shortAbc from rfl, hy] at this
        exact this
      obtain ⟨sr, hsr⟩ : ∃ sr, shortR c = sr := ⟨_, rfl⟩
      rw [hsr] at hx hsh
      clear hsr hc hin
      rcases sr with _ | d
      · simp only at hx hsh
        subst hx
        have HW : Hid (wrongC s (p + 1) = 7) := Lib.hid (by unfold wrongC; rw [if_pos HIN.out])
        clear hy h117
        go_enter Tryz.func101, Tryz.ntmps101
        go_wp2_with fail
        go_quiet (fail)
        go_wp2_with fail
        refine (HNW _ (belowN (Below.refl _ _) _)).mono ?_
        rintro _ w3 ⟨rfl, hb3⟩
        have HB3 : Hid (Below (w.setCell ⟨r, 1, none⟩ (.int .i64 ((p : Int) + 1))).heap.size (w.setCell ⟨r, 1, none⟩ (.int .i64 ((p : Int) + 1))) w3) := Lib.hid ((belowN (Below.refl _ _) _).trans hb3)
        have HJ3 := Lib.hid (HJ1.out.under HB3.out)
        have HM3 : Hid (Mod (JF r) w w3) := Lib.hid (HM1.out.trans (Mod.of_below HB3.out))
        clear hb3 HNW HJ1 HM1 HB1 c0 c1 e0 e1 ff
        go_wp2_with fail
        refine (HI _).mono ?_
        rintro _ w9 ⟨rfl, e9⟩
        have e9 := e9.symm
        subst e9
        go_wp2_with fail
        refine (jwrong_any HJ3.out).mono ?_
        rintro _ w4 ⟨rfl, hj4, hm4⟩
        rw [HW.out] at hj4
        go_wp2_with fail
        go_ret
        exact ⟨⟨_, rfl, rfl⟩, ⟨_, _, hj4⟩, JB.of (HM3.out.trans hm4)⟩
      · simp only at hx hsh
        subst hx
        have HBY : ∀ W, BB W b acc → Calls Tryz.prog 132 #[.pointer (some ⟨b, 0, none⟩), .int .u8 (d.toNat : Int)] W (BPost W b (acc ++ [d]) .nilIface) := fun W hB => wbyteB hB d HL.out
        obtain ⟨hq', hqw⟩ := wr_sm (x := (p : Int) + 1 + 1) (by omega) (by omega)
        obtain ⟨K, hK⟩ : ∃ K : Int, (d.toNat : Int) = K := ⟨_, rfl⟩
        rw [hK] at HBY
        have hcases : (y = 0 ∧ K = 34) ∨ (y = 1 ∧ K = 92) ∨ (y = 2 ∧ K = 47) ∨ (y = 3 ∧ K = 8) ∨ (y = 4 ∧ K = 12) ∨ (y = 5 ∧ K = 10) ∨ (y = 6 ∧ K = 13) ∨ (y = 7 ∧ K = 9) := by
          unfold shortNo at hsh
          simp only [Bool.or_eq_true, Bool.and_eq_true, beq_iff_eq] at hsh
          have hd : ∀ k : UInt8, d = k → K = (k.toNat : Int) := fun k e => by rw [← hK, e]
          rcases hsh with (((((((h | h) | h) | h) | h) | h) | h) | h)
          · exact .inl ⟨h.1, hd _ h.2⟩
          · exact .inr (.inl ⟨h.1, hd _ h.2⟩)
          · exact .inr (.inr (.inl ⟨h.1, hd _ h.2⟩))
          · exact .inr (.inr (.inr (.inl ⟨h.1, hd _ h.2⟩)))
          · exact .inr (.inr (.inr (.inr (.inl ⟨h.1, hd _ h.2⟩))))
          · exact .inr (.inr (.inr (.inr (.inr (.inl ⟨h.1, hd _ h.2⟩)))))
          · exact .inr (.inr (.inr (.inr (.inr (.inr (.inl ⟨h.1, hd _ h.2⟩))))))
          · exact .inr (.inr (.inr (.inr (.inr (.inr (.inr ⟨h.1, hd _ h.2⟩))))))
        clear hK hsh hy h117
        go_enter Tryz.func101, Tryz.ntmps101
        go_wp2_with fail
        go_quiet (fail)
        go_wp2_with fail
        refine (HNW _ (belowN (Below.refl _ _) _)).mono ?_
        rintro _ w3 ⟨rfl, hb3⟩
        have HB3 : Hid (Below (w.setCell ⟨r, 1, none⟩ (.int .i64 ((p : Int) + 1))).heap.size (w.setCell ⟨r, 1, none⟩ (.int .i64 ((p : Int) + 1))) w3) := Lib.hid ((belowN (Below.refl _ _) _).trans hb3)
        have HJ3 := Lib.hid (HJ1.out.under HB3.out)
        have HM3 : Hid (Mod (JF r) w w3) := Lib.hid (HM1.out.trans (Mod.of_below HB3.out))
        have HBB3 := Lib.hid (HB1.out.below HB3.out)
        clear hb3 HNW HJ1 HM1 HB1 c0 c1 e0 e1 ff
        go_wp2_with fail
        refine (HI _).mono ?_
        rintro _ w9 ⟨rfl, e9⟩
        have e9 := e9.symm
        subst e9
        clear HI
        rcases hcases with ⟨rfl, rfl⟩ | ⟨rfl, rfl⟩ | ⟨rfl, rfl⟩ | ⟨rfl, rfl⟩ | ⟨rfl, rfl⟩ | ⟨rfl, rfl⟩ | ⟨rfl, rfl⟩ | ⟨rfl, rfl⟩
        all_goals
          go_wp2_with fail
          refine (HBY _ HBB3.out).mono ?_
          rintro _ w4 ⟨rfl, hb4, hk4⟩
          have HJ4 := Lib.hid (HJ3.out.kw hk4 H6.out)
          have HB4 := Lib.hid hb4
          have HM4 : Hid (Mod (JB r b w) w w4) := Lib.hid (JB.kw (JB.of HM3.out) hk4)
          obtain ⟨g0, g1, -, -, -⟩ := HJ4.out.cells
          have gf := free_blk HJ4.out.blk 1
          have g1' : w4.cell? ⟨r, 1, none⟩ = some (.int .i64 ((p : Int) + 1)) := by rw [g1]; simp
          clear hb4 hk4 HBY g1
          go_wp2_with fail
          go_ret
          exact ⟨⟨rfl, HJ4.out.setAt (by have := HIN.out; omega) (by omega) (by omega), HB4.out.jf HJ4.out (setJ_mod _ _ _ _)⟩, JB.jf HM4.out (setJ_mod _ _ _ _)⟩
  · have hi2 : s.size ≤ p + 1 := by omega
    have hi3 : (s.size : Int) ≤ (p : Int) + 1 := by omega
    rw [if_pos hin] at hx
    subst hx
    have HW : Hid (wrongC s (p + 1) = 10) := Lib.hid (by unfold wrongC; rw [if_neg hin])
    clear hin
    go_enter Tryz.func101, Tryz.ntmps101
    go_wp2_with fail
    go_quiet (fail)
    go_wp2_with fail
    refine (jwrong_any (HJ1.out.under (belowN (Below.refl _ _) _))).mono ?_
    rintro _ w4 ⟨rfl, hj4, hm4⟩
    rw [HW.out] at hj4
    go_wp2_with fail
    go_ret
    exact ⟨⟨_, rfl, rfl⟩, ⟨_, _, hj4⟩, JB.of ((HM1.out.trans (Mod.of_below (belowN (Below.refl _ _) _))).trans hm4)⟩
end Go.Proofs.YtnaefnojmiolbaaGreatDoor
