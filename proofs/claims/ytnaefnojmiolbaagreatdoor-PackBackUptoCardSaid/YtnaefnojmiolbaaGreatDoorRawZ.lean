/-
  The walk of the document's Raw at like values.
-/
import Derived.Test.YtnaefnojmiolbaaGreatDoorWithinZ
namespace Go.Proofs.YtnaefnojmiolbaaGreatDoor
open Go.RowKit

/-- Item j of both lists, as it lies. -/
structure Raw2 (w : World) (v : VT) (l : List It) (ao bo : Option Addr) (ca cb : Nat) (j : Nat) (q : K) (x : VT) (g off : Nat) (co : Option Addr) (cc : Nat) (g2 off2 : Nat) (co2 : Option Addr) (cc2 : Nat) (V : World) : Prop where
  a : V.heap[w.heap.size]? = some (VB v (.slice ao l.length ca))
  b : V.heap[w.heap.size + 1]? = some (VB v (.slice bo l.length cb))
  below : Below w.heap.size w V
  vin : VIn V (.slice co x.xs.length cc) x.xs
  vin2 : VIn V (.slice co2 x.xs.length cc2) x.xs
  lt : g < w.heap.size
  lt2 : g2 < w.heap.size
  c : w.cell? ⟨g, off + j * 7, none⟩ = some (.bool q.b) ∧ w.cell? ⟨g, off + j * 7 + 1, none⟩ = some (.int .i64 q.n) ∧ w.cell? ⟨g, off + j * 7 + 2, none⟩ = some (.string q.t) ∧
      w.cell? ⟨g, off + j * 7 + 3, none⟩ = some (.int .i64 x.k) ∧ w.cell? ⟨g, off + j * 7 + 4, none⟩ = some (.int .i64 x.n) ∧ w.cell? ⟨g, off + j * 7 + 5, none⟩ = some (.string x.t) ∧ w.cell? ⟨g, off + j * 7 + 6, none⟩ = some (.slice co x.xs.length cc)
  c2 : w.cell? ⟨g2, off2 + j * 7, none⟩ = some (.bool q.b) ∧ w.cell? ⟨g2, off2 + j * 7 + 1, none⟩ = some (.int .i64 q.n) ∧ w.cell? ⟨g2, off2 + j * 7 + 2, none⟩ = some (.string q.t) ∧
      w.cell? ⟨g2, off2 + j * 7 + 3, none⟩ = some (.int .i64 x.k) ∧ w.cell? ⟨g2, off2 + j * 7 + 4, none⟩ = some (.int .i64 x.n) ∧ w.cell? ⟨g2, off2 + j * 7 + 5, none⟩ = some (.string x.t) ∧ w.cell? ⟨g2, off2 + j * 7 + 6, none⟩ = some (.slice co2 x.xs.length cc2)
section
variable {w : World} {v : VT} {l : List It} {ao bo : Option Addr} {ca cb : Nat} {j : Nat} {q : K} {x : VT} {g off : Nat} {co : Option Addr} {cc : Nat} {g2 off2 : Nat} {co2 : Option Addr} {cc2 : Nat} {V V' : World}
theorem Raw2.mono (h : Raw2 w v l ao bo ca cb j q x g off co cc g2 off2 co2 cc2 V) (hb : Below V.heap.size V V') : Raw2 w v l ao bo ca cb j q x g off co cc g2 off2 co2 cc2 V' :=
  ⟨(hb.block _ (lt_of_block h.a)).trans h.a, (hb.block _ (lt_of_block h.b)).trans h.b, h.below.trans (hb.mono h.below.size), h.vin.under hb, h.vin2.under hb, h.lt, h.lt2, h.c, h.c2⟩
def Raw2S (w : World) (l : List It) (ao bo : Option Addr) (ca cb : Nat) (j : Nat) (q : K) (x : VT) (g off : Nat) (co : Option Addr) (cc : Nat) (g2 off2 : Nat) (co2 : Option Addr) (cc2 : Nat) (V : World) : Prop :=
  V.cell? ⟨w.heap.size, 3, none⟩ = some (.slice ao l.length ca) ∧ V.cell? ⟨w.heap.size + 1, 3, none⟩ = some (.slice bo l.length cb) ∧
  V.cell? ⟨g, off + j * 7, none⟩ = some (.bool q.b) ∧ V.cell? ⟨g, off + j * 7 + 1, none⟩ = some (.int .i64 q.n) ∧ V.cell? ⟨g, off + j * 7 + 2, none⟩ = some (.string q.t) ∧
  V.cell? ⟨g, off + j * 7 + 3, none⟩ = some (.int .i64 x.k) ∧ V.cell? ⟨g, off + j * 7 + 4, none⟩ = some (.int .i64 x.n) ∧ V.cell? ⟨g, off + j * 7 + 5, none⟩ = some (.string x.t) ∧ V.cell? ⟨g, off + j * 7 + 6, none⟩ = some (.slice co x.xs.length cc) ∧
  V.cell? ⟨g2, off2 + j * 7, none⟩ = some (.bool q.b) ∧ V.cell? ⟨g2, off2 + j * 7 + 1, none⟩ = some (.int .i64 q.n) ∧ V.cell? ⟨g2, off2 + j * 7 + 2, none⟩ = some (.string q.t) ∧
  V.cell? ⟨g2, off2 + j * 7 + 3, none⟩ = some (.int .i64 x.k) ∧ V.cell? ⟨g2, off2 + j * 7 + 4, none⟩ = some (.int .i64 x.n) ∧ V.cell? ⟨g2, off2 + j * 7 + 5, none⟩ = some (.string x.t) ∧ V.cell? ⟨g2, off2 + j * 7 + 6, none⟩ = some (.slice co2 x.xs.length cc2)
theorem Raw2.all (h : Raw2 w v l ao bo ca cb j q x g off co cc g2 off2 co2 cc2 V) : Raw2S w l ao bo ca cb j q x g off co cc g2 off2 co2 cc2 V := by
  have k := fun o => h.below.cell (p := ⟨g, o, none⟩) h.lt
  have k2 := fun o => h.below.cell (p := ⟨g2, o, none⟩) h.lt2
  obtain ⟨c0, c1, c2, c3, c4, c5, c6⟩ := h.c
  obtain ⟨d0, d1, d2, d3, d4, d5, d6⟩ := h.c2
  exact ⟨cell_blk h.a 3, cell_blk h.b 3, (k _).trans c0, (k _).trans c1, (k _).trans c2, (k _).trans c3, (k _).trans c4, (k _).trans c5, (k _).trans c6, (k2 _).trans d0, (k2 _).trans d1, (k2 _).trans d2, (k2 _).trans d3, (k2 _).trans d4, (k2 _).trans d5, (k2 _).trans d6⟩
end
set_option maxHeartbeats 3200000 in
set_option maxRecDepth 100000 in
theorem raw_same (v : VT) : ∀ (w : World) (c d : Value), VIn w c v.xs → VIn w d v.xs → Calls Tryz.prog 32 #[v.v c, v.v d] w (BoolPost w true) := by
  refine VT.ind (P := fun v => ∀ (w : World) (c d : Value), VIn w c v.xs → VIn w d v.xs → Calls Tryz.prog 32 #[v.v c, v.v d] w (BoolPost w true)) ?_ v
  intro k n t l ih w c d hv hv2
  have hv : VIn w c l := hv
  have hv2 : VIn w d l := hv2
  obtain ⟨ao, cap, rfl, hlen⟩ := hv.form
  obtain ⟨bo, cap2, rfl, -⟩ := hv2.form
  have HV := Lib.hid hv
  have HV2 := Lib.hid hv2
  have IH := Lib.hid ih
  have HB : Hid (Below w.heap.size w ((w.alloc (VB (.mk k n t l) (.slice ao l.length cap))).alloc (VB (.mk k n t l) (.slice bo l.length cap2))) ∧ ((w.alloc (VB (.mk k n t l) (.slice ao l.length cap))).alloc (VB (.mk k n t l) (.slice bo l.length cap2))).heap[w.heap.size]? = some (VB (.mk k n t l) (.slice ao l.length cap)) ∧ ((w.alloc (VB (.mk k n t l) (.slice ao l.length cap))).alloc (VB (.mk k n t l) (.slice bo l.length cap2))).heap[w.heap.size + 1]? = some (VB (.mk k n t l) (.slice bo l.length cap2))) :=
    Lib.hid ⟨(at2_start w _ _).below, (at2_start w _ _).a, (at2_start w _ _).b⟩
  obtain ⟨a0, a1, a2, a3⟩ := vb_cells HB.out.2.1
  obtain ⟨b0, b1, b2, b3⟩ := vb_cells HB.out.2.2
  have HL := Lib.hid hlen
  have hk : (k == k) = true := by simp
  have hn : (n == n) = true := by simp
  clear hv hv2 ih hlen
  show Calls Tryz.prog 32 #[.agg #[.int .i64 k, .int .i64 n, .string t, .slice ao l.length cap], .agg #[.int .i64 k, .int .i64 n, .string t, .slice bo l.length cap2]] w _
  go_enter Tryz.func32, Tryz.ntmps32
  go_wp2_with fail
  go_loopw [5] (fun kv wr => ∃ (j : Nat), j ≤ l.length ∧ kv = .int .i64 j ∧ Hid (Below w.heap.size w wr ∧ wr.heap[w.heap.size]? = some (VB (.mk k n t l) (.slice ao l.length cap)) ∧ wr.heap[w.heap.size + 1]? = some (VB (.mk k n t l) (.slice bo l.length cap2)))) (fun kv _ => l.length - (intOf kv).toNat)
  case atStart => exact ⟨0, Nat.zero_le _, rfl, HB⟩
  case round =>
    obtain ⟨j, hj, rfl, BX⟩ := hrel
    have x3 : wr.cell? ⟨w.heap.size, 3, none⟩ = some (.slice ao l.length cap) := (vb_cells BX.out.2.1).2.2.2
    clear a0 a1 a2 a3 b0 b1 b2 b3
    by_cases hlt : j < l.length
    · have hi : (j : Int) < (l.length : Int) := by omega
      obtain ⟨q, x, g, off, co, hq, hm, rfl, hg, -, hc, cc0⟩ := HV.out.get hlt
      obtain ⟨q', x', g2, off2, co2, hq', -, rfl, hg2, -, hc2, dd0⟩ := HV2.out.get hlt
      rw [hq] at hq'
      obtain ⟨rfl, rfl⟩ : q = q' ∧ x = x' := by simpa using hq'
      obtain ⟨po, pc, rfl, -⟩ := hc.form
      obtain ⟨po2, pc2, rfl, -⟩ := hc2.form
      have hd := Below.refl wr.heap.size wr
      have D0 : Hid (Raw2 w (.mk k n t l) l (some ⟨g, off, none⟩) (some ⟨g2, off2, none⟩) cap cap2 j q x g off po pc g2 off2 po2 pc2 wr.drew) := Lib.hid (Raw2.mono (V := wr) ⟨BX.out.2.1, BX.out.2.2, BX.out.1, hc.kept fun b _ hb' => ⟨BX.out.1.block b hb', Nat.lt_of_lt_of_le hb' BX.out.1.size, trivial⟩, hc2.kept fun b _ hb' => ⟨BX.out.1.block b hb', Nat.lt_of_lt_of_le hb' BX.out.1.size, trivial⟩, hg, hg2, cc0, dd0⟩ (belowD hd))
      obtain ⟨hwi', hwi⟩ : wrap64 ((j : Int) + 1) = (j : Int) + 1 ∧ IntKind.i64.wrap ((j : Int) + 1) = (j : Int) + 1 := wr_sm (by omega) (by have := HL.out; omega)
      have hN : ∀ w, (binOp .neq 62 (.agg #[.bool q.b, .int .i64 q.n, .string q.t]) (.agg #[.bool q.b, .int .i64 q.n, .string q.t])).run Tryz.prog w = .ok (.bool false) w := fun w => by have := key_neq q q w; rw [K.same_self] at this; exact this
      have HC : ∀ V, VIn V (.slice po x.xs.length pc) x.xs → VIn V (.slice po2 x.xs.length pc2) x.xs → Calls Tryz.prog 32 #[.agg #[.int .i64 x.k, .int .i64 x.n, .string x.t, .slice po x.xs.length pc], .agg #[.int .i64 x.k, .int .i64 x.n, .string x.t, .slice po2 x.xs.length pc2]] V (BoolPost V true) := fun V h1 h2 => IH.out (q, x) hm V _ _ h1 h2
      have HS0 := Lib.hid D0.out.all
      have HLT := Lib.hid hlt
      clear hc hc2 cc0 dd0 hq hm hg hg2 hq' hlt hd x3
      obtain ⟨z3, -⟩ := HS0.out
      have z3 : wr.cell? ⟨w.heap.size, 3, none⟩ = some (.slice (some ⟨g, off, none⟩) l.length cap) := z3
      go_wp2_with fail
      go_region_held3 (fun V => V.cell? ⟨w.heap.size, 3, none⟩ = some (.slice (some ⟨g, off, none⟩) l.length cap) ∧ V.cell? ⟨w.heap.size + 1, 3, none⟩ = some (.slice (some ⟨g2, off2, none⟩) l.length cap2) ∧ V.cell? ⟨g, off + j * 7, none⟩ = some (.bool q.b) ∧ V.cell? ⟨g, off + j * 7 + 1, none⟩ = some (.int .i64 q.n) ∧ V.cell? ⟨g, off + j * 7 + 2, none⟩ = some (.string q.t) ∧ V.cell? ⟨g, off + j * 7 + 3, none⟩ = some (.int .i64 x.k) ∧ V.cell? ⟨g, off + j * 7 + 4, none⟩ = some (.int .i64 x.n) ∧ V.cell? ⟨g, off + j * 7 + 5, none⟩ = some (.string x.t) ∧ V.cell? ⟨g, off + j * 7 + 6, none⟩ = some (.slice po x.xs.length pc) ∧ V.cell? ⟨g2, off2 + j * 7, none⟩ = some (.bool q.b) ∧ V.cell? ⟨g2, off2 + j * 7 + 1, none⟩ = some (.int .i64 q.n) ∧ V.cell? ⟨g2, off2 + j * 7 + 2, none⟩ = some (.string q.t) ∧ V.cell? ⟨g2, off2 + j * 7 + 3, none⟩ = some (.int .i64 x.k) ∧ V.cell? ⟨g2, off2 + j * 7 + 4, none⟩ = some (.int .i64 x.n) ∧ V.cell? ⟨g2, off2 + j * 7 + 5, none⟩ = some (.string x.t) ∧ V.cell? ⟨g2, off2 + j * 7 + 6, none⟩ = some (.slice po2 x.xs.length pc2))
        (first
          | exact HS0.out
          | exact HS1.out)
        (first
          | (go_at_call 32; refine (HC _ D0.out.vin D0.out.vin2).mono ?_; rintro e w1 ⟨rfl, hb⟩; have D1 := Lib.hid (D0.out.mono hb); have HS1 := Lib.hid D1.out.all; clear hb))
      go_wp2_with fail
      go_roundw
      case rel => exact ⟨j + 1, HLT.out, by go_num, Lib.hid ⟨D1.out.below, D1.out.a, D1.out.b⟩⟩
      case measure => have := HLT.out; simp [intOf]; omega
    · obtain rfl : j = l.length := by omega
      go_wp2_with fail
      go_ret
      exact ⟨rfl, BX.out.1⟩
end Go.Proofs.YtnaefnojmiolbaaGreatDoor
