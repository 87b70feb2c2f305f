/-
  HeadSent: the walk.
-/
import Derived.Test.YthnhpnmopjbaoaaDoorDoesB11
namespace Go.Proofs.YthnhpnmopjbaoaaDoor
open Go.RowKit

/-- Both heads stand alike. -/
def Alike (B : Nat) (w : World) (h r : Nat) : Prop := ∃ H : Bool × Int × List ByteArray, HLive B w h H.1 H.2.1 H.2.2 ∧ RLive B w r H.1 H.2.1 H.2.2 ∧ Small H.2.2
set_option maxHeartbeats 12800000 in
set_option maxRecDepth 100000 in
theorem sent_holds_any (cap cap2 : Nat) (ao ao2 : Option Addr) (acts acts2 : List HA) (W : World) (hl : Lies W 6 ao (acts.map HA.cells)) (hn : acts.length ≤ 1048576) (hok : ∀ a ∈ acts, a.Ok) (hl2 : Lies W 6 ao2 (acts2.map HA.cells)) (hn2 : acts2.length ≤ 1048576) (hok2 : ∀ a ∈ acts2, a.Ok) (ht : TabsR W) :
    Calls Tryd.prog 7 #[.slice ao acts.length cap, .slice ao2 acts2.length cap2] W (BoolPost W true) := by
  have HL := Lib.hid hl
  have HT := Lib.hid (fun W' hb => ht.mono hb : ∀ W', Below W.heap.size W W' → TabsR W')
  have HOK := Lib.hid hok
  have HL2 := Lib.hid hl2
  have HOK2 := Lib.hid hok2
  clear hl ht hok hl2 hok2
  go_enter Tryd.func7, Tryd.ntmps7
  go_wp2_with fail
  refine (live_new W).mono ?_
  rintro e w1 ⟨rfl, l1, b1, -⟩
  have L1 := Lib.hid l1
  have B1 := Lib.hid b1
  have HA := halive_any w1 (HT.out _ b1).t
  clear l1 b1
  go_wp2_with fail
  refine HA.mono ?_
  rintro e w2 ⟨rfl, hb⟩
  have L2 := Lib.hid (L1.out.below hb)
  have B2 := Lib.hid (B1.out.trans (hb.mono B1.out.size))
  clear HA hb L1 B1
  go_wp2_with fail
  refine (rnew_any w2).mono ?_
  rintro e w3 ⟨rfl, hb⟩
  have L3 := Lib.hid (L2.out.below hb)
  have B3 := Lib.hid (B2.out.trans (hb.mono B2.out.size))
  clear hb L2 B2
  have A4 : Hid (Alike W.heap.size (w3.alloc (.cells #[.int .i64 200, .slice none 0 0, .bool false] 52)) W.heap.size w3.heap.size) := Lib.hid ⟨(false, 200, []), L3.out.below (below_alloc1 _ _), ⟨B3.out.size, _, ⟨heap_alloc_new _ _, Owns.empty _ _ _, by simp [Value.ownBlock], by simp⟩, fun g e => by simp [Value.ownBlock] at e⟩, fun s hs => by cases hs⟩
  have B4 := Lib.hid (B3.out.alloc B3.out.size (.cells #[.int .i64 200, .slice none 0 0, .bool false] 52))
  clear L3 B3
  go_wp2_with fail
  generalize w3.alloc _ = w4 at A4 B4 ⊢
  generalize w3.heap.size = r at A4 ⊢
  go_loopw [24] (fun kv wr => ∃ k : Nat, k ≤ acts.length ∧ kv = .int .i64 k ∧ Hid (Alike W.heap.size wr W.heap.size r) ∧ Hid (Below W.heap.size W wr)) (fun kv _ => acts.length - (intOf kv).toNat)
  case atStart => exact ⟨0, Nat.zero_le _, rfl, A4, B4⟩
  case round =>
    obtain ⟨k, hk, rfl, LL, BL⟩ := hrel
    clear A4 B4
    by_cases hlt : k < acts.length
    · obtain ⟨H, lH, lR, lS⟩ := LL.out
      obtain ⟨g, off, rfl, hg, c0, c1, c2, c3, c4, c5⟩ := ha_cells HL.out hlt BL.out rfl
      have HAOK := Lib.hid (HOK.out acts[k] (List.getElem_mem hlt))
      have hi : (k : Int) < (acts.length : Int) := by omega
      have hw : IntKind.i64.wrap ((k : Int) + 1) = (k : Int) + 1 := by rw [IntKind.wrap_i64]; omega
      have hw' : wrap64 ((k : Int) + 1) = (k : Int) + 1 := wr64 (by omega) (by omega)
      generalize acts[k] = a at c0 c1 c2 c3 c4 c5 HAOK
      have B6 := Lib.hid (BL.out.alloc BL.out.size (HAB a))
      have HD := does_same (B := W.heap.size) HT.out B6.out (lH.below (below_alloc1 wr (HAB a))) (lR.below (below_alloc1 wr (HAB a))) lS HAOK.out
      have HNS := Lib.hid (lS.next HAOK.out)
      have HLT := Lib.hid hlt
      generalize nextS H a = H2 at HD HNS
      have bk := heap_alloc_new wr (HAB a)
      have d0 := cell_blk bk 0
      have d1 := cell_blk bk 1
      have d2 := cell_blk bk 2
      have d3 := cell_blk bk 3
      have d4 := cell_blk bk 4
      have d5 := cell_blk bk 5
      clear lH lR lS hlt LL bk
      go_wp2_with fail
      refine HD.mono ?_
      rintro e w5 ⟨rfl, l5, r5, b5, -⟩
      have A5 : Hid (Alike W.heap.size w5 W.heap.size r) := Lib.hid ⟨H2, l5, r5, HNS.out⟩
      have B5 := Lib.hid b5
      clear HD l5 r5 b5 d0 d1 d2 d3 d4 d5
      go_wp2_with fail
      go_roundw
      case rel => exact ⟨k + 1, HLT.out, by go_num, A5, B5⟩
      case measure => have := HLT.out; simp [intOf]; omega
    · obtain rfl : k = acts.length := by omega
      obtain ⟨⟨sn, cd, ls⟩, lH, -, lS⟩ := LL.out
      have HSe := live_send lH
      clear lH LL
      go_wp2_with fail
      refine HSe.mono ?_
      rintro e w6 ⟨rfl, l6, b6, -⟩
      have B6 := Lib.hid (BL.out.trans b6)
      have HCo := live_code l6
      have HLi := live_lines l6
      have L6 := Lib.hid l6
      clear HSe l6 b6
      go_wp2_with fail
      refine HCo.mono ?_
      rintro e w7 ⟨rfl, rfl⟩
      go_wp2_with fail
      refine HLi.mono ?_
      rintro e w7 ⟨v7, rfl, o7, hb, n7⟩
      have L7 := Lib.hid (L6.out.below hb)
      have B7 := Lib.hid (B6.out.trans (hb.mono B6.out.size))
      have N7 : Hid (∀ g, v7.ownBlock = some g → g ≠ W.heap.size) := Lib.hid (fun g e => by have := n7 g e; have := L6.out.lt; omega)
      obtain ⟨a7, c7, hv7, -⟩ := o7.any
      rw [List.length_map] at hv7
      subst hv7
      have O7 := Lib.hid o7
      clear HCo HLi o7 hb n7 L6 B6
      go_wp2_with fail
      go_loopw [40] (fun kv wr => ∃ k : Nat, k ≤ acts2.length ∧ kv = .int .i64 k ∧ Hid (HLive W.heap.size wr W.heap.size true cd ls) ∧ Hid (Below W.heap.size W wr) ∧ Hid (Owns wr 9 1 (.slice a7 ls.length c7) (ls.map sR))) (fun kv _ => acts2.length - (intOf kv).toNat)
      case atStart => exact ⟨0, Nat.zero_le _, rfl, L7, B7, O7⟩
      case round =>
        obtain ⟨k, hk, rfl, LL, BL, OL⟩ := hrel
        clear L7 B7 O7
        by_cases hlt2 : k < acts2.length
        · obtain ⟨g, off, rfl, hg, c0, c1, c2, c3, c4, c5⟩ := ha_cells HL2.out hlt2 BL.out rfl
          have HAOK := Lib.hid (HOK2.out acts2[k] (List.getElem_mem hlt2))
          have hi : (k : Int) < (acts2.length : Int) := by omega
          have hw : IntKind.i64.wrap ((k : Int) + 1) = (k : Int) + 1 := by rw [IntKind.wrap_i64]; omega
          have hw' : wrap64 ((k : Int) + 1) = (k : Int) + 1 := wr64 (by omega) (by omega)
          generalize acts2[k] = a at c0 c1 c2 c3 c4 c5 HAOK
          have hkw := kind_wrap (kind := a.kind)
          have B6 := Lib.hid (BL.out.alloc BL.out.size (HAB a))
          have L6 := Lib.hid (LL.out.below (below_alloc1 wr (HAB a)))
          have O6 := Lib.hid (OL.out.mod (Mod.of_below (F := fun _ => False) (below_alloc1 wr (HAB a))) (fun _ _ x => x))
          have HLT := Lib.hid hlt2
          have bk := heap_alloc_new wr (HAB a)
          have BK := Lib.hid bk
          have d0 := cell_blk bk 0
          have d1 := cell_blk bk 1
          have d2 := cell_blk bk 2
          have d3 := cell_blk bk 3
          have d4 := cell_blk bk 4
          have d5 := cell_blk bk 5
          clear hlt2 bk
          by_cases hk4 : (a.kind.tmod 5 + 5).tmod 5 = 4
          · have HSe := live_send L6.out
            clear LL OL
            go_wp2_with fail
            generalize wr.alloc _ = w8 at L6 B6 O6 BK HSe d0 d1 d2 d3 d4 d5 ⊢
            refine HSe.mono ?_
            rintro e w9 ⟨rfl, l9, b9, m9⟩
            have L9 := Lib.hid l9
            have B9 := Lib.hid (B6.out.trans b9)
            have O9 := Lib.hid (O6.out.mod m9 (fun g e x => N7.out g e x))
            clear HSe l9 b9 m9 d0 d1 d2 d3 d4 d5
            go_wp2_with fail
            go_roundw
            case rel => exact ⟨k + 1, HLT.out, by go_num, L9, B9, O9⟩
            case measure => have := HLT.out; simp [intOf]; omega
          · have hk4b : ((a.kind.tmod 5 + 5).tmod 5 == 4) = false := by simpa using hk4
            have B7 : Hid (Below W.heap.size W ((wr.alloc (HAB a)).alloc (.cells #[.int .i64 0, .slice none 0 0, .bool true] 52))) := Lib.hid (B6.out.alloc B6.out.size _)
            have R7 : RLive W.heap.size ((wr.alloc (HAB a)).alloc (.cells #[.int .i64 0, .slice none 0 0, .bool true] 52)) (wr.alloc (HAB a)).heap.size true 0 [] := ⟨B6.out.size, _, ⟨heap_alloc_new _ _, Owns.empty _ _ _, by simp [Value.ownBlock], by simp⟩, fun g e => by simp [Value.ownBlock] at e⟩
            have hsz : (wr.alloc (HAB a)).heap.size = wr.heap.size + 1 := by simp
            rw [hsz] at R7
            have hb7 := below_alloc1 (wr.alloc (HAB a)) (.cells #[.int .i64 0, .slice none 0 0, .bool true] 52)
            have L7 := L6.out.below hb7
            have O7 := Lib.hid (O6.out.mod (Mod.of_below (F := fun _ => False) hb7) (fun _ _ x => x))
            have HLTo : Hid (∀ g, (Value.slice a7 ls.length c7).ownBlock = some g → g < wr.heap.size + 1) := Lib.hid (fun g e => by rw [← hsz]; exact O6.out.lt e)
            have HD := does_closed (B := W.heap.size) HT.out B7.out L7 R7 lS (fun s hs => by cases hs) HAOK.out hk4
            have bk7 := (hb7.block _ (lt_of_block BK.out)).trans BK.out
            have e0 := cell_blk bk7 0
            have e1 := cell_blk bk7 1
            have e2 := cell_blk bk7 2
            have e3 := cell_blk bk7 3
            have e4 := cell_blk bk7 4
            have e5 := cell_blk bk7 5
            clear LL OL L7 R7 hb7 bk7 hk4 hsz
            go_wp2_with fail
            refine HD.mono ?_
            rintro e w9 ⟨rfl, l9, -, b9, m9⟩
            have L9 := Lib.hid l9
            have B9 := Lib.hid b9
            have O9 := Lib.hid (O7.out.mod m9 (fun g e x => by
              rcases x with x | x
              · exact N7.out g e x
              · have := HLTo.out g e; omega))
            clear HD l9 b9 m9 d0 d1 d2 d3 d4 d5 e0 e1 e2 e3 e4 e5
            go_wp2_with fail
            go_roundw
            case rel => exact ⟨k + 1, HLT.out, by go_num, L9, B9, O9⟩
            case measure => have := HLT.out; simp [intOf]; omega
        · obtain rfl : k = acts2.length := by omega
          have HCo := live_code LL.out
          have HLi := live_lines LL.out
          have d0 : (cd == cd) = true := by simp
          have HLN := Lib.hid LL.out.len
          go_wp2_with fail
          refine HCo.mono ?_
          rintro e w8 ⟨rfl, rfl⟩
          go_wp2_with fail
          refine HLi.mono ?_
          rintro e w8 ⟨v8, rfl, o8, hb, -⟩
          have L8 := Lib.hid (LL.out.below hb)
          have B8 := Lib.hid (BL.out.trans (hb.mono BL.out.size))
          have O8 := OL.out.mod (Mod.of_below (F := fun _ => False) hb) (fun _ _ x => x)
          obtain ⟨a8, c8, hv8, -, -, hl8, -, -⟩ := o8.any
          rw [List.length_map] at hv8
          subst hv8
          obtain ⟨a9, c9, hv9, -, -, hl9, -, -⟩ := O8.any
          rw [List.length_map] at hv9
          cases hv9
          have HSm := same_any (ca := c8) (cb := c7) hl8 hl9 (by have := HLN.out; omega) (by have := HLN.out; omega)
          rw [decide_eq_true rfl] at HSm
          clear HCo HLi o8 O8 hb hl8 hl9
          go_wp2_with fail
          refine HSm.mono ?_
          rintro e w9 ⟨rfl, hb⟩
          have HSe := live_sent (L8.out.below hb)
          have B9 := Lib.hid (B8.out.trans (hb.mono B8.out.size))
          clear HSm hb
          go_wp2_with fail
          refine HSe.mono ?_
          rintro e w10 ⟨rfl, rfl⟩
          go_wp2_with fail
          go_ret
          exact ⟨rfl, B9.out⟩
end Go.Proofs.YthnhpnmopjbaoaaDoor
