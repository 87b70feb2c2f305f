/-
  HeadOnce: the walk.
-/
import Derived.Test.YthnhpnmopjbaoaaDoorSent11
import Derived.Test.YthnhpnmopjbaoaaDoorOnceP11
namespace Go.Proofs.YthnhpnmopjbaoaaDoor
open Go.RowKit

/-- Both heads stand alike, and every line has a name. -/
def AlikeG (B : Nat) (w : World) (h r : Nat) : Prop := ∃ H : Bool × Int × List ByteArray, HLive B w h H.1 H.2.1 H.2.2 ∧ RLive B w r H.1 H.2.1 H.2.2 ∧ Small H.2.2 ∧ Good H.2.2
/-- Heads whose lines are so many of some. -/
def PutSo (B : Nat) (w : World) (g k : Nat) (L : List ByteArray) : Prop := ∃ c, HLive B w g false c (L.take k)
theorem rname_len (s : ByteArray) : (rnameP s).length ≤ 64 := by
  unfold rnameP
  cases h : nameP s with
  | none => exact Nat.zero_le _
  | some a =>
    simp only [Option.isSome_some, if_true]
    unfold nameP at h
    split at h
    · rename_i hc; rw [size_toList]; exact hc.2.2.1
    · cases h
theorem Small.take {L : List ByteArray} (h : Small L) (k : Nat) : Small (L.take k) := fun s hs => h s (List.mem_of_mem_take hs)
theorem take_snoc {L : List ByteArray} {k : Nat} (h : k < L.length) : L.take k ++ [L[k]] = L.take (k + 1) := by rw [List.take_add_one, List.getElem?_eq_getElem h]; rfl
set_option maxHeartbeats 12800000 in
set_option maxRecDepth 100000 in
theorem once_holds_any (cap : Nat) (ao : Option Addr) (acts : List HA) (s : ByteArray) (W : World) (hl : Lies W 6 ao (acts.map HA.cells)) (hn : acts.length ≤ 1048576) (hok : ∀ a ∈ acts, a.Ok) (hs : s.size ≤ 1048576) (ht : TabsR W) :
    Calls Tryd.prog 8 #[.slice ao acts.length cap, .string s] W (BoolPost W true) := by
  have HL := Lib.hid hl
  have HT := Lib.hid (fun W' hb => ht.mono hb : ∀ W', Below W.heap.size W W' → TabsR W')
  have HOK := Lib.hid hok
  have HSZ := Lib.hid hs
  clear hl ht hok hs
  go_enter Tryd.func8, Tryd.ntmps8
  go_wp2_with fail
  refine (live_new W).mono ?_
  rintro e w1 ⟨rfl, l1, b1, -⟩
  have L1 := Lib.hid l1
  have B1 := Lib.hid b1
  have HA := halive_any w1 (HT.out _ b1).t
  clear l1 b1
  go_wp2_with fail
  refine HA.mono ?_
  rintro e w2 ⟨rfl, hb⟩
  have L2 := Lib.hid (L1.out.below hb)
  have B2 := Lib.hid (B1.out.trans (hb.mono B1.out.size))
  clear HA hb L1 B1
  go_wp2_with fail
  refine (rnew_any w2).mono ?_
  rintro e w3 ⟨rfl, hb⟩
  have L3 := Lib.hid (L2.out.below hb)
  have B3 := Lib.hid (B2.out.trans (hb.mono B2.out.size))
  clear hb L2 B2
  have A4 : Hid (AlikeG W.heap.size (w3.alloc (.cells #[.int .i64 200, .slice none 0 0, .bool false] 52)) W.heap.size w3.heap.size) := Lib.hid ⟨(false, 200, []), L3.out.below (below_alloc1 _ _), ⟨B3.out.size, _, ⟨heap_alloc_new _ _, Owns.empty _ _ _, by simp [Value.ownBlock], by simp⟩, fun g e => by simp [Value.ownBlock] at e⟩, fun s hs => (by cases hs), fun s hs => (by cases hs)⟩
  have B4 := Lib.hid (B3.out.alloc B3.out.size (.cells #[.int .i64 200, .slice none 0 0, .bool false] 52))
  clear L3 B3
  go_wp2_with fail
  generalize w3.alloc _ = w4 at A4 B4 ⊢
  generalize w3.heap.size = r at A4 ⊢
  go_loopw [24] (fun kv wr => ∃ k : Nat, k ≤ acts.length ∧ kv = .int .i64 k ∧ Hid (AlikeG W.heap.size wr W.heap.size r) ∧ Hid (Below W.heap.size W wr)) (fun kv _ => acts.length - (intOf kv).toNat)
  case atStart => exact ⟨0, Nat.zero_le _, rfl, A4, B4⟩
  case round =>
    obtain ⟨k, hk, rfl, LL, BL⟩ := hrel
    clear A4 B4
    by_cases hlt : k < acts.length
    · obtain ⟨H, lH, lR, lS, lG⟩ := LL.out
      obtain ⟨g, off, rfl, hg, c0, c1, c2, c3, c4, c5⟩ := ha_cells HL.out hlt BL.out rfl
      have HAOK := Lib.hid (HOK.out acts[k] (List.getElem_mem hlt))
      have hi : (k : Int) < (acts.length : Int) := by omega
      have hw : IntKind.i64.wrap ((k : Int) + 1) = (k : Int) + 1 := by rw [IntKind.wrap_i64]; omega
      have hw' : wrap64 ((k : Int) + 1) = (k : Int) + 1 := wr64 (by omega) (by omega)
      generalize acts[k] = a at c0 c1 c2 c3 c4 c5 HAOK
      have B6 := Lib.hid (BL.out.alloc BL.out.size (HAB a))
      have HD := does_same (B := W.heap.size) HT.out B6.out (lH.below (below_alloc1 wr (HAB a))) (lR.below (below_alloc1 wr (HAB a))) lS HAOK.out
      have HNS := Lib.hid (lS.next HAOK.out)
      have HNG := Lib.hid (lG.next a)
      have HLT := Lib.hid hlt
      generalize nextS H a = H2 at HD HNS HNG
      have bk := heap_alloc_new wr (HAB a)
      have d0 := cell_blk bk 0
      have d1 := cell_blk bk 1
      have d2 := cell_blk bk 2
      have d3 := cell_blk bk 3
      have d4 := cell_blk bk 4
      have d5 := cell_blk bk 5
      clear lH lR lS lG hlt LL bk
      go_wp2_with fail
      refine HD.mono ?_
      rintro e w5 ⟨rfl, l5, r5, b5, -⟩
      have A5 : Hid (AlikeG W.heap.size w5 W.heap.size r) := Lib.hid ⟨H2, l5, r5, HNS.out, HNG.out⟩
      have B5 := Lib.hid b5
      clear HD l5 r5 b5 d0 d1 d2 d3 d4 d5
      go_wp2_with fail
      go_roundw
      case rel => exact ⟨k + 1, HLT.out, by go_num, A5, B5⟩
      case measure => have := HLT.out; simp [intOf]; omega
    · obtain rfl : k = acts.length := by omega
      obtain ⟨⟨sn, cd, ls⟩, lH, -, lS, lG⟩ := LL.out
      have hs1 : s.size ≤ 140737488351232 := by have := HSZ.out; omega
      have HLi := live_line lH (HT.out _ BL.out) lS s hs1 true 0
      have HRN := fun w => rname_any s hs1 w
      have HGR : Hid ((if sn = true then (17 : Int) else (lineP cd ls s true 0).1) = 0 → rnameP s ≠ [] → sn = false ∧ (lineP cd ls s true 0).2.2 = dropP (str (nameV s)) ls ++ [s] ∧ Good (dropP (str (nameV s)) ls ++ [s]) ∧ Small (dropP (str (nameV s)) ls ++ [s])) := Lib.hid (fun h0 hr => by
        cases sn with
        | true => cases h0
        | false =>
          have hn1 : nameP s ≠ none := fun e => hr (rname_none.1 e)
          obtain ⟨e1, e2⟩ := lineP_rep hn1 h0
          exact ⟨rfl, e1, (lG.drop _).snoc hn1 e2, (lS.drop _).snoc hs1⟩)
      generalize hres : (if sn = true then (17 : Int) else (lineP cd ls s true 0).1) = res at HLi HGR
      generalize hcd2 : (if sn = true then cd else (lineP cd ls s true 0).2.1) = cd2 at HLi
      generalize hL2 : (if sn = true then ls else (lineP cd ls s true 0).2.2) = L2 at HLi
      have HL2 := Lib.hid hL2
      clear hres hcd2 hL2 lH lS lG LL
      by_cases hr0 : res = 0
      · subst hr0
        by_cases hrn : rnameP s = []
        · have he : (str (rnameP s)).toList.isEmpty = true := by rw [hrn, str_toList]; rfl
          generalize str (rnameP s) = nm at HRN he
          have HRN' := HRN
          clear hrn HGR
          go_wp2_with fail
          refine HLi.mono ?_
          rintro e w6 ⟨rfl, -, b6, -⟩
          have B6 := Lib.hid (BL.out.trans b6)
          clear HLi b6
          go_wp2_with fail
          refine (HRN w6).mono ?_
          rintro e w7 ⟨rfl, rfl⟩
          go_wp2_with fail
          go_ret
          exact ⟨rfl, B6.out⟩
        · obtain ⟨rfl, hL3, hGL, hSL⟩ := HGR.out rfl hrn
          have hL4 := HL2.out
          rw [if_neg (by simp), hL3] at hL4
          have HDT : Hid (dropP (str (smallL (str (rnameP s)).toList)) L2 = dropP (str (nameV s)) ls) := Lib.hid (by rw [str_toList, smallL_rname, ← hL4]; exact drop_twice s ls)
          have hlast : L2[(dropP (str (nameV s)) ls).length]? = some s := by rw [← hL4]; simp
          have hlen : L2.length = (dropP (str (nameV s)) ls).length + 1 := by rw [← hL4]; simp
          rw [hL4] at hGL hSL
          have HG := Lib.hid hGL
          have HSm := Lib.hid hSL
          have he : (str (rnameP s)).toList.isEmpty = false := by rw [str_toList]; cases h : rnameP s with | nil => exact absurd h hrn | cons _ _ => rfl
          have hnsz : (str (rnameP s)).size ≤ 140737488351232 := by
            rw [← size_toList, str_toList]
            exact Nat.le_trans (rname_len s) (by omega)
          generalize str (rnameP s) = nm at HRN he HDT hnsz
          clear hL3 hGL hSL hL4 HL2 hrn HGR
          generalize dropP (str (nameV s)) ls = D at HDT hlast hlen
          obtain ⟨M, hM⟩ : ∃ M, D.length = M := ⟨_, rfl⟩
          rw [hM] at hlast hlen
          have HM := Lib.hid hM
          have HLA := Lib.hid hlast
          have HLE := Lib.hid hlen
          clear hM hlast hlen
          go_wp2_with fail
          refine HLi.mono ?_
          rintro e w6 ⟨rfl, l6, b6, -⟩
          have B6 := Lib.hid (BL.out.trans b6)
          have HLN := live_lines l6
          have hM64 : M < 64 := by have h1 := l6.len; have h2 := HLE.out; omega
          clear HLi b6
          go_wp2_with fail
          refine (HRN w6).mono ?_
          rintro e w7 ⟨rfl, rfl⟩
          go_wp2_with fail
          refine HLN.mono ?_
          rintro e w7 ⟨v7, rfl, o7, hb, n7⟩
          have B7 := Lib.hid (B6.out.trans (hb.mono B6.out.size))
          have L7 := Lib.hid (l6.below hb)
          obtain ⟨a7, c7, hv7, -, -, hl7, -, hown7⟩ := o7.any
          rw [List.length_map, HLE.out] at hv7
          subst hv7
          obtain ⟨g7, p7, rfl, hg7, hc7⟩ := line_at hl7 (show M < L2.length by rw [HLE.out]; omega)
          obtain ⟨rfl, hown8⟩ := hown7 g7 p7 rfl
          rw [Nat.zero_add] at hc7
          have hx7 : w7.cell? ⟨g7, M, none⟩ = some (.string s) := by
            have h1 := HLA.out
            rw [List.getElem?_eq_getElem (show M < L2.length by rw [HLE.out]; omega)] at h1
            rw [hc7, Option.some.inj h1]
          have HLL := Lib.hid hl7
          have O7 := Lib.hid o7
          have hwM : wrap64 (M : Int) = M := wr64 (by omega) (by omega)
          have G7 := Lib.hid hg7
          clear HLN o7 hb n7 l6 hl7 hown7 hc7 hown8 L7 hg7
          go_wp2_with fail
          refine (live_new w7).mono ?_
          rintro e w8 ⟨rfl, l8, b8, -⟩
          have A8 : Hid (PutSo w7.heap.size w8 w7.heap.size 0 L2) := Lib.hid ⟨200, l8⟩
          have B8 := Lib.hid b8
          clear l8 b8 hx7
          go_wp2_with fail
          go_loopw [12, 59] (fun _ kv wr => ∃ k : Nat, k ≤ M + 1 ∧ kv = .int .i64 k ∧ Hid (PutSo w7.heap.size wr w7.heap.size k L2) ∧ Hid (Below w7.heap.size w7 wr)) (fun _ kv _ => M + 1 - (intOf kv).toNat)
          case atStart => exact ⟨0, Nat.zero_le _, rfl, A8, B8⟩
          case round =>
            obtain ⟨k, hk, rfl, AX, BX⟩ := hrel
            clear A8 B8
            by_cases hlt : k < M + 1
            · have hkl : k < L2.length := by rw [HLE.out]; exact hlt
              obtain ⟨g9, p9, hg9, -, c9⟩ := line_at HLL.out hkl
              cases hg9
              rw [Nat.zero_add] at c9
              have c10 : wr.cell? ⟨g7, k, none⟩ = some (.string L2[k]) := (BX.out.cell (p := ⟨g7, k, none⟩) G7.out).trans c9
              have hi : (k : Int) < (M : Int) + 1 := by omega
              obtain ⟨hw', hw⟩ : wrap64 ((k : Int) + 1) = (k : Int) + 1 ∧ IntKind.i64.wrap ((k : Int) + 1) = (k : Int) + 1 := wr_sm (by omega) (by omega)
              have HC : Calls Tryd.prog 30 #[.pointer (some ⟨w7.heap.size, 0, none⟩), .string L2[k], .bool false, .int .i64 0] wr (fun e w' => ∃ q, e = .returned (.int .i64 q) ∧ PutSo w7.heap.size w' w7.heap.size (k + 1) L2 ∧ Below w7.heap.size wr w') := by
                obtain ⟨c, l⟩ := AX.out
                have hG := HG.out L2[k] (List.getElem_mem hkl)
                refine (live_line l (HT.out _ (B7.out.trans (BX.out.mono B7.out.size))) (HSm.out.take k) L2[k] (HSm.out _ (List.getElem_mem hkl)) false 0).mono ?_
                rintro e w' ⟨rfl, l', b', -⟩
                have l2 := l'
                rw [if_neg (by simp), if_neg (by simp), lineP_put hG.1 hG.2 (by rw [List.length_take]; omega), take_snoc hkl] at l2
                exact ⟨_, rfl, ⟨_, l2⟩, b'⟩
              have HLT := Lib.hid hlt
              generalize L2[k] = x at HC c10
              clear c9 hlt hkl
              go_wp2_with fail
              refine HC.mono ?_
              rintro e w9 ⟨q, rfl, l9, b9⟩
              have A9 := Lib.hid l9
              have B9 := Lib.hid (BX.out.trans b9)
              clear HC l9 b9
              go_wp2_with fail
              go_roundw
              case rel => exact ⟨k + 1, HLT.out, by go_num, A9, B9⟩
              case measure => have := HLT.out; simp [intOf]; omega
            · obtain rfl : k = M + 1 := by omega
              obtain ⟨c, l9⟩ := AX.out
              rw [List.take_of_length_le (by rw [HLE.out]; exact Nat.le_refl _)] at l9
              have HLN := live_lines l9
              have HRm : ∀ w', HLive w7.heap.size w' w7.heap.size false c L2 → Calls Tryd.prog 32 #[.pointer (some ⟨w7.heap.size, 0, none⟩), .string nm] w' (fun e w'' => e = .returned (.int .i64 0) ∧ HLive w7.heap.size w'' w7.heap.size false c D ∧ Below w7.heap.size w' w'') := fun w' l => by
                refine (live_remove l HSm.out nm hnsz).mono ?_
                rintro e w'' ⟨rfl, l', b', -⟩
                rw [if_neg (by simp), HDT.out] at l'
                exact ⟨rfl, l', b'⟩
              have L9 := Lib.hid l9
              clear l9 AX
              go_wp2_with fail
              refine HLN.mono ?_
              rintro e w9 ⟨v9, rfl, o9, hb, -⟩
              obtain ⟨a9, c9, hv9, -⟩ := o9.any
              rw [List.length_map, HLE.out] at hv9
              subst hv9
              have L10 := Lib.hid (L9.out.below hb)
              have B10 := Lib.hid (BX.out.trans (hb.mono BX.out.size))
              clear HLN o9 hb L9
              go_wp2_with fail
              refine (HRN w9).mono ?_
              rintro e w10 ⟨rfl, rfl⟩
              go_wp2_with fail
              refine (HRm w9 L10.out).mono ?_
              rintro e w11 ⟨rfl, l11, b11⟩
              have HLN := live_lines l11
              have B11 := Lib.hid (B10.out.trans b11)
              have L11 := Lib.hid l11
              clear b11 l11 HRm L10
              go_wp2_with fail
              refine HLN.mono ?_
              rintro e w12 ⟨v12, rfl, o12, hb, -⟩
              obtain ⟨a12, c12, hv12, -⟩ := o12.any
              rw [List.length_map, HM.out] at hv12
              subst hv12
              have B12 := Lib.hid (B7.out.trans ((B11.out.trans (hb.mono B11.out.size)).mono B7.out.size))
              have hmm : ((M : Int) == (M : Int)) = true := by simp
              clear HLN o12 hb
              go_wp2_with fail
              go_ret
              exact ⟨rfl, B12.out⟩
      · have hrb : (res != 0) = true := by simpa using hr0
        clear hr0 HGR
        go_wp2_with fail
        refine HLi.mono ?_
        rintro e w6 ⟨rfl, -, b6, -⟩
        have B6 := Lib.hid (BL.out.trans b6)
        clear HLi b6
        go_wp2_with fail
        go_ret
        exact ⟨rfl, B6.out⟩
end Go.Proofs.YthnhpnmopjbaoaaDoor
