/-
  SessNobody: the walk.
-/
import Derived.Test.YthnhpnmopjbaoaaDoorAlive21
namespace Go.Proofs.YthnhpnmopjbaoaaDoor
open Go.RowKit

/-- No disk: nil, or one that nobody made. -/
def NobodyD (w : World) (p : Option Addr) : Prop := p = none ∨ ∃ d, p = some ⟨d, 0, none⟩ ∧ w.heap[d]? = some (.cells #[.map none, .map none, .int .i64 0, .int .i64 0] 38 (0, 0))
theorem NobodyD.mono {w w' : World} {p : Option Addr} (h : NobodyD w p) (hb : Below w.heap.size w w') : NobodyD w' p := by
  rcases h with h | ⟨d, h, k⟩
  · exact .inl h
  · exact .inr ⟨d, h, (hb.block _ (lt_of_block k)).trans k⟩
theorem map_none (w : World) : (binOp .eql 35 (.map none) (.map none)).run Tryd.prog w = .ok (.bool true) w := by kernel_rfl
theorem wrong_nob {p : Option Addr} {w : World} (h : NobodyD w p) (s : ByteArray) : Calls Tryd.prog 59 #[.pointer p, .string s] w fun e w' => e = .returned (.int .i64 5) ∧ w = w' := by
  rcases h with rfl | ⟨d, rfl, hd⟩
  · go_enter Tryd.func59, Tryd.ntmps59
    go_wp2_with fail
    go_ret
    exact ⟨rfl, rfl⟩
  · have x0 := cell_blk hd 0
    have hm := map_none w
    clear hd
    go_enter Tryd.func59, Tryd.ntmps59
    go_wp2_with fail
    go_ret
    exact ⟨rfl, rfl⟩
theorem write_nob {p : Option Addr} {w : World} (h : NobodyD w p) (s t : ByteArray) : Calls Tryd.prog 38 #[.pointer p, .string s, .string t] w fun e w' => e = .returned (.int .i64 5) ∧ w = w' := by
  have HW := wrong_nob h s
  clear h
  go_enter Tryd.func38, Tryd.ntmps38
  go_wp2_with fail
  refine HW.mono ?_
  rintro e w1 ⟨rfl, rfl⟩
  clear HW
  go_wp2_with fail
  go_ret
  exact ⟨rfl, rfl⟩
theorem read_nob {p : Option Addr} {w : World} (h : NobodyD w p) (s : ByteArray) : Calls Tryd.prog 40 #[.pointer p, .string s] w fun e w' => e = .returned (.tuple #[.string ⟨#[]⟩, .int .i64 0, .int .i64 5]) ∧ w = w' := by
  have HW := wrong_nob h s
  clear h
  go_enter Tryd.func40, Tryd.ntmps40
  go_wp2_with fail
  refine HW.mono ?_
  rintro e w1 ⟨rfl, rfl⟩
  clear HW
  go_wp2_with fail
  go_ret3
  exact ⟨rfl, rfl⟩
theorem save_nob {p : Option Addr} {w : World} (h : NobodyD w p) (s t : ByteArray) (hs : s.size ≤ 140737488351232) : Calls Tryd.prog 18 #[.pointer p, .string s, .string t] w fun e w' => e = .returned (.int .i64 (if rightP s then 5 else 1)) ∧ w = w' := by
  cases hr : rightP s
  · exact save_wrong _ hr hs t w
  · have HR := right_any s hs w
    rw [hr] at HR
    have HP := path_any s (right_iff.1 hr).hi w
    have HW := write_nob h (str (pathB s.toList)) t
    clear h hr
    go_enter Tryd.func18, Tryd.ntmps18
    go_wp2_with fail
    refine HR.mono ?_
    rintro e w1 ⟨rfl, rfl⟩
    clear HR
    go_wp2_with fail
    refine HP.mono ?_
    rintro e w1 ⟨rfl, rfl⟩
    clear HP
    go_wp2_with fail
    refine HW.mono ?_
    rintro e w1 ⟨rfl, rfl⟩
    clear HW
    go_wp2_with fail
    go_ret
    exact ⟨rfl, rfl⟩
theorem load_nob {p : Option Addr} {w : World} (h : NobodyD w p) (s : ByteArray) (hs : s.size ≤ 140737488351232) : Calls Tryd.prog 19 #[.pointer p, .string s] w fun e w' => e = .returned (.tuple #[.string ⟨#[]⟩, .bool false]) ∧ w = w' := by
  cases hr : rightP s
  · exact load_wrong _ hr hs w
  · have HR := right_any s hs w
    rw [hr] at HR
    have HP := path_any s (right_iff.1 hr).hi w
    have HW := read_nob h (str (pathB s.toList))
    clear h hr
    go_enter Tryd.func19, Tryd.ntmps19
    go_wp2_with fail
    refine HR.mono ?_
    rintro e w1 ⟨rfl, rfl⟩
    clear HR
    go_wp2_with fail
    refine HP.mono ?_
    rintro e w1 ⟨rfl, rfl⟩
    clear HP
    go_wp2_with fail
    refine HW.mono ?_
    rintro e w1 ⟨rfl, rfl⟩
    clear HW
    go_wp2_with fail
    go_ret2
    exact ⟨rfl, rfl⟩
set_option maxHeartbeats 6400000 in
set_option maxRecDepth 100000 in
theorem nobody_any (s t : ByteArray) (hs : s.size ≤ 140737488351232) (n : Int) (hn : n ≤ 9223372036854775807) (w : World) (ht : Tabs w) :
    Calls Tryd.prog 5 #[.string s, .string t, .int .i64 n] w (BoolPost w true) := by
  have HTS := Lib.hid ht
  have N2 : ∀ W, Calls Tryd.prog 15 #[.int .i64 n] W (fun e w' => e = .returned (.string (str (nthP n))) ∧ Below W.heap.size W w') := fun W => rnth_any n hn W
  have HC : ∀ (d : Value) W, Tabs W → Calls Tryd.prog 20 #[d, VN, .int .i64 n] W fun e w' => e = .returned (.tuple #[.string (str (nthP n)), .string ⟨#[]⟩, .bool true]) ∧ Below W.heap.size W w' := fun d W hT => choose_none d n hn W hT
  have R2 : ∀ W, Calls Tryd.prog 13 #[.string s] W fun e w' => e = .returned (.bool (rightP s)) ∧ W = w' := fun W => rright_any s hs W
  have HS : ∀ W p, NobodyD W p → Calls Tryd.prog 18 #[.pointer p, .string s, .string t] W fun e w' => e = .returned (.int .i64 (if rightP s then 5 else 1)) ∧ W = w' := fun W p h => save_nob h s t hs
  have HL : ∀ W p, NobodyD W p → Calls Tryd.prog 19 #[.pointer p, .string s] W fun e w' => e = .returned (.tuple #[.string ⟨#[]⟩, .bool false]) ∧ W = w' := fun W p h => load_nob h s hs
  obtain ⟨ee, r, hee, hcase, hr⟩ : ∃ (ee : Int) (r : Bool), (if rightP s then (5 : Int) else 1) = ee ∧ ((ee = 5 ∧ r = true) ∨ (ee = 1 ∧ r = false)) ∧ rightP s = r := by
    cases rightP s
    · exact ⟨1, false, rfl, .inr ⟨rfl, rfl⟩, rfl⟩
    · exact ⟨5, true, rfl, .inl ⟨rfl, rfl⟩, rfl⟩
  have HCASE := Lib.hid hcase
  clear hcase
  rw [hee] at HS
  rw [hr] at R2
  generalize str (nthP n) = q at N2 HC
  have e1 : (q.toList != q.toList) = false := by simp
  obtain ⟨W0, hW0⟩ : ∃ W0, W0 = (w.alloc (.cells #[.map none, .map none, .int .i64 0, .int .i64 0] 38)).alloc (.cells #[.pointer none, .pointer (some ⟨w.heap.size, 0, none⟩)] 27) := ⟨_, rfl⟩
  have B0 : Hid (Below w.heap.size w W0) := Lib.hid (by rw [hW0]; exact (below_alloc1 w _).alloc (by simp) _)
  have PS : Hid (∃ ps : Nat → Option Addr, ∀ k, k < 2 → NobodyD W0 (ps k) ∧ W0.cell? ⟨w.heap.size + 1, k, none⟩ = some (.pointer (ps k))) := Lib.hid (by
    have y0 := heap_alloc_new w (.cells #[.map none, .map none, .int .i64 0, .int .i64 0] 38)
    have y1 := heap_alloc_new (w.alloc (.cells #[.map none, .map none, .int .i64 0, .int .i64 0] 38)) (.cells #[.pointer none, .pointer (some ⟨w.heap.size, 0, none⟩)] 27)
    rw [World.size_alloc, ← hW0] at y1
    have y0' : W0.heap[w.heap.size]? = some (.cells #[.map none, .map none, .int .i64 0, .int .i64 0] 38 (0, 0)) := by
      rw [hW0]; exact (Below.heap_alloc _ _ _ (by simp)).trans y0
    refine ⟨fun k => if k = 0 then none else some ⟨w.heap.size, 0, none⟩, fun k hk => ?_⟩
    match k, hk with
    | 0, _ => exact ⟨.inl rfl, cell_blk y1 0⟩
    | 1, _ => exact ⟨.inr ⟨_, rfl, y0'⟩, cell_blk y1 1⟩)
  have HW0 := Lib.hid hW0
  clear ht hs hn hee hr hW0
  obtain ⟨ps, hps⟩ := PS.out
  have HPS := Lib.hid hps
  clear hps PS
  go_enter Tryd.func5, Tryd.ntmps5
  go_wp2_with fail
  rw [← HW0.out]
  go_loopw [8, 9, 10, 11, 12, 13, 14, 19] (fun _ _ _ _ _ _ _ kv wr => ∃ k : Nat, k ≤ 2 ∧ kv = .int .i64 k ∧ Hid (Below W0.heap.size W0 wr)) (fun _ _ _ _ _ _ _ kv _ => 2 - (intOf kv).toNat)
  case atStart => exact ⟨0, Nat.zero_le _, rfl, Lib.hid (Below.refl _ _)⟩
  case round =>
    obtain ⟨k, hk, rfl, HB⟩ := hrel
    by_cases hlt : k < 2
    · obtain ⟨hnb, hcell⟩ := HPS.out k hlt
      have hi : (k : Int) < 2 := by omega
      have hw : IntKind.i64.wrap ((k : Int) + 1) = (k : Int) + 1 := by rw [IntKind.wrap_i64]; omega
      have hw' : wrap64 ((k : Int) + 1) = (k : Int) + 1 := wr64 (by omega) (by omega)
      have hc : wr.cell? ⟨w.heap.size + 1, k, none⟩ = some (.pointer (ps k)) := (HB.out.cell (cell_lt hcell)).trans hcell
      have HNB := Lib.hid (hnb.mono HB.out)
      have BW := Lib.hid (B0.out.trans (HB.out.mono B0.out.size))
      generalize ps k = p at hc HNB
      clear hnb hcell
      go_wp2_with fail
      refine (HL _ _ HNB.out).mono ?_
      rintro e w1 ⟨rfl, rfl⟩
      go_wp2_with fail
      refine (HS _ _ HNB.out).mono ?_
      rintro e w1 ⟨rfl, rfl⟩
      clear HL HS
      go_wp2_with fail
      refine (HC _ _ (HTS.out.mono BW.out)).mono ?_
      rintro e w2 ⟨rfl, hb⟩
      have HB2 := Lib.hid (HB.out.trans (hb.mono HB.out.size))
      clear hb HC HNB BW hc
      rcases HCASE.out with ⟨rfl, rfl⟩ | ⟨rfl, rfl⟩
      all_goals
        go_wp2_with fail
        refine (R2 _).mono ?_
        rintro e w3 ⟨rfl, rfl⟩
        clear R2
        go_wp2_with fail
        refine (N2 _).mono ?_
        rintro e w3 ⟨rfl, hb⟩
        have HB3 := Lib.hid (HB2.out.trans (hb.mono HB2.out.size))
        clear hb N2 HB2
        go_wp2_with fail
        go_roundw
        case rel => exact ⟨k + 1, hlt, by go_num, HB3⟩
        case measure => simp [intOf]; omega
    · obtain rfl : k = 2 := by omega
      have BW := Lib.hid (B0.out.trans (HB.out.mono B0.out.size))
      go_wp2_with fail
      refine (salive_any _ (HTS.out.mono BW.out)).mono ?_
      rintro e w1 ⟨rfl, hb⟩
      have B2 := Lib.hid (BW.out.trans (hb.mono BW.out.size))
      clear hb BW
      go_wp2_with fail
      go_ret
      exact ⟨rfl, B2.out⟩
end Go.Proofs.YthnhpnmopjbaoaaDoor
