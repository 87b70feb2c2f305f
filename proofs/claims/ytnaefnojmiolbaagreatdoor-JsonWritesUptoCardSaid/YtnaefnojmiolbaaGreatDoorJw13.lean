/-
  JSON: strconv.FormatInt at base 16; the walk of the writer's unit.
  JSON, the document's side: the walk of four.
  JSON: what the document's writer writes of a value, in plain words; it is the writer's own text. Of no program.
-/
import Derived.Test.YtnaefnojmiolbaaGreatDoorJw12
import Derived.Test.YtnaefnojmiolbaaGreatDoorJw10
import Derived.Test.YtnaefnojmiolbaaGreatDoorShelfR
import Derived.Lib.EndianBits
import Derived.LoopN
import Derived.BigRegion
import Derived.Test.YtnaefnojmiolbaaGreatDoorJw11
namespace Go.Proofs.YtnaefnojmiolbaaGreatDoor
open Go.RowKit Go.Shelf

/-- What the writer's walks need of the listed variables. -/
structure TabsJ (w : World) : Prop where
  tab : Tabs w
  brn : w.cell? ⟨7, 15, none⟩ = some (.int .u8 4)
theorem TabsJ.mono {w w' : World} (h : TabsJ w) (hb : Below w.heap.size w w') : TabsJ w' := ⟨h.tab.mono hb, (hb.cell (cell_lt h.brn)).trans h.brn⟩
/-- Hexadecimal digits, none too many. -/
def hexS (n : Nat) : Bs := if n < 16 then [hexD n] else if n < 256 then [hexD (n / 16), hexD (n % 16)] else if n < 4096 then [hexD (n / 256), hexD (n / 16 % 16), hexD (n % 16)] else hex4 n
theorem hexD_zero : hexD 0 = 48 := by decide
theorem hexS_pad {n : Nat} (h : n < 65536) : List.replicate (4 - (hexS n).length) 48 ++ hexS n = hex4 n := by
  unfold hexS hex4
  by_cases h1 : n < 16
  · rw [if_pos h1, show n / 4096 % 16 = 0 by omega, show n / 256 % 16 = 0 by omega, show n / 16 % 16 = 0 by omega, show n % 16 = n by omega, hexD_zero]
    rfl
  rw [if_neg h1]
  by_cases h2 : n < 256
  · rw [if_pos h2, show n / 4096 % 16 = 0 by omega, show n / 256 % 16 = 0 by omega, show n / 16 % 16 = n / 16 by omega, hexD_zero]
    rfl
  rw [if_neg h2]
  by_cases h3 : n < 4096
  · rw [if_pos h3, show n / 4096 % 16 = 0 by omega, show n / 256 % 16 = n / 256 by omega, hexD_zero]
    rfl
  rw [if_neg h3]
  rfl
theorem hexS_len (n : Nat) : 1 ≤ (hexS n).length ∧ (hexS n).length ≤ 4 := by
  unfold hexS hex4
  repeat' split
  all_goals simp
theorem pow2_any (w : World) : Calls Tryz.prog 168 #[.int .i64 16] w fun e w' => e = .returned (.bool true) ∧ w' = w := by
  go_enter Tryz.func168, Tryz.ntmps168
  go_wp2_with fail
  go_ret
  exact ⟨rfl, rfl⟩
theorem tz64_any (w : World) (hc : w.cell? ⟨7, 15, none⟩ = some (.int .u8 4)) : Calls Tryz.prog 177 #[.int .u64 16] w fun e w' => e = .returned (.int .i64 4) ∧ w' = w := by
  have h1 : bits .and .u64 16 (IntKind.u64.wrap (-16)) = 16 := by decide
  have h2 : IntKind.u64.wrap (16 * 285870213051353865) = 4573923408821661840 := by decide
  have h3 : (4573923408821661840 : Int) / 288230376151711744 = 15 := by decide
  go_enter Tryz.func177, Tryz.ntmps177
  go_wp2_with fail
  go_ret
  exact ⟨rfl, rfl⟩
theorem tz_any (w : World) (hc : w.cell? ⟨7, 15, none⟩ = some (.int .u8 4)) : Calls Tryz.prog 169 #[.int .u64 16] w fun e w' => e = .returned (.int .i64 4) ∧ w' = w := by
  go_enter Tryz.func169, Tryz.ntmps169
  go_wp2_with fail
  refine (tz64_any w hc).mono ?_
  rintro _ _ ⟨rfl, rfl⟩
  go_wp2_with fail
  go_ret
  exact ⟨rfl, rfl⟩


theorem hex_digs : ∀ n : Fin 16, (⟨#[48, 49, 50, 51, 52, 53, 54, 55, 56, 57, 97, 98, 99, 100, 101, 102, 103, 104, 105, 106, 107, 108, 109, 110, 111, 112, 113, 114, 115, 116, 117, 118, 119, 120, 121, 122]⟩ : ByteArray)[n.val]'(by have := n.isLt; show n.val < 36; omega) = hexD n.val := by decide +kernel
theorem hex_dig {m : Nat} (h : m < 16) (h2 : m < (⟨#[48, 49, 50, 51, 52, 53, 54, 55, 56, 57, 97, 98, 99, 100, 101, 102, 103, 104, 105, 106, 107, 108, 109, 110, 111, 112, 113, 114, 115, 116, 117, 118, 119, 120, 121, 122]⟩ : ByteArray).size) : (⟨#[48, 49, 50, 51, 52, 53, 54, 55, 56, 57, 97, 98, 99, 100, 101, 102, 103, 104, 105, 106, 107, 108, 109, 110, 111, 112, 113, 114, 115, 116, 117, 118, 119, 120, 121, 122]⟩ : ByteArray)[m]'h2 = hexD m := hex_digs ⟨m, h⟩
theorem and15 {n m : Nat} (h : n < 65536) (hm : m = n % 16) : bits .and .u64 (n : Int) 15 = (m : Int) := by
  have h := bits_mask .u64 64 (by decide) wraps_u64 4 (by decide) (n : Int) (by omega) (by omega)
  have h : bits .and .u64 (n : Int) 15 = (n : Int) % 16 := h
  rw [h]
  omega
theorem zero199 : Tryz.zeroCells199.size = 65 ∧ ∀ i, i < 65 → Tryz.zeroCells199[i]? = some (.int .u8 0) := by
  have e : Tryz.zeroCells199 = Array.replicate 65 (.int .u8 0) := by kernel_rfl
  rw [e]
  exact ⟨by simp, fun i hi => by simp [hi]⟩
/-- The bytes behind a place of a block are a text. -/
theorem conv_back (w : World) (cs : Array Value) (k : Nat) (l : Bs) (h : ∀ (j : Nat) (hj : j < l.length), cs[k + j]? = some (.int .u8 (l[j]).toNat)) (cap : Nat) :
    (convert 54 9 (.slice (some ⟨w.heap.size, k, none⟩) l.length cap)).run Tryz.prog (w.alloc (.cells cs 199)) = .ok (.string ⟨l.toArray⟩) (w.alloc (.cells cs 199)) :=
  run_convert_bytes_back (P := Tryz.prog) (w.alloc (.cells cs 199)) 54 9 5 ⟨w.heap.size, k, none⟩ cap l Tryz.underlying54 Tryz.underlying5 Tryz.underlying9 (fun j hj => by
    rw [Lib.add_plain, cell_blk (heap_alloc_new w (.cells cs 199)) (k + j)]
    exact h j hj)
set_option maxHeartbeats 6400000 in
set_option maxRecDepth 100000 in
theorem fbits_any (n : Nat) (hn : n < 65536) (w : World) (hc : w.cell? ⟨7, 15, none⟩ = some (.int .u8 4)) : Calls Tryz.prog 149 #[.slice none 0 0, .int .u64 n, .int .i64 16, .bool false, .bool false] w fun e w' => e = .returned (.tuple #[.slice none 0 0, .string (str (hexS n))]) ∧ Below w.heap.size w w' := by
  have HC : Hid (∀ o, (w.alloc o).cell? ⟨7, 15, none⟩ = some (.int .u8 4)) := Lib.hid (fun o => (below_alloc1 w o).cell (cell_lt hc) |>.trans hc)
  obtain ⟨m0, hm0⟩ : ∃ m, m = n % 16 := ⟨_, rfl⟩
  obtain ⟨q1, hq1⟩ : ∃ q, q = n / 16 := ⟨_, rfl⟩
  obtain ⟨m1, hm1⟩ : ∃ m, m = q1 % 16 := ⟨_, rfl⟩
  obtain ⟨q2, hq2⟩ : ∃ q, q = q1 / 16 := ⟨_, rfl⟩
  obtain ⟨m2, hm2⟩ : ∃ m, m = q2 % 16 := ⟨_, rfl⟩
  obtain ⟨q3, hq3⟩ : ∃ q, q = q2 / 16 := ⟨_, rfl⟩
  by_cases c0 : n < 16
  · have hS : hexS n = [hexD n] := by
      unfold hexS; rw [if_pos c0]
    obtain ⟨zs, zv⟩ := zero199
    have hcv := conv_back w (Tryz.zeroCells199.setIfInBounds 64 (.int .u8 (hexD n).toNat)) 64 [hexD n] (fun j hj => by
      have hj : j < 1 := hj
      match j, hj with
      | 0, _ => simp [zs]
      ) 1
    rw [← hS] at hcv
    have hcv : (convert 54 9 (.slice (some ⟨w.heap.size, 64, none⟩) 1 1)).run Tryz.prog (w.alloc (.cells (Tryz.zeroCells199.setIfInBounds 64 (.int .u8 (hexD n).toNat)) 199)) = .ok (.string (str (hexS n))) (w.alloc (.cells (Tryz.zeroCells199.setIfInBounds 64 (.int .u8 (hexD n).toNat)) 199)) := by
      rw [hS] at hcv ⊢; exact hcv
    have d0 : (16 ≤ n) = False := by simp; omega
    have g0 := fun h => hex_dig (m := n) (by omega) h
    have b0 : n < 36 := by omega
    have e0 : n < 16 := by omega
    have HBW : Hid (∀ o, Below w.heap.size w (w.alloc o)) := Lib.hid (fun o => below_alloc1 w o)
    clear hS zs zv hc hn hm0 hm1 hm2 hq1 hq2 hq3
    go_enter Tryz.func149, Tryz.ntmps149
    go_wp2_with fail
    refine (pow2_any _).mono ?_
    rintro _ _ ⟨rfl, rfl⟩
    go_wp2_with fail
    refine (tz_any _ (HC.out _)).mono ?_
    rintro _ _ ⟨rfl, rfl⟩
    go_wp2_with fail
    refine wp_loop_rounds 1 ?_
    rw [rounds_succ]
    go_wp2_with fail
    go_ret2
    exact ⟨rfl, HBW.out _⟩
  by_cases c1 : q1 < 16
  · have hS : hexS n = [hexD q1, hexD m0] := by
      unfold hexS; rw [if_neg c0, if_pos (by omega), hq1, hm0]
    obtain ⟨zs, zv⟩ := zero199
    have hcv := conv_back w ((Tryz.zeroCells199.setIfInBounds 64 (.int .u8 (hexD m0).toNat)).setIfInBounds 63 (.int .u8 (hexD q1).toNat)) 63 [hexD q1, hexD m0] (fun j hj => by
      have hj : j < 2 := hj
      match j, hj with
      | 0, _ => simp [zs]
      | 1, _ => simp [zs]
      ) 2
    rw [← hS] at hcv
    have hcv : (convert 54 9 (.slice (some ⟨w.heap.size, 63, none⟩) 2 2)).run Tryz.prog (w.alloc (.cells ((Tryz.zeroCells199.setIfInBounds 64 (.int .u8 (hexD m0).toNat)).setIfInBounds 63 (.int .u8 (hexD q1).toNat)) 199)) = .ok (.string (str (hexS n))) (w.alloc (.cells ((Tryz.zeroCells199.setIfInBounds 64 (.int .u8 (hexD m0).toNat)).setIfInBounds 63 (.int .u8 (hexD q1).toNat)) 199)) := by
      rw [hS] at hcv ⊢; exact hcv
    have d0 : (16 ≤ n) = True := by simp; omega
    have a0 := and15 (n := n) (m := m0) (by omega) hm0
    have g0 := fun h => hex_dig (m := m0) (by omega) h
    have s0 : (n : Int) / 16 = (q1 : Int) := by omega
    have b0 : m0 < 36 := by omega
    have d1 : (16 ≤ q1) = False := by simp; omega
    have g1 := fun h => hex_dig (m := q1) (by omega) h
    have b1 : q1 < 36 := by omega
    have e1 : q1 < 16 := by omega
    have HBW : Hid (∀ o, Below w.heap.size w (w.alloc o)) := Lib.hid (fun o => below_alloc1 w o)
    clear hS zs zv hc hn hm0 hm1 hm2 hq1 hq2 hq3
    go_enter Tryz.func149, Tryz.ntmps149
    go_wp2_with fail
    refine (pow2_any _).mono ?_
    rintro _ _ ⟨rfl, rfl⟩
    go_wp2_with fail
    refine (tz_any _ (HC.out _)).mono ?_
    rintro _ _ ⟨rfl, rfl⟩
    go_wp2_with fail
    refine wp_loop_rounds 2 ?_
    rw [rounds_succ]
    go_wp2_with fail
    rw [rounds_succ]
    go_wp2_with fail
    go_ret2
    exact ⟨rfl, HBW.out _⟩
  by_cases c2 : q2 < 16
  · have hS : hexS n = [hexD q2, hexD m1, hexD m0] := by
      unfold hexS; rw [if_neg c0, if_neg (by omega), if_pos (by omega), hq2, hm1, hm0, hq1, show n / 256 = n / 16 / 16 by omega]
    obtain ⟨zs, zv⟩ := zero199
    have hcv := conv_back w (((Tryz.zeroCells199.setIfInBounds 64 (.int .u8 (hexD m0).toNat)).setIfInBounds 63 (.int .u8 (hexD m1).toNat)).setIfInBounds 62 (.int .u8 (hexD q2).toNat)) 62 [hexD q2, hexD m1, hexD m0] (fun j hj => by
      have hj : j < 3 := hj
      match j, hj with
      | 0, _ => simp [zs]
      | 1, _ => simp [zs]
      | 2, _ => simp [zs]
      ) 3
    rw [← hS] at hcv
    have hcv : (convert 54 9 (.slice (some ⟨w.heap.size, 62, none⟩) 3 3)).run Tryz.prog (w.alloc (.cells (((Tryz.zeroCells199.setIfInBounds 64 (.int .u8 (hexD m0).toNat)).setIfInBounds 63 (.int .u8 (hexD m1).toNat)).setIfInBounds 62 (.int .u8 (hexD q2).toNat)) 199)) = .ok (.string (str (hexS n))) (w.alloc (.cells (((Tryz.zeroCells199.setIfInBounds 64 (.int .u8 (hexD m0).toNat)).setIfInBounds 63 (.int .u8 (hexD m1).toNat)).setIfInBounds 62 (.int .u8 (hexD q2).toNat)) 199)) := by
      rw [hS] at hcv ⊢; exact hcv
    have d0 : (16 ≤ n) = True := by simp; omega
    have a0 := and15 (n := n) (m := m0) (by omega) hm0
    have g0 := fun h => hex_dig (m := m0) (by omega) h
    have s0 : (n : Int) / 16 = (q1 : Int) := by omega
    have b0 : m0 < 36 := by omega
    have d1 : (16 ≤ q1) = True := by simp; omega
    have a1 := and15 (n := q1) (m := m1) (by omega) hm1
    have g1 := fun h => hex_dig (m := m1) (by omega) h
    have s1 : (q1 : Int) / 16 = (q2 : Int) := by omega
    have b1 : m1 < 36 := by omega
    have d2 : (16 ≤ q2) = False := by simp; omega
    have g2 := fun h => hex_dig (m := q2) (by omega) h
    have b2 : q2 < 36 := by omega
    have e2 : q2 < 16 := by omega
    have HBW : Hid (∀ o, Below w.heap.size w (w.alloc o)) := Lib.hid (fun o => below_alloc1 w o)
    clear hS zs zv hc hn hm0 hm1 hm2 hq1 hq2 hq3
    go_enter Tryz.func149, Tryz.ntmps149
    go_wp2_with fail
    refine (pow2_any _).mono ?_
    rintro _ _ ⟨rfl, rfl⟩
    go_wp2_with fail
    refine (tz_any _ (HC.out _)).mono ?_
    rintro _ _ ⟨rfl, rfl⟩
    go_wp2_with fail
    refine wp_loop_rounds 3 ?_
    rw [rounds_succ]
    go_wp2_with fail
    rw [rounds_succ]
    go_wp2_with fail
    rw [rounds_succ]
    go_wp2_with fail
    go_ret2
    exact ⟨rfl, HBW.out _⟩
  · have hS : hexS n = [hexD q3, hexD m2, hexD m1, hexD m0] := by
      unfold hexS hex4; rw [if_neg c0, if_neg (by omega), if_neg (by omega), hq3, hm2, hm1, hm0, hq2, hq1, show n / 4096 % 16 = n / 16 / 16 / 16 by omega, show n / 256 % 16 = n / 16 / 16 % 16 by omega]
    obtain ⟨zs, zv⟩ := zero199
    have hcv := conv_back w ((((Tryz.zeroCells199.setIfInBounds 64 (.int .u8 (hexD m0).toNat)).setIfInBounds 63 (.int .u8 (hexD m1).toNat)).setIfInBounds 62 (.int .u8 (hexD m2).toNat)).setIfInBounds 61 (.int .u8 (hexD q3).toNat)) 61 [hexD q3, hexD m2, hexD m1, hexD m0] (fun j hj => by
      have hj : j < 4 := hj
      match j, hj with
      | 0, _ => simp [zs]
      | 1, _ => simp [zs]
      | 2, _ => simp [zs]
      | 3, _ => simp [zs]
      ) 4
    rw [← hS] at hcv
    have hcv : (convert 54 9 (.slice (some ⟨w.heap.size, 61, none⟩) 4 4)).run Tryz.prog (w.alloc (.cells ((((Tryz.zeroCells199.setIfInBounds 64 (.int .u8 (hexD m0).toNat)).setIfInBounds 63 (.int .u8 (hexD m1).toNat)).setIfInBounds 62 (.int .u8 (hexD m2).toNat)).setIfInBounds 61 (.int .u8 (hexD q3).toNat)) 199)) = .ok (.string (str (hexS n))) (w.alloc (.cells ((((Tryz.zeroCells199.setIfInBounds 64 (.int .u8 (hexD m0).toNat)).setIfInBounds 63 (.int .u8 (hexD m1).toNat)).setIfInBounds 62 (.int .u8 (hexD m2).toNat)).setIfInBounds 61 (.int .u8 (hexD q3).toNat)) 199)) := by
      rw [hS] at hcv ⊢; exact hcv
    have d0 : (16 ≤ n) = True := by simp; omega
    have a0 := and15 (n := n) (m := m0) (by omega) hm0
    have g0 := fun h => hex_dig (m := m0) (by omega) h
    have s0 : (n : Int) / 16 = (q1 : Int) := by omega
    have b0 : m0 < 36 := by omega
    have d1 : (16 ≤ q1) = True := by simp; omega
    have a1 := and15 (n := q1) (m := m1) (by omega) hm1
    have g1 := fun h => hex_dig (m := m1) (by omega) h
    have s1 : (q1 : Int) / 16 = (q2 : Int) := by omega
    have b1 : m1 < 36 := by omega
    have d2 : (16 ≤ q2) = True := by simp; omega
    have a2 := and15 (n := q2) (m := m2) (by omega) hm2
    have g2 := fun h => hex_dig (m := m2) (by omega) h
    have s2 : (q2 : Int) / 16 = (q3 : Int) := by omega
    have b2 : m2 < 36 := by omega
    have d3 : (16 ≤ q3) = False := by simp; omega
    have g3 := fun h => hex_dig (m := q3) (by omega) h
    have b3 : q3 < 36 := by omega
    have e3 : q3 < 16 := by omega
    have HBW : Hid (∀ o, Below w.heap.size w (w.alloc o)) := Lib.hid (fun o => below_alloc1 w o)
    clear hS zs zv hc hn hm0 hm1 hm2 hq1 hq2 hq3
    go_enter Tryz.func149, Tryz.ntmps149
    go_wp2_with fail
    refine (pow2_any _).mono ?_
    rintro _ _ ⟨rfl, rfl⟩
    go_wp2_with fail
    refine (tz_any _ (HC.out _)).mono ?_
    rintro _ _ ⟨rfl, rfl⟩
    go_wp2_with fail
    refine wp_loop_rounds 4 ?_
    rw [rounds_succ]
    go_wp2_with fail
    rw [rounds_succ]
    go_wp2_with fail
    rw [rounds_succ]
    go_wp2_with fail
    rw [rounds_succ]
    go_wp2_with fail
    go_ret2
    exact ⟨rfl, HBW.out _⟩
theorem fint0_any (n : Nat) (hn : n < 65536) (w : World) (hc : w.cell? ⟨7, 15, none⟩ = some (.int .u8 4)) : Calls Tryz.prog 122 #[.int .i64 n, .int .i64 16] w fun e w' => e = .returned (.string (str (hexS n))) ∧ Below w.heap.size w w' := by
  have HF := fbits_any n hn w hc
  have h0 : decide ((n : Int) < 0) = false := by simp
  have hw : IntKind.u64.wrap (n : Int) = n := wraps_u64 n (by omega) (by omega)
  clear hc hn
  go_enter Tryz.func122, Tryz.ntmps122
  go_wp2_with fail
  refine HF.mono ?_
  rintro _ w1 ⟨rfl, hb⟩
  go_wp2_with fail
  go_ret
  exact ⟨rfl, hb⟩
theorem fint_any (n : Nat) (hn : n < 65536) (w : World) (hc : w.cell? ⟨7, 15, none⟩ = some (.int .u8 4)) : Calls Tryz.prog 124 #[.int .i64 n, .int .i64 16] w fun e w' => e = .returned (.string (str (hexS n))) ∧ Below w.heap.size w w' := by
  have HF := fint0_any n hn w hc
  clear hc hn
  go_enter Tryz.func124, Tryz.ntmps124
  go_wp2_with fail
  refine HF.mono ?_
  rintro _ w1 ⟨rfl, hb⟩
  go_wp2_with fail
  go_ret
  exact ⟨rfl, hb⟩
/-- Noughts ahead. -/
theorem rep_any (k : Nat) (hk : k ≤ 3) (w : World) : Calls Tryz.prog 108 #[.string ⟨#[48]⟩, .int .i64 k] w fun e w' => e = .returned (.string (str (List.replicate k 48))) ∧ Below w.heap.size w w' := by
  have h := Tryz.strings_Repeat ⟨#[48]⟩ k w (by omega) (by show 1 * k ≤ _; omega)
  have e : Lib.repeatL (⟨#[48]⟩ : ByteArray).data.toList k = List.replicate k 48 := by
    match k, hk with
    | 0, _ => rfl
    | 1, _ => rfl
    | 2, _ => rfl
    | 3, _ => rfl
  rw [e] at h
  exact h
theorem app_list (a b : ByteArray) : (a ++ b).toList = a.toList ++ b.toList := by rw [ByteArray.toList_eq, ByteArray.data_append, Array.toList_append, ← ByteArray.toList_eq, ← ByteArray.toList_eq]
/-- A writer's builder: what lies below it is as it was. -/
structure WJB (w0 : World) (b : Nat) (w : World) (l : Bs) : Prop where
  tab : TabsJ w0
  hb : w0.heap.size ≤ b
  bel : Below w0.heap.size w0 w
  bb : BB w b l
theorem WJB.tabs {w0 w : World} {b : Nat} {l : Bs} (h : WJB w0 b w l) : TabsJ w := h.tab.mono h.bel
theorem WJB.under {w0 w w' : World} {b : Nat} {l : Bs} (h : WJB w0 b w l) (hb : Below w.heap.size w w') : WJB w0 b w' l := ⟨h.tab, h.hb, h.bel.trans (hb.mono h.bel.size), h.bb.below hb⟩
theorem WJB.kw {w0 w w' : World} {b : Nat} {l l' : Bs} (h : WJB w0 b w l) (hk : KW b w w') (hb : BB w' b l') : WJB w0 b w' l' := ⟨h.tab, h.hb, h.bel.trans (hk.belowB (fun k hk x => by have := x.1; have := h.hb; omega) h.bel.size), hb⟩
/-- What a call that writes leaves. -/
def WJP (w0 : World) (b : Nat) (w : World) (l : Bs) (r : Value) (e : Ending) (w' : World) : Prop := e = .returned r ∧ WJB w0 b w' l ∧ KW b w w'
theorem WJB.str {w0 w : World} {b : Nat} {l : Bs} (h : WJB w0 b w l) (s : ByteArray) (hs : s.toList ≠ []) (hl : l.length + s.size ≤ 140737488355328) : Calls Tryz.prog 54 #[.pointer (some ⟨b, 0, none⟩), .string s] w (WJP w0 b w (l ++ s.toList) (.tuple #[.int .i64 s.size, .nilIface])) :=
  (wstrB h.bb s hs hl).mono fun _ _ ⟨h1, h2, h3⟩ => ⟨h1, h.kw h3 h2, h3⟩
theorem WJB.rune {w0 w : World} {b : Nat} {l : Bs} (h : WJB w0 b w l) (r : Int) (h0 : -2147483648 ≤ r) (h1 : r ≤ 2147483647) (hl : l.length ≤ 140737488351232) : Calls Tryz.prog 91 #[.pointer (some ⟨b, 0, none⟩), .int .i32 r] w (WJP w0 b w (l ++ Lib.encodeRune r) (.tuple #[.int .i64 (Lib.encodeRune r).length, .nilIface])) :=
  (wruneB h.bb r h0 h1 hl).mono fun _ _ ⟨h1, h2, h3⟩ => ⟨h1, h.kw h3 h2, h3⟩
set_option maxHeartbeats 1600000 in
set_option maxRecDepth 100000 in
theorem wunit_any {w0 w : World} {b : Nat} {l : Bs} (h : WJB w0 b w l) (n : Nat) (hn : n < 65536) (hl : l.length ≤ 140737488351232) : Calls Tryz.prog 92 #[.pointer (some ⟨b, 0, none⟩), .int .i32 n] w (WJP w0 b w (l ++ uniB n) (.tuple #[])) := by
  have HF := fint_any n hn w h.tabs.brn
  obtain ⟨k1, k4⟩ := hexS_len n
  obtain ⟨k, hk⟩ : ∃ k, k = 4 - (hexS n).length := ⟨_, rfl⟩
  have hp := hexS_pad hn
  rw [← hk] at hp
  obtain ⟨sx, hsx⟩ : ∃ sx, sx = str (hexS n) := ⟨_, rfl⟩
  have hsz : (sx.size : Int) = 4 - (k : Int) := by rw [hsx, str_size]; omega
  have hsl : sx.toList = hexS n := by rw [hsx, str_toList]
  rw [← hsx] at HF
  rw [← hsl] at hp
  have hw : wrap64 (4 - (4 - (k : Int))) = k := by unfold wrap64; omega
  obtain ⟨hc', hc⟩ := wr_sm (x := (n : Int)) (by omega) (by omega)
  have HP : Hid (∀ (t : ByteArray), t.toList = uniB n → ∀ w1, KW b w w1 → WJB w0 b w1 l → Calls Tryz.prog 54 #[.pointer (some ⟨b, 0, none⟩), .string t] w1 (WJP w0 b w1 (l ++ uniB n) (.tuple #[.int .i64 6, .nilIface]))) := Lib.hid (fun t ht w1 hk hj => by
    have hs : t.size = 6 := by rw [← size_toList, ht]; simp [uniB, hex4]
    have := hj.str t (by rw [ht]; simp [uniB]) (by omega)
    rw [ht, hs] at this
    exact this)
  have HH := Lib.hid (⟨h, hp⟩ : _ ∧ _)
  have hk3 : k ≤ 3 := by omega
  obtain ⟨rx, hrx⟩ : ∃ rx, rx = str (List.replicate k 48) := ⟨_, rfl⟩
  have HRP : ∀ (x : Int), x = (k : Int) → ∀ W, Calls Tryz.prog 108 #[.string ⟨#[48]⟩, .int .i64 x] W fun e w' => e = .returned (.string rx) ∧ Below W.heap.size W w' := fun x hx W => by rw [hx, hrx]; exact rep_any k hk3 W
  have HRX := Lib.hid hrx
  have hr3 : rx.size ≤ 3 := by rw [hrx, str_size, List.length_replicate]; exact hk3
  have hs4 : sx.size ≤ 4 := by omega
  clear h hp hk k1 k4 hn hl hsx hsl hrx
  go_enter Tryz.func92, Tryz.ntmps92
  go_wp2_with fail
  refine HF.mono ?_
  rintro _ w1 ⟨rfl, hb1⟩
  have HJ1 := Lib.hid (HH.out.1.under hb1)
  have HK1 := Lib.hid (KW.of_below (b := b) hb1)
  clear hb1 HF
  go_wp2_with fail
  refine (HRP _ (by omega) _).mono ?_
  rintro _ w2 ⟨rfl, hb2⟩
  have HJ2 := Lib.hid (HJ1.out.under hb2)
  have HK2 := Lib.hid (HK1.out.trans (KW.of_below (b := b) hb2))
  clear hb2 HJ1 HK1
  go_wp2_with fail
  refine (HP.out _ ?_ _ HK2.out HJ2.out).mono ?_
  · rw [app_list, app_list, HRX.out, str_toList, List.append_assoc, HH.out.2, bl_eq]
    rfl
  rintro _ w3 ⟨rfl, hj, hk3'⟩
  go_wp2_with fail
  go_end0
  exact ⟨rfl, hj, HK2.out.trans hk3'⟩
end Go.Proofs.YtnaefnojmiolbaaGreatDoor

namespace Go.Proofs.YtnaefnojmiolbaaGreatDoor
open Go.RowKit Go.Shelf

def digR : ByteArray := ⟨#[48, 49, 50, 51, 52, 53, 54, 55, 56, 57, 97, 98, 99, 100, 101, 102]⟩
theorem digR_at : ∀ a : Fin 16, (digR[a.val]'(by have := a.isLt; exact this)) = hexD a.val := by decide
theorem dig_at (a : Nat) (h : a < 16) (z : a < (⟨#[48, 49, 50, 51, 52, 53, 54, 55, 56, 57, 97, 98, 99, 100, 101, 102]⟩ : ByteArray).size) : ((⟨#[48, 49, 50, 51, 52, 53, 54, 55, 56, 57, 97, 98, 99, 100, 101, 102]⟩ : ByteArray)[a]'z) = hexD a := digR_at ⟨a, h⟩
set_option maxHeartbeats 3200000 in
set_option maxRecDepth 100000 in
theorem rfour_any (n : Nat) (h : n < 65536) (w : World) : Calls Tryz.prog 94 #[.int .i64 n] w (fun e w' => e = .returned (.string ⟨(92 :: 117 :: hex4 n).toArray⟩)  ∧ Below w.heap.size w w') := by
  have e4 : hex4 n = [hexD (n / 4096 % 16), hexD (n / 256 % 16), hexD (n / 16 % 16), hexD (n % 16)] := rfl
  rw [e4]
  obtain ⟨a1, ha1⟩ : ∃ a, a = n / 4096 % 16 := ⟨_, rfl⟩
  have m1 : bits .and .i64 ((n : Int) / 4096) 15 = (a1 : Int) := by
    have := and_mask (k := n / 4096) (i := 4) (by decide) (by omega)
    rw [ha1]
    simpa using this
  have l1 : a1 < 16 := by omega
  have i1 : (a1 : Int) < 16 := by omega
  rw [← ha1]
  clear ha1
  obtain ⟨a2, ha2⟩ : ∃ a, a = n / 256 % 16 := ⟨_, rfl⟩
  have m2 : bits .and .i64 ((n : Int) / 256) 15 = (a2 : Int) := by
    have := and_mask (k := n / 256) (i := 4) (by decide) (by omega)
    rw [ha2]
    simpa using this
  have l2 : a2 < 16 := by omega
  have i2 : (a2 : Int) < 16 := by omega
  rw [← ha2]
  clear ha2
  obtain ⟨a3, ha3⟩ : ∃ a, a = n / 16 % 16 := ⟨_, rfl⟩
  have m3 : bits .and .i64 ((n : Int) / 16) 15 = (a3 : Int) := by
    have := and_mask (k := n / 16) (i := 4) (by decide) (by omega)
    rw [ha3]
    simpa using this
  have l3 : a3 < 16 := by omega
  have i3 : (a3 : Int) < 16 := by omega
  rw [← ha3]
  clear ha3
  obtain ⟨a4, ha4⟩ : ∃ a, a = n % 16 := ⟨_, rfl⟩
  have m4 : bits .and .i64 ((n : Int)) 15 = (a4 : Int) := by
    have := and_mask (k := n) (i := 4) (by decide) (by omega)
    rw [ha4]
    simpa using this
  have l4 : a4 < 16 := by omega
  have i4 : (a4 : Int) < 16 := by omega
  rw [← ha4]
  clear ha4
  obtain ⟨d1, hd1⟩ : ∃ d, d = hexD a1 := ⟨_, rfl⟩
  have g1 : ∀ z : a1 < (⟨#[48, 49, 50, 51, 52, 53, 54, 55, 56, 57, 97, 98, 99, 100, 101, 102]⟩ : ByteArray).size, ((⟨#[48, 49, 50, 51, 52, 53, 54, 55, 56, 57, 97, 98, 99, 100, 101, 102]⟩ : ByteArray)[a1]'z) = d1 := fun z => by rw [hd1]; exact dig_at a1 l1 z
  rw [← hd1]
  clear hd1
  obtain ⟨d2, hd2⟩ : ∃ d, d = hexD a2 := ⟨_, rfl⟩
  have g2 : ∀ z : a2 < (⟨#[48, 49, 50, 51, 52, 53, 54, 55, 56, 57, 97, 98, 99, 100, 101, 102]⟩ : ByteArray).size, ((⟨#[48, 49, 50, 51, 52, 53, 54, 55, 56, 57, 97, 98, 99, 100, 101, 102]⟩ : ByteArray)[a2]'z) = d2 := fun z => by rw [hd2]; exact dig_at a2 l2 z
  rw [← hd2]
  clear hd2
  obtain ⟨d3, hd3⟩ : ∃ d, d = hexD a3 := ⟨_, rfl⟩
  have g3 : ∀ z : a3 < (⟨#[48, 49, 50, 51, 52, 53, 54, 55, 56, 57, 97, 98, 99, 100, 101, 102]⟩ : ByteArray).size, ((⟨#[48, 49, 50, 51, 52, 53, 54, 55, 56, 57, 97, 98, 99, 100, 101, 102]⟩ : ByteArray)[a3]'z) = d3 := fun z => by rw [hd3]; exact dig_at a3 l3 z
  rw [← hd3]
  clear hd3
  obtain ⟨d4, hd4⟩ : ∃ d, d = hexD a4 := ⟨_, rfl⟩
  have g4 : ∀ z : a4 < (⟨#[48, 49, 50, 51, 52, 53, 54, 55, 56, 57, 97, 98, 99, 100, 101, 102]⟩ : ByteArray).size, ((⟨#[48, 49, 50, 51, 52, 53, 54, 55, 56, 57, 97, 98, 99, 100, 101, 102]⟩ : ByteArray)[a4]'z) = d4 := fun z => by rw [hd4]; exact dig_at a4 l4 z
  rw [← hd4]
  clear hd4
  have hC : (convert 54 9 (.slice (some ⟨w.heap.size, 0, none⟩) 4 4)).run Tryz.prog (w.alloc (.cells #[.int .u8 d1.toNat, .int .u8 d2.toNat, .int .u8 d3.toNat, .int .u8 d4.toNat] 5)).drew = .ok (.string ⟨#[d1, d2, d3, d4]⟩) (w.alloc (.cells #[.int .u8 d1.toNat, .int .u8 d2.toNat, .int .u8 d3.toNat, .int .u8 d4.toNat] 5)).drew :=
    run_convert_bytes_back (P := Tryz.prog) _ 54 9 5 ⟨w.heap.size, 0, none⟩ 4 [d1, d2, d3, d4] Tryz.underlying54 Tryz.underlying5 Tryz.underlying9 (fun j hj => by
      rw [Lib.add_plain]
      show (w.alloc _).cell? _ = _
      rw [cell_blk (heap_alloc_new w _) (0 + j)]
      match j, hj with
      | 0, _ => rfl
      | 1, _ => rfl
      | 2, _ => rfl
      | 3, _ => rfl)
  go_enter Tryz.func94, Tryz.ntmps94
  go_wp2_with fail
  go_region
  go_wp2_with fail
  go_ret
  exact ⟨rfl, (below_alloc1 _ _).drew⟩
end Go.Proofs.YtnaefnojmiolbaaGreatDoor

namespace Go.Proofs.YtnaefnojmiolbaaGreatDoor
open Go.RowKit

mutual
/-- What the document writes behind a text. -/
def jrV : VT → Bs → Bs
  | .mk k n t l, a => if k = 4 then jrL (rowP 0 l) 0 l (a ++ [openJ (rowP 0 l)]) ++ [shutJ (rowP 0 l)] else a ++ leafJ k n t
def jrL (plain : Bool) : Nat → List (K × VT) → Bs → Bs
  | _, [], a => a
  | i, (q, x) :: r, a => if 131072 < a.length then a else jrL plain (i + 1) r (jrV x (nameJ plain q (commaJ i a)))
end
theorem jrL_cons (p : Bool) (i : Nat) (x : It) (r : List It) (a : Bs) : jrL p i (x :: r) a = if 131072 < a.length then a else jrL p (i + 1) r (jrV x.2 (nameJ p x.1 (commaJ i a))) := by cases x; rw [jrL]
theorem jrL_long (p : Bool) (i : Nat) (r : List It) (a : Bs) (h : 131072 < a.length) : jrL p i r a = a := by
  cases r with
  | nil => rw [jrL]
  | cons x r => rw [jrL_cons, if_pos h]
theorem jr_adds (v : VT) : ∀ a, ∃ u, jrV v a = a ++ u := by
  refine VT.ind (P := fun v => ∀ a, ∃ u, jrV v a = a ++ u) ?_ v
  intro k n t l ih a
  have hl : ∀ (r : List It), (∀ x ∈ r, x ∈ l) → ∀ p i a, ∃ u, jrL p i r a = a ++ u := by
    intro r
    induction r with
    | nil => intro _ p i a; exact ⟨[], by rw [jrL]; simp⟩
    | cons x r ihr =>
      intro hr p i a
      obtain ⟨u, hu⟩ := ih x (hr x (by simp)) (nameJ p x.1 (commaJ i a))
      obtain ⟨u2, hu2⟩ := ihr (fun y hy => hr y (by simp [hy])) p (i + 1) (jrV x.2 (nameJ p x.1 (commaJ i a)))
      rw [jrL_cons]
      split
      · exact ⟨[], by simp⟩
      · rw [hu2, hu, lead_app]
        exact ⟨nameJ p x.1 (commaJ i []) ++ (u ++ u2), by simp⟩
  rw [jrV]
  split
  · obtain ⟨u, hu⟩ := hl l (fun _ h => h) (rowP 0 l) 0 (a ++ [openJ (rowP 0 l)])
    rw [hu]
    exact ⟨openJ (rowP 0 l) :: (u ++ [shutJ (rowP 0 l)]), by simp⟩
  · exact ⟨_, rfl⟩
theorem jrL_adds : ∀ (r : List It) (p : Bool) (i : Nat) (a : Bs), ∃ u, jrL p i r a = a ++ u
  | [], p, i, a => ⟨[], by rw [jrL]; simp⟩
  | x :: r, p, i, a => by
    obtain ⟨u, hu⟩ := jr_adds x.2 (nameJ p x.1 (commaJ i a))
    obtain ⟨u2, hu2⟩ := jrL_adds r p (i + 1) (jrV x.2 (nameJ p x.1 (commaJ i a)))
    rw [jrL_cons]
    split
    · exact ⟨[], by simp⟩
    · rw [hu2, hu, lead_app]
      exact ⟨nameJ p x.1 (commaJ i []) ++ (u ++ u2), by simp⟩
theorem jrL_mono (r : List It) (p : Bool) (i : Nat) (a : Bs) : a.length ≤ (jrL p i r a).length := by
  obtain ⟨u, hu⟩ := jrL_adds r p i a
  rw [hu, List.length_append]; omega
/-- It is no longer than the whole. -/
theorem jr_le (v : VT) : ∀ a, (jrV v a).length ≤ a.length + (jtV v).length := by
  refine VT.ind (P := fun v => ∀ a, (jrV v a).length ≤ a.length + (jtV v).length) ?_ v
  intro k n t l ih a
  have hl : ∀ (r : List It), (∀ x ∈ r, x ∈ l) → ∀ p i a, (jrL p i r a).length ≤ a.length + (jtL p i r).length := by
    intro r
    induction r with
    | nil => intro _ p i a; rw [jrL, jtL]; simp
    | cons x r ihr =>
      intro hr p i a
      rw [jrL_cons, jtL_cons]
      have h1 := ihr (fun y hy => hr y (by simp [hy])) p (i + 1) (jrV x.2 (nameJ p x.1 (commaJ i a)))
      have h2 := ih x (hr x (by simp)) (nameJ p x.1 (commaJ i a))
      have h3 : (nameJ p x.1 (commaJ i a)).length = a.length + (nameJ p x.1 (commaJ i [])).length := by rw [lead_app p x.1 i a, List.length_append]
      split
      · simp only [List.length_append]; omega
      · simp only [List.length_append] at h1 h2 ⊢
        omega
  rw [jrV, jtV]
  split
  · have := hl l (fun _ h => h) (rowP 0 l) 0 (a ++ [openJ (rowP 0 l)])
    simp only [List.length_append, List.length_cons, List.length_nil] at this ⊢
    omega
  · simp
/-- What is not too long is the whole. -/
theorem jr_whole (v : VT) : ∀ a, (jrV v a).length ≤ 131072 → jrV v a = a ++ jtV v := by
  refine VT.ind (P := fun v => ∀ a, (jrV v a).length ≤ 131072 → jrV v a = a ++ jtV v) ?_ v
  intro k n t l ih a h
  have hl : ∀ (r : List It), (∀ x ∈ r, x ∈ l) → ∀ p i a, (jrL p i r a).length ≤ 131072 → jrL p i r a = a ++ jtL p i r := by
    intro r
    induction r with
    | nil => intro _ p i a _; rw [jrL, jtL]; simp
    | cons x r ihr =>
      intro hr p i a h
      rw [jrL_cons] at h ⊢
      split at h
      · omega
      · rename_i hc
        rw [if_neg hc]
        have h1 := jrL_mono r p (i + 1) (jrV x.2 (nameJ p x.1 (commaJ i a)))
        rw [ihr (fun y hy => hr y (by simp [hy])) p (i + 1) _ h, ih x (hr x (by simp)) _ (by omega), jtL_cons, lead_app]
        simp
  rw [jrV] at h ⊢
  rw [jtV]
  split at h
  · rename_i h4
    rw [if_pos h4, if_pos h4]
    rw [List.length_append] at h
    rw [hl l (fun _ h => h) _ 0 _ (by omega)]
    simp
  · rename_i h4
    rw [if_neg h4, if_neg h4]
/-- A whole that is not too long is what is written. -/
theorem jr_short (v : VT) : ∀ a, (a ++ jtV v).length ≤ 131072 → jrV v a = a ++ jtV v := by
  refine VT.ind (P := fun v => ∀ a, (a ++ jtV v).length ≤ 131072 → jrV v a = a ++ jtV v) ?_ v
  intro k n t l ih a h
  have hl : ∀ (r : List It), (∀ x ∈ r, x ∈ l) → ∀ p i a, (a ++ jtL p i r).length ≤ 131072 → jrL p i r a = a ++ jtL p i r := by
    intro r
    induction r with
    | nil => intro _ p i a _; rw [jrL, jtL]; simp
    | cons x r ihr =>
      intro hr p i a h
      rw [jtL_cons] at h ⊢
      simp only [List.length_append] at h
      rw [jrL_cons, if_neg (by omega), lead_app, ih x (hr x (by simp)) _ (by simp only [List.length_append]; omega), ihr (fun y hy => hr y (by simp [hy])) p (i + 1) _ (by simp only [List.length_append]; omega)]
      simp
  rw [jrV]
  rw [jtV] at h ⊢
  split at h
  · rename_i h4
    rw [if_pos h4, if_pos h4, hl l (fun _ h => h) _ 0 _ (by simp only [List.length_append, List.length_cons, List.length_nil] at h ⊢; omega)]
    simp
  · rename_i h4
    rw [if_neg h4, if_neg h4]
/-- Both writers say the same, or too much. -/
theorem jr_jp (v : VT) : (jrV v [] = jpV v [] ∧ (jpV v []).length ≤ 65536) ∨ (65536 < (jrV v []).length ∧ 65536 < (jpV v []).length) := by
  by_cases h : (jtV v).length ≤ 65536
  · have e1 := jr_short v [] (by rw [List.nil_append]; omega)
    have e2 := jp_short v [] (by rw [List.nil_append]; omega)
    rw [e1, e2]
    exact .inl ⟨rfl, by rw [List.nil_append]; exact h⟩
  · refine .inr ⟨?_, ?_⟩
    · by_cases h1 : (jrV v []).length ≤ 65536
      · have := jr_whole v [] (by omega)
        rw [this, List.nil_append] at h1
        omega
      · omega
    · by_cases h1 : (jpV v []).length ≤ 65536
      · have := jp_whole v [] (by omega)
        rw [this, List.nil_append] at h1
        omega
      · omega
end Go.Proofs.YtnaefnojmiolbaaGreatDoor
