/-
  The walk of disk.Path at a record's path.
-/
import Derived.Test.YthnhpnmopjbaoaaDoorBase21
import Derived.WalkSmall
namespace Go.Proofs.YthnhpnmopjbaoaaDoor
open Go.RowKit

/-- A right id: bytes of one kind, not too many. -/
structure Right (s : ByteArray) : Prop where
  all : ∀ j (h : j < s.size), rightC s[j] = true
  lo : 1 ≤ s.size
  hi : s.size ≤ 32
theorem right_iff {s : ByteArray} : rightP s = true ↔ Right s := by
  constructor
  · intro h
    unfold rightP at h
    simp only [Bool.and_eq_true, decide_eq_true_eq] at h
    refine ⟨fun j hj => ?_, h.1.2, h.2⟩
    rw [← toList_at hj]
    exact List.all_eq_true.1 h.1.1 _ (List.getElem_mem _)
  · intro h
    rw [right_all h.all, decide_eq_true h.lo, decide_eq_true h.hi]
    rfl
def sessL : Bs := [115, 101, 115, 115]
theorem rightL {s : ByteArray} (h : Right s) : ∀ x ∈ s.toList, rightC x = true := by
  intro x hx
  obtain ⟨i, hi, rfl⟩ := List.getElem_of_mem hx
  rw [size_toList] at hi
  rw [toList_at hi]
  exact h.all i hi
theorem noslash {s : ByteArray} (h : Right s) : s.toList.count 47 = 0 := by
  rw [List.count_eq_zero]
  intro hm
  have := rightL h _ hm
  exact absurd this (by decide)
theorem prefix_path (l : Bs) : Lib.hasPrefix (str (pathB l)).data.toList [47] = true := rfl
theorem trim_path (l : Bs) : (⟨(Lib.trimPrefix (str (pathB l)).data.toList [47]).toArray⟩ : ByteArray) = str (sessL ++ 47 :: l) := rfl
theorem count_path {s : ByteArray} (h : Right s) : Lib.countB (str (sessL ++ 47 :: s.toList)) (str [47]) = 1 := by
  show Lib.count _ [47] = 1
  rw [Lib.count_one]
  show List.count 47 (sessL ++ 47 :: s.toList) = 1
  rw [List.count_append, List.count_cons, noslash h]
  rfl
theorem index_path (l : Bs) : Lib.indexB (str (sessL ++ 47 :: l)) (str [47]) = (4 : Nat) := by
  show Lib.index _ [47] = _
  rw [Lib.index_one]
  rfl
theorem split_path {s : ByteArray} (h : Right s) : Lib.splitB (str [47]) 0 (Lib.countB (str (sessL ++ 47 :: s.toList)) (str [47])) (str (sessL ++ 47 :: s.toList)) = [str sessL, s] := by
  rw [count_path h]
  rw [Lib.splitB_hit _ _ 0 _ 4 (index_path _)]
  have e1 : (str (sessL ++ 47 :: s.toList)).extract 0 (4 + 0) = str sessL := by
    rw [← str_of ((str (sessL ++ 47 :: s.toList)).extract 0 (4 + 0)), Lib.extract_toList]
    rfl
  have e2 : (str (sessL ++ 47 :: s.toList)).extract (4 + (str [47]).size) (str (sessL ++ 47 :: s.toList)).size = s := by
    rw [← str_of ((str (sessL ++ 47 :: s.toList)).extract _ _), Lib.extract_toList, str_size, str_size]
    show str (List.take _ s.toList) = s
    rw [List.take_of_length_le (by simp [sessL]), str_of]
  rw [e1, e2]
  rfl
theorem split_any {s : ByteArray} (h : Right s) (w : World) (ht : Tabs w) : Calls Tryd.prog 95 #[.string (str (sessL ++ 47 :: s.toList)), .string ⟨#[47]⟩] w fun e w' => e = .returned (.slice (some ⟨w.heap.size, 0, none⟩) 2 2) ∧ w' = w.alloc (.cells #[.string (str sessL), .string s] 9) := by
  obtain ⟨m, hm⟩ := ht.len
  have hz : (str (sessL ++ 47 :: s.toList)).size < 4294967281 := by
    have := h.hi
    rw [str_size]; simp [sessL, size_toList]; omega
  have := Tryd.strings_Split (str (sessL ++ 47 :: s.toList)) (str [47]) m w hz hm (by decide)
  rw [split_path h, count_path h] at this
  exact this
set_option maxHeartbeats 3200000 in
theorem named_any (c : UInt8) (h : rightC c = true) (w : World) : Calls Tryd.prog 96 #[.int .u8 c.toNat] w fun e w' => e = .returned (.bool true) ∧ w = w' := by
  have hc := c.toNat_lt
  have h' : (97 ≤ c.toNat ∧ c.toNat ≤ 122) ∨ (48 ≤ c.toNat ∧ c.toNat ≤ 57) := by unfold rightC at h; simpa using h
  obtain ⟨x, hx⟩ : ∃ x : Int, x = c.toNat := ⟨_, rfl⟩
  rw [← hx]
  rcases h' with h' | h'
  · have d1 : decide (97 ≤ x) = true := by simp; omega
    have d2 : decide (x ≤ 122) = true := by simp; omega
    clear h h' hc hx
    go_enter Tryd.func96, Tryd.ntmps96
    go_wp2_with fail
    go_ret
    exact ⟨rfl, rfl⟩
  · have d1 : decide (97 ≤ x) = false := by simp; omega
    have d2 : decide (65 ≤ x) = false := by simp; omega
    have d3 : decide (48 ≤ x) = true := by simp; omega
    have d4 : decide (x ≤ 57) = true := by simp; omega
    clear h h' hc hx
    go_enter Tryd.func96, Tryd.ntmps96
    go_wp2_with fail
    go_ret
    exact ⟨rfl, rfl⟩
/-- A part of a record's path. -/
structure Part (p : ByteArray) : Prop where
  all : ∀ j (h : j < p.size), rightC p[j] = true
  lo : 1 ≤ p.size
  hi : p.size ≤ 64
theorem part_ne {p : ByteArray} (h : Part p) (l : Bs) (hl : l = [] ∨ l.head? = some 46) : ¬ p.toList = l := by
  intro e
  rcases hl with rfl | hl
  · have := size_toList p
    rw [e] at this
    have := h.lo
    simp at *
    omega
  · have h0 := h.all 0 (by have := h.lo; omega)
    have hz : p.toList[0]? = some 46 := by rw [e, ← List.head?_eq_getElem?]; exact hl
    have hz' : p.toList[0]'(by rw [size_toList]; have := h.lo; omega) = 46 := by
      have := List.getElem?_eq_getElem (l := p.toList) (i := 0) (by rw [size_toList]; have := h.lo; omega)
      rw [this] at hz
      exact Option.some.inj hz
    rw [← toList_at (by have := h.lo; omega), hz'] at h0
    exact absurd h0 (by decide)
theorem part_sess : Part (str sessL) := ⟨by decide, by decide, by decide⟩
theorem Right.part {s : ByteArray} (h : Right s) : Part s := ⟨h.all, h.lo, by have := h.hi; omega⟩

set_option maxHeartbeats 3200000 in
set_option maxRecDepth 100000 in
theorem path_ok {s : ByteArray} (h : Right s) (w : World) (ht : Tabs w) : Calls Tryd.prog 80 #[.string (str (pathB s.toList))] w (BoolPost w true) := by
  have HC : ∀ w, Calls Tryd.prog 94 #[.string (str (pathB s.toList)), .string ⟨#[47]⟩] w fun e w' => e = .returned (.tuple #[.string (str (sessL ++ 47 :: s.toList)), .bool true]) ∧ w' = w := fun w => Tryd.strings_CutPrefix _ ⟨#[47]⟩ w
  have HS := split_any h w ht
  have hz : (str (pathB s.toList)).size ≤ 256 := by
    have := h.hi
    rw [str_size]; simp [pathB, size_toList]; omega
  have hz' : decide (256 < ((str (pathB s.toList)).size : Int)) = false := by simp; omega
  have H := Lib.hid h
  obtain ⟨ps, hps⟩ : ∃ ps : Nat → ByteArray, ∀ k, k < 2 → Part (ps k) ∧ (w.alloc (.cells #[.string (str sessL), .string s] 9)).cell? ⟨w.heap.size, k, none⟩ = some (.string (ps k)) := by
    refine ⟨fun k => if k = 0 then str sessL else s, fun k hk => ?_⟩
    have hb := heap_alloc_new w (.cells #[.string (str sessL), .string s] 9)
    match k, hk with
    | 0, _ => exact ⟨part_sess, cell_blk hb 0⟩
    | 1, _ => exact ⟨h.part, cell_blk hb 1⟩
  have HPS := Lib.hid hps
  clear hps h ht
  generalize str (pathB s.toList) = pt at HC hz hz' ⊢
  generalize str (sessL ++ 47 :: s.toList) = rs at HC HS
  go_enter Tryd.func80, Tryd.ntmps80
  go_wp2_with fail
  refine (HC _).mono ?_
  rintro e w1 ⟨rfl, rfl⟩
  go_wp2_with fail
  refine HS.mono ?_
  rintro e w2 ⟨rfl, rfl⟩
  have HB := Lib.hid (below_alloc1 w1 (.cells #[.string (str sessL), .string s] 9))
  generalize w1.alloc _ = W at HPS HB ⊢
  go_wp2_with fail
  go_loopw [6, 7, 23] (fun _ _ kv wr => ∃ k : Nat, k ≤ 2 ∧ kv = .int .i64 k ∧ W = wr) (fun _ _ kv _ => 2 - (intOf kv).toNat)
  case atStart => exact ⟨0, Nat.zero_le _, rfl, rfl⟩
  case round =>
    obtain ⟨k, hk, rfl, rfl⟩ := hrel
    by_cases hlt : k < 2
    · obtain ⟨hp, hcell⟩ := HPS.out k hlt
      have hi : (k : Int) < 2 := by omega
      have n0 : (ps k).toList.isEmpty = false := by simpa using part_ne hp [] (.inl rfl)
      have n1 : ((ps k).toList == [46]) = false := by simpa using part_ne hp [46] (.inr rfl)
      have n2 : ((ps k).toList == [46, 46]) = false := by simpa using part_ne hp [46, 46] (.inr rfl)
      have hz64 : decide (64 < ((ps k).size : Int)) = false := by have := hp.hi; simp; omega
      obtain ⟨p, hpk⟩ : ∃ p, p = ps k := ⟨_, rfl⟩
      rw [← hpk] at hp hcell n0 n1 n2 hz64
      have HP := Lib.hid hp
      clear hp hpk
      go_wp2_with fail
      go_loopw [7, 44] (fun _ jv wr => ∃ j : Nat, j ≤ p.size ∧ jv = .int .i64 j ∧ W = wr) (fun _ jv _ => p.size - (intOf jv).toNat)
      case atStart => exact ⟨0, Nat.zero_le _, rfl, rfl⟩
      case round =>
        obtain ⟨j, hj, rfl, rfl⟩ := hrel
        by_cases hl : j < p.size
        · have hi2 : (j : Int) < (p.size : Int) := by omega
          have hsz := HP.out.hi
          have hw : IntKind.i64.wrap ((j : Int) + 1) = (j : Int) + 1 := by rw [IntKind.wrap_i64]; omega
          have hw' : wrap64 ((j : Int) + 1) = (j : Int) + 1 := wr64 (by omega) (by omega)
          have HN := named_any p[j] (HP.out.all j hl) W
          clear hsz
          go_wp2_with fail
          refine HN.mono ?_
          rintro e w2 ⟨rfl, rfl⟩
          clear HN
          go_wp2_with fail
          go_roundw
          case rel => exact ⟨j + 1, hl, by go_num, trivial⟩
          case measure => simp [intOf]; omega
        · obtain rfl : j = p.size := by omega
          have hw : IntKind.i64.wrap ((k : Int) + 1) = (k : Int) + 1 := by rw [IntKind.wrap_i64]; omega
          have hw' : wrap64 ((k : Int) + 1) = (k : Int) + 1 := wr64 (by omega) (by omega)
          go_wp2_with fail
          go_roundw
          case rel => exact ⟨k + 1, hlt, by go_num, trivial⟩
          case measure => simp [intOf]; omega
    · obtain rfl : k = 2 := by omega
      go_wp2_with fail
      go_ret
      exact ⟨rfl, HB.out⟩
end Go.Proofs.YthnhpnmopjbaoaaDoor
