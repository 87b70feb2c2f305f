/-
  The walk of the document's filters.
-/
import Derived.Test.YtoomffplaopijaaRows
import Derived.Test.YtoomffplaopijaaPlain12
import Derived.Deep.QuietTactic
import Derived.BigQuiet
namespace Go.Proofs.Ytoomffplaopijaa
open Go.RowKit

def FilterPost (w : World) (nm tx : ByteArray) (e : Ending) (w' : World) : Prop :=
  e = .returned (.tuple #[.string (str ((fl nm.toList tx.toList).getD [])), .bool (fl nm.toList tx.toList).isSome]) ∧ Below w.heap.size w w'

theorem below_bytes {w : World} (o : Obj) : Below w.heap.size w (w.alloc o).drew := ((Below.refl _ _).alloc (Nat.le_refl _) _).drew

set_option maxHeartbeats 1600000 in
theorem filter_no (nm tx : ByteArray) (w : World) (h0 : nm.toList ≠ []) (h1 : nm.toList ≠ [117, 112]) (h2 : nm.toList ≠ [116, 119, 105, 99, 101]) (h3 : nm.toList ≠ [110, 111, 110, 101]) (h4 : nm.toList ≠ [105, 110]) :
    Calls Try.prog 10 #[.string nm, .string tx] w (FilterPost w nm tx) := by
  have hconv := run_bytes_of_string (P := Try.prog) w 9 48 5 tx Try.underlying9 Try.underlying48 Try.underlying5
  have HF : Hid (fl nm.toList tx.toList = none) := by show _ = _; unfold fl; rw [if_neg h0, if_neg h1, if_neg h2, if_neg h3, if_neg h4]
  have e1 : (nm.toList == [117, 112]) = false := by simpa using h1
  have e2 : (nm.toList == [116, 119, 105, 99, 101]) = false := by simpa using h2
  have e3 : (nm.toList == [110, 111, 110, 101]) = false := by simpa using h3
  have e4 : (nm.toList == [105, 110]) = false := by simpa using h4
  have e0 : nm.toList.isEmpty = false := by simpa using h0
  clear h1 h2 h3 h4
  go_enter Try.func10, Try.ntmps10
  go_wp2
  go_ret2
  exact ⟨by rw [HF.out]; rfl, below_bytes _⟩

set_option maxHeartbeats 1600000 in
theorem filter_plain (nm tx : ByteArray) (w : World) (h0 : nm.toList = []) :
    Calls Try.prog 10 #[.string nm, .string tx] w (FilterPost w nm tx) := by
  have hconv := run_bytes_of_string (P := Try.prog) w 9 48 5 tx Try.underlying9 Try.underlying48 Try.underlying5
  have HF : Hid (fl nm.toList tx.toList = some tx.toList) := by show _ = _; unfold fl; rw [if_pos h0]
  have e0 : nm.toList.isEmpty = true := by simpa using h0
  go_enter Try.func10, Try.ntmps10
  go_wp2
  go_ret2
  exact ⟨by rw [HF.out, Option.getD_some, str_of]; rfl, below_bytes _⟩

set_option maxHeartbeats 1600000 in
theorem filter_none (nm tx : ByteArray) (w : World) (h3 : nm.toList = [110, 111, 110, 101]) :
    Calls Try.prog 10 #[.string nm, .string tx] w (FilterPost w nm tx) := by
  have hconv := run_bytes_of_string (P := Try.prog) w 9 48 5 tx Try.underlying9 Try.underlying48 Try.underlying5
  have HF : Hid (fl nm.toList tx.toList = some []) := by show _ = _; unfold fl; rw [h3]; rfl
  have e1 : (nm.toList == [117, 112]) = false := by rw [h3]; rfl
  have e2 : (nm.toList == [116, 119, 105, 99, 101]) = false := by rw [h3]; rfl
  have e3 : (nm.toList == [110, 111, 110, 101]) = true := by rw [h3]; rfl
  have e0 : nm.toList.isEmpty = false := by rw [h3]; rfl
  have e0' : nm.toList ≠ [] := by rw [h3]; simp
  clear h3
  go_enter Try.func10, Try.ntmps10
  go_wp2
  go_ret2
  exact ⟨by rw [HF.out]; rfl, below_bytes _⟩

set_option maxHeartbeats 1600000 in
theorem filter_twice (nm tx : ByteArray) (w : World) (h2 : nm.toList = [116, 119, 105, 99, 101]) (hl : tx.size ≤ 1099511627776) :
    Calls Try.prog 10 #[.string nm, .string tx] w (FilterPost w nm tx) := by
  have hconv := run_bytes_of_string (P := Try.prog) w 9 48 5 tx Try.underlying9 Try.underlying48 Try.underlying5
  have HF : Hid (fl nm.toList tx.toList = some (tx.toList ++ tx.toList)) := by show _ = _; unfold fl; rw [h2]; rfl
  have e1 : (nm.toList == [117, 112]) = false := by rw [h2]; rfl
  have e2 : (nm.toList == [116, 119, 105, 99, 101]) = true := by rw [h2]; rfl
  have e0 : nm.toList.isEmpty = false := by rw [h2]; rfl
  have e0' : nm.toList ≠ [] := by rw [h2]; simp
  clear h2
  go_enter Try.func10, Try.ntmps10
  go_wp2
  go_ret2
  exact ⟨by rw [HF.out, Option.getD_some, ← str_append, str_of]; rfl, below_bytes _⟩

set_option maxHeartbeats 1600000 in
theorem filter_in (nm tx : ByteArray) (w : World) (h2 : nm.toList = [105, 110]) (hl : tx.size ≤ 1099511627776) :
    Calls Try.prog 10 #[.string nm, .string tx] w (FilterPost w nm tx) := by
  have hconv := run_bytes_of_string (P := Try.prog) w 9 48 5 tx Try.underlying9 Try.underlying48 Try.underlying5
  have HF : Hid (fl nm.toList tx.toList = some (60 :: (tx.toList ++ [62]))) := by show _ = _; unfold fl; rw [h2]; rfl
  have e1 : (nm.toList == [117, 112]) = false := by rw [h2]; rfl
  have e2 : (nm.toList == [116, 119, 105, 99, 101]) = false := by rw [h2]; rfl
  have e3 : (nm.toList == [110, 111, 110, 101]) = false := by rw [h2]; rfl
  have e4 : (nm.toList == [105, 110]) = true := by rw [h2]; rfl
  have e0 : nm.toList.isEmpty = false := by rw [h2]; rfl
  have e0' : nm.toList ≠ [] := by rw [h2]; simp
  clear h2
  go_enter Try.func10, Try.ntmps10
  go_wp2
  go_ret2
  have ee : str (60 :: (tx.toList ++ [62])) = str [60] ++ tx ++ str [62] := by
    rw [show 60 :: (tx.toList ++ [62]) = ([60] ++ tx.toList) ++ [62] by simp, ← str_append, ← str_append, str_of]
  exact ⟨by rw [HF.out, Option.getD_some, ee]; rfl, below_bytes _⟩


/-- The bytes while capitals are made of them: the first k are done. -/
structure UpRel (w : World) (tx : ByteArray) (cap k : Nat) (wr : World) : Prop where
  blk : ∃ D : Array Value, ∃ M : Nat, wr.heap[w.heap.size]? = some (.cells D 5 (M, M + 1)) ∧ D.size = M ∧ tx.size ≤ M ∧ D.toList.take tx.size = bts ((tx.toList.take k).map up1 ++ tx.toList.drop k)
  below : Below w.heap.size w wr

theorem UpRel.cell {w wr : World} {tx : ByteArray} {cap k : Nat} (r : UpRel w tx cap k wr) (j : Nat) (hj : j < tx.size) :
    wr.cell? ⟨w.heap.size, j, none⟩ = (bts ((tx.toList.take k).map up1 ++ tx.toList.drop k))[j]? ∧ wr.frozen? ⟨w.heap.size, j, none⟩ = false := by
  obtain ⟨D, M, h1, h2, h3, h4⟩ := r.blk
  constructor
  · rw [cell_blk h1, ← h4, List.getElem?_take, if_pos hj, Array.getElem?_toList]
  · simp [World.frozen?, h1]; omega

theorem up_step (l : Bs) (k : Nat) (hk : k < l.length) : (l.take (k + 1)).map up1 ++ l.drop (k + 1) = ((l.take k).map up1 ++ l.drop k).set k (up1 l[k]) := by
  have h1 : ((l.take k).map up1).length = k := by simp; omega
  rw [List.set_append, if_neg (by omega), h1, Nat.sub_self, ← List.getElem_cons_drop hk, List.set_cons_zero, List.take_succ_eq_append_getElem hk, List.map_append]
  simp only [List.map_cons, List.map_nil, List.append_assoc, List.cons_append, List.nil_append]
theorem bts_set (l : Bs) (k : Nat) (x : UInt8) : bts (l.set k x) = (bts l).set k (.int .u8 x.toNat) := by simp [bts, List.map_set]
theorem up_at (l : Bs) (k : Nat) (hk : k < l.length) : (bts ((l.take k).map up1 ++ l.drop k))[k]? = some (.int .u8 l[k].toNat) := by
  have h1 : ((l.take k).map up1).length = k := by simp; omega
  unfold bts
  rw [List.getElem?_map, List.getElem?_append_right (by omega), h1, Nat.sub_self, List.getElem?_drop, Nat.add_zero, List.getElem?_eq_getElem hk]
  rfl
theorem up_byte {b : UInt8} (h1 : 97 ≤ b.toNat) (h2 : b.toNat ≤ 122) : (up1 b).toNat = b.toNat - 32 := by
  unfold up1
  rw [if_pos ⟨h1, h2⟩, UInt8.toNat_sub_of_le]
  · rfl
  · exact UInt8.le_iff_toNat_le.2 (by show (32 : UInt8).toNat ≤ _; simp; omega)
theorem UpRel.set {w wr : World} {tx : ByteArray} {cap k : Nat} (r : UpRel w tx cap k wr) (hk : k < tx.toList.length) (v : Value) (hv : v = .int .u8 (up1 tx.toList[k]).toNat) : UpRel w tx cap (k + 1) (wr.setCell ⟨w.heap.size, k, none⟩ v) := by
  subst hv
  obtain ⟨D, M, h1, h2, h3, h4⟩ := r.blk
  refine ⟨⟨D.setIfInBounds k (.int .u8 (up1 tx.toList[k]).toNat), M, set_blk h1 k _, by simpa using h2, h3, ?_⟩, r.below.setCell (Nat.le_refl _) _⟩
  rw [Array.toList_setIfInBounds, List.take_set, h4, up_step _ _ hk, bts_set]
theorem UpRel.skip {w wr : World} {tx : ByteArray} {cap k : Nat} (r : UpRel w tx cap k wr) (hk : k < tx.toList.length) (h : ¬ (97 ≤ tx.toList[k].toNat ∧ tx.toList[k].toNat ≤ 122)) : UpRel w tx cap (k + 1) wr := by
  obtain ⟨D, M, h1, h2, h3, h4⟩ := r.blk
  refine ⟨⟨D, M, h1, h2, h3, ?_⟩, r.below⟩
  have hu : up1 tx.toList[k] = tx.toList[k] := by unfold up1; rw [if_neg h]
  rw [h4, up_step _ _ hk, hu]
  congr 1
  have h1 : ((tx.toList.take k).map up1).length = k := by simp; omega
  rw [List.set_append, if_neg (by omega), h1, Nat.sub_self, ← List.getElem_cons_drop hk, List.set_cons_zero]

set_option maxHeartbeats 3200000 in
theorem filter_up (nm tx : ByteArray) (w : World) (h1 : nm.toList = [117, 112]) (hl : tx.size ≤ 1099511627776) :
    Calls Try.prog 10 #[.string nm, .string tx] w (FilterPost w nm tx) := by
  have hconv := run_bytes_of_string (P := Try.prog) w 9 48 5 tx Try.underlying9 Try.underlying48 Try.underlying5
  have HF : Hid (fl nm.toList tx.toList = some (tx.toList.map up1)) := by show _ = _; unfold fl; rw [h1]; rfl
  have e1 : (nm.toList == [117, 112]) = true := by rw [h1]; rfl
  have e0 : nm.toList.isEmpty = false := by rw [h1]; rfl
  have e0' : nm.toList ≠ [] := by rw [h1]; simp
  clear h1
  go_enter Try.func10, Try.ntmps10
  go_wp2_with fail
  obtain ⟨cap, hcap⟩ : ∃ cap, cap = grownCap w tx.size 0 5 := ⟨_, rfl⟩
  have hge : tx.size ≤ cap := by rw [hcap]; exact grownCap_ge w _ _ _
  rw [← hcap] at hconv ⊢
  have hsz : tx.toList.length = tx.size := size_toList tx
  have hR : UpRel w tx cap 0 (w.alloc (.cells (bytesRow tx cap) 5 ((bytesRow tx cap).size, (bytesRow tx cap).size + 1))).drew := by
    refine ⟨⟨bytesRow tx cap, (bytesRow tx cap).size, heap_alloc_new w _, rfl, by unfold bytesRow; rw [Array.size_append, Array.size_map]; exact Nat.le_add_right _ _, ?_⟩, below_bytes _⟩
    have hl : (Array.map (fun b => Value.int .u8 b.toNat) tx.data).toList.length = tx.size := by rw [Array.length_toList, Array.size_map]; rfl
    unfold bytesRow
    rw [Array.toList_append, List.take_append_of_le_length (by rw [hl]; exact Nat.le_refl _), List.take_of_length_le (by rw [hl]; exact Nat.le_refl _)]
    simp [bts, ByteArray.toList_eq]
  have HR := Lib.hid hR
  have HC := Lib.hid hcap
  have HS := Lib.hid hsz
  clear hR hcap hconv hsz
  go_loopw [7] (fun i wr => ∃ k : Nat, k ≤ tx.size ∧ i = .int .i64 k ∧ UpRel w tx cap k wr) (fun i _ => tx.size - (intOf i).toNat)
  case atStart => exact ⟨0, Nat.zero_le _, rfl, HR.out⟩
  case round =>
    obtain ⟨k, hk, rfl, rel⟩ := hrel
    by_cases hlt : k < tx.size
    · have hkl : k < tx.toList.length := by rw [HS.out]; exact hlt
      have d0 := (rel.cell k hlt).1
      rw [up_at _ _ hkl] at d0
      have ff := (rel.cell k hlt).2
      have hb : tx.toList[k].toNat < 256 := UInt8.toNat_lt _
      have REL := Lib.hid rel
      clear rel
      by_cases hc : 97 ≤ tx.toList[k].toNat
      · by_cases hc2 : tx.toList[k].toNat ≤ 122
        · have HV : Hid ((Value.int .u8 ((tx.toList[k].toNat : Int) - 32)) = .int .u8 (up1 tx.toList[k]).toNat) := by show _ = _; rw [up_byte hc hc2]; congr 1; omega
          go_wp2_with fail
          go_roundw
          case rel => exact ⟨k + 1, by omega, by go_num, REL.out.set hkl _ HV.out⟩
          case measure => simp [intOf]; omega
        · go_wp2_with fail
          go_roundw
          case rel => exact ⟨k + 1, by omega, by go_num, REL.out.skip hkl (fun h => hc2 h.2)⟩
          case measure => simp [intOf]; omega
      · go_wp2_with fail
        go_roundw
        case rel => exact ⟨k + 1, by omega, by go_num, REL.out.skip hkl (fun h => hc h.1)⟩
        case measure => simp [intOf]; omega
    · obtain rfl : k = tx.size := by omega
      have hup : (tx.toList.map up1).length = tx.size := by simp [HS.out]
      have hfull : (tx.toList.take tx.size).map up1 ++ tx.toList.drop tx.size = tx.toList.map up1 := by rw [List.take_of_length_le (by rw [HS.out]; exact Nat.le_refl _), List.drop_of_length_le (by rw [HS.out]; exact Nat.le_refl _), List.append_nil]
      have hback := run_convert_bytes_back (P := Try.prog) wr 48 9 5 ⟨w.heap.size, 0, none⟩ cap (tx.toList.map up1) Try.underlying48 Try.underlying5 Try.underlying9 (fun j hj => by
        rw [Addr.add_lit, Nat.zero_add, (rel.cell j (by omega)).1, hfull, bts_get _ _ hj])
      rw [hup] at hback
      have REL := Lib.hid rel
      clear rel hup hfull
      go_wp2
      go_ret2
      exact ⟨by rw [HF.out, Option.getD_some]; rfl, REL.out.below⟩

/-- The document's filters, whatever the name. -/
theorem filter_any (nm tx : ByteArray) (w : World) (hl : tx.size ≤ 1099511627776) : Calls Try.prog 10 #[.string nm, .string tx] w (FilterPost w nm tx) := by
  by_cases h0 : nm.toList = []
  · exact filter_plain nm tx w h0
  · by_cases h1 : nm.toList = [117, 112]
    · exact filter_up nm tx w h1 hl
    · by_cases h2 : nm.toList = [116, 119, 105, 99, 101]
      · exact filter_twice nm tx w h2 hl
      · by_cases h3 : nm.toList = [110, 111, 110, 101]
        · exact filter_none nm tx w h3
        · by_cases h4 : nm.toList = [105, 110]
          · exact filter_in nm tx w h4 hl
          · exact filter_no nm tx w h0 h1 h2 h3 h4
end Go.Proofs.Ytoomffplaopijaa
