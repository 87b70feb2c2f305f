/-
  The walk of url.Enc at a text of plain bytes and blanks.
-/
import Derived.Test.YthnhpnmopjbaoaaDoorName11
namespace Go.Proofs.YthnhpnmopjbaoaaDoor
open Go.RowKit

def plainC (c : UInt8) : Bool := (decide (97 ≤ c.toNat) && decide (c.toNat ≤ 122))
def encC (c : UInt8) : UInt8 := if c.toNat = 32 then 43 else c
/-- While the text is gone over. -/
structure EncI (w wr : World) (t : ByteArray) (p : Nat) (pv v : Value) : Prop where
  bld : BuildIs wr w.heap.size pv v ((t.toList.take p).map encC)
  below : Below w.heap.size w wr
  fresh : ∀ g, v.ownBlock = some g → w.heap.size ≤ g
theorem take_enc {t : ByteArray} {p : Nat} (h : p < t.size) : (t.toList.take (p + 1)).map encC = (t.toList.take p).map encC ++ [encC t[p]] := by
  rw [← List.take_append_getElem (by rw [size_toList]; exact h), List.map_append, toList_at h]
  rfl
theorem EncI.write {w W1 W2 : World} {t : ByteArray} {p : Nat} {pv v v2 : Value} {q : UInt8} (hlt : p < t.size) (hq : q = encC t[p]) (i : EncI w W1 t p pv v)
    (i2 : BuildIs W2 w.heap.size (.pointer (some ⟨w.heap.size, 0, none⟩)) v2 ((t.toList.take p).map encC ++ [q])) (m2 : Mod (fun k => k = w.heap.size ∨ v.ownBlock = some k) W1 W2) (n2 : v2.ownBlock = v.ownBlock ∨ ∃ g, v2.ownBlock = some g ∧ W1.heap.size ≤ g) :
    EncI w W2 t (p + 1) (.pointer (some ⟨w.heap.size, 0, none⟩)) v2 := by
  have hs := i.below.size
  refine ⟨by rw [take_enc hlt, ← hq]; exact i2, i.below.trans (m2.belowB (fun k hk e => ?_) hs), fun g e => ?_⟩
  · rcases e with e | e
    · omega
    · have := i.fresh k e; omega
  · rcases n2 with h | ⟨g', h, hg⟩
    · exact i.fresh g (h ▸ e)
    · rw [h] at e; cases e; omega
set_option maxHeartbeats 3200000 in
set_option maxRecDepth 100000 in
theorem enc_plain (t : ByteArray) (hs : t.size ≤ 140737488351232) (ha : ∀ j (h : j < t.size), plainC t[j] = true ∨ t[j].toNat = 32) (w : World) : Calls Tryd.prog 57 #[.string t] w fun e w' => e = .returned (.string (str (t.toList.map encC))) ∧ Below w.heap.size w w' := by
  have HA := Lib.hid ha
  clear ha
  have S0 : Hid (EncI w (w.alloc (.cells #[.pointer none, .slice none 0 0] 112)) t 0 (.pointer none) (.slice none 0 0)) :=
    Lib.hid ⟨⟨heap_alloc_new w _, Owns.empty _ _ _, by simp [Value.ownBlock], .inl rfl⟩, below_alloc1 w _, fun g e => by cases e⟩
  go_enter Tryd.func57, Tryd.ntmps57
  go_wp2_with fail
  generalize w.alloc _ = W0 at S0 ⊢
  go_loopw [4, 5, 8, 29, 56] (fun _ _ kv _ _ wr => ∃ (p : Nat) (pv v : Value), p ≤ t.size ∧ kv = .int .i64 p ∧ Hid (EncI w wr t p pv v)) (fun _ _ kv _ _ _ => t.size - (intOf kv).toNat)
  case atStart => exact ⟨0, _, _, Nat.zero_le _, rfl, S0⟩
  case round =>
    obtain ⟨p, pv, v, hp, rfl, HS⟩ := hrel
    clear S0
    by_cases hlt : p < t.size
    · have hi : (p : Int) < (t.size : Int) := by omega
      have hw : IntKind.i64.wrap ((p : Int) + 1) = (p : Int) + 1 := by rw [IntKind.wrap_i64]; omega
      have hw' : wrap64 ((p : Int) + 1) = (p : Int) + 1 := wr64 (by omega) (by omega)
      obtain ⟨q, hq⟩ : ∃ q, q = encC t[p] := ⟨_, rfl⟩
      have HSW : Hid (∀ W2 v2, BuildIs W2 w.heap.size (.pointer (some ⟨w.heap.size, 0, none⟩)) v2 ((t.toList.take p).map encC ++ [q]) → Mod (fun k => k = w.heap.size ∨ v.ownBlock = some k) wr W2 → (v2.ownBlock = v.ownBlock ∨ ∃ g, v2.ownBlock = some g ∧ wr.heap.size ≤ g) → EncI w W2 t (p + 1) (.pointer (some ⟨w.heap.size, 0, none⟩)) v2) := Lib.hid (fun W2 v2 i2 m2 n2 => EncI.write hlt hq HS.out i2 m2 n2)
      have hlen : ((t.toList.take p).map encC).length ≤ 140737488351232 := by rw [List.length_map, List.length_take]; omega
      have HWr := wbyte_any HS.out.bld q hlen
      have hcs := HA.out p hlt
      obtain ⟨x, hx⟩ : ∃ x : Int, (t[p].toNat : Int) = x := ⟨_, rfl⟩
      have hqv : (x = 32 ∧ (q.toNat : Int) = 43) ∨ (97 ≤ x ∧ x ≤ 122 ∧ (q.toNat : Int) = x) := by
        rcases hcs with h | h
        · unfold plainC at h
          simp only [Bool.and_eq_true, decide_eq_true_eq] at h
          refine .inr ⟨by omega, by omega, ?_⟩
          rw [hq]; unfold encC; rw [if_neg (by omega)]; exact hx
        · refine .inl ⟨by omega, ?_⟩
          rw [hq]; unfold encC; rw [if_pos h]; rfl
      have HLT := Lib.hid hlt
      clear hcs hlen hq
      rcases hqv with ⟨h32, h43⟩ | ⟨h1, h2, h3⟩
      · rw [h32] at hx
        rw [h43] at HWr
        clear h32 h43
        go_wp2_with fail
        refine HWr.mono ?_
        rintro e W2 ⟨rfl, v2, i2, m2, n2⟩
        have S2 := Lib.hid (HSW.out _ _ i2 m2 n2)
        clear i2 m2 n2 HWr HSW
        go_wp2_with fail
        go_roundw
        case rel => exact ⟨p + 1, _, _, HLT.out, by go_num, S2⟩
        case measure => have := HLT.out; simp [intOf]; omega
      · have d1 : decide (97 ≤ x) = true := by simp; omega
        have d2 : decide (x ≤ 122) = true := by simp; omega
        rw [h3] at HWr
        clear h1 h2 h3
        go_wp2_with fail
        refine HWr.mono ?_
        rintro e W2 ⟨rfl, v2, i2, m2, n2⟩
        have S2 := Lib.hid (HSW.out _ _ i2 m2 n2)
        clear i2 m2 n2 HWr HSW
        go_wp2_with fail
        go_roundw
        case rel => exact ⟨p + 1, _, _, HLT.out, by go_num, S2⟩
        case measure => have := HLT.out; simp [intOf]; omega
    · obtain rfl : p = t.size := by omega
      have HB := bstring_any HS.out.bld (Nat.le_refl _) HS.out.fresh
      rw [List.take_of_length_le (by rw [size_toList]; exact Nat.le_refl _)] at HB
      go_wp2_with fail
      refine HB.mono ?_
      rintro e W2 ⟨rfl, hb⟩
      have B2 := Lib.hid (HS.out.below.trans hb)
      clear hb HB HS
      go_wp2_with fail
      go_ret
      exact ⟨rfl, B2.out⟩
end Go.Proofs.YthnhpnmopjbaoaaDoor
