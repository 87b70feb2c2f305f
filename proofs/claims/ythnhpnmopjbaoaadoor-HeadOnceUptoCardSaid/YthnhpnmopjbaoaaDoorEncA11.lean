/-
  The walk of url.Enc at any text.
-/
import Derived.Test.YthnhpnmopjbaoaaDoorWStr11
import Derived.Test.YthnhpnmopjbaoaaDoorEnc11
namespace Go.Proofs.YthnhpnmopjbaoaaDoor
open Go.RowKit

def hexD (n : Nat) : UInt8 := UInt8.ofNat (if n < 10 then 48 + n else 55 + n)
def keepC (c : UInt8) : Bool := (decide (97 ≤ c.toNat) && decide (c.toNat ≤ 122)) || (decide (65 ≤ c.toNat) && decide (c.toNat ≤ 90)) || (decide (48 ≤ c.toNat) && decide (c.toNat ≤ 57)) || c.toNat == 45 || c.toNat == 95 || c.toNat == 46
/-- A byte's text. -/
def encB (c : UInt8) : Bs := if keepC c = true then [c] else if c.toNat = 32 then [43] else [37, hexD (c.toNat / 16), hexD (c.toNat % 16)]
def encP (l : Bs) : Bs := l.flatMap encB
theorem encB_len (c : UInt8) : (encB c).length ≤ 3 := by unfold encB; split <;> (try split) <;> simp
theorem encP_len : ∀ (l : Bs), (encP l).length ≤ 3 * l.length
  | [] => by simp [encP]
  | c :: l => by
    have h := encP_len l
    have h1 := encB_len c
    unfold encP at h ⊢
    rw [List.flatMap_cons, List.length_append, List.length_cons]
    omega
theorem take_encP {t : ByteArray} {p : Nat} (h : p < t.size) : encP (t.toList.take (p + 1)) = encP (t.toList.take p) ++ encB t[p] := by
  unfold encP
  rw [← List.take_append_getElem (by rw [size_toList]; exact h), List.flatMap_append, toList_at h]
  simp
structure EncJ (w wr : World) (t : ByteArray) (p : Nat) (pv v : Value) : Prop where
  bld : BuildIs wr w.heap.size pv v (encP (t.toList.take p))
  below : Below w.heap.size w wr
  fresh : ∀ g, v.ownBlock = some g → w.heap.size ≤ g
theorem EncJ.write {w W1 W2 : World} {t : ByteArray} {p : Nat} {pv v v2 : Value} {q : Bs} (hlt : p < t.size) (hq : q = encB t[p]) (i : EncJ w W1 t p pv v)
    (i2 : BuildIs W2 w.heap.size (.pointer (some ⟨w.heap.size, 0, none⟩)) v2 (encP (t.toList.take p) ++ q)) (m2 : Mod (fun k => k = w.heap.size ∨ v.ownBlock = some k) W1 W2) (n2 : v2.ownBlock = v.ownBlock ∨ ∃ g, v2.ownBlock = some g ∧ W1.heap.size ≤ g) :
    EncJ w W2 t (p + 1) (.pointer (some ⟨w.heap.size, 0, none⟩)) v2 := by
  have hs := i.below.size
  refine ⟨by rw [take_encP hlt, ← hq]; exact i2, i.below.trans (m2.belowB (fun k hk e => ?_) hs), fun g e => ?_⟩
  · rcases e with e | e
    · omega
    · have := i.fresh k e; omega
  · rcases n2 with h | ⟨g', h, hg⟩
    · exact i.fresh g (h ▸ e)
    · rw [h] at e; cases e; omega
/-- Which way a byte goes. -/
theorem enc_ways (c : UInt8) {x : Int} (hx : (c.toNat : Int) = x) :
    (encB c = [c] ∧ ((decide (97 ≤ x) = true ∧ decide (x ≤ 122) = true) ∨ (decide (97 ≤ x) = false ∧ decide (65 ≤ x) = true ∧ decide (x ≤ 90) = true) ∨
      (decide (97 ≤ x) = false ∧ decide (65 ≤ x) = false ∧ decide (48 ≤ x) = true ∧ decide (x ≤ 57) = true) ∨ x = 45 ∨ x = 95 ∨ x = 46)) ∨
    (encB c = [43] ∧ x = 32) ∨
    (encB c = [37, hexD (c.toNat / 16), hexD (c.toNat % 16)] ∧ (x == 45) = false ∧ (x == 95) = false ∧ (x == 46) = false ∧ (x == 32) = false ∧
      ((decide (97 ≤ x) = false ∧ decide (65 ≤ x) = false ∧ decide (48 ≤ x) = false) ∨
       (decide (97 ≤ x) = false ∧ decide (65 ≤ x) = false ∧ decide (48 ≤ x) = true ∧ decide (x ≤ 57) = false) ∨
       (decide (97 ≤ x) = false ∧ decide (65 ≤ x) = true ∧ decide (x ≤ 90) = false ∧ decide (48 ≤ x) = true ∧ decide (x ≤ 57) = false) ∨
       (decide (97 ≤ x) = true ∧ decide (x ≤ 122) = false ∧ decide (65 ≤ x) = true ∧ decide (x ≤ 90) = false ∧ decide (48 ≤ x) = true ∧ decide (x ≤ 57) = false))) := by
  have hk : keepC c = true ↔ (97 ≤ c.toNat ∧ c.toNat ≤ 122) ∨ (65 ≤ c.toNat ∧ c.toNat ≤ 90) ∨ (48 ≤ c.toNat ∧ c.toNat ≤ 57) ∨ c.toNat = 45 ∨ c.toNat = 95 ∨ c.toNat = 46 := by
    unfold keepC; simp [or_assoc]
  simp only [decide_eq_true_eq, decide_eq_false_iff_not, beq_eq_false_iff_ne, ne_eq]
  by_cases h : keepC c = true
  · refine .inl ⟨by unfold encB; rw [if_pos h], ?_⟩
    have := hk.1 h
    omega
  · by_cases h2 : c.toNat = 32
    · exact .inr (.inl ⟨by unfold encB; rw [if_neg h, if_pos h2], by omega⟩)
    · refine .inr (.inr ⟨by unfold encB; rw [if_neg h, if_neg h2], ?_⟩)
      rw [hk] at h
      omega
abbrev hexT : ByteArray := ⟨#[48, 49, 50, 51, 52, 53, 54, 55, 56, 57, 65, 66, 67, 68, 69, 70]⟩
theorem hex_one : ∀ n : Nat, n < 16 → hexT.extract n (n + 1) = str [hexD n] := by decide +kernel
theorem bits15 : ∀ n : Nat, n < 256 → bits BinOp.and IntKind.u8 (n : Int) 15 = ((n % 16 : Nat) : Int) := by decide +kernel
set_option maxHeartbeats 3200000 in
set_option maxRecDepth 100000 in
theorem enc_any (t : ByteArray) (hs : t.size ≤ 40000000000000) (w : World) : Calls Tryd.prog 57 #[.string t] w fun e w' => e = .returned (.string (str (encP t.toList))) ∧ Below w.heap.size w w' := by
  have S0 : Hid (EncJ w (w.alloc (.cells #[.pointer none, .slice none 0 0] 112)) t 0 (.pointer none) (.slice none 0 0)) :=
    Lib.hid ⟨⟨heap_alloc_new w _, Owns.empty _ _ _, by simp [Value.ownBlock], .inl rfl⟩, below_alloc1 w _, fun g e => by cases e⟩
  go_enter Tryd.func57, Tryd.ntmps57
  go_wp2_with fail
  generalize w.alloc _ = W0 at S0 ⊢
  go_loopw [4, 5, 8, 29, 56] (fun _ _ kv _ _ wr => ∃ (p : Nat) (pv v : Value), p ≤ t.size ∧ kv = .int .i64 p ∧ Hid (EncJ w wr t p pv v)) (fun _ _ kv _ _ _ => t.size - (intOf kv).toNat)
  case atStart => exact ⟨0, _, _, Nat.zero_le _, rfl, S0⟩
  case round =>
    obtain ⟨p, pv, v, hp, rfl, HS⟩ := hrel
    clear S0
    by_cases hlt : p < t.size
    · have hi : (p : Int) < (t.size : Int) := by omega
      have hw : IntKind.i64.wrap ((p : Int) + 1) = (p : Int) + 1 := by rw [IntKind.wrap_i64]; omega
      have hw' : wrap64 ((p : Int) + 1) = (p : Int) + 1 := wr64 (by omega) (by omega)
      obtain ⟨c, hc⟩ : ∃ c, c = t[p] := ⟨_, rfl⟩
      obtain ⟨x, hx⟩ : ∃ x : Int, (t[p].toNat : Int) = x := ⟨_, rfl⟩
      have hcx : (c.toNat : Int) = x := by rw [hc]; exact hx
      have h256 := c.toNat_lt
      obtain ⟨q, hq⟩ : ∃ q, q = encB c := ⟨_, rfl⟩
      have HSW : Hid (∀ W1 W2 v2, EncJ w W1 t p pv v → BuildIs W2 w.heap.size (.pointer (some ⟨w.heap.size, 0, none⟩)) v2 (encP (t.toList.take p) ++ q) → Mod (fun k => k = w.heap.size ∨ v.ownBlock = some k) W1 W2 → (v2.ownBlock = v.ownBlock ∨ ∃ g, v2.ownBlock = some g ∧ W1.heap.size ≤ g) → EncJ w W2 t (p + 1) (.pointer (some ⟨w.heap.size, 0, none⟩)) v2) := Lib.hid (fun W1 W2 v2 i1 i2 m2 n2 => EncJ.write hlt (by rw [hq, hc]) i1 i2 m2 n2)
      have hlen : (encP (t.toList.take p)).length ≤ 120000000000000 := by
        have := encP_len (t.toList.take p)
        rw [List.length_take, size_toList] at this
        omega
      have HWb := fun c => wbyte_any HS.out.bld c (by omega)
      have HWd : ∀ s : ByteArray, s.toList = q → s.size = 3 → Calls Tryd.prog 78 #[.pointer (some ⟨w.heap.size, 0, none⟩), .string s] wr.drew (WritePost wr.drew w.heap.size v (encP (t.toList.take p) ++ q) (.tuple #[.int .i64 s.size, .nilIface])) := fun s e h => by
        rw [← e]
        exact wstr_any (HS.out.bld.mod ((Mod.refl (fun _ => False) wr).drew) (fun x => x) (fun _ _ x => x)) s (by omega)
      have HSN : Hid (EncJ w wr.drew t p pv v) := Lib.hid ⟨HS.out.bld.mod ((Mod.refl (fun _ => False) wr).drew) (fun x => x) (fun _ _ x => x), ⟨HS.out.below.os, HS.out.below.tape, HS.out.below.output, HS.out.below.size, HS.out.below.block⟩, HS.out.fresh⟩
      have HLT := Lib.hid hlt
      clear hlen
      rcases enc_ways c hcx with ⟨hv, hk⟩ | ⟨hv, rfl⟩ | ⟨hv, e1, e2, e3, e4, hk⟩
      · have HW := HWb c
        rw [hcx, ← hv, ← hq] at HW
        clear HWb HWd hv hcx
        rcases hk with ⟨d1, d2⟩ | ⟨d1, d2, d3⟩ | ⟨d1, d2, d3, d4⟩ | rfl | rfl | rfl
        all_goals
          go_wp2_with fail
          refine HW.mono ?_
          rintro e W2 ⟨rfl, v2, i2, m2, n2⟩
          have S2 := Lib.hid (HSW.out _ _ _ HS.out i2 m2 n2)
          clear i2 m2 n2 HW HSW
          go_wp2_with fail
          go_roundw
          case rel => exact ⟨p + 1, _, _, HLT.out, by go_num, S2⟩
          case measure => have := HLT.out; simp [intOf]; omega
      · have HW := HWb 43
        rw [show ((43 : UInt8).toNat : Int) = 43 from rfl, ← hv, ← hq] at HW
        clear HWb HWd hv hcx
        go_wp2_with fail
        refine HW.mono ?_
        rintro e W2 ⟨rfl, v2, i2, m2, n2⟩
        have S2 := Lib.hid (HSW.out _ _ _ HS.out i2 m2 n2)
        clear i2 m2 n2 HW HSW
        go_wp2_with fail
        go_roundw
        case rel => exact ⟨p + 1, _, _, HLT.out, by go_num, S2⟩
        case measure => have := HLT.out; simp [intOf]; omega
      · obtain ⟨a, ha⟩ : ∃ a, a = c.toNat / 16 := ⟨_, rfl⟩
        obtain ⟨b, hb⟩ : ∃ b, b = c.toNat % 16 := ⟨_, rfl⟩
        have ha16 : a < 16 := by omega
        have hb16 : b < 16 := by omega
        have hdiv : x / 16 = (a : Int) := by omega
        have hmod : bits BinOp.and IntKind.u8 x 15 = (b : Int) := by rw [← hcx, bits15 _ h256, ← hb]
        have hwa : IntKind.u8.wrap ((a : Int) + 1) = (a : Int) + 1 := by unfold IntKind.wrap; simp [IntKind.bits]; omega
        have hwb : IntKind.u8.wrap ((b : Int) + 1) = (b : Int) + 1 := by unfold IntKind.wrap; simp [IntKind.bits]; omega
        have ga : (a : Int) + 1 ≤ 16 := by omega
        have gb : (b : Int) + 1 ≤ 16 := by omega
        have HT : Hid (∀ s : ByteArray, s = (⟨#[37]⟩ : ByteArray) ++ hexT.extract a (a + 1) ++ hexT.extract b (b + 1) → s.toList = q ∧ s.size = 3) := Lib.hid (fun s e => by
          rw [hex_one a ha16, hex_one b hb16, show (⟨#[37]⟩ : ByteArray) = str [37] from rfl, str_append, str_append] at e
          rw [e, str_toList, str_size, hq, hv, ← ha, ← hb]
          exact ⟨rfl, rfl⟩)
        clear HWb hv hcx hq ha hb ha16 hb16 h256
        rcases hk with ⟨d1, d2, d3⟩ | ⟨d1, d2, d3, d4⟩ | ⟨d1, d2, d3, d4, d5⟩ | ⟨d1, d2, d3, d4, d5, d6⟩
        all_goals
          go_wp2_with fail
          go_region_with (go_at_call 78; refine (HWd _ (HT.out _ rfl).1 (HT.out _ rfl).2).mono ?_; rintro e W2 ⟨rfl, v2, i2, m2, n2⟩; have S2 := Lib.hid (HSW.out _ _ _ HSN.out i2 m2 n2); clear i2 m2 n2)
          all_goals
            go_wp2_with fail
            go_roundw
            case rel => exact ⟨p + 1, _, _, HLT.out, by go_num, S2⟩
            case measure => have := HLT.out; simp [intOf]; omega
    · obtain rfl : p = t.size := by omega
      have HB := bstring_any HS.out.bld (Nat.le_refl _) HS.out.fresh
      rw [List.take_of_length_le (by rw [size_toList]; exact Nat.le_refl _)] at HB
      go_wp2_with fail
      refine HB.mono ?_
      rintro e W2 ⟨rfl, hb⟩
      have B2 := Lib.hid (HS.out.below.trans hb)
      clear hb HB HS
      go_wp2_with fail
      go_ret
      exact ⟨rfl, B2.out⟩
end Go.Proofs.YthnhpnmopjbaoaaDoor
