/-
  The document's Has, Find, Method, constAt (printed by genRFun17.py).
  What linking makes stays small: each name is there once and was there before.
-/
import Derived.Test.YtobjmajkcfhpoaaDoorWp16
import Derived.Test.YtobjmajkcfhpoaaDoorWp15
import Derived.Test.YtobjmajkcfhpoaaDoorWp13
namespace Go.Proofs.YtobjmajkcfhpoaaDoor
open Go.RowKit
attribute [local go_sem] yld_undef
theorem hasB_cons2 (x : ByteArray) (l : List ByteArray) (s : ByteArray) : hasB (x :: l) s = (eqB x s || hasB l s) := by
 rw [hasB_cons, eqB_comm]
theorem fstP_cons {α : Type} (p : α → Bool) (x : α) (l : List α) : fstP p (x :: l) = if p x = true then some x else fstP p l := by
 unfold fstP; rw [idxP]; by_cases h : p x = true
 ·rw [if_pos h, if_pos h]; rfl
 ·rw [if_neg h, if_neg h]; cases idxP p l with
  | none => rfl
  | some i => rfl
theorem findK_cons (x : KC) (l : List KC) (n : ByteArray) : findK (x :: l) n = if eqB x.1.nm n = true then some x else findK l n := fstP_cons _ _ _
theorem methP_cons (x : MtP) (l : List MtP) (n : ByteArray) : methP (x :: l) n = if eqB x.nm n = true then some x else methP l n := fstP_cons _ _ _
set_option maxHeartbeats 3200000 in
set_option maxRecDepth 100000 in
theorem rhas_any {A : Nat → Prop} {v : Value} {l : List ByteArray} {w : World} (s : ByteArray) (hv : RIn A w 1 v (l.map sR)) (hl : l.length ≤ 8796093022208) :
  Calls Tryd.prog 75 #[v, .string s] w (BoolPost w (hasB l s)) := by
 obtain ⟨ao, cap, rfl, -, -⟩ := hv.form; rw [List.length_map] at hv ⊢; have HV := Hd hv; obtain ⟨r, hr⟩ : ∃ r, r = hasB l s := ⟨_, rfl⟩; rw [← hr]; have HR : Hid (r = hasB (l.drop 0) s) := Hd hr; have HB : Hid (Below w.heap.size w w) := Hd (Below.refl _ _); clear hv hr; go_enter Tryd.func75, Tryd.ntmps75; go_wp2_with fail; go_loopw [5] (fun kv wr => ∃ k : Nat, k ≤ l.length ∧ kv = .int .i64 k ∧ Hid (r = hasB (l.drop k) s) ∧ Hid (Below w.heap.size w wr)) (fun kv _ => l.length - (intOf kv).toNat)
 case atStart => exact ⟨0, Nat.zero_le _, rfl, HR, HB⟩
 case round =>
  clear HR HB; obtain ⟨k, hk, rfl, HR, HB⟩ := hrel; by_cases hlt : k < l.length
  ·have hi : (k : Int) < (l.length : Int) := by omega
   obtain ⟨hw', hw⟩ := wr_sm (x := (k : Int) + 1) (by omega) (by omega); obtain ⟨x, g, off, cp, hx, -, -, e, -, -, hc⟩ := s_cells (HV.out.under HB.out) hlt; cases e; have d0 := hc _ (Below.refl _ _); have Hlt := Hd hlt; obtain ⟨z, hz⟩ : ∃ z, (x.toList == s.toList) = z := ⟨_, rfl⟩; have HR2 : Hid (r = (z || hasB (l.drop (k + 1)) s)) := Hd (by rw [HR.out, drop_at hx, hasB_cons2, ← hz]; rfl); clear hc hx hlt HR; cases z with
   | true =>
    have HF : Hid (r = true) := Hd HR2.out; go_wp2_with fail; go_ret; rw [HF.out]; exact ⟨rfl, HB.out⟩
   | false =>
    have HR3 : Hid (r = hasB (l.drop (k + 1)) s) := Hd HR2.out; go_wp2_with fail; go_roundw
    case rel => exact ⟨k + 1, Hlt.out, by go_num, HR3, HB⟩
    case measure => exact meas_lt Hlt.out
  ·obtain rfl : k = l.length := by omega
   have HF : Hid (r = false) := Hd (by rw [HR.out, List.drop_length]; rfl); go_wp2_with fail; go_ret; rw [HF.out]; exact ⟨rfl, HB.out⟩
set_option maxHeartbeats 3200000 in
set_option maxRecDepth 100000 in
theorem rconst_any {A : Nat → Prop} {v : Value} {l : List CoP} {w : World} (s : ByteArray) (hv : RIn A w 3 v (l.map CoP.row)) (hl : l.length ≤ 8796093022208) :
  Calls Tryd.prog 77 #[v, .string s] w (IntPost w (idxI (placeC l s))) := by
 obtain ⟨ao, cap, rfl, -, -⟩ := hv.form; rw [List.length_map] at hv ⊢; have HV := Hd hv; obtain ⟨r, hr⟩ : ∃ r, r = idxI (placeC l s) := ⟨_, rfl⟩; rw [← hr]; have HR := Hd hr; have HB : Hid (Below w.heap.size w w) := Hd (Below.refl _ _); have HN : Hid (∀ j (hj : j < l.length), j < 0 → eqB l[j].nm s = false) := Hd (fun j _ h => absurd h (Nat.not_lt_zero j)); clear hv hr; go_enter Tryd.func77, Tryd.ntmps77; go_wp2_with fail; go_loopw [5] (fun kv wr => ∃ k : Nat, k ≤ l.length ∧ kv = .int .i64 k ∧ Hid (∀ j (hj : j < l.length), j < k → eqB l[j].nm s = false) ∧ Hid (Below w.heap.size w wr)) (fun kv _ => l.length - (intOf kv).toNat)
 case atStart => exact ⟨0, Nat.zero_le _, rfl, HN, HB⟩
 case round =>
  clear HN HB; obtain ⟨k, hk, rfl, HN, HB⟩ := hrel; by_cases hlt : k < l.length
  ·have hi : (k : Int) < (l.length : Int) := by omega
   obtain ⟨hw', hw⟩ := wr_sm (x := (k : Int) + 1) (by omega) (by omega); obtain ⟨x, g, off, cp, hx, -, hxe, e, -, -, hc⟩ := co_cells (HV.out.under HB.out) hlt; cases e; obtain ⟨d0, d1, d2⟩ := hc _ (Below.refl _ _); have Hlt := Hd hlt; obtain ⟨z, hz⟩ : ∃ z, (x.nm.toList == s.toList) = z := ⟨_, rfl⟩; have HZ : Hid (∀ h : k < l.length, eqB (l[k]'h).nm s = z) := Hd (fun h => by rw [← hxe]; exact hz); clear hc hx hxe hlt; cases z with
   | true =>
    have HF : Hid (r = (k : Int)) := Hd (by rw [HR.out, placeC, idxP_at (i := k) Hlt.out (HZ.out Hlt.out) HN.out]; rfl); go_wp2_with fail; go_ret; rw [HF.out]; exact ⟨rfl, HB.out⟩
   | false =>
    have HN2 : Hid (∀ j (hj : j < l.length), j < k + 1 → eqB l[j].nm s = false) := Hd (fun j hj h => by
     rcases Nat.lt_or_ge j k with h1 | h1
     ·exact HN.out j hj h1
     ·obtain rfl : j = k := by omega
      exact HZ.out hj)
    go_wp2_with fail; go_roundw
    case rel => exact ⟨k + 1, Hlt.out, by go_num, HN2, HB⟩
    case measure => exact meas_lt Hlt.out
  ·obtain rfl : k = l.length := by omega
   have HF : Hid (r = -1) := Hd (by rw [HR.out, placeC, idxP_no (fun j hj => HN.out j hj hj)]; rfl); go_wp2_with fail; go_ret; rw [HF.out]; exact ⟨rfl, HB.out⟩
set_option maxHeartbeats 6400000 in
set_option maxRecDepth 100000 in
theorem rfind_any {A : Nat → Prop} {v : Value} {kn : List KC} {w : World} (s : ByteArray) (hv : RIn A w 11 v (kn.map KC.row)) (hl : kn.length ≤ 1073741824) :
  Calls Tryd.prog 11 #[v, .string s] w (FindPost w (findK kn s)) := by
 obtain ⟨ao, cap, rfl, -, -⟩ := hv.form; rw [List.length_map] at hv ⊢; have HV := Hd hv; obtain ⟨r, hr⟩ : ∃ r, r = findK kn s := ⟨_, rfl⟩; rw [← hr]; have HR : Hid (r = findK (kn.drop 0) s) := Hd hr; have A0 := Hd (at1_start w (.cells #[.string ⟨#[]⟩, .int .i64 0, .bool false, .bool false, .string ⟨#[]⟩, .slice none 0 0, .slice none 0 0, .slice none 0 0, .slice none 0 0, .slice none 0 0, .slice none 0 0] 29)); clear hv hr; go_enter Tryd.func11, Tryd.ntmps11; go_wp2_with fail; go_loopw [6] (fun kv wr => ∃ k : Nat, k ≤ kn.length ∧ kv = .int .i64 k ∧ Hid (r = findK (kn.drop k) s) ∧ Hid (At1 w wr w.heap.size (.cells #[.string ⟨#[]⟩, .int .i64 0, .bool false, .bool false, .string ⟨#[]⟩, .slice none 0 0, .slice none 0 0, .slice none 0 0, .slice none 0 0, .slice none 0 0, .slice none 0 0] 29))) (fun kv _ => kn.length - (intOf kv).toNat)
 case atStart => exact ⟨0, Nat.zero_le _, rfl, HR, A0⟩
 case round =>
  clear HR A0; obtain ⟨k, hk, rfl, HR, HA⟩ := hrel; by_cases hlt : k < kn.length
  ·have hi : (k : Int) < (kn.length : Int) := by omega
   obtain ⟨hw', hw⟩ := wr_sm (x := (k : Int) + 1) (by omega) (by omega); obtain ⟨x, g, off, cp, hx, -, -, e, -, -, hc⟩ := kc_cells (HV.out.under HA.out.below) hlt; cases e; obtain ⟨d0, d1, d2, d3, d4, d5, d6, d7, d8, d9, d10⟩ := hc _ (Below.refl _ _); have Hlt := Hd hlt; obtain ⟨z, hz⟩ : ∃ z, (x.1.nm.toList == s.toList) = z := ⟨_, rfl⟩; have HR2 : Hid (r = if z = true then some x else findK (kn.drop (k + 1)) s) := Hd (by rw [HR.out, drop_at hx, findK_cons, ← hz]; rfl); clear hc hx hlt HR; cases z with
   | true =>
    have HF : Hid (r = some x) := Hd HR2.out; go_wp2_with (refine wpList_store_row rfl 29 (.tmp 4) (.tmp 23) rfl w.heap.size #[.string x.1.nm, .int .i64 x.1.kd, .bool x.1.ab, .bool x.1.fi, .string x.1.pa, .slice x.2.f.o x.2.f.n x.2.f.c, .slice x.2.t.o x.2.t.n x.2.t.c, .slice x.2.a.o x.2.a.n x.2.a.c, .slice x.2.c.o x.2.c.n x.2.c.c, .slice x.2.p.o x.2.p.n x.2.p.c, .slice x.2.m.o x.2.m.n x.2.m.c] (by rfl) (by rfl) 29 #[.string ⟨#[]⟩, .int .i64 0, .bool false, .bool false, .string ⟨#[]⟩, .slice none 0 0, .slice none 0 0, .slice none 0 0, .slice none 0 0, .slice none 0 0, .slice none 0 0] HA.out.a size29 rfl (by simp [Value.oneCell']) ?_; intro w2 hx2 hm2; have HX := Hd hx2; have HM := Hd hm2; clear hx2 hm2); go_wp2_with fail; have q0 := cB HX.out 0; have q1 := cB HX.out 1; have q2 := cB HX.out 2; have q3 := cB HX.out 3; have q4 := cB HX.out 4; have q5 := cB HX.out 5; have q6 := cB HX.out 6; have q7 := cB HX.out 7; have q8 := cB HX.out 8; have q9 := cB HX.out 9; have q10 := cB HX.out 10; exact bodyPost_ret (v := .tuple #[KC.v x, .bool true]) (by simp [results, Tryd.results11, go_sem, KC.v, q0, q1, q2, q3, q4, q5, q6, q7, q8, q9, q10]) rfl ⟨mod_below' HA.out.below HM.out HA.out.below.size (fun k e => by have e : k = w.heap.size := e; omega), by rw [HF.out]; rfl⟩
   | false =>
    have HR3 : Hid (r = findK (kn.drop (k + 1)) s) := Hd HR2.out; go_wp2_with fail; go_roundw
    case rel => exact ⟨k + 1, Hlt.out, by go_num, HR3, HA⟩
    case measure => exact meas_lt Hlt.out
  ·obtain rfl : k = kn.length := by omega
   have HF : Hid (r = none) := Hd (by rw [HR.out, List.drop_length]; rfl); go_wp2_with (refine wpList_store_row rfl 29 (.tmp 4) (.tmp 24) rfl w.heap.size #[.string ⟨#[]⟩, .int .i64 0, .bool false, .bool false, .string ⟨#[]⟩, .slice none 0 0, .slice none 0 0, .slice none 0 0, .slice none 0 0, .slice none 0 0, .slice none 0 0] (by rfl) (by rfl) 29 #[.string ⟨#[]⟩, .int .i64 0, .bool false, .bool false, .string ⟨#[]⟩, .slice none 0 0, .slice none 0 0, .slice none 0 0, .slice none 0 0, .slice none 0 0, .slice none 0 0] HA.out.a size29 rfl (by simp [Value.oneCell']) ?_; intro w2 hx2 hm2; have HX := Hd hx2; have HM := Hd hm2; clear hx2 hm2); go_wp2_with fail; have q0 := cB HX.out 0; have q1 := cB HX.out 1; have q2 := cB HX.out 2; have q3 := cB HX.out 3; have q4 := cB HX.out 4; have q5 := cB HX.out 5; have q6 := cB HX.out 6; have q7 := cB HX.out 7; have q8 := cB HX.out 8; have q9 := cB HX.out 9; have q10 := cB HX.out 10; exact bodyPost_ret (v := .tuple #[KC.v KC.nil, .bool false]) (by simp [results, Tryd.results11, go_sem, KC.v, KC.nil, ClP.nil, VS6.nil, q0, q1, q2, q3, q4, q5, q6, q7, q8, q9, q10]) rfl ⟨mod_below' HA.out.below HM.out HA.out.below.size (fun k e => by have e : k = w.heap.size := e; omega), by rw [HF.out]; rfl⟩
set_option maxHeartbeats 6400000 in
set_option maxRecDepth 100000 in
theorem rmethod_any {A : Nat → Prop} {x : KC} {w : World} (s : ByteArray) (hx : RIn A w 6 (.slice x.2.m.o x.2.m.n x.2.m.c) (x.1.ms.map MtP.row)) (hl : x.1.ms.length ≤ 1073741824) :
  Calls Tryd.prog 12 #[.agg #[.string x.1.nm, .int .i64 x.1.kd, .bool x.1.ab, .bool x.1.fi, .string x.1.pa, .slice x.2.f.o x.2.f.n x.2.f.c, .slice x.2.t.o x.2.t.n x.2.t.c, .slice x.2.a.o x.2.a.n x.2.a.c, .slice x.2.c.o x.2.c.n x.2.c.c, .slice x.2.p.o x.2.p.n x.2.p.c, .slice x.2.m.o x.2.m.n x.2.m.c], .string s] w (MethPost w (methP x.1.ms s)) := by
 have HN : Hid (x.2.m.n = x.1.ms.length) := Hd (by have h9 := rin_n hx; rw [List.length_map] at h9; exact h9); have HV := Hd hx; obtain ⟨r, hr⟩ : ∃ r, r = methP x.1.ms s := ⟨_, rfl⟩; rw [← hr]; have HR : Hid (r = methP (x.1.ms.drop 0) s) := Hd hr; have A0 := Hd (at2_start w (.cells #[.string x.1.nm, .int .i64 x.1.kd, .bool x.1.ab, .bool x.1.fi, .string x.1.pa, .slice x.2.f.o x.2.f.n x.2.f.c, .slice x.2.t.o x.2.t.n x.2.t.c, .slice x.2.a.o x.2.a.n x.2.a.c, .slice x.2.c.o x.2.c.n x.2.c.c, .slice x.2.p.o x.2.p.n x.2.p.c, .slice x.2.m.o x.2.m.n x.2.m.c] 29) (.cells #[.string ⟨#[]⟩, .bool false, .bool false, .bool false, .string ⟨#[]⟩, .int .i64 0] 34)); clear hx hr; go_enter Tryd.func12, Tryd.ntmps12; go_wp2_with fail; go_loopw [6] (fun kv wr => ∃ k : Nat, k ≤ x.1.ms.length ∧ kv = .int .i64 k ∧ Hid (r = methP (x.1.ms.drop k) s) ∧ Hid (At2 w wr w.heap.size (.cells #[.string x.1.nm, .int .i64 x.1.kd, .bool x.1.ab, .bool x.1.fi, .string x.1.pa, .slice x.2.f.o x.2.f.n x.2.f.c, .slice x.2.t.o x.2.t.n x.2.t.c, .slice x.2.a.o x.2.a.n x.2.a.c, .slice x.2.c.o x.2.c.n x.2.c.c, .slice x.2.p.o x.2.p.n x.2.p.c, .slice x.2.m.o x.2.m.n x.2.m.c] 29) (.cells #[.string ⟨#[]⟩, .bool false, .bool false, .bool false, .string ⟨#[]⟩, .int .i64 0] 34))) (fun kv _ => x.1.ms.length - (intOf kv).toNat)
 case atStart => exact ⟨0, Nat.zero_le _, rfl, HR, A0⟩
 case round =>
  clear HR A0; obtain ⟨k, hk, rfl, HR, HA⟩ := hrel; have x10 : wr.cell? ⟨w.heap.size, 10, none⟩ = some (.slice x.2.m.o x.1.ms.length x.2.m.c) := by
   have h9 : wr.cell? ⟨w.heap.size, 10, none⟩ = some (.slice x.2.m.o x.2.m.n x.2.m.c) := cB HA.out.a 10; rw [HN.out] at h9; exact h9
  by_cases hlt : k < x.1.ms.length
  ·have hi : (k : Int) < (x.1.ms.length : Int) := by omega
   obtain ⟨hw', hw⟩ := wr_sm (x := (k : Int) + 1) (by omega) (by omega); obtain ⟨m, g, off, cp, hm, -, -, e, -, -, hc⟩ := mt_cells (HV.out.under HA.out.below) hlt; simp only [Value.slice.injEq] at e; obtain ⟨e1, -, -⟩ := e; rw [e1] at x10; clear e1; obtain ⟨d0, d1, d2, d3, d4, d5⟩ := hc _ (Below.refl _ _); have Hlt := Hd hlt; obtain ⟨z, hz⟩ : ∃ z, (m.nm.toList == s.toList) = z := ⟨_, rfl⟩; have HR2 : Hid (r = if z = true then some m else methP (x.1.ms.drop (k + 1)) s) := Hd (by rw [HR.out, drop_at hm, methP_cons, ← hz]; rfl); clear hc hm hlt HR; cases z with
   | true =>
    have HF : Hid (r = some m) := Hd HR2.out; go_wp2_with (refine wpList_store_row rfl 34 (.tmp 4) (.tmp 26) rfl (w.heap.size + 1) #[.string m.nm, .bool m.st, .bool m.ab, .bool m.fi, .string m.fr, .int .i64 m.cd] (by rfl) (by rfl) 34 #[.string ⟨#[]⟩, .bool false, .bool false, .bool false, .string ⟨#[]⟩, .int .i64 0] HA.out.b size34 rfl (by simp [Value.oneCell']) ?_; intro w2 hx2 hm2; have HX := Hd hx2; have HM := Hd hm2; clear hx2 hm2); go_wp2_with fail; have q0 := cB HX.out 0; have q1 := cB HX.out 1; have q2 := cB HX.out 2; have q3 := cB HX.out 3; have q4 := cB HX.out 4; have q5 := cB HX.out 5; exact bodyPost_ret (v := .tuple #[MtP.v m, .bool true]) (by simp [results, Tryd.results12, go_sem, MtP.v, q0, q1, q2, q3, q4, q5]) rfl ⟨mod_below' HA.out.below HM.out HA.out.below.size (fun k e => by have e : k = w.heap.size + 1 := e; omega), by rw [HF.out]; rfl⟩
   | false =>
    have HR3 : Hid (r = methP (x.1.ms.drop (k + 1)) s) := Hd HR2.out; go_wp2_with fail; go_roundw
    case rel => exact ⟨k + 1, Hlt.out, by go_num, HR3, HA⟩
    case measure => exact meas_lt Hlt.out
  ·obtain rfl : k = x.1.ms.length := by omega
   have HF : Hid (r = none) := Hd (by rw [HR.out, List.drop_length]; rfl); go_wp2_with (refine wpList_store_row rfl 34 (.tmp 4) (.tmp 27) rfl (w.heap.size + 1) #[.string ⟨#[]⟩, .bool false, .bool false, .bool false, .string ⟨#[]⟩, .int .i64 0] (by rfl) (by rfl) 34 #[.string ⟨#[]⟩, .bool false, .bool false, .bool false, .string ⟨#[]⟩, .int .i64 0] HA.out.b size34 rfl (by simp [Value.oneCell']) ?_; intro w2 hx2 hm2; have HX := Hd hx2; have HM := Hd hm2; clear hx2 hm2); go_wp2_with fail; have q0 := cB HX.out 0; have q1 := cB HX.out 1; have q2 := cB HX.out 2; have q3 := cB HX.out 3; have q4 := cB HX.out 4; have q5 := cB HX.out 5; exact bodyPost_ret (v := .tuple #[MtP.v ⟨⟨#[]⟩, false, false, false, ⟨#[]⟩, 0⟩, .bool false]) (by simp [results, Tryd.results12, go_sem, MtP.v, q0, q1, q2, q3, q4, q5]) rfl ⟨mod_below' HA.out.below HM.out HA.out.below.size (fun k e => by have e : k = w.heap.size + 1 := e; omega), by rw [HF.out]; rfl⟩
end Go.Proofs.YtobjmajkcfhpoaaDoor

namespace Go.Proofs.YtobjmajkcfhpoaaDoor
open Go.RowKit
theorem nodup_len : ∀ (l U : List ByteArray), l.Nodup → (∀ x ∈ l, x ∈ U) → l.length ≤ U.length
 | [], _, _, _ => Nat.zero_le _
 | x :: r, U, hn, hs => by
  obtain ⟨hx, hr⟩ := List.nodup_cons.1 hn
  have hlt : (U.filter fun y => !eqB y x).length < U.length := List.length_filter_lt_length_iff_exists.2 ⟨x, hs x (by simp), by simp [eqB_self]⟩
  have h := nodup_len r (U.filter fun y => !eqB y x) hr (fun y hy => List.mem_filter.2 ⟨hs y (by simp [hy]), by
   have : eqB y x = false := eqB_ne.2 (fun e => hx (e ▸ hy))
   simp [this]⟩)
  simp only [List.length_cons]
  omega
def PIn {α : Type} (nm : α → ByteArray) (U : List ByteArray) (l : List α) : Prop := (l.map nm).Nodup ∧ ∀ n ∈ l.map nm, n ∈ U
section
variable {α : Type} {nm : α → ByteArray} {U : List ByteArray} {l : List α}
theorem PIn.nil : PIn nm U ([] : List α) := ⟨List.nodup_nil, fun n h => by cases h⟩
theorem PIn.len (h : PIn nm U l) : l.length ≤ U.length := by
 have := nodup_len _ U h.1 h.2; rwa [List.length_map] at this
theorem PIn.mem (h : PIn nm U l) {x : α} (hx : x ∈ l) : nm x ∈ U := h.2 _ (List.mem_map_of_mem hx)
theorem PIn.push (h : PIn nm U l) {x : α} (hx : nm x ∈ U) (hp : idxP (fun c => eqB (nm c) (nm x)) l = none) : PIn nm U (l ++ [x]) := by
 refine ⟨?_, fun n hn => ?_⟩
 ·rw [List.map_append, List.nodup_append]; refine ⟨h.1, by simp, fun a ha b hb => ?_⟩; simp only [List.map_cons, List.map_nil, List.mem_singleton] at hb; subst hb; obtain ⟨c, hc, rfl⟩ := List.mem_map.1 ha; exact eqB_ne.1 (idxP_none hp c hc)
 ·rw [List.map_append] at hn; rcases List.mem_append.1 hn with hn | hn
  ·exact h.2 n hn
  ·simp only [List.map_cons, List.map_nil, List.mem_singleton] at hn; subst hn; exact hx
theorem set_names {x : α} {i : Nat} (hp : idxP (fun c => eqB (nm c) (nm x)) l = some i) : (l.set i x).map nm = l.map nm := by
 obtain ⟨hi, hk, -⟩ := idxP_some hp; rw [List.map_set]; refine List.ext_getElem? fun j => ?_
 rw [List.getElem?_set]; split
 ·rename_i e; subst e; rw [List.length_map, if_pos hi, List.getElem?_map, List.getElem?_eq_getElem hi]; exact congrArg some (eqB_iff.1 hk).symm
 ·rfl
theorem PIn.set (h : PIn nm U l) {x : α} {i : Nat} (hp : idxP (fun c => eqB (nm c) (nm x)) l = some i) : PIn nm U (l.set i x) := by
 have e := set_names hp; exact ⟨by rw [e]; exact h.1, by rw [e]; exact h.2⟩
end
structure KnU (U : List ByteArray) (c : ClP) : Prop where
 fs : PIn id U c.fs
 cs : PIn CoP.nm U c.cs
 ps : PIn PrP.nm U c.ps
 ms : PIn MtP.nm U c.ms
structure DeU (U : List ByteArray) (d : ClP) : Prop where
 fs : ∀ x ∈ d.fs, x ∈ U
 cs : ∀ x ∈ d.cs, x.nm ∈ U
 ps : ∀ x ∈ d.ps, x.nm ∈ U
 ms : ∀ x ∈ d.ms, x.nm ∈ U
 ad : ∀ a ∈ d.ad, a.sa ∈ U
 sm : SmC d
structure SmU (U : List ByteArray) : Prop where
 len : U.length ≤ 1048576
 size : ∀ u ∈ U, u.size ≤ 1048576
theorem KnU.nil (U : List ByteArray) : KnU U ClP.nil := ⟨PIn.nil, PIn.nil, PIn.nil, PIn.nil⟩
section
variable {U : List ByteArray} {c : ClP}
theorem KnU.lfs (h : KnU U c) (hU : SmU U) : c.fs.length ≤ 1048576 := Nat.le_trans h.fs.len hU.len
theorem KnU.lcs (h : KnU U c) (hU : SmU U) : c.cs.length ≤ 1048576 := Nat.le_trans h.cs.len hU.len
theorem KnU.lps (h : KnU U c) (hU : SmU U) : c.ps.length ≤ 1048576 := Nat.le_trans h.ps.len hU.len
theorem KnU.lms (h : KnU U c) (hU : SmU U) : c.ms.length ≤ 1048576 := Nat.le_trans h.ms.len hU.len
end
def PIf (U : List ByteArray) (st : List ByteArray × List ByteArray) : Prop := PIn id U st.1 ∧ st.2.length ≤ st.1.length ∧ ∀ x ∈ st.2, x ∈ st.1
theorem hasB_none {l : List ByteArray} {y : ByteArray} (h : hasB l y = false) : idxP (fun c => eqB (id c) (id y)) l = none := by
 refine idxP_no fun j hj => ?_
 unfold hasB at h; have := (List.any_eq_false.1 h) l[j] (List.getElem_mem hj); rw [eqB_comm]; simpa using this
theorem PIf.push {U : List ByteArray} {fs hs : List ByteArray} {y : ByteArray} (h : PIf U (fs, hs)) (hy : hasB fs y = false) (hu : y ∈ U) : PIf U (fs ++ [y], hs ++ [y]) := by
 refine ⟨h.1.push hu (hasB_none hy), ?_, fun x hx => ?_⟩
 ·have h9 : hs.length ≤ fs.length := h.2.1; show (hs ++ [y]).length ≤ (fs ++ [y]).length
  rw [List.length_append, List.length_append]; omega
 ·rcases List.mem_append.1 hx with hx | hx
  ·exact List.mem_append_left _ (h.2.2 x hx)
  ·exact List.mem_append_right _ hx
theorem PIf.len {U : List ByteArray} {st : List ByteArray × List ByteArray} (h : PIf U st) (hU : SmU U) : st.1.length ≤ 1048576 ∧ st.2.length ≤ 1048576 := by
 have := h.1.len; have := h.2.1; have := hU.len; omega
theorem propP_keeps {U : List ByteArray} {nm : ByteArray} {x : PrP} {tr : Bool} {st st' : List PrP × List ByteArray} (h : PIn PrP.nm U st.1) (hx : x.nm ∈ U) (he : propP nm x tr st = .ok st') : PIn PrP.nm U st'.1 := by
 unfold propP at he; cases hp : placeP st.1 x.nm with
 | none =>
  rw [hp] at he; cases he; exact h.push (x := ⟨x.nm, x.st, nm, x.cd⟩) hx hp
 | some i =>
  rw [hp] at he; have hi := (idxP_some hp).1; simp only at he; rw [List.getElem?_eq_getElem hi] at he; simp only at he; split at he
  ·cases he
  ·split at he
   ·cases he; exact h
   ·split at he
    ·cases he
    ·cases he; exact h.set (x := ⟨x.nm, x.st, nm, x.cd⟩) hp
theorem methodP_keeps {U : List ByteArray} {d : ClP} {m : MtP} {tr : Bool} {st st' : List MtP × List (ByteArray × Bool)} (h : PIn MtP.nm U st.1) (hx : m.nm ∈ U) (he : methodP d m tr st = .ok st') : PIn MtP.nm U st'.1 := by
 unfold methodP at he; simp only at he; cases hp : placeM st.1 m.nm with
 | none =>
  rw [hp] at he; cases he; exact h.push (x := ⟨m.nm, m.st, m.ab, m.fi, d.nm, m.cd⟩) hx hp
 | some i =>
  rw [hp] at he; have hi := (idxP_some hp).1; simp only at he; rw [List.getElem?_eq_getElem hi] at he; simp only at he; split at he
  ·split at he
   ·cases he; exact h.set (x := ⟨m.nm, m.st, m.ab, m.fi, d.nm, m.cd⟩) hp
   ·split at he
    ·cases he
    ·cases he; exact h
  ·split at he
   ·cases he
   ·split at he
    ·cases he
    ·split at he
     ·cases he; exact h
     ·cases he; exact h.set (x := ⟨m.nm, m.st, m.ab, m.fi, d.nm, m.cd⟩) hp
theorem gifts_names {U : List ByteArray} {ad : List AdP} {rs : List KC} (ha : ∀ a ∈ ad, a.sa ∈ U) (hr : ∀ t ∈ rs, KnU U t.1) : ∀ m ∈ giftsP ad rs, m.nm ∈ U := by
 intro m hm; unfold giftsP at hm; rcases List.mem_append.1 hm with hm | hm
 ·unfold gifts1 at hm; obtain ⟨t, ht, hm⟩ := List.mem_flatMap.1 hm; exact (hr t ht).ms.mem (List.mem_filter.1 hm).1
 ·unfold gifts2 at hm; obtain ⟨a, haa, hm⟩ := List.mem_flatMap.1 hm; split at hm
  ·cases hm
  ·obtain ⟨t, _, rfl⟩ := List.mem_map.1 hm; exact ha a haa
theorem fKC_kn {U : List ByteArray} {kn : List KC} (h : ∀ x ∈ kn, KnU U x.1) (n : ByteArray) : KnU U (fKC kn n).1 := by
 unfold fKC; cases hf : findK kn n with
 | none => exact KnU.nil U
 | some x => exact h x (findK_mem' hf)
end Go.Proofs.YtobjmajkcfhpoaaDoor
