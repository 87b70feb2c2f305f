/-
  word and once (printed by genMap17.py).
-/
import Derived.Test.YtobjmajkcfhpoaaDoorWp3
namespace Go.Proofs.YtobjmajkcfhpoaaDoor
open Go.RowKit
attribute [local go_sem] yld_undef
set_option maxHeartbeats 800000 in
set_option maxRecDepth 100000 in
theorem word_any (s : ByteArray) (w : World) (ht : Tabs w) : Calls Tryd.prog 28 #[.string s] w (BoolPost w (wordP s)) := by
 have HN := name_any s w ht; obtain ⟨b, hb⟩ : ∃ b, b = nameP s.toList := ⟨_, rfl⟩; obtain ⟨c, hc⟩ : ∃ c, c = decide (0 ≤ Lib.indexByte s.data.toList 92) := ⟨_, rfl⟩; have HC := Hd (fun W => Tryd.strings_Contains_one s 92 W); unfold wordP; rw [← hb] at HN ⊢; rw [← hc] at HC ⊢; clear hb hc ht; cases b with
 | false =>
  go_enter Tryd.func28, Tryd.ntmps28; go_wp2_with fail; refine HN.mono ?_; rintro _ w1 ⟨rfl, hb1⟩; go_wp2_with fail; go_ret; exact ⟨rfl, hb1⟩
 | true =>
  go_enter Tryd.func28, Tryd.ntmps28; go_wp2_with fail; refine HN.mono ?_; rintro _ w1 ⟨rfl, hb1⟩; go_wp2_with fail; refine (HC.out _).mono ?_; rintro _ _ ⟨rfl, rfl⟩; go_wp2_with fail; go_ret; exact ⟨rfl, hb1⟩
def metF (met : List ByteArray) : ByteArray → Option Bool := fun s => if hasB met s = true then some true else none
theorem hasB_cons (x : ByteArray) (l : List ByteArray) (s : ByteArray) : hasB (x :: l) s = (eqB s x || hasB l s) := rfl
theorem metF_cons (met : List ByteArray) (q : ByteArray) : (fun y => if y = q then some true else metF met y) = metF (q :: met) := by
 funext y; unfold metF; rw [hasB_cons]; by_cases h : y = q
 ·rw [if_pos h, eqB_iff.2 h]; rfl
 ·rw [if_neg h, eqB_ne.2 h]; rfl
theorem metF_has (met : List ByteArray) (s : ByteArray) : (metF met s).getD false = hasB met s := by
 unfold metF; cases hasB met s <;> rfl
set_option maxHeartbeats 3200000 in
set_option maxRecDepth 100000 in
theorem once_nmP {A : Nat → Prop} {v : Value} {l : List ByteArray} {w : World} (hv : RIn A w 1 v (l.map sR)) (hl : l.length ≤ 1073741824) (hz : ∀ s ∈ l, s.size ≤ 1073741824) (ht : Tabs w) :
  Calls Tryd.prog 25 #[v, .func (.func 24) #[] #[]] w (BoolPost w (onceP nmP [] l)) := by
 have hmm := @run_makeMap Tryd.prog; obtain ⟨ao, cap, rfl, -, -⟩ := hv.form; rw [List.length_map] at hv ⊢; have HV := Hd hv; have HZ := Hd hz; have HT := Hd ht; obtain ⟨p, hp⟩ : ∃ p : ByteArray → Bool, p = nmP := ⟨_, rfl⟩; rw [← hp]; have HP : Hid (∀ s W, Tabs W → Calls Tryd.prog 24 #[.string s] W (BoolPost W (nmP s))) := Hd (fun s W hW => name_any s W hW); rw [← hp] at HP; obtain ⟨r, hr⟩ : ∃ r, r = onceP p [] l := ⟨_, rfl⟩; rw [← hr]; have HR0 : Hid (r = onceP p [] (l.drop 0)) := Hd hr; have M0 : Hid (0 ≤ 0 ∧ mSB.Is (w.alloc (.map #[] 0)) w.heap.size (metF []) 0 ∧ Below w.heap.size w (w.alloc (.map #[] 0))) := Hd ⟨Nat.le_refl _, (MSpec.made (S := mSB) w).congr (fun x _ => rfl), below_alloc1 w _⟩; clear hv hz ht hp hr; go_enter Tryd.func25, Tryd.ntmps25; go_wp2_with fail; go_loopw [7, 11] (fun _ kv wr => ∃ (j : Nat) (met : List ByteArray) (cnt : Nat), j ≤ l.length ∧ kv = .int .i64 j ∧ Hid (r = onceP p met (l.drop j)) ∧ Hid (cnt ≤ j ∧ mSB.Is wr w.heap.size (metF met) cnt ∧ Below w.heap.size w wr)) (fun _ kv _ => l.length - (intOf kv).toNat)
 case atStart => exact ⟨0, [], 0, Nat.zero_le _, rfl, HR0, M0⟩
 case round =>
  clear HR0 M0; obtain ⟨j, met, cnt, hj, rfl, HX, MX⟩ := hrel; by_cases hlt : j < l.length
  ·have hi : (j : Int) < (l.length : Int) := by omega
   obtain ⟨hw', hw⟩ := wr_sm (x := (j : Int) + 1) (by omega) (by omega); obtain ⟨x, g, off, cp, hget, hxm, -, e, hg, -, hc⟩ := s_cells HV.out hlt; cases e; have c0 := hc wr MX.out.2.2; have hxz : x.size ≤ maxLen := Nat.le_trans (HZ.out x hxm) (by unfold maxLen; omega); obtain ⟨f, hf⟩ : ∃ f, f = hasB met x := ⟨_, rfl⟩; have hlk : (Instr.lookup 49 (.map (some w.heap.size)) (.string x) false).run Tryd.prog wr = .ok (.bool f) wr := by
    rw [hf, ← metF_has]; exact MX.out.2.1.look1 (x := x) hxz
   obtain ⟨q, hq⟩ : ∃ q, q = p x := ⟨_, rfl⟩; have HPX := HP.out x wr (HT.out.mono MX.out.2.2); rw [← hq] at HPX; have HXN : Hid (r = if (f || !q) = true then false else onceP p (x :: met) (l.drop (j + 1))) := Hd (by
    obtain ⟨h1, h2⟩ := List.getElem?_eq_some_iff.1 hget; rw [HX.out, List.drop_eq_getElem_cons h1, h2, onceP, ← hf, ← hq])
   have HLT := Hd hlt; have HXZ := Hd hxz; clear hc hget hxm hf hq HX hlt hxz; cases f with
   | true =>
    have hrf : r = false := HXN.out; subst hrf; go_wp2_with fail; go_ret; exact ⟨rfl, MX.out.2.2⟩
   | false =>
    go_wp2_with fail; refine HPX.mono ?_; rintro _ w1 ⟨rfl, hb1⟩; have M1 : Hid (cnt ≤ j ∧ mSB.Is w1 w.heap.size (metF met) cnt ∧ Below w.heap.size w w1) := Hd ⟨MX.out.1, MX.out.2.1.under hb1, MX.out.2.2.trans (hb1.mono MX.out.2.2.size)⟩; clear hb1 HPX hlk; cases q with
    | false =>
     have hrf : r = false := HXN.out; subst hrf; go_wp2_with fail; go_ret; exact ⟨rfl, M1.out.2.2⟩
    | true =>
     have HX2 : Hid (r = onceP p (x :: met) (l.drop (j + 1))) := Hd HXN.out; obtain ⟨w2, hrun, hm2, hg2⟩ := M1.out.2.1.put (by have := M1.out.1; unfold maxLen; omega) (x := x) HXZ.out (a := true) trivial; rw [metF_cons] at hm2; have hrun : (Instr.mapUpdate 49 (.map (some w.heap.size)) (.string x) (.bool true)).run Tryd.prog w1 = .ok () w2 := hrun; have M2 : Hid (∃ cnt, cnt ≤ j + 1 ∧ mSB.Is w2 w.heap.size (metF (x :: met)) cnt ∧ Below w.heap.size w w2) := Hd ⟨_, by have := M1.out.1; split <;> omega, hm2, ⟨hg2.os.trans M1.out.2.2.os, hg2.tape.trans M1.out.2.2.tape, hg2.output.trans M1.out.2.2.output, Nat.le_trans M1.out.2.2.size hg2.size, fun k hk => (hg2.block k (Nat.lt_of_lt_of_le hk M1.out.2.2.size) (fun e => by cases e; omega)).trans (M1.out.2.2.block k hk)⟩⟩; clear hm2 hg2; go_wp2_with fail; go_roundw
     case rel =>
      obtain ⟨cnt2, h1, h2, h3⟩ := M2.out; exact ⟨j + 1, x :: met, cnt2, HLT.out, by go_num, HX2, Hd ⟨h1, h2, h3⟩⟩
     case measure => have := HLT.out; simp [intOf]; omega
  ·obtain rfl : j = l.length := by omega
   have hrt : r = true := by rw [HX.out, List.drop_length, onceP]
   subst hrt; go_wp2_with fail; go_ret; exact ⟨rfl, MX.out.2.2⟩
set_option maxHeartbeats 3200000 in
set_option maxRecDepth 100000 in
theorem once_wordP {A : Nat → Prop} {v : Value} {l : List ByteArray} {w : World} (hv : RIn A w 1 v (l.map sR)) (hl : l.length ≤ 1073741824) (hz : ∀ s ∈ l, s.size ≤ 1073741824) (ht : Tabs w) :
  Calls Tryd.prog 25 #[v, .func (.func 28) #[] #[]] w (BoolPost w (onceP wordP [] l)) := by
 have hmm := @run_makeMap Tryd.prog; obtain ⟨ao, cap, rfl, -, -⟩ := hv.form; rw [List.length_map] at hv ⊢; have HV := Hd hv; have HZ := Hd hz; have HT := Hd ht; obtain ⟨p, hp⟩ : ∃ p : ByteArray → Bool, p = wordP := ⟨_, rfl⟩; rw [← hp]; have HP : Hid (∀ s W, Tabs W → Calls Tryd.prog 28 #[.string s] W (BoolPost W (wordP s))) := Hd (fun s W hW => word_any s W hW); rw [← hp] at HP; obtain ⟨r, hr⟩ : ∃ r, r = onceP p [] l := ⟨_, rfl⟩; rw [← hr]; have HR0 : Hid (r = onceP p [] (l.drop 0)) := Hd hr; have M0 : Hid (0 ≤ 0 ∧ mSB.Is (w.alloc (.map #[] 0)) w.heap.size (metF []) 0 ∧ Below w.heap.size w (w.alloc (.map #[] 0))) := Hd ⟨Nat.le_refl _, (MSpec.made (S := mSB) w).congr (fun x _ => rfl), below_alloc1 w _⟩; clear hv hz ht hp hr; go_enter Tryd.func25, Tryd.ntmps25; go_wp2_with fail; go_loopw [7, 11] (fun _ kv wr => ∃ (j : Nat) (met : List ByteArray) (cnt : Nat), j ≤ l.length ∧ kv = .int .i64 j ∧ Hid (r = onceP p met (l.drop j)) ∧ Hid (cnt ≤ j ∧ mSB.Is wr w.heap.size (metF met) cnt ∧ Below w.heap.size w wr)) (fun _ kv _ => l.length - (intOf kv).toNat)
 case atStart => exact ⟨0, [], 0, Nat.zero_le _, rfl, HR0, M0⟩
 case round =>
  clear HR0 M0; obtain ⟨j, met, cnt, hj, rfl, HX, MX⟩ := hrel; by_cases hlt : j < l.length
  ·have hi : (j : Int) < (l.length : Int) := by omega
   obtain ⟨hw', hw⟩ := wr_sm (x := (j : Int) + 1) (by omega) (by omega); obtain ⟨x, g, off, cp, hget, hxm, -, e, hg, -, hc⟩ := s_cells HV.out hlt; cases e; have c0 := hc wr MX.out.2.2; have hxz : x.size ≤ maxLen := Nat.le_trans (HZ.out x hxm) (by unfold maxLen; omega); obtain ⟨f, hf⟩ : ∃ f, f = hasB met x := ⟨_, rfl⟩; have hlk : (Instr.lookup 49 (.map (some w.heap.size)) (.string x) false).run Tryd.prog wr = .ok (.bool f) wr := by
    rw [hf, ← metF_has]; exact MX.out.2.1.look1 (x := x) hxz
   obtain ⟨q, hq⟩ : ∃ q, q = p x := ⟨_, rfl⟩; have HPX := HP.out x wr (HT.out.mono MX.out.2.2); rw [← hq] at HPX; have HXN : Hid (r = if (f || !q) = true then false else onceP p (x :: met) (l.drop (j + 1))) := Hd (by
    obtain ⟨h1, h2⟩ := List.getElem?_eq_some_iff.1 hget; rw [HX.out, List.drop_eq_getElem_cons h1, h2, onceP, ← hf, ← hq])
   have HLT := Hd hlt; have HXZ := Hd hxz; clear hc hget hxm hf hq HX hlt hxz; cases f with
   | true =>
    have hrf : r = false := HXN.out; subst hrf; go_wp2_with fail; go_ret; exact ⟨rfl, MX.out.2.2⟩
   | false =>
    go_wp2_with fail; refine HPX.mono ?_; rintro _ w1 ⟨rfl, hb1⟩; have M1 : Hid (cnt ≤ j ∧ mSB.Is w1 w.heap.size (metF met) cnt ∧ Below w.heap.size w w1) := Hd ⟨MX.out.1, MX.out.2.1.under hb1, MX.out.2.2.trans (hb1.mono MX.out.2.2.size)⟩; clear hb1 HPX hlk; cases q with
    | false =>
     have hrf : r = false := HXN.out; subst hrf; go_wp2_with fail; go_ret; exact ⟨rfl, M1.out.2.2⟩
    | true =>
     have HX2 : Hid (r = onceP p (x :: met) (l.drop (j + 1))) := Hd HXN.out; obtain ⟨w2, hrun, hm2, hg2⟩ := M1.out.2.1.put (by have := M1.out.1; unfold maxLen; omega) (x := x) HXZ.out (a := true) trivial; rw [metF_cons] at hm2; have hrun : (Instr.mapUpdate 49 (.map (some w.heap.size)) (.string x) (.bool true)).run Tryd.prog w1 = .ok () w2 := hrun; have M2 : Hid (∃ cnt, cnt ≤ j + 1 ∧ mSB.Is w2 w.heap.size (metF (x :: met)) cnt ∧ Below w.heap.size w w2) := Hd ⟨_, by have := M1.out.1; split <;> omega, hm2, ⟨hg2.os.trans M1.out.2.2.os, hg2.tape.trans M1.out.2.2.tape, hg2.output.trans M1.out.2.2.output, Nat.le_trans M1.out.2.2.size hg2.size, fun k hk => (hg2.block k (Nat.lt_of_lt_of_le hk M1.out.2.2.size) (fun e => by cases e; omega)).trans (M1.out.2.2.block k hk)⟩⟩; clear hm2 hg2; go_wp2_with fail; go_roundw
     case rel =>
      obtain ⟨cnt2, h1, h2, h3⟩ := M2.out; exact ⟨j + 1, x :: met, cnt2, HLT.out, by go_num, HX2, Hd ⟨h1, h2, h3⟩⟩
     case measure => have := HLT.out; simp [intOf]; omega
  ·obtain rfl : j = l.length := by omega
   have hrt : r = true := by rw [HX.out, List.drop_length, onceP]
   subst hrt; go_wp2_with fail; go_ret; exact ⟨rfl, MX.out.2.2⟩
end Go.Proofs.YtobjmajkcfhpoaaDoor
