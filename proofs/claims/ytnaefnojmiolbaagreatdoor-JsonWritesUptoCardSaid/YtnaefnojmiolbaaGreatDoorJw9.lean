/-
  JSON, the document's side: the rune that begins at a byte (printed by genRuneRZ.py).
  JSON, the document's side: whether a text is UTF-8 (printed by genUtf8RZ.py).
-/
import Derived.Test.YtnaefnojmiolbaaGreatDoorJw1
import Derived.Test.YtnaefnojmiolbaaGreatDoorJw8
import Derived.Lib.EndianBits
import Derived.LoopN
import Derived.Lib.ValidLaws
namespace Go.Proofs.YtnaefnojmiolbaaGreatDoor
open Go.RowKit

def finR (n low c : Nat) : Nat × Nat := if c < low ∨ 1114111 < c ∨ (55296 ≤ c ∧ c ≤ 57343) then (0, 0) else (c, n)
def contR (l : Bs) (n low : Nat) : Nat → Nat → Nat → Nat × Nat
  | 0, _, c => finR n low c
  | f + 1, j, c => if (l.getD j 0).toNat / 64 = 2 then contR l n low f (j + 1) (c * 64 + (l.getD j 0).toNat % 64) else (0, 0)
def moreR (l : Bs) (n low c : Nat) : Nat × Nat := if l.length < n then (0, 0) else contR l n low (n - 1) 1 c
/-- The rune that begins a text, and its bytes; none: no bytes. -/
def runeR (l : Bs) : Nat × Nat :=
  if l = [] then (0, 0)
  else if (l.getD 0 0).toNat < 128 then ((l.getD 0 0).toNat, 1)
  else if 194 ≤ (l.getD 0 0).toNat ∧ (l.getD 0 0).toNat ≤ 223 then moreR l 2 128 ((l.getD 0 0).toNat % 32)
  else if 224 ≤ (l.getD 0 0).toNat ∧ (l.getD 0 0).toNat ≤ 239 then moreR l 3 2048 ((l.getD 0 0).toNat % 16)
  else if 240 ≤ (l.getD 0 0).toNat ∧ (l.getD 0 0).toNat ≤ 244 then moreR l 4 65536 ((l.getD 0 0).toNat % 8)
  else (0, 0)
theorem runeR_eq {l : Bs} (h : l ≠ []) : runeR l = if (Lib.decodeL l).1 = 65533 ∧ (Lib.decodeL l).2 = 1 then (0, 0) else Lib.decodeL l := by
  have k0 := (l.getD 0 0).toNat_lt
  have k1 := (l.getD 1 0).toNat_lt
  have k2 := (l.getD 2 0).toNat_lt
  have k3 := (l.getD 3 0).toNat_lt
  have hn : 0 < l.length := List.length_pos_iff.2 h
  rw [Lib.decodeL_N]
  unfold runeR moreR
  rw [if_neg h]
  simp only [contR, finR, show 2 - 1 = 1 from rfl, show 3 - 1 = 2 from rfl, show 4 - 1 = 3 from rfl, show 1 + 1 = 2 from rfl, show 2 + 1 = 3 from rfl]
  generalize (l.getD 0 0).toNat = b0 at *
  generalize (l.getD 1 0).toNat = b1 at *
  generalize (l.getD 2 0).toNat = b2 at *
  generalize (l.getD 3 0).toNat = b3 at *
  generalize l.length = n at *
  clear h
  have bad : ∀ {D : Nat × Nat}, D = (65533, 1) → ((0, 0) : Nat × Nat) = if D.1 = 65533 ∧ D.2 = 1 then (0, 0) else D := fun e => by rw [e]; rfl
  have good : ∀ {D : Nat × Nat} {x k : Nat}, D = (x, k) → k ≠ 1 → (x, k) = if D.1 = 65533 ∧ D.2 = 1 then (0, 0) else D := fun e h => by rw [e, if_neg (fun h2 => h h2.2)]
  by_cases c1 : b0 < 128
  · rw [if_pos c1]
    have e : Lib.decodeN n b0 b1 b2 b3 = (b0, 1) := by unfold Lib.decodeN; rw [if_pos c1]
    rw [e, if_neg (fun h2 => by have : b0 = 65533 := h2.1; omega)]
  rw [if_neg c1]
  by_cases c2 : 194 ≤ b0 ∧ b0 ≤ 223
  · rw [if_pos c2]
    by_cases e1 : n < 2
    · rw [if_pos e1]
      exact bad (by unfold Lib.decodeN; rw [if_neg c1, if_neg (by omega), if_neg (by omega), if_neg (by omega)])
    rw [if_neg e1]
    by_cases e2 : b1 / 64 = 2
    · rw [if_pos e2, if_neg (by omega)]
      exact good (by unfold Lib.decodeN; rw [if_neg c1, if_pos (by omega), if_pos (by omega)]) (by decide)
    · rw [if_neg e2]
      exact bad (by unfold Lib.decodeN; rw [if_neg c1, if_neg (by omega), if_neg (by omega), if_neg (by omega)])
  rw [if_neg c2]
  by_cases c3 : 224 ≤ b0 ∧ b0 ≤ 239
  · rw [if_pos c3]
    by_cases e1 : n < 3
    · rw [if_pos e1]
      exact bad (by unfold Lib.decodeN; rw [if_neg c1, if_neg (by omega), if_neg (by omega), if_neg (by omega)])
    rw [if_neg e1]
    by_cases e2 : b1 / 64 = 2
    · rw [if_pos e2]
      by_cases e3 : b2 / 64 = 2
      · rw [if_pos e3, show (b0 % 16 * 64 + b1 % 64) * 64 + b2 % 64 = b0 % 16 * 4096 + b1 % 64 * 64 + b2 % 64 by omega]
        by_cases e4 : b0 % 16 * 4096 + b1 % 64 * 64 + b2 % 64 < 2048 ∨ 1114111 < b0 % 16 * 4096 + b1 % 64 * 64 + b2 % 64 ∨ (55296 ≤ b0 % 16 * 4096 + b1 % 64 * 64 + b2 % 64 ∧ b0 % 16 * 4096 + b1 % 64 * 64 + b2 % 64 ≤ 57343)
        · rw [if_pos e4]
          exact bad (by unfold Lib.decodeN; rw [if_neg c1, if_neg (by omega), if_pos (by omega), if_neg (by omega)])
        · rw [if_neg e4]
          exact good (by unfold Lib.decodeN; rw [if_neg c1, if_neg (by omega), if_pos (by omega), if_pos (by omega)]) (by decide)
      · rw [if_neg e3]
        exact bad (by unfold Lib.decodeN; rw [if_neg c1, if_neg (by omega), if_neg (by omega), if_neg (by omega)])
    · rw [if_neg e2]
      exact bad (by unfold Lib.decodeN; rw [if_neg c1, if_neg (by omega), if_neg (by omega), if_neg (by omega)])
  rw [if_neg c3]
  by_cases c4 : 240 ≤ b0 ∧ b0 ≤ 244
  · rw [if_pos c4]
    by_cases e1 : n < 4
    · rw [if_pos e1]
      exact bad (by unfold Lib.decodeN; rw [if_neg c1, if_neg (by omega), if_neg (by omega), if_neg (by omega)])
    rw [if_neg e1]
    by_cases e2 : b1 / 64 = 2
    · rw [if_pos e2]
      by_cases e3 : b2 / 64 = 2
      · rw [if_pos e3]
        by_cases e5 : b3 / 64 = 2
        · rw [if_pos e5, show ((b0 % 8 * 64 + b1 % 64) * 64 + b2 % 64) * 64 + b3 % 64 = b0 % 8 * 262144 + b1 % 64 * 4096 + b2 % 64 * 64 + b3 % 64 by omega]
          by_cases e4 : b0 % 8 * 262144 + b1 % 64 * 4096 + b2 % 64 * 64 + b3 % 64 < 65536 ∨ 1114111 < b0 % 8 * 262144 + b1 % 64 * 4096 + b2 % 64 * 64 + b3 % 64 ∨ (55296 ≤ b0 % 8 * 262144 + b1 % 64 * 4096 + b2 % 64 * 64 + b3 % 64 ∧ b0 % 8 * 262144 + b1 % 64 * 4096 + b2 % 64 * 64 + b3 % 64 ≤ 57343)
          · rw [if_pos e4]
            exact bad (by unfold Lib.decodeN; rw [if_neg c1, if_neg (by omega), if_neg (by omega), if_pos (by omega), if_neg (by omega)])
          · rw [if_neg e4]
            exact good (by unfold Lib.decodeN; rw [if_neg c1, if_neg (by omega), if_neg (by omega), if_pos (by omega), if_pos (by omega)]) (by decide)
        · rw [if_neg e5]
          exact bad (by unfold Lib.decodeN; rw [if_neg c1, if_neg (by omega), if_neg (by omega), if_neg (by omega)])
      · rw [if_neg e3]
        exact bad (by unfold Lib.decodeN; rw [if_neg c1, if_neg (by omega), if_neg (by omega), if_neg (by omega)])
    · rw [if_neg e2]
      exact bad (by unfold Lib.decodeN; rw [if_neg c1, if_neg (by omega), if_neg (by omega), if_neg (by omega)])
  · rw [if_neg c4]
    refine bad ?_
    unfold Lib.decodeN
    rw [if_neg c1]
    by_cases e1 : b0 / 32 = 6 ∧ (1 < n ∧ b1 / 64 = 2)
    · rw [if_pos e1, if_neg (by omega)]
    rw [if_neg e1, if_neg (by omega)]
    by_cases e2 : b0 / 8 = 30 ∧ (1 < n ∧ b1 / 64 = 2) ∧ (2 < n ∧ b2 / 64 = 2) ∧ (3 < n ∧ b3 / 64 = 2)
    · rw [if_pos e2, if_neg (by omega)]
    · rw [if_neg e2]
theorem and_mask {k i : Nat} (hi : i ≤ 63) (hk : k < 9223372036854775808) : bits .and .i64 (k : Int) (2 ^ i - 1) = ((k % 2 ^ i : Nat) : Int) := by
  rw [bits_mask .i64 63 (by decide) (fun n h0 h1 => wrap_in (by omega) (by omega)) i hi (k : Int) (by omega) (by omega)]
  simp
theorem or_64 {a d : Nat} (ha : a < 4194304) (hd : d < 64) : bits .or .i64 ((a * 64 : Nat) : Int) (d : Int) = ((a * 64 + d : Nat) : Int) := by
  rw [bits_join .i64 63 (by decide) (fun n h0 h1 => wrap_in (by omega) (by omega)) 6 ((a * 64 : Nat) : Int) d (by omega) (by omega) (by omega) (by omega) (by omega) (by omega)]
  omega
/-- What Rune answers. -/
def RunePost (w : World) (x : Nat × Nat) (e : Ending) (w' : World) : Prop := e = .returned (.tuple #[.int .i64 x.1, .int .i64 x.2]) ∧ w' = w
theorem list_at (s : ByteArray) (i k : Nat) (h : i + k < s.size) : (s.toList.drop i).getD k 0 = s[i + k] := by
  rw [List.getD, List.getElem?_drop, List.getElem?_eq_getElem (by rw [size_toList]; exact h), toList_at h]
  rfl
set_option maxHeartbeats 6400000 in
set_option maxRecDepth 100000 in
theorem rrune_any (s : ByteArray) (i : Nat) (hi : i ≤ 140737488355328) (_hs : s.size ≤ 140737488355328) (w : World) : Calls Tryz.prog 93 #[.string s, .int .i64 i] w (RunePost w (runeR (s.toList.drop i))) := by
  obtain ⟨x, hx⟩ : ∃ x, x = runeR (s.toList.drop i) := ⟨_, rfl⟩
  rw [← hx]
  have hdl : (s.toList.drop i).length = s.size - i := by rw [List.length_drop, size_toList]
  by_cases hlt : i < s.size
  rotate_left
  · have hxe : x = (0, 0) := by
      rw [hx, runeR, if_pos (List.length_eq_zero_iff.1 (by omega))]
    have hge : ¬ i < s.size := hlt
    have hge2 : (s.size : Int) ≤ (i : Int) := by omega
    subst hxe
    clear hx hdl hlt
    go_enter Tryz.func93, Tryz.ntmps93
    go_wp2_with fail
    go_ret2
    exact ⟨rfl, rfl⟩
  have hne : s.toList.drop i ≠ [] := fun e => by rw [e] at hdl; simp at hdl; omega
  have h0 := list_at s i 0 hlt
  obtain ⟨b, hb⟩ : ∃ b, s[i].toNat = b := ⟨_, rfl⟩
  have hg0 : (((s.toList.drop i).getD 0 0).toNat) = b := by rw [h0]; exact hb
  have hb256 : b < 256 := by rw [← hb]; exact s[i].toNat_lt
  rw [runeR, if_neg hne, hg0] at hx
  unfold moreR at hx
  rw [hdl] at hx
  clear hne h0 hg0 hdl
  by_cases c1 : b < 128
  · rw [if_pos c1] at hx
    subst hx
    go_enter Tryz.func93, Tryz.ntmps93
    go_wp2_with fail
    go_ret2
    exact ⟨rfl, rfl⟩
  rw [if_neg c1] at hx
  by_cases c2 : 194 ≤ b ∧ b ≤ 223
  · rw [if_pos c2] at hx
    have p1 := c2.1
    have p2 := c2.2
    clear c2
    obtain ⟨m0, hm0⟩ : ∃ m, m = b % 32 := ⟨_, rfl⟩
    have A0 : Hid (bits .and .i64 (b : Int) 31 = (m0 : Int)) := Lib.hid (by rw [hm0]; exact and_mask (k := b) (i := 5) (by decide) (by omega))
    have WN := Lib.hid (wr_sm (x := (i : Int) + 2) (by omega) (by omega))
    by_cases hsh : s.size - i < 2
    · rw [if_pos hsh] at hx
      have hgt : (s.size : Int) < (i : Int) + 2 := by omega
      subst hx
      clear hm0 hsh
      obtain ⟨hwn', hwn⟩ := WN.out
      have a0 := A0.out
      go_enter Tryz.func93, Tryz.ntmps93
      go_wp2_with fail
      go_ret2
      exact ⟨rfl, rfl⟩
    rw [if_neg hsh, ← hm0] at hx
    have hle : (i : Int) + 2 ≤ (s.size : Int) := by omega
    simp only [contR, show 2 - 1 = 1 from rfl] at hx
    have hk1 : i + 1 < s.size := by omega
    obtain ⟨d1, hd1⟩ : ∃ d, s[i + 1].toNat = d := ⟨_, rfl⟩
    have hd1b : d1 < 256 := by rw [← hd1]; exact s[i + 1].toNat_lt
    have hgd1 : ((s.toList.drop i).getD 1 0).toNat = d1 := by rw [list_at s i 1 hk1]; exact hd1
    have W1 := Lib.hid (wr_sm (x := (i : Int) + 1) (by omega) (by omega))
    have G1 : Hid (∀ h : i + 1 < s.size, (s[i + 1]'h).toNat = d1) := Lib.hid (fun _ => hd1)
    have HK1 := Lib.hid hk1
    clear hd1 hk1
    rw [hgd1] at hx
    by_cases e1 : d1 / 64 = 2
    rotate_left
    · rw [if_neg e1] at hx
      have HV : Hid ((d1 : Int) / 64 = 0 ∨ (d1 : Int) / 64 = 1 ∨ (d1 : Int) / 64 = 3) := Lib.hid (by omega)
      subst hx
      clear hgd1 hm0 hsh e1 hd1b hb256
      obtain ⟨hwn', hwn⟩ := WN.out
      have a0 := A0.out
      go_enter Tryz.func93, Tryz.ntmps93
      go_wp2_with fail
      clear hwn' hwn a0
      refine wp_loop_rounds 1 ?_
      rw [rounds_succ]
      obtain ⟨hw1', hw1⟩ := W1.out
      have hk1 := HK1.out
      have hd1 := G1.out hk1
      have hv3 := HV.out
      clear HV HK1 G1 W1
      rcases hv3 with hv | hv | hv
      · go_wp2_with fail
        go_ret2
        exact ⟨rfl, rfl⟩
      · go_wp2_with fail
        go_ret2
        exact ⟨rfl, rfl⟩
      go_wp2_with fail
      go_ret2
      exact ⟨rfl, rfl⟩
    rw [if_pos e1] at hx
    have HE1 : Hid ((d1 : Int) / 64 = 2) := Lib.hid (by omega)
    obtain ⟨r1, hr1⟩ : ∃ r, r = d1 % 64 := ⟨_, rfl⟩
    have AR1 : Hid (bits .and .i64 (d1 : Int) 63 = (r1 : Int)) := Lib.hid (by rw [hr1]; exact and_mask (k := d1) (i := 6) (by decide) (by omega))
    obtain ⟨t1, ht1⟩ : ∃ t, t = m0 * 64 := ⟨_, rfl⟩
    have AS1 : Hid (IntKind.i64.wrap ((m0 : Int) * 64) = (t1 : Int) ∧ wrap64 ((m0 : Int) * 64) = (t1 : Int)) := Lib.hid ⟨by rw [wrap_in (by omega) (by omega), ht1]; omega, by rw [wr64 (by omega) (by omega), ht1]; omega⟩
    obtain ⟨c_1, hc1⟩ : ∃ c, c = m0 * 64 + r1 := ⟨_, rfl⟩
    have AO1 : Hid (bits .or .i64 (t1 : Int) (r1 : Int) = (c_1 : Int)) := Lib.hid (by rw [ht1, hc1]; exact or_64 (by omega) (by omega))
    rw [← hr1, ← hc1] at hx
    clear e1
    unfold finR at hx
    have q1 : decide ((c_1 : Int) < 128) = false := by simp; omega
    have q2 : decide ((1114111 : Int) < (c_1 : Int)) = false := by simp; omega
    have q3 : decide ((55296 : Int) ≤ (c_1 : Int)) = false := by simp; omega
    rw [if_neg (by omega)] at hx
    subst hx
    have HQ := Lib.hid (⟨q1, q2, q3, trivial⟩ : _ ∧ _ ∧ _ ∧ True)
    clear q1 q2 q3 hm0 hsh hb256 hgd1 hr1 hc1 ht1 hd1b
    obtain ⟨hwn', hwn⟩ := WN.out
    have a0 := A0.out
    go_enter Tryz.func93, Tryz.ntmps93
    go_wp2_with fail
    clear hwn' hwn a0
    refine wp_loop_rounds 2 ?_
    rw [rounds_succ]
    obtain ⟨hw1', hw1⟩ := W1.out
    have hk1 := HK1.out
    have hd1 := G1.out hk1
    have he1 := HE1.out
    have ar1 := AR1.out
    obtain ⟨as1, as1'⟩ := AS1.out
    have ao1 := AO1.out
    go_wp2_with fail
    clear hd1 hk1 hw1' hw1 ar1 as1 as1' ao1 he1
    rw [rounds_succ]
    obtain ⟨q1, q2, q3, -⟩ := HQ.out
    go_wp2_with fail
    go_ret2
    exact ⟨rfl, rfl⟩
  rw [if_neg c2] at hx
  by_cases c3 : 224 ≤ b ∧ b ≤ 239
  · rw [if_pos c3] at hx
    have p1 := c3.1
    have p2 := c3.2
    clear c2 c3
    obtain ⟨m0, hm0⟩ : ∃ m, m = b % 16 := ⟨_, rfl⟩
    have A0 : Hid (bits .and .i64 (b : Int) 15 = (m0 : Int)) := Lib.hid (by rw [hm0]; exact and_mask (k := b) (i := 4) (by decide) (by omega))
    have WN := Lib.hid (wr_sm (x := (i : Int) + 3) (by omega) (by omega))
    by_cases hsh : s.size - i < 3
    · rw [if_pos hsh] at hx
      have hgt : (s.size : Int) < (i : Int) + 3 := by omega
      subst hx
      clear hm0 hsh
      obtain ⟨hwn', hwn⟩ := WN.out
      have a0 := A0.out
      go_enter Tryz.func93, Tryz.ntmps93
      go_wp2_with fail
      go_ret2
      exact ⟨rfl, rfl⟩
    rw [if_neg hsh, ← hm0] at hx
    have hle : (i : Int) + 3 ≤ (s.size : Int) := by omega
    simp only [contR, show 3 - 1 = 2 from rfl] at hx
    have hk1 : i + 1 < s.size := by omega
    obtain ⟨d1, hd1⟩ : ∃ d, s[i + 1].toNat = d := ⟨_, rfl⟩
    have hd1b : d1 < 256 := by rw [← hd1]; exact s[i + 1].toNat_lt
    have hgd1 : ((s.toList.drop i).getD 1 0).toNat = d1 := by rw [list_at s i 1 hk1]; exact hd1
    have W1 := Lib.hid (wr_sm (x := (i : Int) + 1) (by omega) (by omega))
    have G1 : Hid (∀ h : i + 1 < s.size, (s[i + 1]'h).toNat = d1) := Lib.hid (fun _ => hd1)
    have HK1 := Lib.hid hk1
    clear hd1 hk1
    rw [hgd1] at hx
    by_cases e1 : d1 / 64 = 2
    rotate_left
    · rw [if_neg e1] at hx
      have HV : Hid ((d1 : Int) / 64 = 0 ∨ (d1 : Int) / 64 = 1 ∨ (d1 : Int) / 64 = 3) := Lib.hid (by omega)
      subst hx
      clear hgd1 hm0 hsh e1 hd1b hb256
      obtain ⟨hwn', hwn⟩ := WN.out
      have a0 := A0.out
      go_enter Tryz.func93, Tryz.ntmps93
      go_wp2_with fail
      clear hwn' hwn a0
      refine wp_loop_rounds 1 ?_
      rw [rounds_succ]
      obtain ⟨hw1', hw1⟩ := W1.out
      have hk1 := HK1.out
      have hd1 := G1.out hk1
      have hv3 := HV.out
      clear HV HK1 G1 W1
      rcases hv3 with hv | hv | hv
      · go_wp2_with fail
        go_ret2
        exact ⟨rfl, rfl⟩
      · go_wp2_with fail
        go_ret2
        exact ⟨rfl, rfl⟩
      go_wp2_with fail
      go_ret2
      exact ⟨rfl, rfl⟩
    rw [if_pos e1] at hx
    have HE1 : Hid ((d1 : Int) / 64 = 2) := Lib.hid (by omega)
    obtain ⟨r1, hr1⟩ : ∃ r, r = d1 % 64 := ⟨_, rfl⟩
    have AR1 : Hid (bits .and .i64 (d1 : Int) 63 = (r1 : Int)) := Lib.hid (by rw [hr1]; exact and_mask (k := d1) (i := 6) (by decide) (by omega))
    obtain ⟨t1, ht1⟩ : ∃ t, t = m0 * 64 := ⟨_, rfl⟩
    have AS1 : Hid (IntKind.i64.wrap ((m0 : Int) * 64) = (t1 : Int) ∧ wrap64 ((m0 : Int) * 64) = (t1 : Int)) := Lib.hid ⟨by rw [wrap_in (by omega) (by omega), ht1]; omega, by rw [wr64 (by omega) (by omega), ht1]; omega⟩
    obtain ⟨c_1, hc1⟩ : ∃ c, c = m0 * 64 + r1 := ⟨_, rfl⟩
    have AO1 : Hid (bits .or .i64 (t1 : Int) (r1 : Int) = (c_1 : Int)) := Lib.hid (by rw [ht1, hc1]; exact or_64 (by omega) (by omega))
    rw [← hr1, ← hc1] at hx
    clear e1
    have hk2 : i + 2 < s.size := by omega
    obtain ⟨d2, hd2⟩ : ∃ d, s[i + 2].toNat = d := ⟨_, rfl⟩
    have hd2b : d2 < 256 := by rw [← hd2]; exact s[i + 2].toNat_lt
    have hgd2 : ((s.toList.drop i).getD 2 0).toNat = d2 := by rw [list_at s i 2 hk2]; exact hd2
    have W2 := Lib.hid (wr_sm (x := (i : Int) + 2) (by omega) (by omega))
    have G2 : Hid (∀ h : i + 2 < s.size, (s[i + 2]'h).toNat = d2) := Lib.hid (fun _ => hd2)
    have HK2 := Lib.hid hk2
    clear hd2 hk2
    rw [hgd2] at hx
    by_cases e2 : d2 / 64 = 2
    rotate_left
    · rw [if_neg e2] at hx
      have HV : Hid ((d2 : Int) / 64 = 0 ∨ (d2 : Int) / 64 = 1 ∨ (d2 : Int) / 64 = 3) := Lib.hid (by omega)
      subst hx
      clear hgd2 hm0 hsh e2 hd2b hb256 hgd1 hr1 hc1 ht1 hd1b
      obtain ⟨hwn', hwn⟩ := WN.out
      have a0 := A0.out
      go_enter Tryz.func93, Tryz.ntmps93
      go_wp2_with fail
      clear hwn' hwn a0
      refine wp_loop_rounds 2 ?_
      rw [rounds_succ]
      obtain ⟨hw1', hw1⟩ := W1.out
      have hk1 := HK1.out
      have hd1 := G1.out hk1
      have he1 := HE1.out
      have ar1 := AR1.out
      obtain ⟨as1, as1'⟩ := AS1.out
      have ao1 := AO1.out
      go_wp2_with fail
      clear hd1 hk1 hw1' hw1 ar1 as1 as1' ao1 he1
      rw [rounds_succ]
      obtain ⟨hw2', hw2⟩ := W2.out
      have hk2 := HK2.out
      have hd2 := G2.out hk2
      have hv3 := HV.out
      clear HV HK2 G2 W2
      rcases hv3 with hv | hv | hv
      · go_wp2_with fail
        go_ret2
        exact ⟨rfl, rfl⟩
      · go_wp2_with fail
        go_ret2
        exact ⟨rfl, rfl⟩
      go_wp2_with fail
      go_ret2
      exact ⟨rfl, rfl⟩
    rw [if_pos e2] at hx
    have HE2 : Hid ((d2 : Int) / 64 = 2) := Lib.hid (by omega)
    obtain ⟨r2, hr2⟩ : ∃ r, r = d2 % 64 := ⟨_, rfl⟩
    have AR2 : Hid (bits .and .i64 (d2 : Int) 63 = (r2 : Int)) := Lib.hid (by rw [hr2]; exact and_mask (k := d2) (i := 6) (by decide) (by omega))
    obtain ⟨t2, ht2⟩ : ∃ t, t = c_1 * 64 := ⟨_, rfl⟩
    have AS2 : Hid (IntKind.i64.wrap ((c_1 : Int) * 64) = (t2 : Int) ∧ wrap64 ((c_1 : Int) * 64) = (t2 : Int)) := Lib.hid ⟨by rw [wrap_in (by omega) (by omega), ht2]; omega, by rw [wr64 (by omega) (by omega), ht2]; omega⟩
    obtain ⟨c_2, hc2⟩ : ∃ c, c = c_1 * 64 + r2 := ⟨_, rfl⟩
    have AO2 : Hid (bits .or .i64 (t2 : Int) (r2 : Int) = (c_2 : Int)) := Lib.hid (by rw [ht2, hc2]; exact or_64 (by omega) (by omega))
    rw [← hr2, ← hc2] at hx
    clear e2
    unfold finR at hx
    by_cases z1 : c_2 < 2048
    · skip
      have q1 : decide ((c_2 : Int) < 2048) = true := by simp; omega
      rw [if_pos (by omega)] at hx
      subst hx
      have HQ := Lib.hid (⟨q1, trivial⟩ : _ ∧ True)
      clear q1 hm0 hsh hb256 hgd1 hr1 hc1 ht1 hd1b hgd2 hr2 hc2 ht2 hd2b
      obtain ⟨hwn', hwn⟩ := WN.out
      have a0 := A0.out
      go_enter Tryz.func93, Tryz.ntmps93
      go_wp2_with fail
      clear hwn' hwn a0
      refine wp_loop_rounds 3 ?_
      rw [rounds_succ]
      obtain ⟨hw1', hw1⟩ := W1.out
      have hk1 := HK1.out
      have hd1 := G1.out hk1
      have he1 := HE1.out
      have ar1 := AR1.out
      obtain ⟨as1, as1'⟩ := AS1.out
      have ao1 := AO1.out
      go_wp2_with fail
      clear hd1 hk1 hw1' hw1 ar1 as1 as1' ao1 he1
      rw [rounds_succ]
      obtain ⟨hw2', hw2⟩ := W2.out
      have hk2 := HK2.out
      have hd2 := G2.out hk2
      have he2 := HE2.out
      have ar2 := AR2.out
      obtain ⟨as2, as2'⟩ := AS2.out
      have ao2 := AO2.out
      go_wp2_with fail
      clear hd2 hk2 hw2' hw2 ar2 as2 as2' ao2 he2
      rw [rounds_succ]
      obtain ⟨q1, -⟩ := HQ.out
      go_wp2_with fail
      go_ret2
      exact ⟨rfl, rfl⟩
    by_cases z2 : c_2 < 55296
    · skip
      have q1 : decide ((c_2 : Int) < 2048) = false := by simp; omega
      have q2 : decide ((1114111 : Int) < (c_2 : Int)) = false := by simp; omega
      have q3 : decide ((55296 : Int) ≤ (c_2 : Int)) = false := by simp; omega
      rw [if_neg (by omega)] at hx
      subst hx
      have HQ := Lib.hid (⟨q1, q2, q3, trivial⟩ : _ ∧ _ ∧ _ ∧ True)
      clear q1 q2 q3 hm0 hsh hb256 hgd1 hr1 hc1 ht1 hd1b hgd2 hr2 hc2 ht2 hd2b
      obtain ⟨hwn', hwn⟩ := WN.out
      have a0 := A0.out
      go_enter Tryz.func93, Tryz.ntmps93
      go_wp2_with fail
      clear hwn' hwn a0
      refine wp_loop_rounds 3 ?_
      rw [rounds_succ]
      obtain ⟨hw1', hw1⟩ := W1.out
      have hk1 := HK1.out
      have hd1 := G1.out hk1
      have he1 := HE1.out
      have ar1 := AR1.out
      obtain ⟨as1, as1'⟩ := AS1.out
      have ao1 := AO1.out
      go_wp2_with fail
      clear hd1 hk1 hw1' hw1 ar1 as1 as1' ao1 he1
      rw [rounds_succ]
      obtain ⟨hw2', hw2⟩ := W2.out
      have hk2 := HK2.out
      have hd2 := G2.out hk2
      have he2 := HE2.out
      have ar2 := AR2.out
      obtain ⟨as2, as2'⟩ := AS2.out
      have ao2 := AO2.out
      go_wp2_with fail
      clear hd2 hk2 hw2' hw2 ar2 as2 as2' ao2 he2
      rw [rounds_succ]
      obtain ⟨q1, q2, q3, -⟩ := HQ.out
      go_wp2_with fail
      go_ret2
      exact ⟨rfl, rfl⟩
    by_cases z3 : 57343 < c_2
    · skip
      have q1 : decide ((c_2 : Int) < 2048) = false := by simp; omega
      have q2 : decide ((1114111 : Int) < (c_2 : Int)) = false := by simp; omega
      have q3 : decide ((55296 : Int) ≤ (c_2 : Int)) = true := by simp; omega
      have q4 : decide ((c_2 : Int) ≤ 57343) = false := by simp; omega
      rw [if_neg (by omega)] at hx
      subst hx
      have HQ := Lib.hid (⟨q1, q2, q3, q4, trivial⟩ : _ ∧ _ ∧ _ ∧ _ ∧ True)
      clear q1 q2 q3 q4 hm0 hsh hb256 hgd1 hr1 hc1 ht1 hd1b hgd2 hr2 hc2 ht2 hd2b
      obtain ⟨hwn', hwn⟩ := WN.out
      have a0 := A0.out
      go_enter Tryz.func93, Tryz.ntmps93
      go_wp2_with fail
      clear hwn' hwn a0
      refine wp_loop_rounds 3 ?_
      rw [rounds_succ]
      obtain ⟨hw1', hw1⟩ := W1.out
      have hk1 := HK1.out
      have hd1 := G1.out hk1
      have he1 := HE1.out
      have ar1 := AR1.out
      obtain ⟨as1, as1'⟩ := AS1.out
      have ao1 := AO1.out
      go_wp2_with fail
      clear hd1 hk1 hw1' hw1 ar1 as1 as1' ao1 he1
      rw [rounds_succ]
      obtain ⟨hw2', hw2⟩ := W2.out
      have hk2 := HK2.out
      have hd2 := G2.out hk2
      have he2 := HE2.out
      have ar2 := AR2.out
      obtain ⟨as2, as2'⟩ := AS2.out
      have ao2 := AO2.out
      go_wp2_with fail
      clear hd2 hk2 hw2' hw2 ar2 as2 as2' ao2 he2
      rw [rounds_succ]
      obtain ⟨q1, q2, q3, q4, -⟩ := HQ.out
      go_wp2_with fail
      go_ret2
      exact ⟨rfl, rfl⟩
    have q1 : decide ((c_2 : Int) < 2048) = false := by simp; omega
    have q2 : decide ((1114111 : Int) < (c_2 : Int)) = false := by simp; omega
    have q3 : decide ((55296 : Int) ≤ (c_2 : Int)) = true := by simp; omega
    have q4 : decide ((c_2 : Int) ≤ 57343) = true := by simp; omega
    rw [if_pos (by omega)] at hx
    subst hx
    have HQ := Lib.hid (⟨q1, q2, q3, q4, trivial⟩ : _ ∧ _ ∧ _ ∧ _ ∧ True)
    clear q1 q2 q3 q4 hm0 hsh hb256 hgd1 hr1 hc1 ht1 hd1b hgd2 hr2 hc2 ht2 hd2b
    obtain ⟨hwn', hwn⟩ := WN.out
    have a0 := A0.out
    go_enter Tryz.func93, Tryz.ntmps93
    go_wp2_with fail
    clear hwn' hwn a0
    refine wp_loop_rounds 3 ?_
    rw [rounds_succ]
    obtain ⟨hw1', hw1⟩ := W1.out
    have hk1 := HK1.out
    have hd1 := G1.out hk1
    have he1 := HE1.out
    have ar1 := AR1.out
    obtain ⟨as1, as1'⟩ := AS1.out
    have ao1 := AO1.out
    go_wp2_with fail
    clear hd1 hk1 hw1' hw1 ar1 as1 as1' ao1 he1
    rw [rounds_succ]
    obtain ⟨hw2', hw2⟩ := W2.out
    have hk2 := HK2.out
    have hd2 := G2.out hk2
    have he2 := HE2.out
    have ar2 := AR2.out
    obtain ⟨as2, as2'⟩ := AS2.out
    have ao2 := AO2.out
    go_wp2_with fail
    clear hd2 hk2 hw2' hw2 ar2 as2 as2' ao2 he2
    rw [rounds_succ]
    obtain ⟨q1, q2, q3, q4, -⟩ := HQ.out
    go_wp2_with fail
    go_ret2
    exact ⟨rfl, rfl⟩
  rw [if_neg c3] at hx
  by_cases c4 : 240 ≤ b ∧ b ≤ 244
  · rw [if_pos c4] at hx
    have p1 := c4.1
    have p2 := c4.2
    clear c2 c3 c4
    obtain ⟨m0, hm0⟩ : ∃ m, m = b % 8 := ⟨_, rfl⟩
    have A0 : Hid (bits .and .i64 (b : Int) 7 = (m0 : Int)) := Lib.hid (by rw [hm0]; exact and_mask (k := b) (i := 3) (by decide) (by omega))
    have WN := Lib.hid (wr_sm (x := (i : Int) + 4) (by omega) (by omega))
    by_cases hsh : s.size - i < 4
    · rw [if_pos hsh] at hx
      have hgt : (s.size : Int) < (i : Int) + 4 := by omega
      subst hx
      clear hm0 hsh
      obtain ⟨hwn', hwn⟩ := WN.out
      have a0 := A0.out
      go_enter Tryz.func93, Tryz.ntmps93
      go_wp2_with fail
      go_ret2
      exact ⟨rfl, rfl⟩
    rw [if_neg hsh, ← hm0] at hx
    have hle : (i : Int) + 4 ≤ (s.size : Int) := by omega
    simp only [contR, show 4 - 1 = 3 from rfl] at hx
    have hk1 : i + 1 < s.size := by omega
    obtain ⟨d1, hd1⟩ : ∃ d, s[i + 1].toNat = d := ⟨_, rfl⟩
    have hd1b : d1 < 256 := by rw [← hd1]; exact s[i + 1].toNat_lt
    have hgd1 : ((s.toList.drop i).getD 1 0).toNat = d1 := by rw [list_at s i 1 hk1]; exact hd1
    have W1 := Lib.hid (wr_sm (x := (i : Int) + 1) (by omega) (by omega))
    have G1 : Hid (∀ h : i + 1 < s.size, (s[i + 1]'h).toNat = d1) := Lib.hid (fun _ => hd1)
    have HK1 := Lib.hid hk1
    clear hd1 hk1
    rw [hgd1] at hx
    by_cases e1 : d1 / 64 = 2
    rotate_left
    · rw [if_neg e1] at hx
      have HV : Hid ((d1 : Int) / 64 = 0 ∨ (d1 : Int) / 64 = 1 ∨ (d1 : Int) / 64 = 3) := Lib.hid (by omega)
      subst hx
      clear hgd1 hm0 hsh e1 hd1b hb256
      obtain ⟨hwn', hwn⟩ := WN.out
      have a0 := A0.out
      go_enter Tryz.func93, Tryz.ntmps93
      go_wp2_with fail
      clear hwn' hwn a0
      refine wp_loop_rounds 1 ?_
      rw [rounds_succ]
      obtain ⟨hw1', hw1⟩ := W1.out
      have hk1 := HK1.out
      have hd1 := G1.out hk1
      have hv3 := HV.out
      clear HV HK1 G1 W1
      rcases hv3 with hv | hv | hv
      · go_wp2_with fail
        go_ret2
        exact ⟨rfl, rfl⟩
      · go_wp2_with fail
        go_ret2
        exact ⟨rfl, rfl⟩
      go_wp2_with fail
      go_ret2
      exact ⟨rfl, rfl⟩
    rw [if_pos e1] at hx
    have HE1 : Hid ((d1 : Int) / 64 = 2) := Lib.hid (by omega)
    obtain ⟨r1, hr1⟩ : ∃ r, r = d1 % 64 := ⟨_, rfl⟩
    have AR1 : Hid (bits .and .i64 (d1 : Int) 63 = (r1 : Int)) := Lib.hid (by rw [hr1]; exact and_mask (k := d1) (i := 6) (by decide) (by omega))
    obtain ⟨t1, ht1⟩ : ∃ t, t = m0 * 64 := ⟨_, rfl⟩
    have AS1 : Hid (IntKind.i64.wrap ((m0 : Int) * 64) = (t1 : Int) ∧ wrap64 ((m0 : Int) * 64) = (t1 : Int)) := Lib.hid ⟨by rw [wrap_in (by omega) (by omega), ht1]; omega, by rw [wr64 (by omega) (by omega), ht1]; omega⟩
    obtain ⟨c_1, hc1⟩ : ∃ c, c = m0 * 64 + r1 := ⟨_, rfl⟩
    have AO1 : Hid (bits .or .i64 (t1 : Int) (r1 : Int) = (c_1 : Int)) := Lib.hid (by rw [ht1, hc1]; exact or_64 (by omega) (by omega))
    rw [← hr1, ← hc1] at hx
    clear e1
    have hk2 : i + 2 < s.size := by omega
    obtain ⟨d2, hd2⟩ : ∃ d, s[i + 2].toNat = d := ⟨_, rfl⟩
    have hd2b : d2 < 256 := by rw [← hd2]; exact s[i + 2].toNat_lt
    have hgd2 : ((s.toList.drop i).getD 2 0).toNat = d2 := by rw [list_at s i 2 hk2]; exact hd2
    have W2 := Lib.hid (wr_sm (x := (i : Int) + 2) (by omega) (by omega))
    have G2 : Hid (∀ h : i + 2 < s.size, (s[i + 2]'h).toNat = d2) := Lib.hid (fun _ => hd2)
    have HK2 := Lib.hid hk2
    clear hd2 hk2
    rw [hgd2] at hx
    by_cases e2 : d2 / 64 = 2
    rotate_left
    · rw [if_neg e2] at hx
      have HV : Hid ((d2 : Int) / 64 = 0 ∨ (d2 : Int) / 64 = 1 ∨ (d2 : Int) / 64 = 3) := Lib.hid (by omega)
      subst hx
      clear hgd2 hm0 hsh e2 hd2b hb256 hgd1 hr1 hc1 ht1 hd1b
      obtain ⟨hwn', hwn⟩ := WN.out
      have a0 := A0.out
      go_enter Tryz.func93, Tryz.ntmps93
      go_wp2_with fail
      clear hwn' hwn a0
      refine wp_loop_rounds 2 ?_
      rw [rounds_succ]
      obtain ⟨hw1', hw1⟩ := W1.out
      have hk1 := HK1.out
      have hd1 := G1.out hk1
      have he1 := HE1.out
      have ar1 := AR1.out
      obtain ⟨as1, as1'⟩ := AS1.out
      have ao1 := AO1.out
      go_wp2_with fail
      clear hd1 hk1 hw1' hw1 ar1 as1 as1' ao1 he1
      rw [rounds_succ]
      obtain ⟨hw2', hw2⟩ := W2.out
      have hk2 := HK2.out
      have hd2 := G2.out hk2
      have hv3 := HV.out
      clear HV HK2 G2 W2
      rcases hv3 with hv | hv | hv
      · go_wp2_with fail
        go_ret2
        exact ⟨rfl, rfl⟩
      · go_wp2_with fail
        go_ret2
        exact ⟨rfl, rfl⟩
      go_wp2_with fail
      go_ret2
      exact ⟨rfl, rfl⟩
    rw [if_pos e2] at hx
    have HE2 : Hid ((d2 : Int) / 64 = 2) := Lib.hid (by omega)
    obtain ⟨r2, hr2⟩ : ∃ r, r = d2 % 64 := ⟨_, rfl⟩
    have AR2 : Hid (bits .and .i64 (d2 : Int) 63 = (r2 : Int)) := Lib.hid (by rw [hr2]; exact and_mask (k := d2) (i := 6) (by decide) (by omega))
    obtain ⟨t2, ht2⟩ : ∃ t, t = c_1 * 64 := ⟨_, rfl⟩
    have AS2 : Hid (IntKind.i64.wrap ((c_1 : Int) * 64) = (t2 : Int) ∧ wrap64 ((c_1 : Int) * 64) = (t2 : Int)) := Lib.hid ⟨by rw [wrap_in (by omega) (by omega), ht2]; omega, by rw [wr64 (by omega) (by omega), ht2]; omega⟩
    obtain ⟨c_2, hc2⟩ : ∃ c, c = c_1 * 64 + r2 := ⟨_, rfl⟩
    have AO2 : Hid (bits .or .i64 (t2 : Int) (r2 : Int) = (c_2 : Int)) := Lib.hid (by rw [ht2, hc2]; exact or_64 (by omega) (by omega))
    rw [← hr2, ← hc2] at hx
    clear e2
    have hk3 : i + 3 < s.size := by omega
    obtain ⟨d3, hd3⟩ : ∃ d, s[i + 3].toNat = d := ⟨_, rfl⟩
    have hd3b : d3 < 256 := by rw [← hd3]; exact s[i + 3].toNat_lt
    have hgd3 : ((s.toList.drop i).getD 3 0).toNat = d3 := by rw [list_at s i 3 hk3]; exact hd3
    have W3 := Lib.hid (wr_sm (x := (i : Int) + 3) (by omega) (by omega))
    have G3 : Hid (∀ h : i + 3 < s.size, (s[i + 3]'h).toNat = d3) := Lib.hid (fun _ => hd3)
    have HK3 := Lib.hid hk3
    clear hd3 hk3
    rw [hgd3] at hx
    by_cases e3 : d3 / 64 = 2
    rotate_left
    · rw [if_neg e3] at hx
      have HV : Hid ((d3 : Int) / 64 = 0 ∨ (d3 : Int) / 64 = 1 ∨ (d3 : Int) / 64 = 3) := Lib.hid (by omega)
      subst hx
      clear hgd3 hm0 hsh e3 hd3b hb256 hgd1 hr1 hc1 ht1 hd1b hgd2 hr2 hc2 ht2 hd2b
      obtain ⟨hwn', hwn⟩ := WN.out
      have a0 := A0.out
      go_enter Tryz.func93, Tryz.ntmps93
      go_wp2_with fail
      clear hwn' hwn a0
      refine wp_loop_rounds 3 ?_
      rw [rounds_succ]
      obtain ⟨hw1', hw1⟩ := W1.out
      have hk1 := HK1.out
      have hd1 := G1.out hk1
      have he1 := HE1.out
      have ar1 := AR1.out
      obtain ⟨as1, as1'⟩ := AS1.out
      have ao1 := AO1.out
      go_wp2_with fail
      clear hd1 hk1 hw1' hw1 ar1 as1 as1' ao1 he1
      rw [rounds_succ]
      obtain ⟨hw2', hw2⟩ := W2.out
      have hk2 := HK2.out
      have hd2 := G2.out hk2
      have he2 := HE2.out
      have ar2 := AR2.out
      obtain ⟨as2, as2'⟩ := AS2.out
      have ao2 := AO2.out
      go_wp2_with fail
      clear hd2 hk2 hw2' hw2 ar2 as2 as2' ao2 he2
      rw [rounds_succ]
      obtain ⟨hw3', hw3⟩ := W3.out
      have hk3 := HK3.out
      have hd3 := G3.out hk3
      have hv3 := HV.out
      clear HV HK3 G3 W3
      rcases hv3 with hv | hv | hv
      · go_wp2_with fail
        go_ret2
        exact ⟨rfl, rfl⟩
      · go_wp2_with fail
        go_ret2
        exact ⟨rfl, rfl⟩
      go_wp2_with fail
      go_ret2
      exact ⟨rfl, rfl⟩
    rw [if_pos e3] at hx
    have HE3 : Hid ((d3 : Int) / 64 = 2) := Lib.hid (by omega)
    obtain ⟨r3, hr3⟩ : ∃ r, r = d3 % 64 := ⟨_, rfl⟩
    have AR3 : Hid (bits .and .i64 (d3 : Int) 63 = (r3 : Int)) := Lib.hid (by rw [hr3]; exact and_mask (k := d3) (i := 6) (by decide) (by omega))
    obtain ⟨t3, ht3⟩ : ∃ t, t = c_2 * 64 := ⟨_, rfl⟩
    have AS3 : Hid (IntKind.i64.wrap ((c_2 : Int) * 64) = (t3 : Int) ∧ wrap64 ((c_2 : Int) * 64) = (t3 : Int)) := Lib.hid ⟨by rw [wrap_in (by omega) (by omega), ht3]; omega, by rw [wr64 (by omega) (by omega), ht3]; omega⟩
    obtain ⟨c_3, hc3⟩ : ∃ c, c = c_2 * 64 + r3 := ⟨_, rfl⟩
    have AO3 : Hid (bits .or .i64 (t3 : Int) (r3 : Int) = (c_3 : Int)) := Lib.hid (by rw [ht3, hc3]; exact or_64 (by omega) (by omega))
    rw [← hr3, ← hc3] at hx
    clear e3
    unfold finR at hx
    by_cases z1 : c_3 < 65536
    · skip
      have q1 : decide ((c_3 : Int) < 65536) = true := by simp; omega
      rw [if_pos (by omega)] at hx
      subst hx
      have HQ := Lib.hid (⟨q1, trivial⟩ : _ ∧ True)
      clear q1 hm0 hsh hb256 hgd1 hr1 hc1 ht1 hd1b hgd2 hr2 hc2 ht2 hd2b hgd3 hr3 hc3 ht3 hd3b
      obtain ⟨hwn', hwn⟩ := WN.out
      have a0 := A0.out
      go_enter Tryz.func93, Tryz.ntmps93
      go_wp2_with fail
      clear hwn' hwn a0
      refine wp_loop_rounds 4 ?_
      rw [rounds_succ]
      obtain ⟨hw1', hw1⟩ := W1.out
      have hk1 := HK1.out
      have hd1 := G1.out hk1
      have he1 := HE1.out
      have ar1 := AR1.out
      obtain ⟨as1, as1'⟩ := AS1.out
      have ao1 := AO1.out
      go_wp2_with fail
      clear hd1 hk1 hw1' hw1 ar1 as1 as1' ao1 he1
      rw [rounds_succ]
      obtain ⟨hw2', hw2⟩ := W2.out
      have hk2 := HK2.out
      have hd2 := G2.out hk2
      have he2 := HE2.out
      have ar2 := AR2.out
      obtain ⟨as2, as2'⟩ := AS2.out
      have ao2 := AO2.out
      go_wp2_with fail
      clear hd2 hk2 hw2' hw2 ar2 as2 as2' ao2 he2
      rw [rounds_succ]
      obtain ⟨hw3', hw3⟩ := W3.out
      have hk3 := HK3.out
      have hd3 := G3.out hk3
      have he3 := HE3.out
      have ar3 := AR3.out
      obtain ⟨as3, as3'⟩ := AS3.out
      have ao3 := AO3.out
      go_wp2_with fail
      clear hd3 hk3 hw3' hw3 ar3 as3 as3' ao3 he3
      rw [rounds_succ]
      obtain ⟨q1, -⟩ := HQ.out
      go_wp2_with fail
      go_ret2
      exact ⟨rfl, rfl⟩
    by_cases z2 : 1114111 < c_3
    · skip
      have q1 : decide ((c_3 : Int) < 65536) = false := by simp; omega
      have q2 : decide ((1114111 : Int) < (c_3 : Int)) = true := by simp; omega
      rw [if_pos (by omega)] at hx
      subst hx
      have HQ := Lib.hid (⟨q1, q2, trivial⟩ : _ ∧ _ ∧ True)
      clear q1 q2 hm0 hsh hb256 hgd1 hr1 hc1 ht1 hd1b hgd2 hr2 hc2 ht2 hd2b hgd3 hr3 hc3 ht3 hd3b
      obtain ⟨hwn', hwn⟩ := WN.out
      have a0 := A0.out
      go_enter Tryz.func93, Tryz.ntmps93
      go_wp2_with fail
      clear hwn' hwn a0
      refine wp_loop_rounds 4 ?_
      rw [rounds_succ]
      obtain ⟨hw1', hw1⟩ := W1.out
      have hk1 := HK1.out
      have hd1 := G1.out hk1
      have he1 := HE1.out
      have ar1 := AR1.out
      obtain ⟨as1, as1'⟩ := AS1.out
      have ao1 := AO1.out
      go_wp2_with fail
      clear hd1 hk1 hw1' hw1 ar1 as1 as1' ao1 he1
      rw [rounds_succ]
      obtain ⟨hw2', hw2⟩ := W2.out
      have hk2 := HK2.out
      have hd2 := G2.out hk2
      have he2 := HE2.out
      have ar2 := AR2.out
      obtain ⟨as2, as2'⟩ := AS2.out
      have ao2 := AO2.out
      go_wp2_with fail
      clear hd2 hk2 hw2' hw2 ar2 as2 as2' ao2 he2
      rw [rounds_succ]
      obtain ⟨hw3', hw3⟩ := W3.out
      have hk3 := HK3.out
      have hd3 := G3.out hk3
      have he3 := HE3.out
      have ar3 := AR3.out
      obtain ⟨as3, as3'⟩ := AS3.out
      have ao3 := AO3.out
      go_wp2_with fail
      clear hd3 hk3 hw3' hw3 ar3 as3 as3' ao3 he3
      rw [rounds_succ]
      obtain ⟨q1, q2, -⟩ := HQ.out
      go_wp2_with fail
      go_ret2
      exact ⟨rfl, rfl⟩
    have q1 : decide ((c_3 : Int) < 65536) = false := by simp; omega
    have q2 : decide ((1114111 : Int) < (c_3 : Int)) = false := by simp; omega
    have q3 : decide ((55296 : Int) ≤ (c_3 : Int)) = true := by simp; omega
    have q4 : decide ((c_3 : Int) ≤ 57343) = false := by simp; omega
    rw [if_neg (by omega)] at hx
    subst hx
    have HQ := Lib.hid (⟨q1, q2, q3, q4, trivial⟩ : _ ∧ _ ∧ _ ∧ _ ∧ True)
    clear q1 q2 q3 q4 hm0 hsh hb256 hgd1 hr1 hc1 ht1 hd1b hgd2 hr2 hc2 ht2 hd2b hgd3 hr3 hc3 ht3 hd3b
    obtain ⟨hwn', hwn⟩ := WN.out
    have a0 := A0.out
    go_enter Tryz.func93, Tryz.ntmps93
    go_wp2_with fail
    clear hwn' hwn a0
    refine wp_loop_rounds 4 ?_
    rw [rounds_succ]
    obtain ⟨hw1', hw1⟩ := W1.out
    have hk1 := HK1.out
    have hd1 := G1.out hk1
    have he1 := HE1.out
    have ar1 := AR1.out
    obtain ⟨as1, as1'⟩ := AS1.out
    have ao1 := AO1.out
    go_wp2_with fail
    clear hd1 hk1 hw1' hw1 ar1 as1 as1' ao1 he1
    rw [rounds_succ]
    obtain ⟨hw2', hw2⟩ := W2.out
    have hk2 := HK2.out
    have hd2 := G2.out hk2
    have he2 := HE2.out
    have ar2 := AR2.out
    obtain ⟨as2, as2'⟩ := AS2.out
    have ao2 := AO2.out
    go_wp2_with fail
    clear hd2 hk2 hw2' hw2 ar2 as2 as2' ao2 he2
    rw [rounds_succ]
    obtain ⟨hw3', hw3⟩ := W3.out
    have hk3 := HK3.out
    have hd3 := G3.out hk3
    have he3 := HE3.out
    have ar3 := AR3.out
    obtain ⟨as3, as3'⟩ := AS3.out
    have ao3 := AO3.out
    go_wp2_with fail
    clear hd3 hk3 hw3' hw3 ar3 as3 as3' ao3 he3
    rw [rounds_succ]
    obtain ⟨q1, q2, q3, q4, -⟩ := HQ.out
    go_wp2_with fail
    go_ret2
    exact ⟨rfl, rfl⟩
  rw [if_neg c4] at hx
  subst hx
  by_cases hl : b < 194
  · have g1 : decide ((194 : Int) ≤ (b : Int)) = false := by simp; omega
    have g3 : decide ((224 : Int) ≤ (b : Int)) = false := by simp; omega
    have g5 : decide ((240 : Int) ≤ (b : Int)) = false := by simp; omega
    clear c2 c3 c4
    go_enter Tryz.func93, Tryz.ntmps93
    go_wp2_with fail
    go_ret2
    exact ⟨rfl, rfl⟩
  have g1 : decide ((194 : Int) ≤ (b : Int)) = true := by simp; omega
  have g3 : decide ((224 : Int) ≤ (b : Int)) = true := by simp; omega
  have g5 : decide ((240 : Int) ≤ (b : Int)) = true := by simp; omega
  have g2 : decide ((b : Int) ≤ 223) = false := by simp; omega
  have g4 : decide ((b : Int) ≤ 239) = false := by simp; omega
  have g6 : decide ((b : Int) ≤ 244) = false := by simp; omega
  clear c2 c3 c4
  go_enter Tryz.func93, Tryz.ntmps93
  go_wp2_with fail
  go_ret2
  exact ⟨rfl, rfl⟩
end Go.Proofs.YtnaefnojmiolbaaGreatDoor

namespace Go.Proofs.YtnaefnojmiolbaaGreatDoor
open Go.RowKit

theorem runeR_bad {l : Bs} (h : l ≠ []) (h0 : (runeR l).2 = 0) : Lib.validD l = false := by
  rw [runeR_eq h] at h0
  rw [Lib.validD_step l h]
  by_cases c : (Lib.decodeL l).1 = 65533 ∧ (Lib.decodeL l).2 = 1
  · rw [if_pos c]
  · rw [if_neg c] at h0
    have := Lib.decodeL_width l
    omega
theorem runeR_ok {l : Bs} (h : l ≠ []) (h0 : (runeR l).2 ≠ 0) : Lib.validD l = Lib.validD (l.drop (runeR l).2) := by
  rw [Lib.validD_step l h]
  rw [runeR_eq h] at h0 ⊢
  by_cases c : (Lib.decodeL l).1 = 65533 ∧ (Lib.decodeL l).2 = 1
  · rw [if_pos c] at h0
    exact absurd rfl h0
  · rw [if_neg c, if_neg c]
theorem contR_le (l : Bs) (n low : Nat) (hn : n ≤ l.length) : ∀ f j c, (contR l n low f j c).2 ≤ l.length
  | 0, _, c => by
    rw [contR, finR]
    split <;> simp <;> omega
  | f + 1, j, c => by
    rw [contR]
    split
    · exact contR_le l n low hn f _ _
    · simp
theorem moreR_le (l : Bs) (n low c : Nat) : (moreR l n low c).2 ≤ l.length := by
  rw [moreR]
  split
  · simp
  · exact contR_le l n low (by omega) _ _ _
theorem runeR_le (l : Bs) : (runeR l).2 ≤ l.length := by
  by_cases h : l = []
  · subst h; simp [runeR]
  have hn : 0 < l.length := List.length_pos_iff.2 h
  unfold runeR
  rw [if_neg h]
  split
  · show 1 ≤ _
    omega
  split
  · exact moreR_le _ _ _ _
  split
  · exact moreR_le _ _ _ _
  split
  · exact moreR_le _ _ _ _
  · simp
attribute [local go_sem] yld_undef
set_option maxHeartbeats 3200000 in
set_option maxRecDepth 100000 in
theorem rutf8_any (s : ByteArray) (hs : s.size ≤ 140737488355328) (w : World) : Calls Tryz.prog 60 #[.string s] w (fun e w' => e = .returned (.bool (Lib.validD s.toList)) ∧ w' = w) := by
  have HA := Lib.hid (fun (i : Nat) (hi : i ≤ 140737488355328) (W : World) => rrune_any s i hi hs W)
  obtain ⟨r, hr⟩ : ∃ r, r = Lib.validD s.toList := ⟨_, rfl⟩
  rw [← hr]
  have HX0 : Hid (r = Lib.validD (s.toList.drop 0)) := Lib.hid hr
  clear hr
  go_enter Tryz.func60, Tryz.ntmps60
  go_wp2_with fail
  go_loopw [3] (fun kv wr => ∃ (j : Nat), j ≤ s.size ∧ kv = .int .i64 j ∧ Hid (r = Lib.validD (s.toList.drop j)) ∧ wr = w) (fun kv _ => s.size - (intOf kv).toNat)
  case atStart => exact ⟨0, Nat.zero_le _, rfl, HX0, rfl⟩
  case round =>
    clear HX0
    obtain ⟨j, hj, rfl, HX, rfl⟩ := hrel
    by_cases hlt : j < s.size
    · have hi : (j : Int) < (s.size : Int) := by omega
      have hne : s.toList.drop j ≠ [] := fun e => by have := congrArg List.length e; rw [List.length_drop, size_toList] at this; simp at this; omega
      have hle := runeR_le (s.toList.drop j)
      rw [List.length_drop, size_toList] at hle
      have hbad := runeR_bad hne
      have hok := runeR_ok hne
      obtain ⟨x, hx⟩ : ∃ x, x = runeR (s.toList.drop j) := ⟨_, rfl⟩
      rw [← hx] at hle hbad hok
      have HC := Lib.hid (HA.out j (by omega))
      rw [← hx] at HC
      have HP := Lib.hid (⟨hle, hbad, hok, hlt⟩ : _ ∧ _ ∧ _ ∧ _)
      clear hle hbad hok hne hx
      obtain ⟨c, n⟩ := x
      go_wp2_with fail
      refine (HC.out _).mono ?_
      rintro _ wq ⟨rfl, rfl⟩
      by_cases h0 : n = 0
      · have hrf : r = false := by rw [HX.out]; exact HP.out.2.1 h0
        subst hrf
        subst h0
        clear HX HP HC
        go_wp2_with fail
        go_ret
        exact ⟨rfl, rfl⟩
      · have hz : ((n : Int) == 0) = false := by simp [h0]
        have hz2 : ¬ (n : Int) = 0 := by omega
        have hle : n ≤ s.size - j := HP.out.1
        obtain ⟨hwi', hwi⟩ : wrap64 ((j : Int) + n) = (j : Int) + n ∧ IntKind.i64.wrap ((j : Int) + n) = (j : Int) + n := wr_sm (by omega) (by omega)
        have HX2 : Hid (r = Lib.validD (s.toList.drop (j + n))) := Lib.hid (by rw [HX.out, HP.out.2.2.1 h0, List.drop_drop])
        have HL : Hid (n ≤ s.size - j ∧ 0 < n ∧ j < s.size) := Lib.hid ⟨hle, by omega, hlt⟩
        clear hle HP HX h0 HC
        go_wp2_with fail
        go_roundw
        case rel => exact ⟨j + n, by have := HL.out; omega, by go_num, HX2, by trivial⟩
        case measure => have := HL.out; simp [intOf]; omega
    · obtain rfl : j = s.size := by omega
      have hrt : r = true := by rw [HX.out, List.drop_eq_nil_of_le (by rw [size_toList]; omega)]; exact Lib.validD_nil
      subst hrt
      clear HX
      go_wp2_with fail
      go_ret
      exact ⟨rfl, rfl⟩
end Go.Proofs.YtnaefnojmiolbaaGreatDoor
