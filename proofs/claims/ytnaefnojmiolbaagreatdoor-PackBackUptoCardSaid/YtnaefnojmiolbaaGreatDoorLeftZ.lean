/-
  The walk of left: how many of so many items are left behind a value's.
-/
import Derived.Test.YtnaefnojmiolbaaGreatDoorTreeZ
namespace Go.Proofs.YtnaefnojmiolbaaGreatDoor
open Go.RowKit

mutual
def leftV : VT → Int → Int
  | .mk _ _ _ l, n => leftL l (n - l.length)
def leftL : List (K × VT) → Int → Int
  | [], n => n
  | (_, v) :: r, n => if n < 0 then n else leftL r (leftV v n)
end
theorem leftL_cons (x : It) (r : List It) (n : Int) : leftL (x :: r) n = if n < 0 then n else leftL r (leftV x.2 n) := by cases x; rw [leftL]
theorem leftV_eq (v : VT) (n : Int) : leftV v n = leftL v.xs (n - v.xs.length) := by cases v; rw [leftV]; rfl
theorem leftL_neg {l : List It} {n : Int} (h : n < 0) : leftL l n = n := by
  cases l with
  | nil => rfl
  | cons x r => rw [leftL_cons, if_pos h]
/-- What is left is no more, and not far below 0. -/
theorem leftV_le (v : VT) : ∀ n, 0 ≤ n → (∀ x ∈ v.xs, True) → leftV v n ≤ n := by
  refine VT.ind (P := fun v => ∀ n, 0 ≤ n → (∀ x ∈ v.xs, True) → leftV v n ≤ n) ?_ v
  intro k m t l ih n hn _
  rw [leftV]
  have : ∀ (r : List It), (∀ x ∈ r, x ∈ l) → ∀ n, leftL r n ≤ n := by
    intro r
    induction r with
    | nil => intro _ n; exact Int.le_refl _
    | cons x r ihr =>
      intro hr n
      rw [leftL_cons]
      split
      · exact Int.le_refl _
      · have h1 := ih x (hr x (by simp)) n (by omega) (fun _ _ => trivial)
        have h2 := ihr (fun y hy => hr y (by simp [hy])) (leftV x.2 n)
        omega
  have h := this l (fun _ h => h) (n - l.length)
  omega
theorem leftL_le (r : List It) : ∀ n, leftL r n ≤ n := by
  induction r with
  | nil => intro n; exact Int.le_refl _
  | cons x r ihr =>
    intro n
    rw [leftL_cons]
    split
    · exact Int.le_refl _
    · have h1 := leftV_le x.2 n (by omega) (fun _ _ => trivial)
      have h2 := ihr (leftV x.2 n)
      omega
/-- No list in it is longer than memory bears. -/
inductive Fits : List It → Prop
  | mk (l : List It) (h : l.length ≤ 140737488355328) (hs : ∀ x ∈ l, Fits x.2.xs) : Fits l
theorem VAt.fits {A : Nat → Prop} {w : World} {v : Value} {xs : List It} (h : VAt A w v xs) : Fits xs := by
  induction h with
  | mk ao cap xs c _ _ len _ ih =>
    refine .mk _ len fun x hx => ?_
    obtain ⟨j, hj, rfl⟩ := List.getElem_of_mem hx
    exact ih j hj
theorem leftV_ge (v : VT) : Fits v.xs → ∀ n, 0 ≤ n → -140737488355328 ≤ leftV v n := by
  refine VT.ind (P := fun v => Fits v.xs → ∀ n, 0 ≤ n → -140737488355328 ≤ leftV v n) ?_ v
  intro k m t l ih hf n hn
  have hf' : Fits l := hf
  obtain ⟨_, hl, hs⟩ := hf'
  rw [leftV]
  have : ∀ (r : List It), (∀ x ∈ r, x ∈ l) → ∀ n : Int, -140737488355328 ≤ n → -140737488355328 ≤ leftL r n := by
    intro r
    induction r with
    | nil => intro _ n hn; exact hn
    | cons x r ihr =>
      intro hr n hn
      rw [leftL_cons]
      split
      · exact hn
      · exact ihr (fun y hy => hr y (by simp [hy])) _ (ih x (hr x (by simp)) (hs x (hr x (by simp))) n (by omega))
  exact this l (fun _ h => h) _ (by omega)

set_option maxHeartbeats 1600000 in
set_option maxRecDepth 100000 in
theorem left_any (v : VT) : ∀ (w : World) (c : Value) (n : Int), VIn w c v.xs → 0 ≤ n → n ≤ 2048 → Calls Tryz.prog 51 #[v.v c, .int .i64 n] w (IntPost w (leftV v n)) := by
  refine VT.ind (P := fun v => ∀ (w : World) (c : Value) (n : Int), VIn w c v.xs → 0 ≤ n → n ≤ 2048 → Calls Tryz.prog 51 #[v.v c, .int .i64 n] w (IntPost w (leftV v n))) ?_ v
  intro k m t l ih w c n hv h0 h1
  have hv : VIn w c l := hv
  have hfit := hv.fits
  obtain ⟨ao, cap, rfl, hlen⟩ := hv.form
  have HV := Lib.hid hv
  have IH := Lib.hid ih
  have HF := Lib.hid hfit
  have HB := Lib.hid (below_alloc1 w (VB (.mk k m t l) (.slice ao l.length cap)))
  obtain ⟨a0, a1, a2, a3⟩ := vb_cells (heap_alloc_new w (VB (.mk k m t l) (.slice ao l.length cap)))
  obtain ⟨hw', hw⟩ := wr_sm (x := n - (l.length : Int)) (by omega) (by omega)
  obtain ⟨r, hr⟩ : ∃ r, r = leftV (.mk k m t l) n := ⟨_, rfl⟩
  have HR : Hid (r = leftL (l.drop 0) (n - l.length)) := Lib.hid (by rw [hr, leftV]; rfl)
  have HL := Lib.hid hlen
  have HN := Lib.hid h0
  rw [← hr]
  clear hv ih hfit hr hlen h0
  show Calls Tryz.prog 51 #[.agg #[.int .i64 k, .int .i64 m, .string t, .slice ao l.length cap], .int .i64 n] w (IntPost w r)
  go_enter Tryz.func51, Tryz.ntmps51
  go_wp2_with fail
  go_loopw [1, 15] (fun nv kv wr => ∃ (j : Nat) (x : Int), j ≤ l.length ∧ nv = .int .i64 x ∧ kv = .int .i64 j ∧ Hid (r = leftL (l.drop j) x ∧ x ≤ 2048 ∧ -140737488355328 ≤ x) ∧ Hid (Below w.heap.size w wr)) (fun _ kv _ => l.length - (intOf kv).toNat)
  case atStart => exact ⟨0, n - l.length, Nat.zero_le _, rfl, rfl, Lib.hid ⟨HR.out, by omega, by have := HL.out; have := HN.out; omega⟩, HB⟩
  case round =>
    obtain ⟨j, x, hj, rfl, rfl, HX, BX⟩ := hrel
    by_cases hlt : j < l.length
    · obtain ⟨q, v, g, off, co, cc, hq, hm, rfl, hc, d0, d1, d2, d3, d4, d5, d6⟩ := HV.out.getB hlt BX.out rfl
      have hi : (j : Int) < (l.length : Int) := by omega
      obtain ⟨hwi', hwi⟩ : wrap64 ((j : Int) + 1) = (j : Int) + 1 ∧ IntKind.i64.wrap ((j : Int) + 1) = (j : Int) + 1 := wr_sm (by omega) (by have := HL.out; omega)
      obtain ⟨b0, b1, b2, b3, b4, b5, b6⟩ := ib_cells (heap_alloc_new wr (IB (q, v) (.slice co v.xs.length cc)))
      have BY := Lib.hid (BX.out.alloc BX.out.size (IB (q, v) (.slice co v.xs.length cc)))
      have HC : 0 ≤ x → Calls Tryz.prog 51 #[.agg #[.int .i64 v.k, .int .i64 v.n, .string v.t, .slice co v.xs.length cc], .int .i64 x] (wr.alloc (IB (q, v) (.slice co v.xs.length cc))) (IntPost (wr.alloc (IB (q, v) (.slice co v.xs.length cc))) (leftV v x)) := fun h => IH.out (q, v) hm _ (.slice co v.xs.length cc) x (hc.under (below_alloc1 _ _)) h HX.out.2.1
      have HD : Hid (leftL (l.drop j) x = if x < 0 then x else leftL (l.drop (j + 1)) (leftV v x)) := Lib.hid (by rw [drop_at hq, leftL_cons])
      have HG := Lib.hid (fun h0 : 0 ≤ x => leftV_ge v hc.fits x h0)
      have HGe := Lib.hid (fun h0 : 0 ≤ x => leftV_le v x h0 (fun _ _ => trivial))
      have HLT := Lib.hid hlt
      generalize leftV v x = y at HC HD HG HGe
      clear hc hq hm hlt
      by_cases hx : x < 0
      · have hrx : r = x := by rw [HX.out.1, HD.out, if_pos hx]
        subst hrx
        clear HC
        go_wp2_with fail
        go_ret
        exact ⟨rfl, BY.out⟩
      · have HC' := HC (by omega)
        clear HC
        go_wp2_with fail
        refine HC'.mono ?_
        rintro e w5 ⟨rfl, hb⟩
        have B5 := Lib.hid (BY.out.trans (hb.mono BY.out.size))
        clear hb HC'
        go_wp2_with fail
        go_roundw
        case rel => exact ⟨j + 1, y, HLT.out, rfl, by go_num, Lib.hid ⟨by rw [HX.out.1, HD.out, if_neg (by omega)], by have := HGe.out (by omega); have := HX.out.2.1; omega, HG.out (by omega)⟩, B5⟩
        case measure => have := HLT.out; simp [intOf]; omega
    · obtain rfl : j = l.length := by omega
      have hrx : r = x := by rw [HX.out.1, List.drop_length]; rfl
      subst hrx
      go_wp2_with fail
      go_ret
      exact ⟨rfl, BX.out⟩
end Go.Proofs.YtnaefnojmiolbaaGreatDoor
