/-
  The walks of Truth, Number, Text, Kind, plain, truths and numeric, both sides. MADE BY wip/genMeans06.py.
-/
import Derived.Test.YtgpdhmgbmhfooaaDoorValue06
namespace Go.Proofs.YtgpdhmgbmhfooaaDoor
open Go.RowKit

abbrev V4 (k n : Int) (t : ByteArray) (ao : Option Addr) (m cap : Nat) : Value := .agg #[.int .i64 k, .int .i64 n, .string t, .slice ao m cap]
def truthP (k n : Int) (t : Bs) (m : Nat) : Bool := if k = 0 then false else if k = 1 ∨ k = 2 then n != 0 else if k = 3 then !t.isEmpty && t != [48] else if k = 4 then decide (0 < m) else true
def numberP (k n : Int) (t : Bs) (m : Nat) : Int := if k = 2 then n else if k = 3 then beginsP t else if (k = 0 ∨ k = 1 ∨ k = 4) ∧ truthP k n t m = false then 0 else 1
def textP (k n : Int) (t : Bs) : Bs × Int := if k = 0 then ([], 0) else if k = 1 then (if n = 0 then ([], 0) else ([49], 0)) else if k = 2 then (Lib.itoa n, 0) else if k = 3 then (t, 0) else ([], 15)
def kindP (k : Int) : Bs := if k = 0 then [110, 117, 108, 108] else if k = 1 then [98, 111, 111, 108] else if k = 2 then [105, 110, 116] else if k = 3 then [115, 116, 114, 105, 110, 103] else if k = 4 then [97, 114, 114, 97, 121] else if k = 5 then [111, 98, 106, 101, 99, 116] else [117, 110, 107, 110, 111, 119, 110]
def plainP (k : Int) : Bool := decide (0 ≤ k) && decide (k ≤ 3)
def truthsP (a b : Bool) : Int := if a = b then 0 else if b then -1 else 1
def BoolPost (w : World) (b : Bool) (e : Ending) (w' : World) : Prop := e = .returned (.bool b) ∧ Below w.heap.size w w'
def TextErrPost (w : World) (x : Bs × Int) (e : Ending) (w' : World) : Prop := e = .returned (.tuple #[.string (str x.1), .int .i64 x.2]) ∧ Below w.heap.size w w'
theorem below_alloc1 (w : World) (o : Obj) : Below w.heap.size w (w.alloc o) := (Below.refl _ w).alloc (Nat.le_refl _) o

set_option maxRecDepth 100000 in
set_option maxHeartbeats 3200000 in
theorem truth_any (k n : Int) (t : ByteArray) (ao : Option Addr) (m cap : Nat) (w : World) : Calls Tryd.prog 39 #[V4 k n t ao m cap] w (BoolPost w (truthP k n t.toList m)) := by
  obtain ⟨b, hb⟩ : ∃ b, b = truthP k n t.toList m := ⟨_, rfl⟩
  rw [← hb]
  by_cases h0 : k = 0
  · subst h0
    have hb' : b = false := hb
    subst hb'
    clear hb
    go_enter Tryd.func39, Tryd.ntmps39
    go_wp2_with fail
    go_ret
    exact ⟨rfl, below_alloc1 _ _⟩
  by_cases h1 : k = 1
  · subst h1
    obtain rfl : b = (n != 0) := by rw [hb]; rfl
    clear hb
    go_enter Tryd.func39, Tryd.ntmps39
    go_wp2_with fail
    go_ret
    exact ⟨rfl, below_alloc1 _ _⟩
  by_cases h2 : k = 2
  · subst h2
    obtain rfl : b = (n != 0) := by rw [hb]; rfl
    clear hb
    go_enter Tryd.func39, Tryd.ntmps39
    go_wp2_with fail
    go_ret
    exact ⟨rfl, below_alloc1 _ _⟩
  by_cases h3 : k = 3
  · subst h3
    have hb' : b = (!t.toList.isEmpty && t.toList != [48]) := by rw [hb]; rfl
    have HB := Lib.hid hb'
    clear hb hb'
    cases h5 : t.toList.isEmpty with
    | true =>
      obtain rfl : b = false := by rw [HB.out, h5]; rfl
      clear HB
      go_enter Tryd.func39, Tryd.ntmps39
      go_wp2_with fail
      go_ret
      exact ⟨rfl, below_alloc1 _ _⟩
    | false =>
      obtain rfl : b = !(t.toList == [48]) := by rw [HB.out, h5]; rfl
      clear HB
      go_enter Tryd.func39, Tryd.ntmps39
      go_wp2_with fail
      go_ret
      exact ⟨rfl, below_alloc1 _ _⟩
  have q0 : (k == 0) = false := by simp [h0]
  have q1 : (k == 1) = false := by simp [h1]
  have q2 : (k == 2) = false := by simp [h2]
  have q3 : (k == 3) = false := by simp [h3]
  by_cases h4 : k = 4
  · have hb' : b = decide (0 < m) := by rw [hb]; unfold truthP; simp [h4]
    subst hb' h4
    clear hb
    go_enter Tryd.func39, Tryd.ntmps39
    go_wp2_with fail
    go_ret
    exact ⟨rfl, below_alloc1 _ _⟩
  have q4 : (k == 4) = false := by simp [h4]
  obtain rfl : b = true := by rw [hb]; unfold truthP; simp [*]
  clear hb h0 h1 h2 h3 h4
  go_enter Tryd.func39, Tryd.ntmps39
  go_wp2_with fail
  go_ret
  exact ⟨rfl, below_alloc1 _ _⟩

set_option maxRecDepth 100000 in
set_option maxHeartbeats 3200000 in
theorem rtruth_any (k n : Int) (t : ByteArray) (ao : Option Addr) (m cap : Nat) (w : World) : Calls Tryd.prog 40 #[V4 k n t ao m cap] w (BoolPost w (truthP k n t.toList m)) := by
  obtain ⟨b, hb⟩ : ∃ b, b = truthP k n t.toList m := ⟨_, rfl⟩
  rw [← hb]
  by_cases h0 : k = 0
  · subst h0
    have hb' : b = false := hb
    subst hb'
    clear hb
    go_enter Tryd.func40, Tryd.ntmps40
    go_wp2_with fail
    go_ret
    exact ⟨rfl, below_alloc1 _ _⟩
  by_cases h1 : k = 1
  · subst h1
    obtain rfl : b = (n != 0) := by rw [hb]; rfl
    clear hb
    go_enter Tryd.func40, Tryd.ntmps40
    go_wp2_with fail
    go_ret
    exact ⟨rfl, below_alloc1 _ _⟩
  by_cases h2 : k = 2
  · subst h2
    obtain rfl : b = (n != 0) := by rw [hb]; rfl
    clear hb
    go_enter Tryd.func40, Tryd.ntmps40
    go_wp2_with fail
    go_ret
    exact ⟨rfl, below_alloc1 _ _⟩
  by_cases h3 : k = 3
  · subst h3
    have hb' : b = (!t.toList.isEmpty && t.toList != [48]) := by rw [hb]; rfl
    have HB := Lib.hid hb'
    clear hb hb'
    cases h5 : t.toList.isEmpty with
    | true =>
      obtain rfl : b = false := by rw [HB.out, h5]; rfl
      clear HB
      go_enter Tryd.func40, Tryd.ntmps40
      go_wp2_with fail
      go_ret
      exact ⟨rfl, below_alloc1 _ _⟩
    | false =>
      obtain rfl : b = !(t.toList == [48]) := by rw [HB.out, h5]; rfl
      clear HB
      go_enter Tryd.func40, Tryd.ntmps40
      go_wp2_with fail
      go_ret
      exact ⟨rfl, below_alloc1 _ _⟩
  have q0 : (k == 0) = false := by simp [h0]
  have q1 : (k == 1) = false := by simp [h1]
  have q2 : (k == 2) = false := by simp [h2]
  have q3 : (k == 3) = false := by simp [h3]
  by_cases h4 : k = 4
  · have hb' : b = decide (0 < m) := by rw [hb]; unfold truthP; simp [h4]
    subst hb' h4
    clear hb
    go_enter Tryd.func40, Tryd.ntmps40
    go_wp2_with fail
    go_ret
    exact ⟨rfl, below_alloc1 _ _⟩
  have q4 : (k == 4) = false := by simp [h4]
  obtain rfl : b = true := by rw [hb]; unfold truthP; simp [*]
  clear hb h0 h1 h2 h3 h4
  go_enter Tryd.func40, Tryd.ntmps40
  go_wp2_with fail
  go_ret
  exact ⟨rfl, below_alloc1 _ _⟩

set_option maxRecDepth 100000 in
set_option maxHeartbeats 3200000 in
theorem number_any (k n : Int) (t : ByteArray) (ao : Option Addr) (m cap : Nat) (hs : t.size ≤ 140737488351232) (w : World) (ht : Tabs w) : Calls Tryd.prog 41 #[V4 k n t ao m cap] w (IntPost w (numberP k n t.toList m)) := by
  have HTS := Lib.hid ht
  clear ht
  obtain ⟨x, hx⟩ : ∃ x, x = numberP k n t.toList m := ⟨_, rfl⟩
  rw [← hx]
  by_cases h2 : k = 2
  · subst h2
    have hx' : x = n := hx
    subst hx'
    clear hx
    go_enter Tryd.func41, Tryd.ntmps41
    go_wp2_with fail
    go_ret
    exact ⟨rfl, below_alloc1 _ _⟩
  by_cases h3 : k = 3
  · subst h3
    have hx' : x = beginsP t.toList := hx
    subst hx'
    clear hx h2
    have HC : ∀ w1, Tabs w1 → Calls Tryd.prog 32 #[.string t] w1 (IntPost w1 (beginsP t.toList)) := begins_any t hs
    go_enter Tryd.func41, Tryd.ntmps41
    go_wp2_with fail
    refine (HC _ (HTS.out.mono (below_alloc1 _ _))).mono ?_
    rintro e w1 ⟨rfl, hb⟩
    have HB := Lib.hid hb
    clear hb HC
    go_wp2_with fail
    go_ret
    exact ⟨rfl, (below_alloc1 _ _).trans (HB.out.mono (by simp))⟩
  have q2 : (k == 2) = false := by simp [h2]
  have q3 : (k == 3) = false := by simp [h3]
  by_cases hz : k = 0 ∨ k = 1 ∨ k = 4
  · obtain ⟨b, hb⟩ : ∃ b, b = truthP k n t.toList m := ⟨_, rfl⟩
    have HC : ∀ w1, Calls Tryd.prog 39 #[V4 k n t ao m cap] w1 (BoolPost w1 b) := fun w1 => by rw [hb]; exact truth_any k n t ao m cap w1
    have HX : Hid (x = if b then 1 else 0) := by
      show _ = _
      rw [hx, hb]
      unfold numberP
      rw [if_neg h2, if_neg h3]
      cases truthP k n t.toList m <;> simp [hz]
    clear hx hb
    have H2 := Lib.hid h2
    have H3 := Lib.hid h3
    clear h2 h3
    cases b with
    | true =>
      obtain rfl : x = 1 := HX.out
      rcases hz with rfl | rfl | rfl
      all_goals clear HX H2 H3
      all_goals go_enter Tryd.func41, Tryd.ntmps41
      all_goals go_wp2_with fail
      all_goals (refine (HC _).mono ?_; rintro e w1 ⟨rfl, hb⟩; have HB := Lib.hid hb; clear hb HC)
      all_goals go_wp2_with fail
      all_goals go_ret
      all_goals exact ⟨rfl, (below_alloc1 _ _).trans (HB.out.mono (by simp))⟩
    | false =>
      obtain rfl : x = 0 := HX.out
      rcases hz with rfl | rfl | rfl
      all_goals clear HX H2 H3
      all_goals go_enter Tryd.func41, Tryd.ntmps41
      all_goals go_wp2_with fail
      all_goals (refine (HC _).mono ?_; rintro e w1 ⟨rfl, hb⟩; have HB := Lib.hid hb; clear hb HC)
      all_goals go_wp2_with fail
      all_goals go_ret
      all_goals exact ⟨rfl, (below_alloc1 _ _).trans (HB.out.mono (by simp))⟩
  have q0 : (k == 0) = false := by simp; omega
  have q1 : (k == 1) = false := by simp; omega
  have q4 : (k == 4) = false := by simp; omega
  obtain rfl : x = 1 := by rw [hx]; unfold numberP; simp [*]
  clear hx hz h2 h3
  go_enter Tryd.func41, Tryd.ntmps41
  go_wp2_with fail
  go_ret
  exact ⟨rfl, below_alloc1 _ _⟩

set_option maxRecDepth 100000 in
set_option maxHeartbeats 3200000 in
theorem rnumber_any (k n : Int) (t : ByteArray) (ao : Option Addr) (m cap : Nat) (hs : t.size ≤ 140737488351232) (w : World) : Calls Tryd.prog 42 #[V4 k n t ao m cap] w (IntPost w (numberP k n t.toList m)) := by
  obtain ⟨x, hx⟩ : ∃ x, x = numberP k n t.toList m := ⟨_, rfl⟩
  rw [← hx]
  by_cases h0 : k = 0
  · subst h0
    have hx' : x = 0 := hx
    subst hx'
    clear hx
    go_enter Tryd.func42, Tryd.ntmps42
    go_wp2_with fail
    go_ret
    exact ⟨rfl, below_alloc1 _ _⟩
  by_cases h1 : k = 1
  · subst h1
    by_cases hn : n = 0
    · have hx' : x = 0 := by rw [hx, hn]; rfl
      subst hn hx'
      clear hx
      go_enter Tryd.func42, Tryd.ntmps42
      go_wp2_with fail
      go_ret
      exact ⟨rfl, below_alloc1 _ _⟩
    · have hx' : x = 1 := by rw [hx]; unfold numberP truthP; simp [hn]
      subst hx'
      have hq : (n == 0) = false := by simp [hn]
      clear hx hn
      go_enter Tryd.func42, Tryd.ntmps42
      go_wp2_with fail
      go_ret
      exact ⟨rfl, below_alloc1 _ _⟩
  by_cases h2 : k = 2
  · subst h2
    have hx' : x = n := hx
    subst hx'
    clear hx
    go_enter Tryd.func42, Tryd.ntmps42
    go_wp2_with fail
    go_ret
    exact ⟨rfl, below_alloc1 _ _⟩
  by_cases h3 : k = 3
  · subst h3
    have hx' : x = beginsP t.toList := hx
    subst hx'
    clear hx
    have HC := rbegins_any t hs
    go_enter Tryd.func42, Tryd.ntmps42
    go_wp2_with fail
    refine (HC _).mono ?_
    rintro e w1 ⟨rfl, rfl⟩
    clear HC
    go_wp2_with fail
    go_ret
    exact ⟨rfl, below_alloc1 _ _⟩
  have q0 : (k == 0) = false := by simp [h0]
  have q1 : (k == 1) = false := by simp [h1]
  have q2 : (k == 2) = false := by simp [h2]
  have q3 : (k == 3) = false := by simp [h3]
  by_cases h4 : k = 4
  · by_cases hm : m = 0
    · have hx' : x = 0 := by rw [hx, h4, hm]; rfl
      subst h4 hm hx'
      clear hx
      go_enter Tryd.func42, Tryd.ntmps42
      go_wp2_with fail
      go_ret
      exact ⟨rfl, below_alloc1 _ _⟩
    · have hx' : x = 1 := by rw [hx, h4]; unfold numberP truthP; simp; omega
      subst h4 hx'
      have hq : ((m : Int) == 0) = false := by simp [hm]
      clear hx hm
      go_enter Tryd.func42, Tryd.ntmps42
      go_wp2_with fail
      go_ret
      exact ⟨rfl, below_alloc1 _ _⟩
  have q4 : (k == 4) = false := by simp [h4]
  have hx' : x = 1 := by rw [hx]; unfold numberP; simp [*]
  subst hx'
  clear hx h0 h1 h2 h3 h4
  go_enter Tryd.func42, Tryd.ntmps42
  go_wp2_with fail
  go_ret
  exact ⟨rfl, below_alloc1 _ _⟩

set_option maxRecDepth 100000 in
set_option maxHeartbeats 3200000 in
theorem text_any (k n : Int) (t : ByteArray) (ao : Option Addr) (m cap : Nat) (h0 : -9223372036854775808 ≤ n) (h1 : n ≤ 9223372036854775807) (w : World) (ht : Tabs w) : Calls Tryd.prog 37 #[V4 k n t ao m cap] w (TextErrPost w (textP k n t.toList)) := by
  have HC : ∀ w1, Tabs w1 → Calls Tryd.prog 35 #[.int .i64 n] w1 (TextPost w1 (Lib.itoa n)) := digits_any n h0 h1
  have HTS := Lib.hid ht
  clear ht h0 h1
  obtain ⟨x, hx⟩ : ∃ x, x = textP k n t.toList := ⟨_, rfl⟩
  rw [← hx]
  by_cases h0 : k = 0
  · subst h0
    have hx' : x = ([], 0) := hx
    subst hx'
    clear hx HC
    go_enter Tryd.func37, Tryd.ntmps37
    go_wp2_with fail
    go_ret2
    exact ⟨rfl, below_alloc1 _ _⟩
  by_cases h1 : k = 1
  · subst h1
    by_cases hn : n = 0
    · have hx' : x = ([], 0) := by rw [hx, hn]; rfl
      subst hn hx'
      clear hx HC
      go_enter Tryd.func37, Tryd.ntmps37
      go_wp2_with fail
      go_ret2
      exact ⟨rfl, below_alloc1 _ _⟩
    · have hx' : x = ([49], 0) := by rw [hx]; unfold textP; simp [hn]
      subst hx'
      have hq : (n == 0) = false := by simp [hn]
      clear hx hn HC
      go_enter Tryd.func37, Tryd.ntmps37
      go_wp2_with fail
      go_ret2
      exact ⟨rfl, below_alloc1 _ _⟩
  by_cases h2 : k = 2
  · subst h2
    have hx' : x = (Lib.itoa n, 0) := hx
    subst hx'
    clear hx
    go_enter Tryd.func37, Tryd.ntmps37
    go_wp2_with fail
    refine (HC _ (HTS.out.mono (below_alloc1 _ _))).mono ?_
    rintro e w1 ⟨rfl, hb⟩
    have HB := Lib.hid hb
    clear hb HC
    go_wp2_with fail
    go_ret2
    exact ⟨rfl, (below_alloc1 _ _).trans (HB.out.mono (by simp))⟩
  by_cases h3 : k = 3
  · subst h3
    have hx' : x = (t.toList, 0) := hx
    subst hx'
    clear hx HC
    go_enter Tryd.func37, Tryd.ntmps37
    go_wp2_with fail
    go_ret2
    exact ⟨by rw [str_of]; rfl, below_alloc1 _ _⟩
  have q0 : (k == 0) = false := by simp [h0]
  have q1 : (k == 1) = false := by simp [h1]
  have q2 : (k == 2) = false := by simp [h2]
  have q3 : (k == 3) = false := by simp [h3]
  have hx' : x = ([], 15) := by rw [hx]; unfold textP; simp [*]
  subst hx'
  clear hx h0 h1 h2 h3 HC
  go_enter Tryd.func37, Tryd.ntmps37
  go_wp2_with fail
  go_ret2
  exact ⟨rfl, below_alloc1 _ _⟩

set_option maxRecDepth 100000 in
set_option maxHeartbeats 3200000 in
theorem rtext_any (k n : Int) (t : ByteArray) (ao : Option Addr) (m cap : Nat) (h0 : -9223372036854775808 ≤ n) (h1 : n ≤ 9223372036854775807) (w : World) : Calls Tryd.prog 38 #[V4 k n t ao m cap] w (TextErrPost w (textP k n t.toList)) := by
  have HC : ∀ w1, Calls Tryd.prog 50 #[.int .i64 n] w1 (TextPost w1 (Lib.itoa n)) := fun w1 => rdigits_any n h0 h1 w1
  clear h0 h1
  obtain ⟨x, hx⟩ : ∃ x, x = textP k n t.toList := ⟨_, rfl⟩
  rw [← hx]
  by_cases h0 : k = 0
  · subst h0
    have hx' : x = ([], 0) := hx
    subst hx'
    clear hx HC
    go_enter Tryd.func38, Tryd.ntmps38
    go_wp2_with fail
    go_ret2
    exact ⟨rfl, below_alloc1 _ _⟩
  by_cases h1 : k = 1
  · subst h1
    by_cases hn : n = 0
    · have hx' : x = ([], 0) := by rw [hx, hn]; rfl
      subst hn hx'
      clear hx HC
      go_enter Tryd.func38, Tryd.ntmps38
      go_wp2_with fail
      go_ret2
      exact ⟨rfl, below_alloc1 _ _⟩
    · have hx' : x = ([49], 0) := by rw [hx]; unfold textP; simp [hn]
      subst hx'
      have hq : (n == 0) = false := by simp [hn]
      clear hx hn HC
      go_enter Tryd.func38, Tryd.ntmps38
      go_wp2_with fail
      go_ret2
      exact ⟨rfl, below_alloc1 _ _⟩
  by_cases h2 : k = 2
  · subst h2
    have hx' : x = (Lib.itoa n, 0) := hx
    subst hx'
    clear hx
    go_enter Tryd.func38, Tryd.ntmps38
    go_wp2_with fail
    refine (HC _).mono ?_
    rintro e w1 ⟨rfl, hb⟩
    have HB := Lib.hid hb
    clear hb HC
    go_wp2_with fail
    go_ret2
    exact ⟨rfl, (below_alloc1 _ _).trans (HB.out.mono (by simp))⟩
  by_cases h3 : k = 3
  · subst h3
    have hx' : x = (t.toList, 0) := hx
    subst hx'
    clear hx HC
    go_enter Tryd.func38, Tryd.ntmps38
    go_wp2_with fail
    go_ret2
    exact ⟨by rw [str_of]; rfl, below_alloc1 _ _⟩
  have q0 : (k == 0) = false := by simp [h0]
  have q1 : (k == 1) = false := by simp [h1]
  have q2 : (k == 2) = false := by simp [h2]
  have q3 : (k == 3) = false := by simp [h3]
  have hx' : x = ([], 15) := by rw [hx]; unfold textP; simp [*]
  subst hx'
  clear hx h0 h1 h2 h3 HC
  go_enter Tryd.func38, Tryd.ntmps38
  go_wp2_with fail
  go_ret2
  exact ⟨rfl, below_alloc1 _ _⟩

set_option maxRecDepth 100000 in
set_option maxHeartbeats 3200000 in
theorem kind_any (k n : Int) (t : ByteArray) (ao : Option Addr) (m cap : Nat) (w : World) : Calls Tryd.prog 43 #[V4 k n t ao m cap] w (TextPost w (kindP k)) := by
  obtain ⟨x, hx⟩ : ∃ x, x = kindP k := ⟨_, rfl⟩
  rw [← hx]
  by_cases h0 : k = 0
  · have hx' : x = kindP 0 := by rw [hx, h0]
    subst h0 hx'
    clear hx
    go_enter Tryd.func43, Tryd.ntmps43
    go_wp2_with fail
    go_ret
    exact ⟨rfl, by first | exact below_alloc1 _ _ | exact (below_alloc1 _ _).alloc (by simp) _⟩
  by_cases h1 : k = 1
  · have hx' : x = kindP 1 := by rw [hx, h1]
    subst h1 hx'
    clear hx
    go_enter Tryd.func43, Tryd.ntmps43
    go_wp2_with fail
    go_ret
    exact ⟨rfl, by first | exact below_alloc1 _ _ | exact (below_alloc1 _ _).alloc (by simp) _⟩
  by_cases h2 : k = 2
  · have hx' : x = kindP 2 := by rw [hx, h2]
    subst h2 hx'
    clear hx
    go_enter Tryd.func43, Tryd.ntmps43
    go_wp2_with fail
    go_ret
    exact ⟨rfl, by first | exact below_alloc1 _ _ | exact (below_alloc1 _ _).alloc (by simp) _⟩
  by_cases h3 : k = 3
  · have hx' : x = kindP 3 := by rw [hx, h3]
    subst h3 hx'
    clear hx
    go_enter Tryd.func43, Tryd.ntmps43
    go_wp2_with fail
    go_ret
    exact ⟨rfl, by first | exact below_alloc1 _ _ | exact (below_alloc1 _ _).alloc (by simp) _⟩
  by_cases h4 : k = 4
  · have hx' : x = kindP 4 := by rw [hx, h4]
    subst h4 hx'
    clear hx
    go_enter Tryd.func43, Tryd.ntmps43
    go_wp2_with fail
    go_ret
    exact ⟨rfl, by first | exact below_alloc1 _ _ | exact (below_alloc1 _ _).alloc (by simp) _⟩
  by_cases h5 : k = 5
  · have hx' : x = kindP 5 := by rw [hx, h5]
    subst h5 hx'
    clear hx
    go_enter Tryd.func43, Tryd.ntmps43
    go_wp2_with fail
    go_ret
    exact ⟨rfl, by first | exact below_alloc1 _ _ | exact (below_alloc1 _ _).alloc (by simp) _⟩
  have hx' : x = kindP 6 := by rw [hx]; unfold kindP; simp [*]
  subst hx'
  by_cases hn : k < 0
  · have q : decide (k < 0) = true := by simp [hn]
    clear hx h0 h1 h2 h3 h4 h5 hn
    go_enter Tryd.func43, Tryd.ntmps43
    go_wp2_with fail
    go_ret
    exact ⟨rfl, by first | exact below_alloc1 _ _ | exact (below_alloc1 _ _).alloc (by simp) _⟩
  · have q : decide (k < 0) = false := by simp; omega
    have q' : decide (6 ≤ k) = true := by simp; omega
    clear hx h0 h1 h2 h3 h4 h5 hn
    go_enter Tryd.func43, Tryd.ntmps43
    go_wp2_with fail
    go_ret
    exact ⟨rfl, by first | exact below_alloc1 _ _ | exact (below_alloc1 _ _).alloc (by simp) _⟩

set_option maxRecDepth 100000 in
set_option maxHeartbeats 3200000 in
theorem rkind_any (k n : Int) (t : ByteArray) (ao : Option Addr) (m cap : Nat) (w : World) : Calls Tryd.prog 44 #[V4 k n t ao m cap] w (TextPost w (kindP k)) := by
  obtain ⟨x, hx⟩ : ∃ x, x = kindP k := ⟨_, rfl⟩
  rw [← hx]
  by_cases h0 : k = 0
  · have hx' : x = kindP 0 := by rw [hx, h0]
    subst h0 hx'
    clear hx
    go_enter Tryd.func44, Tryd.ntmps44
    go_wp2_with fail
    go_ret
    exact ⟨rfl, below_alloc1 _ _⟩
  by_cases h1 : k = 1
  · have hx' : x = kindP 1 := by rw [hx, h1]
    subst h1 hx'
    clear hx
    go_enter Tryd.func44, Tryd.ntmps44
    go_wp2_with fail
    go_ret
    exact ⟨rfl, below_alloc1 _ _⟩
  by_cases h2 : k = 2
  · have hx' : x = kindP 2 := by rw [hx, h2]
    subst h2 hx'
    clear hx
    go_enter Tryd.func44, Tryd.ntmps44
    go_wp2_with fail
    go_ret
    exact ⟨rfl, below_alloc1 _ _⟩
  by_cases h3 : k = 3
  · have hx' : x = kindP 3 := by rw [hx, h3]
    subst h3 hx'
    clear hx
    go_enter Tryd.func44, Tryd.ntmps44
    go_wp2_with fail
    go_ret
    exact ⟨rfl, below_alloc1 _ _⟩
  by_cases h4 : k = 4
  · have hx' : x = kindP 4 := by rw [hx, h4]
    subst h4 hx'
    clear hx
    go_enter Tryd.func44, Tryd.ntmps44
    go_wp2_with fail
    go_ret
    exact ⟨rfl, below_alloc1 _ _⟩
  by_cases h5 : k = 5
  · have hx' : x = kindP 5 := by rw [hx, h5]
    subst h5 hx'
    clear hx
    go_enter Tryd.func44, Tryd.ntmps44
    go_wp2_with fail
    go_ret
    exact ⟨rfl, below_alloc1 _ _⟩
  have q0 : (k == 0) = false := by simp [h0]
  have q1 : (k == 1) = false := by simp [h1]
  have q2 : (k == 2) = false := by simp [h2]
  have q3 : (k == 3) = false := by simp [h3]
  have q4 : (k == 4) = false := by simp [h4]
  have q5 : (k == 5) = false := by simp [h5]
  have hx' : x = kindP 6 := by rw [hx]; unfold kindP; simp [*]
  subst hx'
  clear hx h0 h1 h2 h3 h4 h5
  go_enter Tryd.func44, Tryd.ntmps44
  go_wp2_with fail
  go_ret
  exact ⟨rfl, below_alloc1 _ _⟩

set_option maxRecDepth 100000 in
set_option maxHeartbeats 3200000 in
theorem plain_any (k n : Int) (t : ByteArray) (ao : Option Addr) (m cap : Nat) (w : World) : Calls Tryd.prog 63 #[V4 k n t ao m cap] w (BoolPost w (plainP k)) := by
  obtain ⟨x, hx⟩ : ∃ x, x = plainP k := ⟨_, rfl⟩
  rw [← hx]
  by_cases h0 : 0 ≤ k
  · have q : decide (0 ≤ k) = true := by simp [h0]
    have hx' : x = decide (k ≤ 3) := by rw [hx]; unfold plainP; rw [q]; rfl
    subst hx'
    clear hx h0
    go_enter Tryd.func63, Tryd.ntmps63
    go_wp2_with fail
    go_ret
    exact ⟨rfl, below_alloc1 _ _⟩
  · have q : decide (0 ≤ k) = false := by simp; omega
    have hx' : x = false := by rw [hx]; unfold plainP; rw [q]; rfl
    subst hx'
    clear hx h0
    go_enter Tryd.func63, Tryd.ntmps63
    go_wp2_with fail
    go_ret
    exact ⟨rfl, below_alloc1 _ _⟩

set_option maxRecDepth 100000 in
set_option maxHeartbeats 3200000 in
theorem rplain_any (k n : Int) (t : ByteArray) (ao : Option Addr) (m cap : Nat) (w : World) : Calls Tryd.prog 68 #[V4 k n t ao m cap] w (BoolPost w (plainP k)) := by
  obtain ⟨x, hx⟩ : ∃ x, x = plainP k := ⟨_, rfl⟩
  rw [← hx]
  by_cases h0 : 0 ≤ k
  · have q : decide (0 ≤ k) = true := by simp [h0]
    have hx' : x = decide (k ≤ 3) := by rw [hx]; unfold plainP; rw [q]; rfl
    subst hx'
    clear hx h0
    go_enter Tryd.func68, Tryd.ntmps68
    go_wp2_with fail
    go_ret
    exact ⟨rfl, below_alloc1 _ _⟩
  · have q : decide (0 ≤ k) = false := by simp; omega
    have hx' : x = false := by rw [hx]; unfold plainP; rw [q]; rfl
    subst hx'
    clear hx h0
    go_enter Tryd.func68, Tryd.ntmps68
    go_wp2_with fail
    go_ret
    exact ⟨rfl, below_alloc1 _ _⟩

set_option maxRecDepth 100000 in
set_option maxHeartbeats 3200000 in
theorem truths_any (a b : Bool) (w : World) : Calls Tryd.prog 64 #[.bool a, .bool b] w fun e w' => e = .returned (.int .i64 (truthsP a b)) ∧ w = w' := by
  cases a <;> cases b
  all_goals go_enter Tryd.func64, Tryd.ntmps64
  all_goals go_wp2_with fail
  all_goals go_ret
  all_goals exact ⟨rfl, rfl⟩

set_option maxRecDepth 100000 in
set_option maxHeartbeats 3200000 in
theorem rtruths_any (a b : Bool) (w : World) : Calls Tryd.prog 69 #[.bool a, .bool b] w fun e w' => e = .returned (.int .i64 (truthsP a b)) ∧ w = w' := by
  cases a <;> cases b
  all_goals go_enter Tryd.func69, Tryd.ntmps69
  all_goals go_wp2_with fail
  all_goals go_ret
  all_goals exact ⟨rfl, rfl⟩

def numP (k n : Int) (t : Bs) : Int × Bool := if k = 3 then numericP t else (n, decide (k = 2))

set_option maxRecDepth 100000 in
set_option maxHeartbeats 3200000 in
theorem numeric_of (k n : Int) (t : ByteArray) (ao : Option Addr) (m cap : Nat) (hs : t.size ≤ 140737488351232) (w : World) (ht : Tabs w) : Calls Tryd.prog 65 #[V4 k n t ao m cap] w (PairPost w (numP k n t.toList)) := by
  have HTS := Lib.hid ht
  clear ht
  have HC : ∀ w1, Tabs w1 → Calls Tryd.prog 30 #[.string t] w1 (PairPost w1 (numericP t.toList)) := numeric_any t hs
  by_cases h3 : k = 3
  · subst h3
    show Calls _ _ _ _ (PairPost w (numericP t.toList))
    generalize numericP t.toList = x at HC ⊢
    obtain ⟨xa, xb⟩ := x
    go_enter Tryd.func65, Tryd.ntmps65
    go_wp2_with fail
    refine (HC _ (HTS.out.mono (below_alloc1 _ _))).mono ?_
    rintro e w1 ⟨rfl, hb⟩
    have HB := Lib.hid hb
    clear hb HC
    go_wp2_with fail
    go_ret2
    exact ⟨rfl, (below_alloc1 _ _).trans (HB.out.mono (by simp))⟩
  · have e : numP k n t.toList = (n, k == 2) := by unfold numP; rw [if_neg h3]; congr 1
    rw [e]
    have q3 : (k == 3) = false := by simp [h3]
    clear e h3 HC
    go_enter Tryd.func65, Tryd.ntmps65
    go_wp2_with fail
    go_region
    all_goals go_wp2_with fail
    all_goals go_ret2
    all_goals exact ⟨rfl, (below_alloc1 _ _).drew⟩
end Go.Proofs.YtgpdhmgbmhfooaaDoor
