/-
  The walks of value, Numeric, Begins, Digits, and of the document's Numeric and Begins.
-/
import Derived.Test.YtgpdhmgbmhfooaaDoorSplit06
import Derived.Lib.AtoiErrMem
import Derived.Lib.AppendIntMem
import Derived.Lib.ParseIntBTie
import Derived.WalkSmall
namespace Go.Proofs.YtgpdhmgbmhfooaaDoor
open Go.RowKit

/-- What the listed variables read as. -/
structure Tabs (w : World) : Prop where
  pow : Lib.TabIs Tryd.prog w "internal/strconv.uint64pow10" .u64 Lib.pow10Tab
  rng : ∃ tp p, w.var? Tryd.prog "strconv.ErrRange" = some #[.iface tp p]
  syn : ∃ tp p, w.var? Tryd.prog "strconv.ErrSyntax" = some #[.iface tp p]
theorem var_keep {P : Program} {w w' : World} {n : String} {cs : Array Value} (h : w.var? P n = some cs) (hb : Below w.heap.size w w') : w'.var? P n = some cs := by
  cases hg : P.globalNamed n with
  | none => unfold World.var? at h; rw [hg] at h; cases h
  | some g =>
    have hlt : g < w.heap.size := by
      rcases Nat.lt_or_ge g w.heap.size with hl | hl
      · exact hl
      · unfold World.var? at h
        rw [hg] at h
        simp only [Option.bind_some] at h
        rw [Array.getElem?_eq_none hl] at h
        cases h
    exact var?_below hb hg hlt h
theorem Tabs.mono {w w' : World} (h : Tabs w) (hb : Below w.heap.size w w') : Tabs w' :=
  ⟨var_keep h.pow hb, let ⟨a, b, e⟩ := h.rng; ⟨a, b, var_keep e hb⟩, let ⟨a, b, e⟩ := h.syn; ⟨a, b, var_keep e hb⟩⟩
theorem Tabs.mono' {B : Nat} {w w' : World} (h : Tabs w) (hb : Below B w w') (hB : w.heap.size ≤ B) : Tabs w' :=
  h.mono ⟨hb.os, hb.tape, hb.output, hb.size, fun k hk => hb.block k (Nat.lt_of_lt_of_le hk hB)⟩

def IntPost (w : World) (x : Int) (e : Ending) (w' : World) : Prop := e = .returned (.int .i64 x) ∧ Below w.heap.size w w'
def PairPost (w : World) (x : Int × Bool) (e : Ending) (w' : World) : Prop := e = .returned (.tuple #[.int .i64 x.1, .bool x.2]) ∧ Below w.heap.size w w'

theorem valueP_bounds (l : Bs) : -9223372036854775808 ≤ valueP l ∧ valueP l ≤ 9223372036854775807 := by
  unfold valueP
  rw [Lib.parseIntB_64, Lib.intSat_64]
  rcases h : Lib.atoiAll l with v | _ | _
  · exact Lib.atoiAll_bounds h
  · exact ⟨by show -9223372036854775808 ≤ (0 : Int); omega, by show (0 : Int) ≤ 9223372036854775807; omega⟩
  · exact Lib.atoiSat_bounds l

set_option maxHeartbeats 1600000 in
theorem value_any (s : ByteArray) (hs : s.size ≤ 281474976710656) (w : World) (ht : Tabs w) : Calls Tryd.prog 61 #[.string s] w (IntPost w (valueP s.toList)) := by
  obtain ⟨hx0, hx1⟩ := valueP_bounds s.toList
  obtain ⟨x, hx⟩ : ∃ x, x = valueP s.toList := ⟨_, rfl⟩
  rw [← hx] at hx0 hx1 ⊢
  have wx : wrap64 x = x := wrap64_in' hx0 hx1
  have wx' := wrap_in hx0 hx1
  obtain ⟨tr, pr, hr⟩ := ht.rng
  obtain ⟨ts, ps, hsy⟩ := ht.syn
  have HC : Calls Tryd.prog 78 #[.string s, .int .i64 10, .int .i64 64] w fun e w' => (∃ u, e = .returned (.tuple #[.int .i64 x, u])) ∧ Below w.heap.size w w' := by
    unfold valueP at hx
    rw [bl_eq] at hx
    rcases h : Lib.parseIntB 64 s.data.toList with v | _ | _
    · rw [h] at hx
      refine (Tryd.strconv_ParseInt_10_at64_ok s (by omega) v h w).mono ?_
      rintro e w' ⟨rfl, rfl | ⟨t, rfl⟩⟩
      · exact ⟨⟨_, by rw [hx]; rfl⟩, Below.refl _ _⟩
      · exact ⟨⟨_, by rw [hx]; rfl⟩, Lib.bytesWorld_below _ _ _⟩
    · rw [h] at hx
      have HP : Calls Tryd.prog 78 #[.string s, .int .i64 10, .int .i64 64] w fun e w' => ∃ N, e = .returned (.tuple #[.int .i64 0, .iface 115 (.pointer (some ⟨N, 0, none⟩))]) ∧ w.heap.size ≤ N ∧ w'.heap[N]? = some (.cells #[.string ⟨#[80, 97, 114, 115, 101, 73, 110, 116]⟩, .string s, .iface ts ps] 132 (0, 0)) ∧ Below w.heap.size w w' :=
        Any.strconv_ParseInt_10_at64_syntax_var Tryd.laysC174 s (by omega) h ts ps w hsy
      refine HP.mono ?_
      rintro e w' ⟨N, rfl, _, _, hb⟩
      exact ⟨⟨_, by rw [hx]; rfl⟩, hb⟩
    · rw [h] at hx
      refine (Tryd.strconv_ParseInt_10_at64_range_var s (by omega) h tr pr w hr).mono ?_
      rintro e w' ⟨N, rfl, _, _, hb⟩
      exact ⟨⟨_, by rw [hx]; rfl⟩, hb⟩
  clear hx hr hsy ht
  go_enter Tryd.func61, Tryd.ntmps61
  go_wp2_with fail
  refine HC.mono ?_
  rintro e w1 ⟨⟨u, rfl⟩, hb⟩
  go_wp2_with fail
  go_ret
  exact ⟨rfl, hb⟩

/-! What split and value make together. -/
theorem split_none {l : Bs} (h : digs (trimB l) = []) : splitP l = ([], [], false) ∧ numOf l = none := by
  unfold splitP numOf
  rw [if_pos h, if_pos h]
  exact ⟨rfl, rfl⟩
theorem split_some {l : Bs} (h : ¬ digs (trimB l) = []) : ∃ d r, splitP l = (d, r, true) ∧ numOf l = some (valueP d, r) ∧ d.length ≤ l.length := by
  refine ⟨_, _, by unfold splitP; rw [if_neg h], ?_, ?_⟩
  · unfold numOf
    rw [if_neg h, value_head _ h]
  · rw [List.length_take]
    have := dropWhile_le (p := isBlank) l
    unfold trimB
    omega

set_option maxHeartbeats 1600000 in
theorem numeric_big (s : ByteArray) (hs : s.size ≤ 281474976710656) (w : World) (ht : Tabs w) : Calls Tryd.prog 30 #[.string s] w (PairPost w (numericP s.toList)) := by
  have HTS := Lib.hid ht
  clear ht
  by_cases hd : digs (trimB s.toList) = []
  · obtain ⟨e1, e2⟩ := split_none hd
    have e3 : numericP s.toList = (0, false) := by unfold numericP; rw [e2]
    rw [e3]
    have HC := split_any s (by omega) w
    rw [e1] at HC
    clear e1 e2 e3 hd
    go_enter Tryd.func30, Tryd.ntmps30
    go_wp2_with fail
    refine HC.mono ?_
    rintro e w1 ⟨rfl, hb⟩
    go_wp2_with fail
    go_ret2
    exact ⟨rfl, hb⟩
  · obtain ⟨d, r, e1, e2, hl⟩ := split_some hd
    rw [size_toList] at hl
    have HC := split_any s (by omega) w
    rw [e1] at HC
    have HV : ∀ w1, Tabs w1 → Calls Tryd.prog 61 #[.string (str d)] w1 (IntPost w1 (valueP d)) := fun w1 h1 => by
      have := value_any (str d) (by rw [str_size]; omega) w1 h1
      rwa [toList_str] at this
    by_cases hr : r = []
    · have e3 : numericP s.toList = (valueP d, true) := by unfold numericP; rw [e2, hr]
      rw [e3]
      have q' : str r = (⟨#[]⟩ : ByteArray) := by rw [hr]; rfl
      clear e1 e2 e3 hd hr
      go_enter Tryd.func30, Tryd.ntmps30
      go_wp2_with fail
      refine HC.mono ?_
      rintro e w1 ⟨rfl, hb⟩
      have HB := Lib.hid hb
      clear hb HC
      rw [q']
      go_wp2_with fail
      refine (HV w1 (HTS.out.mono HB.out)).mono ?_
      rintro e w2 ⟨rfl, hb2⟩
      have HB2 := Lib.hid hb2
      clear hb2 HV
      go_wp2_with fail
      go_ret2
      exact ⟨rfl, HB.out.trans (HB2.out.mono HB.out.size)⟩
    · have e3 : numericP s.toList = (0, false) := by
        unfold numericP
        rw [e2]
        cases r with
        | nil => exact absurd rfl hr
        | cons a b => rfl
      rw [e3]
      obtain ⟨t, ht⟩ : ∃ t, t = str r := ⟨_, rfl⟩
      have q : t.toList.isEmpty = false := by
        rw [ht, toList_str]
        cases r with
        | nil => exact absurd rfl hr
        | cons a b => rfl
      clear e2 e3 hd hr HV
      go_enter Tryd.func30, Tryd.ntmps30
      go_wp2_with fail
      refine HC.mono ?_
      rintro e w1 ⟨rfl, hb⟩
      have HB := Lib.hid hb
      clear hb HC e1
      rw [← ht]
      clear ht
      go_wp2_with fail
      go_ret2
      exact ⟨rfl, HB.out⟩

theorem numeric_any (s : ByteArray) (hs : s.size ≤ 140737488351232) (w : World) (ht : Tabs w) : Calls Tryd.prog 30 #[.string s] w (PairPost w (numericP s.toList)) := numeric_big s (by omega) w ht

set_option maxHeartbeats 1600000 in
theorem begins_any (s : ByteArray) (hs : s.size ≤ 140737488351232) (w : World) (ht : Tabs w) : Calls Tryd.prog 32 #[.string s] w (IntPost w (beginsP s.toList)) := by
  have HTS := Lib.hid ht
  clear ht
  by_cases hd : digs (trimB s.toList) = []
  · obtain ⟨e1, e2⟩ := split_none hd
    have e3 : beginsP s.toList = 0 := by unfold beginsP; rw [e2]
    rw [e3]
    have HC := split_any s (by omega) w
    rw [e1] at HC
    clear e1 e2 e3 hd
    go_enter Tryd.func32, Tryd.ntmps32
    go_wp2_with fail
    refine HC.mono ?_
    rintro e w1 ⟨rfl, hb⟩
    go_wp2_with fail
    go_ret
    exact ⟨rfl, hb⟩
  · obtain ⟨d, r, e1, e2, hl⟩ := split_some hd
    rw [size_toList] at hl
    have HC := split_any s (by omega) w
    rw [e1] at HC
    have HV : ∀ w1, Tabs w1 → Calls Tryd.prog 61 #[.string (str d)] w1 (IntPost w1 (valueP d)) := fun w1 h1 => by
      have := value_any (str d) (by rw [str_size]; omega) w1 h1
      rwa [toList_str] at this
    have e3 : beginsP s.toList = valueP d := by unfold beginsP; rw [e2]
    rw [e3]
    clear e1 e2 e3 hd
    go_enter Tryd.func32, Tryd.ntmps32
    go_wp2_with fail
    refine HC.mono ?_
    rintro e w1 ⟨rfl, hb⟩
    have HB := Lib.hid hb
    clear hb HC
    go_wp2_with fail
    refine (HV w1 (HTS.out.mono HB.out)).mono ?_
    rintro e w2 ⟨rfl, hb2⟩
    have HB2 := Lib.hid hb2
    clear hb2 HV
    go_wp2_with fail
    go_ret
    exact ⟨rfl, HB.out.trans (HB2.out.mono HB.out.size)⟩

theorem digits_any (n : Int) (h0 : -9223372036854775808 ≤ n) (h1 : n ≤ 9223372036854775807) (w : World) (ht : Tabs w) : Calls Tryd.prog 35 #[.int .i64 n] w (TextPost w (Lib.itoa n)) := by
  have HC : Calls Tryd.prog 49 #[.int .i64 n] w (TextPost w (Lib.itoa n)) := by
    refine (Tryd.strconv_Itoa n h0 h1 w ht.pow).mono ?_
    rintro e w1 ⟨rfl, k, os, rfl⟩
    exact ⟨rfl, Lib.below_grow w.heap.size w (Nat.le_refl _) k os⟩
  clear ht h0 h1
  go_enter Tryd.func35, Tryd.ntmps35
  go_wp2_with fail
  refine HC.mono ?_
  rintro e w1 ⟨rfl, hb⟩
  have HB := Lib.hid hb
  clear HC hb
  go_wp2_with fail
  go_ret
  exact ⟨rfl, HB.out⟩

set_option maxHeartbeats 1600000 in
theorem rnumeric_any (s : ByteArray) (hs : s.size ≤ 140737488351232) (w : World) : Calls Tryd.prog 31 #[.string s] w fun e w' => e = .returned (.tuple #[.int .i64 (numericP s.toList).1, .bool (numericP s.toList).2]) ∧ w = w' := by
  have HC := rbegin_any s hs w
  unfold beginT at HC
  cases hn : numOf s.toList with
  | none =>
    rw [hn] at HC
    have e3 : numericP s.toList = (0, false) := by unfold numericP; rw [hn]
    rw [e3]
    clear hn e3
    go_enter Tryd.func31, Tryd.ntmps31
    go_wp2_with fail
    refine HC.mono ?_
    rintro e w1 ⟨rfl, rfl⟩
    clear HC
    go_wp2_with fail
    go_ret2
    exact ⟨rfl, rfl⟩
  | some x =>
    obtain ⟨n, r⟩ := x
    rw [hn] at HC
    have hrl : r.length ≤ s.size := by
      unfold numOf at hn
      split at hn
      · cases hn
      · obtain rfl := (Prod.mk.inj (Option.some.inj hn)).2
        have h1 := dropWhile_le (p := isBlank) ((trimB s.toList).drop (signLen (trimB s.toList) + (digs (trimB s.toList)).length))
        have h2 := dropWhile_le (p := isBlank) s.toList
        rw [List.length_drop] at h1
        rw [size_toList] at h2
        unfold trimB at h1 ⊢
        omega
    rw [size_toList] at HC
    obtain ⟨E, hE⟩ : ∃ E : Int, E = (s.size : Int) - r.length := ⟨_, rfl⟩
    simp only [← hE] at HC
    by_cases hr : r = []
    · have e3 : numericP s.toList = (n, true) := by unfold numericP; rw [hn, hr]
      rw [e3]
      have hl : decide (E < (s.size : Int)) = false := by rw [hE, hr]; simp
      clear hn e3 hrl hr hE
      go_enter Tryd.func31, Tryd.ntmps31
      go_wp2_with fail
      refine HC.mono ?_
      rintro e w1 ⟨rfl, rfl⟩
      clear HC
      go_wp2_with fail
      go_ret2
      exact ⟨rfl, rfl⟩
    · have e3 : numericP s.toList = (0, false) := by
        unfold numericP
        rw [hn]
        cases r with
        | nil => exact absurd rfl hr
        | cons a b => rfl
      rw [e3]
      have hl : decide (E < (s.size : Int)) = true := by
        rw [hE]
        have : r.length ≠ 0 := fun e => hr (List.eq_nil_of_length_eq_zero e)
        simp; omega
      clear hn e3 hrl hr hE
      go_enter Tryd.func31, Tryd.ntmps31
      go_wp2_with fail
      refine HC.mono ?_
      rintro e w1 ⟨rfl, rfl⟩
      clear HC
      go_wp2_with fail
      go_ret2
      exact ⟨rfl, rfl⟩

theorem rbegins_any (s : ByteArray) (hs : s.size ≤ 140737488351232) (w : World) : Calls Tryd.prog 33 #[.string s] w fun e w' => e = .returned (.int .i64 (beginsP s.toList)) ∧ w = w' := by
  have HC := rbegin_any s hs w
  have e : (beginT s.toList).1 = beginsP s.toList := by
    unfold beginT beginsP
    cases numOf s.toList <;> rfl
  rw [← e]
  generalize beginT s.toList = t at HC ⊢
  go_enter Tryd.func33, Tryd.ntmps33
  go_wp2_with fail
  refine HC.mono ?_
  rintro e w1 ⟨rfl, rfl⟩
  clear HC
  go_wp2_with fail
  go_ret
  exact ⟨rfl, rfl⟩
end Go.Proofs.YtgpdhmgbmhfooaaDoor
