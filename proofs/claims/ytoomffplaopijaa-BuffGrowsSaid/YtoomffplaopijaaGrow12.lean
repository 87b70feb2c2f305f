/-
  What has come to the bottom stays, and its first mark: said without a program.
-/
import Derived.Test.YtoomffplaopijaaPlays12
namespace Go.Proofs.Ytoomffplaopijaa
open Go.RowKit

def Inv (s : Sk) : Prop := s.bottom = [] → s.first = -1
structure Gr (s t : Sk) : Prop where
  more : ∃ y, t.bottom = s.bottom ++ y
  inv : Inv s → Inv t
  first : s.bottom ≠ [] → t.first = s.first
theorem Gr.refl (s : Sk) : Gr s s := ⟨⟨[], by simp⟩, fun h => h, fun _ => rfl⟩
theorem Gr.trans {s t u : Sk} (a : Gr s t) (b : Gr t u) : Gr s u := by
  obtain ⟨y, hy⟩ := a.more
  obtain ⟨z, hz⟩ := b.more
  refine ⟨⟨y ++ z, by rw [hz, hy, List.append_assoc]⟩, fun h => b.inv (a.inv h), fun h => (b.first ?_).trans (a.first h)⟩
  rw [hy]; intro e; exact h (List.append_eq_nil_iff.1 e).1
/-- Where bottom and mark stay. -/
theorem Gr.same {s t : Sk} (h1 : t.bottom = s.bottom) (h2 : t.first = s.first) : Gr s t := ⟨⟨[], by rw [h1]; simp⟩, fun h e => by rw [h2]; exact h (by rw [← h1]; exact e), fun _ => h2⟩
theorem gr_come (s : Sk) (k : Nat) (x : Bs) : Gr s (come s k x) := by
  cases k with
  | zero =>
    refine ⟨⟨x, rfl⟩, fun h e => ?_, fun h => ?_⟩
    · have e' : s.bottom ++ x = [] := e
      obtain ⟨e1, e2⟩ := List.append_eq_nil_iff.1 e'
      show (if s.bottom = [] ∧ x ≠ [] then s.mark else s.first) = -1
      rw [if_neg (fun z => z.2 e2)]
      exact h e1
    · show (if s.bottom = [] ∧ x ≠ [] then s.mark else s.first) = s.first
      rw [if_neg (fun z => h z.1)]
  | succ k => exact Gr.same rfl rfl
theorem gr_clean (s : Sk) : Gr s (clean s) := Gr.same rfl rfl
theorem gr_flush (s : Sk) : Gr s (flush true s).2 := by
  unfold flush
  split
  · exact Gr.refl s
  · split
    · exact Gr.refl s
    · split
      · exact Gr.refl s
      · exact (gr_clean s).trans (gr_come _ _ _)
theorem gr_popB (s : Sk) : Gr s (popB s) := Gr.same rfl rfl
theorem gr_pop (s : Sk) : Gr s (pop true s).2 := by
  unfold pop
  split
  · exact (gr_flush s).trans (gr_popB _)
  · exact gr_flush s
theorem gr_endN : ∀ (n : Nat) (s : Sk), Gr s (endN true n s).2
  | 0, s => Gr.refl s
  | n + 1, s => by
    unfold endN
    split
    · exact Gr.refl s
    · split
      · exact (gr_pop s).trans (gr_endN n _)
      · exact gr_pop s
theorem gr_step (kind : Int) (x : Bs) (n : Int) (s : Sk) : Gr s (stepS kind x n s) := by
  unfold stepS
  split
  · unfold push; split
    · split
      · exact Gr.refl s
      · exact Gr.same rfl rfl
    · exact Gr.refl s
  split
  · unfold write; split
    · exact Gr.refl s
    · exact gr_come _ _ _
  split
  · exact gr_clean s
  split
  · exact (gr_clean s).trans (gr_popB _)
  split
  · exact gr_flush s
  split
  · exact gr_pop s
  split
  · exact gr_endN _ s
  · exact Gr.same rfl rfl

set_option maxRecDepth 100000 in
set_option maxHeartbeats 6400000 in
theorem grows_any (cap : Nat) (ao : Option Addr) (acts : List Ac) (W : World) (hl : Lies W 3 ao (acts.map Ac.cells)) (hn : acts.length ≤ 9223372036854775807) (hx : ∀ a ∈ acts, a.text.size ≤ 140737488351232) :
    Calls Try.prog 7 #[.slice ao acts.length cap] W (AlivePost W) := by
  have HL := Lib.hid hl
  have HFN : Hid (FnIs (.func (.func 10) #[] #[]) true) := .inl ⟨rfl, rfl⟩
  clear hl
  go_enter Try.func7, Try.ntmps7
  go_wp2_with fail
  refine (new_any HFN.out W).mono ?_
  rintro e w1 ⟨rfl, i1, b1, h1⟩
  have I1 := Lib.hid i1
  have B1 := Lib.hid b1
  have H1 := Lib.hid h1
  clear i1 b1 h1
  go_wp2_with fail
  refine (alive_any _).mono ?_
  rintro e w5 ⟨rfl, b5⟩
  have I5 := Lib.hid (I1.out.stayB b5)
  have B5 := Lib.hid (B1.out.trans (b5.mono B1.out.size))
  have H5 : Hid (W.heap.size < w5.heap.size) := Nat.lt_of_lt_of_le H1.out b5.size
  clear b5 I1 B1 H1
  go_wp2_with fail
  refine (rnew_any _).mono ?_
  rintro e w2 ⟨rfl, b2⟩
  obtain ⟨l3, b3⟩ := duo_start I5.out B5.out H5.out b2
  have L3 := Lib.hid l3
  have B3 := Lib.hid b3
  clear l3 b3 b2
  go_wp2_with fail
  generalize w2.alloc (.cells #[.slice none 0 0, .string .empty, .int .i64 0, .int .i64 (-1)] 42) = w3 at *
  generalize w2.heap.size = rb at *
  go_loopw [4, 5, 20] (fun was first i wr => ∃ (k : Nat) (s : Sk), k ≤ acts.length ∧ i = .int .i64 k ∧ was = .string (str s.bottom) ∧ first = .int .i64 s.first ∧ Inv s ∧ Duo (fun k => k < W.heap.size) wr W.heap.size rb s s ∧ Below W.heap.size W wr) (fun _ _ i _ => acts.length - (intOf i).toNat)
  case atStart => exact ⟨0, sk0, Nat.zero_le _, rfl, rfl, rfl, fun _ => rfl, L3.out, B3.out⟩
  case round =>
    obtain ⟨k, s, hk, rfl, rfl, rfl, hinv, l, bl⟩ := hrel
    have LL := Lib.hid l
    have BL := Lib.hid bl
    have HI := Lib.hid hinv
    clear hinv
    by_cases hlt : k < acts.length
    · obtain ⟨g, off, rfl, hg, c0, c1, c2⟩ := ac_cells HL.out hlt bl
      have hxk := hx acts[k] (List.getElem_mem hlt)
      have L6 := Lib.hid (l.stay ((Mod.refl _ wr).alloc (.cells #[.int .i64 acts[k].kind, .string acts[k].text, .int .i64 acts[k].n] 28)))
      have B6 := Lib.hid (bl.alloc bl.size (.cells #[.int .i64 acts[k].kind, .string acts[k].text, .int .i64 acts[k].n] 28))
      obtain ⟨t, ht⟩ : ∃ t, stepS acts[k].kind acts[k].text.toList acts[k].n s = t := ⟨_, rfl⟩
      have HT := Lib.hid ht
      have GR := Lib.hid (gr_step acts[k].kind acts[k].text.toList acts[k].n s)
      rw [ht] at GR
      clear l bl ht
      go_wp2_with fail
      refine (does_any L6.out acts[k].kind acts[k].text acts[k].n hxk).mono ?_
      rw [HT.out]
      rintro e w7 ⟨rfl, l, m⟩
      have L7 := Lib.hid l
      have B7 := Lib.hid (kbelow B6.out m (Nat.le_refl _))
      have OK7 := Lib.hid l.ok
      clear l m
      have hsz1 : (str s.bottom).size ≤ (str t.bottom).size := by
        obtain ⟨y, hy⟩ := GR.out.more
        rw [hy, str_size, str_size, List.length_append]; omega
      have hsz2 : (str t.bottom).size ≤ 65536 := by
        have := OK7.out.total
        unfold Sk.total at this
        rw [str_size]; omega
      have hE : ((str t.bottom).extract 0 (str s.bottom).size).toList = (str s.bottom).toList := by
        obtain ⟨y, hy⟩ := GR.out.more
        rw [toList_str, hy, ByteArray.toList_eq, ByteArray.data_extract, str_size, Array.toList_extract]
        simp [str]
      have htI : Inv t := GR.out.inv HI.out
      have HTI := Lib.hid htI
      by_cases hs0 : s.bottom = []
      · by_cases ht0 : t.bottom = []
        · have f1 : t.first = -1 := htI ht0
          have e1 : (str s.bottom).toList = [] := by rw [toList_str]; exact hs0
          have e2 : (str t.bottom).toList = [] := by rw [toList_str]; exact ht0
          have e3 : (!(str s.bottom).toList.isEmpty) = false := by rw [e1]; rfl
          have F1 := Lib.hid f1
          clear htI hs0 ht0 f1
          go_wp2_with fail
          refine (d_bottom L7.out).mono ?_
          rintro e w8 ⟨rfl, rfl⟩
          go_wp2_with (go_at_call 15; refine (d_first L7.out).mono ?_; rw [F1.out]; rintro e w8 ⟨rfl, rfl⟩)
          go_roundw
          case rel => exact ⟨k + 1, t, by omega, by go_num, rfl, by rw [F1.out], HTI.out, L7.out, B7.out⟩
          case measure => simp [intOf]; omega
        · have e1 : (str s.bottom).toList = [] := by rw [toList_str]; exact hs0
          have e2 : ¬ (str t.bottom).toList = [] := by rw [toList_str]; exact ht0
          have e3 : (!(str s.bottom).toList.isEmpty) = false := by rw [e1]; rfl
          have e4 : (str t.bottom).toList.isEmpty = false := by rw [toList_str]; simpa using ht0
          clear htI hs0 ht0
          go_wp2_with fail
          refine (d_bottom L7.out).mono ?_
          rintro e w8 ⟨rfl, rfl⟩
          go_wp2_with (go_at_call 15; refine (d_first L7.out).mono ?_; rintro e w8 ⟨rfl, rfl⟩)
          go_roundw
          case rel => exact ⟨k + 1, t, by omega, by go_num, rfl, rfl, HTI.out, L7.out, B7.out⟩
          case measure => simp [intOf]; omega
      · have ht0 : ¬ t.bottom = [] := by
          obtain ⟨y, hy⟩ := GR.out.more
          rw [hy]; intro e; exact hs0 (List.append_eq_nil_iff.1 e).1
        have e1 : ¬ (str s.bottom).toList = [] := by rw [toList_str]; exact hs0
        have e2 : ¬ (str t.bottom).toList = [] := by rw [toList_str]; exact ht0
        have e3 : (str s.bottom).toList.isEmpty = false := by rw [toList_str]; simpa using hs0
        have e4 : (str t.bottom).toList.isEmpty = false := by rw [toList_str]; simpa using ht0
        have F1 := Lib.hid (GR.out.first hs0)
        have e5 : (s.first != s.first) = false := by simp
        clear htI hs0 ht0
        go_wp2_with fail
        refine (d_bottom L7.out).mono ?_
        rintro e w8 ⟨rfl, rfl⟩
        go_wp2_with (go_at_call 15; refine (d_first L7.out).mono ?_; rw [F1.out]; rintro e w8 ⟨rfl, rfl⟩)
        go_roundw
        case rel => exact ⟨k + 1, t, by omega, by go_num, rfl, by rw [F1.out], HTI.out, L7.out, B7.out⟩
        case measure => simp [intOf]; omega
    · obtain rfl : k = acts.length := by omega
      clear l bl
      go_wp2_with fail
      go_ret
      exact ⟨rfl, BL.out⟩
end Go.Proofs.Ytoomffplaopijaa
