/-
  The walks of the document's Top, FlushAs, Flush, Pop, End; and of the statements' 'top'.
-/
import Derived.Test.YtoomffplaopijaaRPush12
namespace Go.Proofs.Ytoomffplaopijaa
open Go.RowKit

/-- The top buffer; a plain one, if there is none. -/
def topB (s : Sk) : Bf := (s.bufs[s.bufs.length - 1]?).getD ⟨[], []⟩
theorem str_nil : str [] = .empty := rfl
theorem topB_at {s : Sk} (h : s.bufs.length ≠ 0) : ∃ M f, s.bufs.length = M + 1 ∧ s.bufs[M]? = some f ∧ topB s = f ∧ s.bufs[s.bufs.length - 1]? = some f := by
  obtain ⟨M, hM⟩ : ∃ M, s.bufs.length = M + 1 := ⟨s.bufs.length - 1, by omega⟩
  obtain ⟨f, hf⟩ : ∃ f, s.bufs[M]? = some f := ⟨_, List.getElem?_eq_getElem (by omega)⟩
  have he : s.bufs[s.bufs.length - 1]? = some f := by rw [hM]; exact hf
  exact ⟨M, f, hM, hf, by unfold topB; rw [he]; rfl, he⟩
theorem topB_none {s : Sk} (h : s.bufs.length = 0) : topB s = ⟨[], []⟩ ∧ s.bufs[s.bufs.length - 1]? = none := by
  have he : s.bufs[s.bufs.length - 1]? = none := by rw [List.getElem?_eq_none (by omega)]
  exact ⟨by unfold topB; rw [he]; rfl, he⟩

theorem wrap_in' (M : Nat) (h : M ≤ 65536) : IntKind.i64.wrap ((M : Int) + 1 - 1) = M := by rw [show (M : Int) + 1 - 1 = M by omega]; exact wrap_in (by omega) (by omega)
theorem bdrewR {B : Nat} {w w' : World} (m : Below B w w') : Below B w w'.drew := ⟨m.os, m.tape, m.output, m.size, m.block⟩
def RTopPost (w : World) (s : Sk) (e : Ending) (w' : World) : Prop := e = .returned (.agg #[.string (str (topB s).name), .string (str (topB s).text)]) ∧ Below w.heap.size w w'

set_option maxHeartbeats 1600000 in
theorem rtop_any {b : Nat} {v : Value} {s : Sk} {w : World} (i : RefIs w b v s) : Calls Try.prog 41 #[.pointer (some ⟨b, 0, none⟩)] w (RTopPost w s) := by
  obtain ⟨ao, cap, hv, -, -, -, -⟩ := i.form
  have c0 := cell_blk i.blk 0
  simp at c0
  rw [hv] at c0
  have hbl := lt_of_block i.blk
  by_cases h0 : s.bufs.length = 0
  · have HT := Lib.hid (topB_none h0).1
    rw [h0] at c0
    clear i hv h0
    go_enter Try.func41, Try.ntmps41
    go_wp2
    exact bodyPost_ret (v := .agg #[.string .empty, .string .empty]) (by simp [results, Try.results41, go_sem]; exact str_nil) rfl ⟨by rw [HT.out]; rfl, (Below.refl _ _).alloc (Nat.le_refl _) _⟩
  · obtain ⟨M, f, hM, hMk, hT, -⟩ := topB_at h0
    obtain ⟨g, cap', hv', h1, h2, c2, c3, hg, -⟩ := i.at hMk
    rw [hv] at hv'
    cases hv'
    rw [hM] at c0
    have hd := i.ok.deep
    rw [hM] at hd
    have HT := Lib.hid hT
    have hwr : IntKind.i64.wrap ((M : Int) + 1 - 1) = M := wrap_in' M (by omega)
    clear i hv hM hMk h0 hT h1 h2
    go_enter Try.func41, Try.ntmps41
    go_wp2_with fail
    go_region
    go_wp2
    exact bodyPost_ret (v := .agg #[.string (str f.name), .string (str f.text)]) (by simp [results, Try.results41, go_sem]) rfl ⟨by rw [HT.out], bdrewR ((Below.refl _ _).alloc (Nat.le_refl _) _)⟩

/-- FlushAs, said plainly. -/
def flushAs (s : Sk) (y : Bs) : Int × Sk :=
  match s.bufs[s.bufs.length - 1]? with
  | none => (6, s)
  | some b =>
    if b.text = [] then (0, s)
    else if 65536 < s.total - b.text.length + y.length then (8, s)
    else (0, come (clean s) (s.bufs.length - 1) y)
theorem flush_as (s : Sk) : flush true s = flushAs s ((fl (topB s).name (topB s).text).getD []) := by
  by_cases h0 : s.bufs.length = 0
  · unfold flush flushAs; rw [(topB_none h0).2]
  · obtain ⟨M, f, hM, hMk, hT, he⟩ := topB_at h0
    unfold flush flushAs; rw [he]
    simp only [hT, mk_true]

set_option maxHeartbeats 3200000 in
theorem rflushAs_any {b : Nat} {v : Value} {s : Sk} {w : World} (i : RefIs w b v s) (x : ByteArray) (hx : x.size ≤ 1099511627776) :
    Calls Try.prog 42 #[.pointer (some ⟨b, 0, none⟩), .string x] w (RGive w b v (flushAs s x.toList).2 (.int .i64 (flushAs s x.toList).1)) := by
  have I := Lib.hid i
  obtain ⟨ao, cap, hv, -, -, -, -⟩ := i.form
  have c0 := cell_blk i.blk 0
  simp at c0
  rw [hv] at c0
  by_cases h0 : s.bufs.length = 0
  · have HP : Hid (flushAs s x.toList = (6, s)) := by show _ = _; unfold flushAs; rw [(topB_none h0).2]
    rw [h0] at c0
    clear i hv h0
    go_enter Try.func42, Try.ntmps42
    go_wp2
    go_ret
    exact ⟨by rw [HP.out]; rfl, by rw [HP.out]; exact RLeft.refl I.out⟩
  · obtain ⟨M, f, hM, hMk, -, he⟩ := topB_at h0
    obtain ⟨g, cap', hv', h1, h2, c2, c3, hg, -⟩ := i.at hMk
    rw [hv] at hv'
    cases hv'
    rw [hM] at c0
    have hd := i.ok.deep
    rw [hM] at hd
    have hwr : IntKind.i64.wrap ((M : Int) + 1 - 1) = M := wrap_in' M (by omega)
    have hnz : (((M : Int) + 1) == 0) = false := by simp; omega
    by_cases ht : f.text = []
    · have HP : Hid (flushAs s x.toList = (0, s)) := by show _ = _; unfold flushAs; rw [he]; show (if _ then _ else _) = _; rw [if_pos ht]
      have e1 : (str f.text).toList = [] := by rw [toList_str]; exact ht
      clear i hv hM hMk h0 h1 h2 he ht
      go_enter Try.func42, Try.ntmps42
      go_wp2
      go_ret
      exact ⟨by rw [HP.out]; rfl, by rw [HP.out]; exact RLeft.refl I.out⟩
    · have e1 : (str f.text).toList.isEmpty = false := by rw [toList_str]; simpa using ht
      have hct := clean_total hM hMk
      have htot := i.ok.total
      have hts : (str f.text).size = f.text.length := str_size _
      have hw1 : IntKind.i64.wrap ((s.total : Int) - (f.text.length : Int)) = (s.total : Int) - (f.text.length : Int) := wrap_in (by omega) (by omega)
      have hw2 : IntKind.i64.wrap ((s.total : Int) - (f.text.length : Int) + (x.size : Int)) = (s.total : Int) - (f.text.length : Int) + (x.size : Int) := wrap_in (by omega) (by omega)
      by_cases hbig : 65536 < s.total - f.text.length + x.size
      · have HP : Hid (flushAs s x.toList = (8, s)) := by show _ = _; unfold flushAs; rw [he]; show (if _ then _ else _) = _; rw [if_neg ht, size_toList, if_pos hbig]
        have hbig' : (65536 : Int) < (s.total : Int) - (f.text.length : Int) + (x.size : Int) := by omega
        clear i hv hM hMk h0 h1 h2 he ht hct hbig
        go_enter Try.func42, Try.ntmps42
        go_wp2_with (go_at_call 38; refine (size_any I.out).mono ?_; rintro e w1 ⟨rfl, rfl⟩)
        go_ret
        exact ⟨by rw [HP.out]; rfl, by rw [HP.out]; exact RLeft.refl I.out⟩
      · have HP : Hid (flushAs s x.toList = (0, come (clean s) M x.toList)) := by show _ = _; unfold flushAs; rw [he]; show (if _ then _ else _) = _; rw [if_neg ht, size_toList, if_neg hbig, hM]; rfl
        have hbig' : (s.total : Int) - (f.text.length : Int) + (x.size : Int) ≤ 65536 := by omega
        have hbig2 : Hid ((clean s).total + x.size ≤ 65536) := by show _ ≤ _; omega
        have HM := Lib.hid hM
        have HMK := Lib.hid hMk
        clear i hv hM hMk h0 h1 h2 he ht hct hbig
        go_enter Try.func42, Try.ntmps42
        go_wp2_with (go_at_call 38; refine (size_any I.out).mono ?_; rintro e w1 ⟨rfl, rfl⟩)
        refine (own_any I.out).mono ?_
        rintro e w1 ⟨rfl, v1, i1, x1, m1⟩
        obtain ⟨g1, cap1, hv1, q1, q2, d2, d3, -, df⟩ := i1.at HMK.out
        have hl2 := i1.setText hv1 HMK.out [] (clean s) (clean_bufs HM.out HMK.out) rfl rfl rfl (clean_ok i1.ok HM.out HMK.out)
        have d0 := cell_blk i1.blk 0
        simp at d0
        rw [hv1, HM.out] at d0
        have hcc : Calls Try.prog 40 #[.pointer (some ⟨b, 0, none⟩), .int .i64 (M : Int), .string x] (w1.setCell ⟨g1, M * 2 + 1, none⟩ (.string (str []))) (RGive (w1.setCell ⟨g1, M * 2 + 1, none⟩ (.string (str []))) b v1 (come (clean s) M x.toList) (.tuple #[])) := by
          cases M with
          | zero => exact rcome_bottom hl2.1 x hbig2.out
          | succ k => rw [Int.natCast_succ]; exact rcome_level hl2.1 (k := k) (List.getElem?_eq_getElem (by rw [clean_len, HM.out]; omega)) x hbig2.out
        rw [str_nil] at hcc hl2
        have HCC := Lib.hid hcc
        have L2 := Lib.hid hl2
        have X1 := Lib.hid x1
        have M1 := Lib.hid m1
        clear i1 x1 m1 hl2 hcc hv1 q1 q2 c0 c2 c3
        go_wp2_with fail
        refine HCC.out.mono ?_
        rintro e w2 ⟨rfl, hl⟩
        have HL := Lib.hid hl
        clear hl
        go_wp2_with fail
        go_ret
        exact ⟨by rw [HP.out]; rfl, by rw [HP.out]; exact RLeft.trans (X1.out.elim (fun h => .inr (.inl h)) (fun h => .inr (.inr h))) (M1.out.mono fun _ _ h => .inl h) (RLeft.trans (.inl rfl) (L2.out.2.mono fun _ _ h => .inr h) HL.out)⟩

theorem fl_small {s : Sk} (ht : s.total ≤ 65536) : ((fl (topB s).name (topB s).text).getD []).length ≤ 1099511627776 := by
  have h1 : (topB s).text.length ≤ 65536 := by
    by_cases h0 : s.bufs.length = 0
    · rw [(topB_none h0).1]; simp
    · obtain ⟨M, f, hM, hMk, hT, -⟩ := topB_at h0
      rw [hT]
      have := bytesOf_le hMk
      unfold Sk.total at ht
      omega
  cases h : fl (topB s).name (topB s).text with
  | none => simp
  | some y => have := fl_len h; show y.length ≤ _; omega

set_option maxHeartbeats 1600000 in
theorem rflush_any {b : Nat} {v : Value} {s : Sk} {w : World} (i : RefIs w b v s) : Calls Try.prog 34 #[.pointer (some ⟨b, 0, none⟩)] w (RGive w b v (flush true s).2 (.int .i64 (flush true s).1)) := by
  have I := Lib.hid i
  have hfs := Lib.hid (fl_small i.ok.total)
  have htt : Hid ((str (topB s).text).size ≤ 1099511627776) := by
    show _ ≤ _
    rw [str_size]
    have ht := i.ok.total
    by_cases h0 : s.bufs.length = 0
    · rw [(topB_none h0).1]; simp
    · obtain ⟨M, f, hM, hMk, hT, -⟩ := topB_at h0
      rw [hT]
      have := bytesOf_le hMk
      unfold Sk.total at ht
      omega
  clear i
  go_enter Try.func34, Try.ntmps34
  go_wp2_with fail
  refine (rtop_any I.out).mono ?_
  rintro e w1 ⟨rfl, hb⟩
  have I1 := Lib.hid (I.out.stay ((Mod.of_below hb).alloc (.cells #[.string (str (topB s).name), .string (str (topB s).text)] 62)))
  have HB := Lib.hid (hb.alloc hb.size (.cells #[.string (str (topB s).name), .string (str (topB s).text)] 62))
  clear hb
  go_wp2_with fail
  refine (filter_any (str (topB s).name) (str (topB s).text) _ htt.out).mono ?_
  rintro e w2 ⟨rfl, hb⟩
  rw [toList_str, toList_str]
  have I2 := Lib.hid (I1.out.stay (Mod.of_below hb))
  have HB2 := Lib.hid (HB.out.trans (hb.mono HB.out.size))
  clear hb
  go_wp2_with fail
  refine (rflushAs_any I2.out _ (by rw [str_size]; exact hfs.out)).mono ?_
  rintro e w3 ⟨rfl, hl⟩
  rw [toList_str, ← flush_as] at hl
  rw [toList_str, ← flush_as]
  have HL := Lib.hid hl
  clear hl
  go_wp2_with fail
  go_ret
  exact ⟨rfl, RLeft.trans (.inl rfl) (Mod.of_below HB2.out) HL.out⟩
end Go.Proofs.Ytoomffplaopijaa
