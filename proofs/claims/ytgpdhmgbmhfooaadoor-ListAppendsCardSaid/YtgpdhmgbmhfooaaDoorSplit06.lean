/-
  The walk of split: a text parted behind its number.
-/
import Derived.Test.YtgpdhmgbmhfooaaDoorBegin06
import Derived.Test.YtgpdhmgbmhfooaaDoorShelf
import Derived.Lib.OthersKept
import Derived.Laws.RangeAny
namespace Go.Proofs.YtgpdhmgbmhfooaaDoor
open Go.RowKit

theorem toList_str (l : Bs) : (str l).toList = l := str_toList l
theorem dropWhile_le {p : UInt8 → Bool} : ∀ (l : Bs), (l.dropWhile p).length ≤ l.length
  | [] => Nat.le_refl _
  | c :: r => by
    rw [List.dropWhile_cons]
    split
    · have := dropWhile_le (p := p) r; rw [List.length_cons]; omega
    · exact Nat.le_refl _
/-- split, said plainly. -/
def splitP (l : Bs) : Bs × Bs × Bool :=
  if digs (trimB l) = [] then ([], [], false) else ((trimB l).take (signLen (trimB l) + (digs (trimB l)).length), trimB ((trimB l).drop (signLen (trimB l) + (digs (trimB l)).length)), true)
def SplitPost (w : World) (r : Bs × Bs × Bool) (e : Ending) (w' : World) : Prop := e = .returned (.tuple #[.string (str r.1), .string (str r.2.1), .bool r.2.2]) ∧ Below w.heap.size w w'

theorem blanks_ascii : ∀ (j : Nat) (b : UInt8), (⟨#[32, 9, 10, 11, 12, 13]⟩ : ByteArray).data.toList[j]? = some b → b.toNat < 128 := by
  intro j b h
  have hm : b ∈ ([32, 9, 10, 11, 12, 13] : Bs) := List.mem_of_getElem? h
  simp at hm
  rcases hm with rfl | rfl | rfl | rfl | rfl | rfl <;> decide
theorem trim_any (s : ByteArray) (w : World) : Calls Tryd.prog 77 #[.string s, .string ⟨#[32, 9, 10, 11, 12, 13]⟩] w (TextPost w (trimB s.toList)) := by
  refine (Tryd.strings_TrimLeft_laid s ⟨#[32, 9, 10, 11, 12, 13]⟩ w (by decide) blanks_ascii).mono fun e w' ⟨he, hb⟩ => ⟨?_, hb⟩
  rw [he]
  have : Lib.trimLeftS s.data.toList (⟨#[32, 9, 10, 11, 12, 13]⟩ : ByteArray).data.toList = trimB s.toList := by rw [bl_eq s]; exact trimB_lib _
  rw [this]
  rfl

theorem ext_take (t : ByteArray) (E : Nat) : t.extract 0 E = str (t.toList.take E) := by
  have e : str t.toList = t := str_of t
  apply ByteArray.ext
  rw [ByteArray.data_extract]
  apply Array.toList_inj.1
  rw [Array.toList_extract, ← bl_eq]
  simp [str]
theorem ext_drop (t : ByteArray) (E : Nat) : (t.extract E t.size).toList = t.toList.drop E := by
  rw [bl_eq, ByteArray.data_extract, Array.toList_extract, ← bl_eq]
  have : t.size = t.toList.length := (size_toList t).symm
  rw [this, List.extract_eq_take_drop, ← List.length_drop, List.take_length]
theorem next_lit (w : World) (k : Nat) (s : ByteArray) (pos : Nat) (x y : Int) (hk : w.heap[k]? = some (.stringIter s pos)) (h : pos < s.size) (ha : (s[pos]'h).toNat < 128) (hx : ((s[pos]'h).toNat : Int) = x) (hy : (pos : Int) = y) (ty : TypeId) :
    (Instr.next (.pointer (some ⟨k, 0, none⟩)) true ty).run Tryd.prog w = .ok (.tuple #[.bool true, .int .i64 y, .int .i32 x]) (w.iterAt k s (pos + 1)) := by
  subst hx hy; exact Lib.run_next_ascii_at w k s pos ty hk h ha
theorem next_lit_any (w : World) (k : Nat) (s : ByteArray) (pos : Nat) (x : Int) (hk : w.heap[k]? = some (.stringIter s pos)) (h : pos < s.size) (hx : ((Utf8.decode s pos).1 : Int) = x) (ty : TypeId) :
    (Instr.next (.pointer (some ⟨k, 0, none⟩)) true ty).run Tryd.prog w = .ok (.tuple #[.bool true, .int .i64 pos, .int .i32 x]) (w.iterAt k s (pos + (Utf8.decode s pos).2)) := by
  subst hx; exact Lib.run_next_any_at w k s pos ty hk h
theorem bdrewX {B : Nat} {w w' : World} (m : Below B w.drew w') : Below B w w' := ⟨m.os, m.tape, m.output, m.size, m.block⟩

/-- How far the number goes. -/
def headLen (t : ByteArray) : Nat := signLen t.toList + (digs t.toList).length
theorem digs_at (t : ByteArray) : digs t.toList = digsAt t (signLen t.toList) := rfl
theorem signLen_le (t : ByteArray) : signLen t.toList ≤ t.size := by
  cases h : t.toList with
  | nil => exact Nat.zero_le _
  | cons c r =>
    have : t.size = r.length + 1 := by rw [← size_toList, h]; rfl
    unfold signLen
    simp only
    split <;> omega
theorem signLen_at (t : ByteArray) (h : 0 < t.size) : signLen t.toList = if t[0].toNat = 45 ∨ t[0].toNat = 43 then 1 else 0 := by
  have := drop_at t h
  rw [List.drop_zero] at this
  rw [this]
  rfl
theorem head_le (t : ByteArray) : headLen t ≤ t.size := (digs_end t (signLen_le t)).1
theorem head_lt (t : ByteArray) {p : Nat} (hp : p < headLen t) : ∃ h : p < t.size, isDig t[p] = true ∨ (p = 0 ∧ (t[p].toNat = 45 ∨ t[p].toNat = 43)) := by
  have hl := head_le t
  refine ⟨by omega, ?_⟩
  by_cases hs : p < signLen t.toList
  · right
    have h0 : 0 < t.size := by omega
    have := signLen_at t h0
    split at this
    · rename_i h
      have : p = 0 := by omega
      subst this
      exact ⟨rfl, h⟩
    · omega
  · left
    obtain ⟨_, h2, _⟩ := digs_lt t (q := signLen t.toList) (j := p - signLen t.toList) (by unfold headLen at hp; rw [digs_at] at hp; omega)
    have e : signLen t.toList + (p - signLen t.toList) = p := by omega
    simp only [e] at h2
    exact h2
theorem head_end (t : ByteArray) (h : headLen t < t.size) : isDig t[headLen t] = false ∧ (headLen t = 0 → t[headLen t].toNat ≠ 45 ∧ t[headLen t].toNat ≠ 43) := by
  refine ⟨(digs_end t (signLen_le t)).2 h, fun h0 => ?_⟩
  have hs : signLen t.toList = 0 := by unfold headLen at h0; omega
  have h1 := signLen_at t (by omega)
  rw [hs] at h1
  split at h1
  · omega
  · rename_i hn
    simp only [h0]
    omega

theorem nodig_high {c : UInt8} (h : 128 ≤ c.toNat) : isDig c = false := by
  cases hd : isDig c with
  | false => rfl
  | true => have := (isDig_iff c).1 hd; omega

set_option maxHeartbeats 6400000 in
theorem split_any (s : ByteArray) (hs : s.size ≤ 281474976710656) (w : World) : Calls Tryd.prog 60 #[.string s] w (SplitPost w (splitP s.toList)) := by
  obtain ⟨r, hr⟩ : ∃ r, r = splitP s.toList := ⟨_, rfl⟩
  rw [← hr]
  have HR := Lib.hid hr
  obtain ⟨t, ht⟩ : ∃ t, t = str (trimB s.toList) := ⟨_, rfl⟩
  have HT := Lib.hid ht
  have hts : t.size ≤ 281474976710656 := by
    rw [ht, str_size]
    have : (trimB s.toList).length ≤ s.toList.length := by unfold trimB; exact dropWhile_le _
    rw [size_toList] at this
    omega
  have HTL : Hid (t.toList = trimB s.toList) := by show _ = _; rw [ht, toList_str]
  clear hr ht
  go_enter Tryd.func60, Tryd.ntmps60
  go_wp2_with fail
  refine (trim_any s _).mono ?_
  rintro e w1 ⟨rfl, hb⟩
  rw [← HT.out]
  have hk0 : (w1.iter t 0).heap[w1.heap.size]? = some (.stringIter t 0) := World.iter_heap w1 t 0
  have hb0 : Below w.heap.size w (w1.iter t 0) := hb.alloc hb.size _
  have HK0 := Lib.hid hk0
  have HB0 := Lib.hid hb0
  have HSZ : Hid (w.heap.size ≤ w1.heap.size) := hb.size
  clear hk0 hb0 hb
  obtain ⟨E, hE⟩ : ∃ E, E = headLen t := ⟨_, rfl⟩
  have HE := Lib.hid hE
  have hEs : E ≤ t.size := by rw [hE]; exact head_le t
  clear hE
  go_wp2_with fail
  go_loopw [5] (fun ev wr => ∃ p : Nat, p ≤ E ∧ ev = .int .i64 p ∧ Hid (wr.heap[w1.heap.size]? = some (.stringIter t p)) ∧ Hid (Below w.heap.size w wr)) (fun _ wr => t.size - wr.iterPos w1.heap.size)
  case atStart => exact ⟨0, Nat.zero_le _, rfl, HK0, HB0⟩
  case round =>
    obtain ⟨p, hpE, rfl, HIT, HBW⟩ := hrel
    have hiter := HIT.out
    have hmu : wr.iterPos w1.heap.size = p := by simp [World.iterPos, hiter]
    by_cases hlt : p < E
    · obtain ⟨hps, hch⟩ := head_lt t (p := p) (by rw [← HE.out]; exact hlt)
      have h128 : t[p].toNat < 128 := by
        rcases hch with h | ⟨_, h⟩
        · have := (isDig_iff _).1 h; omega
        · omega
      have hk1 := Lib.iterAt_heap wr w1.heap.size t p (p + 1) hiter
      have hnx1 : Below w.heap.size w (wr.iterAt w1.heap.size t (p + 1)) := Lib.below_iterAt HBW.out HSZ.out t (p + 1)
      have hmu2 : (wr.iterAt w1.heap.size t (p + 1)).iterPos w1.heap.size = p + 1 := by simp [World.iterPos, hk1]
      have HK1 := Lib.hid hk1
      have HN1 := Lib.hid hnx1
      have HMU := Lib.hid hmu
      have HMU2 := Lib.hid hmu2
      have HLT := Lib.hid hlt
      have HPS := Lib.hid hps
      rcases hch with hd | ⟨hp0, hsg⟩
      · have hb := (isDig_iff _).1 hd
        obtain ⟨x, hx⟩ : ∃ x : Int, (t[p].toNat : Int) = x := ⟨_, rfl⟩
        have hnext : ∀ ty, (Instr.next (.pointer (some ⟨w1.heap.size, 0, none⟩)) true ty).run Tryd.prog wr = _ := fun ty => next_lit wr w1.heap.size t p x p hiter hps h128 hx rfl ty
        generalize wr.iterAt w1.heap.size t (p + 1) = W1 at hnext hk1 hnx1 hmu2 HK1 HN1 HMU2
        have hb1 : decide (x < 48) = false := by simp; omega
        have hb2 : decide (57 < x) = false := by simp; omega
        clear hb h128 hx
        clear hd hk1 hnx1 hmu hmu2 hlt hiter
        go_wp2_with fail
        go_roundw
        case rel => exact ⟨p + 1, by have := HLT.out; omega, by go_num, HK1, HN1⟩
        case measure => rw [HMU.out, HMU2.out]; have := HPS.out; omega
      · subst hp0
        rcases hsg with hc | hc
        · have hx : (t[0].toNat : Int) = 45 := by omega
          have hnext : ∀ ty, (Instr.next (.pointer (some ⟨w1.heap.size, 0, none⟩)) true ty).run Tryd.prog wr = _ := fun ty => next_lit wr w1.heap.size t 0 45 0 hiter hps h128 hx rfl ty
          generalize wr.iterAt w1.heap.size t (0 + 1) = W1 at hnext hk1 hnx1 hmu2 HK1 HN1 HMU2
          clear hk1 hnx1 hmu hmu2 hlt hiter hc h128 hx
          go_wp2_with fail
          go_roundw
          case rel => exact ⟨1, by have := HLT.out; omega, by go_num, HK1, HN1⟩
          case measure => rw [HMU.out, HMU2.out]; have := HPS.out; omega
        · have hx : (t[0].toNat : Int) = 43 := by omega
          have hnext : ∀ ty, (Instr.next (.pointer (some ⟨w1.heap.size, 0, none⟩)) true ty).run Tryd.prog wr = _ := fun ty => next_lit wr w1.heap.size t 0 43 0 hiter hps h128 hx rfl ty
          generalize wr.iterAt w1.heap.size t (0 + 1) = W1 at hnext hk1 hnx1 hmu2 HK1 HN1 HMU2
          clear hk1 hnx1 hmu hmu2 hlt hiter hc h128 hx
          go_wp2_with fail
          go_roundw
          case rel => exact ⟨1, by have := HLT.out; omega, by go_num, HK1, HN1⟩
          case measure => rw [HMU.out, HMU2.out]; have := HPS.out; omega
    · have hpE' : p = E := by omega
      subst hpE'
      clear hlt hmu
      by_cases hps : p < t.size
      · obtain ⟨hnd, hns⟩ := head_end t (by rw [← HE.out]; exact hps)
        simp only [← HE.out] at hnd hns
        by_cases h128 : t[p].toNat < 128
        · obtain ⟨x, hx⟩ : ∃ x : Int, (t[p].toNat : Int) = x := ⟨_, rfl⟩
          have hnext : ∀ ty, (Instr.next (.pointer (some ⟨w1.heap.size, 0, none⟩)) true ty).run Tryd.prog wr = _ := fun ty => next_lit wr w1.heap.size t p x p hiter hps h128 hx rfl ty
          have hnx1 : Below w.heap.size w (wr.iterAt w1.heap.size t (p + 1)) := Lib.below_iterAt HBW.out HSZ.out t (p + 1)
          generalize wr.iterAt w1.heap.size t (p + 1) = W1 at hnext hnx1
          clear HBW
          have HBW := Lib.hid hnx1
          clear hnx1 hiter HIT
          have hnd' : t[p].toNat < 48 ∨ 57 < t[p].toNat := by
            by_cases h : 48 ≤ t[p].toNat ∧ t[p].toNat ≤ 57
            · rw [(isDig_iff _).2 h] at hnd; cases hnd
            · omega
          have hxs : p = 0 → x ≠ 45 ∧ x ≠ 43 := fun h => by have := hns h; omega
          have hx' : x < 48 ∨ 57 < x := by omega
          clear hnd hns hnd' hx
          by_cases hp0 : p = 0
          · have hi0 : decide (0 < p) = false := by simp; omega
            have e1 : (x != 45) = true := by simp [(hxs hp0).1]
            have e2 : (x != 43) = true := by simp [(hxs hp0).2]
            clear hxs hp0
            rcases hx' with hx' | hx'
            · have b1 : decide (x < 48) = true := by simp; omega
              clear hx'
              by_cases hD : digs t.toList = []
              · have HRN : Hid (r = ([], [], false)) := by
                  show _ = _
                  rw [HR.out]; unfold splitP; rw [← HTL.out, if_pos hD]
                by_cases hE0 : p = 0
                · have q0 : ((p : Int) == 0) = true := by simp [hE0]
                  clear hD hE0
                  go_wp2_with fail
                  go_ret3
                  exact ⟨by rw [HRN.out]; rfl, HBW.out⟩
                · have hs1 : signLen t.toList = 1 ∧ p = 1 := by
                    have h1 := HE.out
                    unfold headLen at h1
                    rw [hD] at h1
                    have h2 : signLen t.toList ≤ 1 := by unfold signLen; split <;> (try split) <;> omega
                    simp at h1
                    omega
                  have h0 : 0 < t.size := by omega
                  have hsg := signLen_at t h0
                  rw [hs1.1] at hsg
                  have hc : t[0].toNat = 45 ∨ t[0].toNat = 43 := by
                    split at hsg
                    · assumption
                    · omega
                  have q0 : ((p : Int) == 0) = false := by simp [hE0]
                  have q1 : ((p : Int) == 1) = true := by simp [hs1.2]
                  have h0' : (0 : Int) < (t.size : Int) := by omega
                  rcases hc with hc | hc
                  · have e1 : ((t[0].toNat : Int) == 45) = true := by (have : (t[0].toNat : Int) = 45 := by omega); simp only [this]; rfl
                    clear hD hE0 hs1 hsg hc
                    go_wp2_with fail
                    go_ret3
                    exact ⟨by rw [HRN.out]; rfl, HBW.out⟩
                  · have e1 : ((t[0].toNat : Int) == 45) = false := by (have : (t[0].toNat : Int) = 43 := by omega); simp only [this]; rfl
                    have e2 : ((t[0].toNat : Int) == 43) = true := by (have : (t[0].toNat : Int) = 43 := by omega); simp only [this]; rfl
                    clear hD hE0 hs1 hsg hc
                    go_wp2_with fail
                    go_ret3
                    exact ⟨by rw [HRN.out]; rfl, HBW.out⟩
              · have HRN : Hid (r = (t.toList.take p, trimB (t.toList.drop p), true)) := by
                  show _ = _
                  rw [HR.out]; unfold splitP; rw [← HTL.out, if_neg hD, HE.out]; rfl
                have hE1 : 1 ≤ p := by
                  have h1 := HE.out
                  unfold headLen at h1
                  have : (digs t.toList).length ≠ 0 := fun e => hD (List.eq_nil_of_length_eq_zero e)
                  omega
                have q0 : ((p : Int) == 0) = false := by simp; omega
                have X1 : Hid (t.extract 0 p = str (t.toList.take p)) := ext_take t p
                have X2 : Hid ((t.extract p t.size).toList = t.toList.drop p) := ext_drop t p
                have hEi : (p : Int) ≤ (t.size : Int) := by omega
                by_cases hE2 : p = 1
                · have h0 : 0 < t.size := by omega
                  have hdg : isDig t[0] = true := by
                    obtain ⟨_, h2⟩ := head_lt t (p := 0) (by rw [← HE.out]; omega)
                    rcases h2 with h2 | ⟨_, h2⟩
                    · exact h2
                    · exfalso
                      have hsg := signLen_at t h0
                      rw [if_pos h2] at hsg
                      have h1 := HE.out
                      unfold headLen at h1
                      have : (digs t.toList).length ≠ 0 := fun e => hD (List.eq_nil_of_length_eq_zero e)
                      omega
                  have hb := (isDig_iff _).1 hdg
                  have q1 : ((p : Int) == 1) = true := by simp [hE2]
                  have e1 : ((t[0].toNat : Int) == 45) = false := by simp; omega
                  have e2 : ((t[0].toNat : Int) == 43) = false := by simp; omega
                  have h0' : (0 : Int) < (t.size : Int) := by omega
                  clear hD hE2 hdg hb
                  go_wp2_with fail
                  go_region_with (go_at_call 77; refine (trim_any (t.extract p t.size) _).mono ?_; rintro e w2 ⟨rfl, hb2⟩; rw [X2.out]; have HB2 := Lib.hid (HBW.out.trans ((bdrewX hb2).mono HBW.out.size)); clear hb2)
                  all_goals go_wp2_with fail
                  all_goals go_ret3
                  all_goals exact ⟨by rw [HRN.out, X1.out]; rfl, HB2.out⟩
                · have q1 : ((p : Int) == 1) = false := by simp; omega
                  clear hD hE2
                  go_wp2_with fail
                  go_region_with (go_at_call 77; refine (trim_any (t.extract p t.size) _).mono ?_; rintro e w2 ⟨rfl, hb2⟩; rw [X2.out]; have HB2 := Lib.hid (HBW.out.trans ((bdrewX hb2).mono HBW.out.size)); clear hb2)
                  all_goals go_wp2_with fail
                  all_goals go_ret3
                  all_goals exact ⟨by rw [HRN.out, X1.out]; rfl, HB2.out⟩
            · have b1 : decide (x < 48) = false := by simp; omega
              have b2 : decide (57 < x) = true := by simp; omega
              clear hx'
              by_cases hD : digs t.toList = []
              · have HRN : Hid (r = ([], [], false)) := by
                  show _ = _
                  rw [HR.out]; unfold splitP; rw [← HTL.out, if_pos hD]
                by_cases hE0 : p = 0
                · have q0 : ((p : Int) == 0) = true := by simp [hE0]
                  clear hD hE0
                  go_wp2_with fail
                  go_ret3
                  exact ⟨by rw [HRN.out]; rfl, HBW.out⟩
                · have hs1 : signLen t.toList = 1 ∧ p = 1 := by
                    have h1 := HE.out
                    unfold headLen at h1
                    rw [hD] at h1
                    have h2 : signLen t.toList ≤ 1 := by unfold signLen; split <;> (try split) <;> omega
                    simp at h1
                    omega
                  have h0 : 0 < t.size := by omega
                  have hsg := signLen_at t h0
                  rw [hs1.1] at hsg
                  have hc : t[0].toNat = 45 ∨ t[0].toNat = 43 := by
                    split at hsg
                    · assumption
                    · omega
                  have q0 : ((p : Int) == 0) = false := by simp [hE0]
                  have q1 : ((p : Int) == 1) = true := by simp [hs1.2]
                  have h0' : (0 : Int) < (t.size : Int) := by omega
                  rcases hc with hc | hc
                  · have e1 : ((t[0].toNat : Int) == 45) = true := by (have : (t[0].toNat : Int) = 45 := by omega); simp only [this]; rfl
                    clear hD hE0 hs1 hsg hc
                    go_wp2_with fail
                    go_ret3
                    exact ⟨by rw [HRN.out]; rfl, HBW.out⟩
                  · have e1 : ((t[0].toNat : Int) == 45) = false := by (have : (t[0].toNat : Int) = 43 := by omega); simp only [this]; rfl
                    have e2 : ((t[0].toNat : Int) == 43) = true := by (have : (t[0].toNat : Int) = 43 := by omega); simp only [this]; rfl
                    clear hD hE0 hs1 hsg hc
                    go_wp2_with fail
                    go_ret3
                    exact ⟨by rw [HRN.out]; rfl, HBW.out⟩
              · have HRN : Hid (r = (t.toList.take p, trimB (t.toList.drop p), true)) := by
                  show _ = _
                  rw [HR.out]; unfold splitP; rw [← HTL.out, if_neg hD, HE.out]; rfl
                have hE1 : 1 ≤ p := by
                  have h1 := HE.out
                  unfold headLen at h1
                  have : (digs t.toList).length ≠ 0 := fun e => hD (List.eq_nil_of_length_eq_zero e)
                  omega
                have q0 : ((p : Int) == 0) = false := by simp; omega
                have X1 : Hid (t.extract 0 p = str (t.toList.take p)) := ext_take t p
                have X2 : Hid ((t.extract p t.size).toList = t.toList.drop p) := ext_drop t p
                have hEi : (p : Int) ≤ (t.size : Int) := by omega
                by_cases hE2 : p = 1
                · have h0 : 0 < t.size := by omega
                  have hdg : isDig t[0] = true := by
                    obtain ⟨_, h2⟩ := head_lt t (p := 0) (by rw [← HE.out]; omega)
                    rcases h2 with h2 | ⟨_, h2⟩
                    · exact h2
                    · exfalso
                      have hsg := signLen_at t h0
                      rw [if_pos h2] at hsg
                      have h1 := HE.out
                      unfold headLen at h1
                      have : (digs t.toList).length ≠ 0 := fun e => hD (List.eq_nil_of_length_eq_zero e)
                      omega
                  have hb := (isDig_iff _).1 hdg
                  have q1 : ((p : Int) == 1) = true := by simp [hE2]
                  have e1 : ((t[0].toNat : Int) == 45) = false := by simp; omega
                  have e2 : ((t[0].toNat : Int) == 43) = false := by simp; omega
                  have h0' : (0 : Int) < (t.size : Int) := by omega
                  clear hD hE2 hdg hb
                  go_wp2_with fail
                  go_region_with (go_at_call 77; refine (trim_any (t.extract p t.size) _).mono ?_; rintro e w2 ⟨rfl, hb2⟩; rw [X2.out]; have HB2 := Lib.hid (HBW.out.trans ((bdrewX hb2).mono HBW.out.size)); clear hb2)
                  all_goals go_wp2_with fail
                  all_goals go_ret3
                  all_goals exact ⟨by rw [HRN.out, X1.out]; rfl, HB2.out⟩
                · have q1 : ((p : Int) == 1) = false := by simp; omega
                  clear hD hE2
                  go_wp2_with fail
                  go_region_with (go_at_call 77; refine (trim_any (t.extract p t.size) _).mono ?_; rintro e w2 ⟨rfl, hb2⟩; rw [X2.out]; have HB2 := Lib.hid (HBW.out.trans ((bdrewX hb2).mono HBW.out.size)); clear hb2)
                  all_goals go_wp2_with fail
                  all_goals go_ret3
                  all_goals exact ⟨by rw [HRN.out, X1.out]; rfl, HB2.out⟩
          · have hi0 : decide (0 < p) = true := by simp; omega
            clear hxs hp0
            rcases hx' with hx' | hx'
            · have b1 : decide (x < 48) = true := by simp; omega
              clear hx'
              by_cases hD : digs t.toList = []
              · have HRN : Hid (r = ([], [], false)) := by
                  show _ = _
                  rw [HR.out]; unfold splitP; rw [← HTL.out, if_pos hD]
                by_cases hE0 : p = 0
                · have q0 : ((p : Int) == 0) = true := by simp [hE0]
                  clear hD hE0
                  go_wp2_with fail
                  go_ret3
                  exact ⟨by rw [HRN.out]; rfl, HBW.out⟩
                · have hs1 : signLen t.toList = 1 ∧ p = 1 := by
                    have h1 := HE.out
                    unfold headLen at h1
                    rw [hD] at h1
                    have h2 : signLen t.toList ≤ 1 := by unfold signLen; split <;> (try split) <;> omega
                    simp at h1
                    omega
                  have h0 : 0 < t.size := by omega
                  have hsg := signLen_at t h0
                  rw [hs1.1] at hsg
                  have hc : t[0].toNat = 45 ∨ t[0].toNat = 43 := by
                    split at hsg
                    · assumption
                    · omega
                  have q0 : ((p : Int) == 0) = false := by simp [hE0]
                  have q1 : ((p : Int) == 1) = true := by simp [hs1.2]
                  have h0' : (0 : Int) < (t.size : Int) := by omega
                  rcases hc with hc | hc
                  · have e1 : ((t[0].toNat : Int) == 45) = true := by (have : (t[0].toNat : Int) = 45 := by omega); simp only [this]; rfl
                    clear hD hE0 hs1 hsg hc
                    go_wp2_with fail
                    go_ret3
                    exact ⟨by rw [HRN.out]; rfl, HBW.out⟩
                  · have e1 : ((t[0].toNat : Int) == 45) = false := by (have : (t[0].toNat : Int) = 43 := by omega); simp only [this]; rfl
                    have e2 : ((t[0].toNat : Int) == 43) = true := by (have : (t[0].toNat : Int) = 43 := by omega); simp only [this]; rfl
                    clear hD hE0 hs1 hsg hc
                    go_wp2_with fail
                    go_ret3
                    exact ⟨by rw [HRN.out]; rfl, HBW.out⟩
              · have HRN : Hid (r = (t.toList.take p, trimB (t.toList.drop p), true)) := by
                  show _ = _
                  rw [HR.out]; unfold splitP; rw [← HTL.out, if_neg hD, HE.out]; rfl
                have hE1 : 1 ≤ p := by
                  have h1 := HE.out
                  unfold headLen at h1
                  have : (digs t.toList).length ≠ 0 := fun e => hD (List.eq_nil_of_length_eq_zero e)
                  omega
                have q0 : ((p : Int) == 0) = false := by simp; omega
                have X1 : Hid (t.extract 0 p = str (t.toList.take p)) := ext_take t p
                have X2 : Hid ((t.extract p t.size).toList = t.toList.drop p) := ext_drop t p
                have hEi : (p : Int) ≤ (t.size : Int) := by omega
                by_cases hE2 : p = 1
                · have h0 : 0 < t.size := by omega
                  have hdg : isDig t[0] = true := by
                    obtain ⟨_, h2⟩ := head_lt t (p := 0) (by rw [← HE.out]; omega)
                    rcases h2 with h2 | ⟨_, h2⟩
                    · exact h2
                    · exfalso
                      have hsg := signLen_at t h0
                      rw [if_pos h2] at hsg
                      have h1 := HE.out
                      unfold headLen at h1
                      have : (digs t.toList).length ≠ 0 := fun e => hD (List.eq_nil_of_length_eq_zero e)
                      omega
                  have hb := (isDig_iff _).1 hdg
                  have q1 : ((p : Int) == 1) = true := by simp [hE2]
                  have e1 : ((t[0].toNat : Int) == 45) = false := by simp; omega
                  have e2 : ((t[0].toNat : Int) == 43) = false := by simp; omega
                  have h0' : (0 : Int) < (t.size : Int) := by omega
                  clear hD hE2 hdg hb
                  go_wp2_with fail
                  go_region_with (go_at_call 77; refine (trim_any (t.extract p t.size) _).mono ?_; rintro e w2 ⟨rfl, hb2⟩; rw [X2.out]; have HB2 := Lib.hid (HBW.out.trans ((bdrewX hb2).mono HBW.out.size)); clear hb2)
                  all_goals go_wp2_with fail
                  all_goals go_ret3
                  all_goals exact ⟨by rw [HRN.out, X1.out]; rfl, HB2.out⟩
                · have q1 : ((p : Int) == 1) = false := by simp; omega
                  clear hD hE2
                  go_wp2_with fail
                  go_region_with (go_at_call 77; refine (trim_any (t.extract p t.size) _).mono ?_; rintro e w2 ⟨rfl, hb2⟩; rw [X2.out]; have HB2 := Lib.hid (HBW.out.trans ((bdrewX hb2).mono HBW.out.size)); clear hb2)
                  all_goals go_wp2_with fail
                  all_goals go_ret3
                  all_goals exact ⟨by rw [HRN.out, X1.out]; rfl, HB2.out⟩
            · have b1 : decide (x < 48) = false := by simp; omega
              have b2 : decide (57 < x) = true := by simp; omega
              clear hx'
              by_cases hD : digs t.toList = []
              · have HRN : Hid (r = ([], [], false)) := by
                  show _ = _
                  rw [HR.out]; unfold splitP; rw [← HTL.out, if_pos hD]
                by_cases hE0 : p = 0
                · have q0 : ((p : Int) == 0) = true := by simp [hE0]
                  clear hD hE0
                  go_wp2_with fail
                  go_ret3
                  exact ⟨by rw [HRN.out]; rfl, HBW.out⟩
                · have hs1 : signLen t.toList = 1 ∧ p = 1 := by
                    have h1 := HE.out
                    unfold headLen at h1
                    rw [hD] at h1
                    have h2 : signLen t.toList ≤ 1 := by unfold signLen; split <;> (try split) <;> omega
                    simp at h1
                    omega
                  have h0 : 0 < t.size := by omega
                  have hsg := signLen_at t h0
                  rw [hs1.1] at hsg
                  have hc : t[0].toNat = 45 ∨ t[0].toNat = 43 := by
                    split at hsg
                    · assumption
                    · omega
                  have q0 : ((p : Int) == 0) = false := by simp [hE0]
                  have q1 : ((p : Int) == 1) = true := by simp [hs1.2]
                  have h0' : (0 : Int) < (t.size : Int) := by omega
                  rcases hc with hc | hc
                  · have e1 : ((t[0].toNat : Int) == 45) = true := by (have : (t[0].toNat : Int) = 45 := by omega); simp only [this]; rfl
                    clear hD hE0 hs1 hsg hc
                    go_wp2_with fail
                    go_ret3
                    exact ⟨by rw [HRN.out]; rfl, HBW.out⟩
                  · have e1 : ((t[0].toNat : Int) == 45) = false := by (have : (t[0].toNat : Int) = 43 := by omega); simp only [this]; rfl
                    have e2 : ((t[0].toNat : Int) == 43) = true := by (have : (t[0].toNat : Int) = 43 := by omega); simp only [this]; rfl
                    clear hD hE0 hs1 hsg hc
                    go_wp2_with fail
                    go_ret3
                    exact ⟨by rw [HRN.out]; rfl, HBW.out⟩
              · have HRN : Hid (r = (t.toList.take p, trimB (t.toList.drop p), true)) := by
                  show _ = _
                  rw [HR.out]; unfold splitP; rw [← HTL.out, if_neg hD, HE.out]; rfl
                have hE1 : 1 ≤ p := by
                  have h1 := HE.out
                  unfold headLen at h1
                  have : (digs t.toList).length ≠ 0 := fun e => hD (List.eq_nil_of_length_eq_zero e)
                  omega
                have q0 : ((p : Int) == 0) = false := by simp; omega
                have X1 : Hid (t.extract 0 p = str (t.toList.take p)) := ext_take t p
                have X2 : Hid ((t.extract p t.size).toList = t.toList.drop p) := ext_drop t p
                have hEi : (p : Int) ≤ (t.size : Int) := by omega
                by_cases hE2 : p = 1
                · have h0 : 0 < t.size := by omega
                  have hdg : isDig t[0] = true := by
                    obtain ⟨_, h2⟩ := head_lt t (p := 0) (by rw [← HE.out]; omega)
                    rcases h2 with h2 | ⟨_, h2⟩
                    · exact h2
                    · exfalso
                      have hsg := signLen_at t h0
                      rw [if_pos h2] at hsg
                      have h1 := HE.out
                      unfold headLen at h1
                      have : (digs t.toList).length ≠ 0 := fun e => hD (List.eq_nil_of_length_eq_zero e)
                      omega
                  have hb := (isDig_iff _).1 hdg
                  have q1 : ((p : Int) == 1) = true := by simp [hE2]
                  have e1 : ((t[0].toNat : Int) == 45) = false := by simp; omega
                  have e2 : ((t[0].toNat : Int) == 43) = false := by simp; omega
                  have h0' : (0 : Int) < (t.size : Int) := by omega
                  clear hD hE2 hdg hb
                  go_wp2_with fail
                  go_region_with (go_at_call 77; refine (trim_any (t.extract p t.size) _).mono ?_; rintro e w2 ⟨rfl, hb2⟩; rw [X2.out]; have HB2 := Lib.hid (HBW.out.trans ((bdrewX hb2).mono HBW.out.size)); clear hb2)
                  all_goals go_wp2_with fail
                  all_goals go_ret3
                  all_goals exact ⟨by rw [HRN.out, X1.out]; rfl, HB2.out⟩
                · have q1 : ((p : Int) == 1) = false := by simp; omega
                  clear hD hE2
                  go_wp2_with fail
                  go_region_with (go_at_call 77; refine (trim_any (t.extract p t.size) _).mono ?_; rintro e w2 ⟨rfl, hb2⟩; rw [X2.out]; have HB2 := Lib.hid (HBW.out.trans ((bdrewX hb2).mono HBW.out.size)); clear hb2)
                  all_goals go_wp2_with fail
                  all_goals go_ret3
                  all_goals exact ⟨by rw [HRN.out, X1.out]; rfl, HB2.out⟩
        · obtain ⟨x, hx⟩ : ∃ x : Int, ((Utf8.decode t p).1 : Int) = x := ⟨_, rfl⟩
          have hnext : ∀ ty, (Instr.next (.pointer (some ⟨w1.heap.size, 0, none⟩)) true ty).run Tryd.prog wr = _ := fun ty => next_lit_any wr w1.heap.size t p x hiter hps hx ty
          have hhi := (decode_high t p hps (by omega)).1
          have hnx1 : Below w.heap.size w (wr.iterAt w1.heap.size t (p + (Utf8.decode t p).2)) := Lib.below_iterAt HBW.out HSZ.out t _
          generalize wr.iterAt w1.heap.size t (p + (Utf8.decode t p).2) = W1 at hnext hnx1
          clear HBW
          have HBW := Lib.hid hnx1
          clear hnx1 hiter HIT
          have hxs : p = 0 → x ≠ 45 ∧ x ≠ 43 := fun h => by omega
          have hx' : x < 48 ∨ 57 < x := by omega
          clear hnd hns hx hhi
          by_cases hp0 : p = 0
          · have hi0 : decide (0 < p) = false := by simp; omega
            have e1 : (x != 45) = true := by simp [(hxs hp0).1]
            have e2 : (x != 43) = true := by simp [(hxs hp0).2]
            clear hxs hp0
            rcases hx' with hx' | hx'
            · have b1 : decide (x < 48) = true := by simp; omega
              clear hx'
              by_cases hD : digs t.toList = []
              · have HRN : Hid (r = ([], [], false)) := by
                  show _ = _
                  rw [HR.out]; unfold splitP; rw [← HTL.out, if_pos hD]
                by_cases hE0 : p = 0
                · have q0 : ((p : Int) == 0) = true := by simp [hE0]
                  clear hD hE0
                  go_wp2_with fail
                  go_ret3
                  exact ⟨by rw [HRN.out]; rfl, HBW.out⟩
                · have hs1 : signLen t.toList = 1 ∧ p = 1 := by
                    have h1 := HE.out
                    unfold headLen at h1
                    rw [hD] at h1
                    have h2 : signLen t.toList ≤ 1 := by unfold signLen; split <;> (try split) <;> omega
                    simp at h1
                    omega
                  have h0 : 0 < t.size := by omega
                  have hsg := signLen_at t h0
                  rw [hs1.1] at hsg
                  have hc : t[0].toNat = 45 ∨ t[0].toNat = 43 := by
                    split at hsg
                    · assumption
                    · omega
                  have q0 : ((p : Int) == 0) = false := by simp [hE0]
                  have q1 : ((p : Int) == 1) = true := by simp [hs1.2]
                  have h0' : (0 : Int) < (t.size : Int) := by omega
                  rcases hc with hc | hc
                  · have e1 : ((t[0].toNat : Int) == 45) = true := by (have : (t[0].toNat : Int) = 45 := by omega); simp only [this]; rfl
                    clear hD hE0 hs1 hsg hc
                    go_wp2_with fail
                    go_ret3
                    exact ⟨by rw [HRN.out]; rfl, HBW.out⟩
                  · have e1 : ((t[0].toNat : Int) == 45) = false := by (have : (t[0].toNat : Int) = 43 := by omega); simp only [this]; rfl
                    have e2 : ((t[0].toNat : Int) == 43) = true := by (have : (t[0].toNat : Int) = 43 := by omega); simp only [this]; rfl
                    clear hD hE0 hs1 hsg hc
                    go_wp2_with fail
                    go_ret3
                    exact ⟨by rw [HRN.out]; rfl, HBW.out⟩
              · have HRN : Hid (r = (t.toList.take p, trimB (t.toList.drop p), true)) := by
                  show _ = _
                  rw [HR.out]; unfold splitP; rw [← HTL.out, if_neg hD, HE.out]; rfl
                have hE1 : 1 ≤ p := by
                  have h1 := HE.out
                  unfold headLen at h1
                  have : (digs t.toList).length ≠ 0 := fun e => hD (List.eq_nil_of_length_eq_zero e)
                  omega
                have q0 : ((p : Int) == 0) = false := by simp; omega
                have X1 : Hid (t.extract 0 p = str (t.toList.take p)) := ext_take t p
                have X2 : Hid ((t.extract p t.size).toList = t.toList.drop p) := ext_drop t p
                have hEi : (p : Int) ≤ (t.size : Int) := by omega
                by_cases hE2 : p = 1
                · have h0 : 0 < t.size := by omega
                  have hdg : isDig t[0] = true := by
                    obtain ⟨_, h2⟩ := head_lt t (p := 0) (by rw [← HE.out]; omega)
                    rcases h2 with h2 | ⟨_, h2⟩
                    · exact h2
                    · exfalso
                      have hsg := signLen_at t h0
                      rw [if_pos h2] at hsg
                      have h1 := HE.out
                      unfold headLen at h1
                      have : (digs t.toList).length ≠ 0 := fun e => hD (List.eq_nil_of_length_eq_zero e)
                      omega
                  have hb := (isDig_iff _).1 hdg
                  have q1 : ((p : Int) == 1) = true := by simp [hE2]
                  have e1 : ((t[0].toNat : Int) == 45) = false := by simp; omega
                  have e2 : ((t[0].toNat : Int) == 43) = false := by simp; omega
                  have h0' : (0 : Int) < (t.size : Int) := by omega
                  clear hD hE2 hdg hb
                  go_wp2_with fail
                  go_region_with (go_at_call 77; refine (trim_any (t.extract p t.size) _).mono ?_; rintro e w2 ⟨rfl, hb2⟩; rw [X2.out]; have HB2 := Lib.hid (HBW.out.trans ((bdrewX hb2).mono HBW.out.size)); clear hb2)
                  all_goals go_wp2_with fail
                  all_goals go_ret3
                  all_goals exact ⟨by rw [HRN.out, X1.out]; rfl, HB2.out⟩
                · have q1 : ((p : Int) == 1) = false := by simp; omega
                  clear hD hE2
                  go_wp2_with fail
                  go_region_with (go_at_call 77; refine (trim_any (t.extract p t.size) _).mono ?_; rintro e w2 ⟨rfl, hb2⟩; rw [X2.out]; have HB2 := Lib.hid (HBW.out.trans ((bdrewX hb2).mono HBW.out.size)); clear hb2)
                  all_goals go_wp2_with fail
                  all_goals go_ret3
                  all_goals exact ⟨by rw [HRN.out, X1.out]; rfl, HB2.out⟩
            · have b1 : decide (x < 48) = false := by simp; omega
              have b2 : decide (57 < x) = true := by simp; omega
              clear hx'
              by_cases hD : digs t.toList = []
              · have HRN : Hid (r = ([], [], false)) := by
                  show _ = _
                  rw [HR.out]; unfold splitP; rw [← HTL.out, if_pos hD]
                by_cases hE0 : p = 0
                · have q0 : ((p : Int) == 0) = true := by simp [hE0]
                  clear hD hE0
                  go_wp2_with fail
                  go_ret3
                  exact ⟨by rw [HRN.out]; rfl, HBW.out⟩
                · have hs1 : signLen t.toList = 1 ∧ p = 1 := by
                    have h1 := HE.out
                    unfold headLen at h1
                    rw [hD] at h1
                    have h2 : signLen t.toList ≤ 1 := by unfold signLen; split <;> (try split) <;> omega
                    simp at h1
                    omega
                  have h0 : 0 < t.size := by omega
                  have hsg := signLen_at t h0
                  rw [hs1.1] at hsg
                  have hc : t[0].toNat = 45 ∨ t[0].toNat = 43 := by
                    split at hsg
                    · assumption
                    · omega
                  have q0 : ((p : Int) == 0) = false := by simp [hE0]
                  have q1 : ((p : Int) == 1) = true := by simp [hs1.2]
                  have h0' : (0 : Int) < (t.size : Int) := by omega
                  rcases hc with hc | hc
                  · have e1 : ((t[0].toNat : Int) == 45) = true := by (have : (t[0].toNat : Int) = 45 := by omega); simp only [this]; rfl
                    clear hD hE0 hs1 hsg hc
                    go_wp2_with fail
                    go_ret3
                    exact ⟨by rw [HRN.out]; rfl, HBW.out⟩
                  · have e1 : ((t[0].toNat : Int) == 45) = false := by (have : (t[0].toNat : Int) = 43 := by omega); simp only [this]; rfl
                    have e2 : ((t[0].toNat : Int) == 43) = true := by (have : (t[0].toNat : Int) = 43 := by omega); simp only [this]; rfl
                    clear hD hE0 hs1 hsg hc
                    go_wp2_with fail
                    go_ret3
                    exact ⟨by rw [HRN.out]; rfl, HBW.out⟩
              · have HRN : Hid (r = (t.toList.take p, trimB (t.toList.drop p), true)) := by
                  show _ = _
                  rw [HR.out]; unfold splitP; rw [← HTL.out, if_neg hD, HE.out]; rfl
                have hE1 : 1 ≤ p := by
                  have h1 := HE.out
                  unfold headLen at h1
                  have : (digs t.toList).length ≠ 0 := fun e => hD (List.eq_nil_of_length_eq_zero e)
                  omega
                have q0 : ((p : Int) == 0) = false := by simp; omega
                have X1 : Hid (t.extract 0 p = str (t.toList.take p)) := ext_take t p
                have X2 : Hid ((t.extract p t.size).toList = t.toList.drop p) := ext_drop t p
                have hEi : (p : Int) ≤ (t.size : Int) := by omega
                by_cases hE2 : p = 1
                · have h0 : 0 < t.size := by omega
                  have hdg : isDig t[0] = true := by
                    obtain ⟨_, h2⟩ := head_lt t (p := 0) (by rw [← HE.out]; omega)
                    rcases h2 with h2 | ⟨_, h2⟩
                    · exact h2
                    · exfalso
                      have hsg := signLen_at t h0
                      rw [if_pos h2] at hsg
                      have h1 := HE.out
                      unfold headLen at h1
                      have : (digs t.toList).length ≠ 0 := fun e => hD (List.eq_nil_of_length_eq_zero e)
                      omega
                  have hb := (isDig_iff _).1 hdg
                  have q1 : ((p : Int) == 1) = true := by simp [hE2]
                  have e1 : ((t[0].toNat : Int) == 45) = false := by simp; omega
                  have e2 : ((t[0].toNat : Int) == 43) = false := by simp; omega
                  have h0' : (0 : Int) < (t.size : Int) := by omega
                  clear hD hE2 hdg hb
                  go_wp2_with fail
                  go_region_with (go_at_call 77; refine (trim_any (t.extract p t.size) _).mono ?_; rintro e w2 ⟨rfl, hb2⟩; rw [X2.out]; have HB2 := Lib.hid (HBW.out.trans ((bdrewX hb2).mono HBW.out.size)); clear hb2)
                  all_goals go_wp2_with fail
                  all_goals go_ret3
                  all_goals exact ⟨by rw [HRN.out, X1.out]; rfl, HB2.out⟩
                · have q1 : ((p : Int) == 1) = false := by simp; omega
                  clear hD hE2
                  go_wp2_with fail
                  go_region_with (go_at_call 77; refine (trim_any (t.extract p t.size) _).mono ?_; rintro e w2 ⟨rfl, hb2⟩; rw [X2.out]; have HB2 := Lib.hid (HBW.out.trans ((bdrewX hb2).mono HBW.out.size)); clear hb2)
                  all_goals go_wp2_with fail
                  all_goals go_ret3
                  all_goals exact ⟨by rw [HRN.out, X1.out]; rfl, HB2.out⟩
          · have hi0 : decide (0 < p) = true := by simp; omega
            clear hxs hp0
            rcases hx' with hx' | hx'
            · have b1 : decide (x < 48) = true := by simp; omega
              clear hx'
              by_cases hD : digs t.toList = []
              · have HRN : Hid (r = ([], [], false)) := by
                  show _ = _
                  rw [HR.out]; unfold splitP; rw [← HTL.out, if_pos hD]
                by_cases hE0 : p = 0
                · have q0 : ((p : Int) == 0) = true := by simp [hE0]
                  clear hD hE0
                  go_wp2_with fail
                  go_ret3
                  exact ⟨by rw [HRN.out]; rfl, HBW.out⟩
                · have hs1 : signLen t.toList = 1 ∧ p = 1 := by
                    have h1 := HE.out
                    unfold headLen at h1
                    rw [hD] at h1
                    have h2 : signLen t.toList ≤ 1 := by unfold signLen; split <;> (try split) <;> omega
                    simp at h1
                    omega
                  have h0 : 0 < t.size := by omega
                  have hsg := signLen_at t h0
                  rw [hs1.1] at hsg
                  have hc : t[0].toNat = 45 ∨ t[0].toNat = 43 := by
                    split at hsg
                    · assumption
                    · omega
                  have q0 : ((p : Int) == 0) = false := by simp [hE0]
                  have q1 : ((p : Int) == 1) = true := by simp [hs1.2]
                  have h0' : (0 : Int) < (t.size : Int) := by omega
                  rcases hc with hc | hc
                  · have e1 : ((t[0].toNat : Int) == 45) = true := by (have : (t[0].toNat : Int) = 45 := by omega); simp only [this]; rfl
                    clear hD hE0 hs1 hsg hc
                    go_wp2_with fail
                    go_ret3
                    exact ⟨by rw [HRN.out]; rfl, HBW.out⟩
                  · have e1 : ((t[0].toNat : Int) == 45) = false := by (have : (t[0].toNat : Int) = 43 := by omega); simp only [this]; rfl
                    have e2 : ((t[0].toNat : Int) == 43) = true := by (have : (t[0].toNat : Int) = 43 := by omega); simp only [this]; rfl
                    clear hD hE0 hs1 hsg hc
                    go_wp2_with fail
                    go_ret3
                    exact ⟨by rw [HRN.out]; rfl, HBW.out⟩
              · have HRN : Hid (r = (t.toList.take p, trimB (t.toList.drop p), true)) := by
                  show _ = _
                  rw [HR.out]; unfold splitP; rw [← HTL.out, if_neg hD, HE.out]; rfl
                have hE1 : 1 ≤ p := by
                  have h1 := HE.out
                  unfold headLen at h1
                  have : (digs t.toList).length ≠ 0 := fun e => hD (List.eq_nil_of_length_eq_zero e)
                  omega
                have q0 : ((p : Int) == 0) = false := by simp; omega
                have X1 : Hid (t.extract 0 p = str (t.toList.take p)) := ext_take t p
                have X2 : Hid ((t.extract p t.size).toList = t.toList.drop p) := ext_drop t p
                have hEi : (p : Int) ≤ (t.size : Int) := by omega
                by_cases hE2 : p = 1
                · have h0 : 0 < t.size := by omega
                  have hdg : isDig t[0] = true := by
                    obtain ⟨_, h2⟩ := head_lt t (p := 0) (by rw [← HE.out]; omega)
                    rcases h2 with h2 | ⟨_, h2⟩
                    · exact h2
                    · exfalso
                      have hsg := signLen_at t h0
                      rw [if_pos h2] at hsg
                      have h1 := HE.out
                      unfold headLen at h1
                      have : (digs t.toList).length ≠ 0 := fun e => hD (List.eq_nil_of_length_eq_zero e)
                      omega
                  have hb := (isDig_iff _).1 hdg
                  have q1 : ((p : Int) == 1) = true := by simp [hE2]
                  have e1 : ((t[0].toNat : Int) == 45) = false := by simp; omega
                  have e2 : ((t[0].toNat : Int) == 43) = false := by simp; omega
                  have h0' : (0 : Int) < (t.size : Int) := by omega
                  clear hD hE2 hdg hb
                  go_wp2_with fail
                  go_region_with (go_at_call 77; refine (trim_any (t.extract p t.size) _).mono ?_; rintro e w2 ⟨rfl, hb2⟩; rw [X2.out]; have HB2 := Lib.hid (HBW.out.trans ((bdrewX hb2).mono HBW.out.size)); clear hb2)
                  all_goals go_wp2_with fail
                  all_goals go_ret3
                  all_goals exact ⟨by rw [HRN.out, X1.out]; rfl, HB2.out⟩
                · have q1 : ((p : Int) == 1) = false := by simp; omega
                  clear hD hE2
                  go_wp2_with fail
                  go_region_with (go_at_call 77; refine (trim_any (t.extract p t.size) _).mono ?_; rintro e w2 ⟨rfl, hb2⟩; rw [X2.out]; have HB2 := Lib.hid (HBW.out.trans ((bdrewX hb2).mono HBW.out.size)); clear hb2)
                  all_goals go_wp2_with fail
                  all_goals go_ret3
                  all_goals exact ⟨by rw [HRN.out, X1.out]; rfl, HB2.out⟩
            · have b1 : decide (x < 48) = false := by simp; omega
              have b2 : decide (57 < x) = true := by simp; omega
              clear hx'
              by_cases hD : digs t.toList = []
              · have HRN : Hid (r = ([], [], false)) := by
                  show _ = _
                  rw [HR.out]; unfold splitP; rw [← HTL.out, if_pos hD]
                by_cases hE0 : p = 0
                · have q0 : ((p : Int) == 0) = true := by simp [hE0]
                  clear hD hE0
                  go_wp2_with fail
                  go_ret3
                  exact ⟨by rw [HRN.out]; rfl, HBW.out⟩
                · have hs1 : signLen t.toList = 1 ∧ p = 1 := by
                    have h1 := HE.out
                    unfold headLen at h1
                    rw [hD] at h1
                    have h2 : signLen t.toList ≤ 1 := by unfold signLen; split <;> (try split) <;> omega
                    simp at h1
                    omega
                  have h0 : 0 < t.size := by omega
                  have hsg := signLen_at t h0
                  rw [hs1.1] at hsg
                  have hc : t[0].toNat = 45 ∨ t[0].toNat = 43 := by
                    split at hsg
                    · assumption
                    · omega
                  have q0 : ((p : Int) == 0) = false := by simp [hE0]
                  have q1 : ((p : Int) == 1) = true := by simp [hs1.2]
                  have h0' : (0 : Int) < (t.size : Int) := by omega
                  rcases hc with hc | hc
                  · have e1 : ((t[0].toNat : Int) == 45) = true := by (have : (t[0].toNat : Int) = 45 := by omega); simp only [this]; rfl
                    clear hD hE0 hs1 hsg hc
                    go_wp2_with fail
                    go_ret3
                    exact ⟨by rw [HRN.out]; rfl, HBW.out⟩
                  · have e1 : ((t[0].toNat : Int) == 45) = false := by (have : (t[0].toNat : Int) = 43 := by omega); simp only [this]; rfl
                    have e2 : ((t[0].toNat : Int) == 43) = true := by (have : (t[0].toNat : Int) = 43 := by omega); simp only [this]; rfl
                    clear hD hE0 hs1 hsg hc
                    go_wp2_with fail
                    go_ret3
                    exact ⟨by rw [HRN.out]; rfl, HBW.out⟩
              · have HRN : Hid (r = (t.toList.take p, trimB (t.toList.drop p), true)) := by
                  show _ = _
                  rw [HR.out]; unfold splitP; rw [← HTL.out, if_neg hD, HE.out]; rfl
                have hE1 : 1 ≤ p := by
                  have h1 := HE.out
                  unfold headLen at h1
                  have : (digs t.toList).length ≠ 0 := fun e => hD (List.eq_nil_of_length_eq_zero e)
                  omega
                have q0 : ((p : Int) == 0) = false := by simp; omega
                have X1 : Hid (t.extract 0 p = str (t.toList.take p)) := ext_take t p
                have X2 : Hid ((t.extract p t.size).toList = t.toList.drop p) := ext_drop t p
                have hEi : (p : Int) ≤ (t.size : Int) := by omega
                by_cases hE2 : p = 1
                · have h0 : 0 < t.size := by omega
                  have hdg : isDig t[0] = true := by
                    obtain ⟨_, h2⟩ := head_lt t (p := 0) (by rw [← HE.out]; omega)
                    rcases h2 with h2 | ⟨_, h2⟩
                    · exact h2
                    · exfalso
                      have hsg := signLen_at t h0
                      rw [if_pos h2] at hsg
                      have h1 := HE.out
                      unfold headLen at h1
                      have : (digs t.toList).length ≠ 0 := fun e => hD (List.eq_nil_of_length_eq_zero e)
                      omega
                  have hb := (isDig_iff _).1 hdg
                  have q1 : ((p : Int) == 1) = true := by simp [hE2]
                  have e1 : ((t[0].toNat : Int) == 45) = false := by simp; omega
                  have e2 : ((t[0].toNat : Int) == 43) = false := by simp; omega
                  have h0' : (0 : Int) < (t.size : Int) := by omega
                  clear hD hE2 hdg hb
                  go_wp2_with fail
                  go_region_with (go_at_call 77; refine (trim_any (t.extract p t.size) _).mono ?_; rintro e w2 ⟨rfl, hb2⟩; rw [X2.out]; have HB2 := Lib.hid (HBW.out.trans ((bdrewX hb2).mono HBW.out.size)); clear hb2)
                  all_goals go_wp2_with fail
                  all_goals go_ret3
                  all_goals exact ⟨by rw [HRN.out, X1.out]; rfl, HB2.out⟩
                · have q1 : ((p : Int) == 1) = false := by simp; omega
                  clear hD hE2
                  go_wp2_with fail
                  go_region_with (go_at_call 77; refine (trim_any (t.extract p t.size) _).mono ?_; rintro e w2 ⟨rfl, hb2⟩; rw [X2.out]; have HB2 := Lib.hid (HBW.out.trans ((bdrewX hb2).mono HBW.out.size)); clear hb2)
                  all_goals go_wp2_with fail
                  all_goals go_ret3
                  all_goals exact ⟨by rw [HRN.out, X1.out]; rfl, HB2.out⟩
      · have hnext : ∀ ty, (Instr.next (.pointer (some ⟨w1.heap.size, 0, none⟩)) true ty).run Tryd.prog wr = _ := fun ty => Lib.run_next_end_at wr w1.heap.size t p ty hiter hps
        clear hiter HIT hps
        by_cases hD : digs t.toList = []
        · have HRN : Hid (r = ([], [], false)) := by
            show _ = _
            rw [HR.out]; unfold splitP; rw [← HTL.out, if_pos hD]
          by_cases hE0 : p = 0
          · have q0 : ((p : Int) == 0) = true := by simp [hE0]
            clear hD hE0
            go_wp2_with fail
            go_ret3
            exact ⟨by rw [HRN.out]; rfl, HBW.out⟩
          · have hs1 : signLen t.toList = 1 ∧ p = 1 := by
              have h1 := HE.out
              unfold headLen at h1
              rw [hD] at h1
              have h2 : signLen t.toList ≤ 1 := by unfold signLen; split <;> (try split) <;> omega
              simp at h1
              omega
            have h0 : 0 < t.size := by omega
            have hsg := signLen_at t h0
            rw [hs1.1] at hsg
            have hc : t[0].toNat = 45 ∨ t[0].toNat = 43 := by
              split at hsg
              · assumption
              · omega
            have q0 : ((p : Int) == 0) = false := by simp [hE0]
            have q1 : ((p : Int) == 1) = true := by simp [hs1.2]
            have h0' : (0 : Int) < (t.size : Int) := by omega
            rcases hc with hc | hc
            · have e1 : ((t[0].toNat : Int) == 45) = true := by (have : (t[0].toNat : Int) = 45 := by omega); simp only [this]; rfl
              clear hD hE0 hs1 hsg hc
              go_wp2_with fail
              go_ret3
              exact ⟨by rw [HRN.out]; rfl, HBW.out⟩
            · have e1 : ((t[0].toNat : Int) == 45) = false := by (have : (t[0].toNat : Int) = 43 := by omega); simp only [this]; rfl
              have e2 : ((t[0].toNat : Int) == 43) = true := by (have : (t[0].toNat : Int) = 43 := by omega); simp only [this]; rfl
              clear hD hE0 hs1 hsg hc
              go_wp2_with fail
              go_ret3
              exact ⟨by rw [HRN.out]; rfl, HBW.out⟩
        · have HRN : Hid (r = (t.toList.take p, trimB (t.toList.drop p), true)) := by
            show _ = _
            rw [HR.out]; unfold splitP; rw [← HTL.out, if_neg hD, HE.out]; rfl
          have hE1 : 1 ≤ p := by
            have h1 := HE.out
            unfold headLen at h1
            have : (digs t.toList).length ≠ 0 := fun e => hD (List.eq_nil_of_length_eq_zero e)
            omega
          have q0 : ((p : Int) == 0) = false := by simp; omega
          have X1 : Hid (t.extract 0 p = str (t.toList.take p)) := ext_take t p
          have X2 : Hid ((t.extract p t.size).toList = t.toList.drop p) := ext_drop t p
          have hEi : (p : Int) ≤ (t.size : Int) := by omega
          by_cases hE2 : p = 1
          · have h0 : 0 < t.size := by omega
            have hdg : isDig t[0] = true := by
              obtain ⟨_, h2⟩ := head_lt t (p := 0) (by rw [← HE.out]; omega)
              rcases h2 with h2 | ⟨_, h2⟩
              · exact h2
              · exfalso
                have hsg := signLen_at t h0
                rw [if_pos h2] at hsg
                have h1 := HE.out
                unfold headLen at h1
                have : (digs t.toList).length ≠ 0 := fun e => hD (List.eq_nil_of_length_eq_zero e)
                omega
            have hb := (isDig_iff _).1 hdg
            have q1 : ((p : Int) == 1) = true := by simp [hE2]
            have e1 : ((t[0].toNat : Int) == 45) = false := by simp; omega
            have e2 : ((t[0].toNat : Int) == 43) = false := by simp; omega
            have h0' : (0 : Int) < (t.size : Int) := by omega
            clear hD hE2 hdg hb
            go_wp2_with fail
            go_region_with (go_at_call 77; refine (trim_any (t.extract p t.size) _).mono ?_; rintro e w2 ⟨rfl, hb2⟩; rw [X2.out]; have HB2 := Lib.hid (HBW.out.trans ((bdrewX hb2).mono HBW.out.size)); clear hb2)
            all_goals go_wp2_with fail
            all_goals go_ret3
            all_goals exact ⟨by rw [HRN.out, X1.out]; rfl, HB2.out⟩
          · have q1 : ((p : Int) == 1) = false := by simp; omega
            clear hD hE2
            go_wp2_with fail
            go_region_with (go_at_call 77; refine (trim_any (t.extract p t.size) _).mono ?_; rintro e w2 ⟨rfl, hb2⟩; rw [X2.out]; have HB2 := Lib.hid (HBW.out.trans ((bdrewX hb2).mono HBW.out.size)); clear hb2)
            all_goals go_wp2_with fail
            all_goals go_ret3
            all_goals exact ⟨by rw [HRN.out, X1.out]; rfl, HB2.out⟩
end Go.Proofs.YtgpdhmgbmhfooaaDoor
