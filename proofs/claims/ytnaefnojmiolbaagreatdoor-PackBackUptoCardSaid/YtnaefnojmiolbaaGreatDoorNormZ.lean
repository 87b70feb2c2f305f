/-
  The walks of Norm, both sides.
-/
import Derived.Test.YtnaefnojmiolbaaGreatDoorBaseZ
namespace Go.Proofs.YtnaefnojmiolbaaGreatDoor
open Go.RowKit

theorem atoi_itoa {n : Int} (h0 : -9223372036854775808 ≤ n) (h1 : n ≤ 9223372036854775807) : Lib.atoiAll (Lib.itoa n) = .ok n := by
  have hd := decDigits_dig n.natAbs
  have hne := decDigits_ne n.natAbs
  rw [itoa_form]
  by_cases hn : n < 0
  · rw [if_pos (by simp [hn])]
    show Lib.atoiAll (45 :: Lib.decDigits n.natAbs) = _
    rw [Lib.atoiAll_minus, mag_digs hd hne, decDigits_dec, if_pos (by omega)]
    show (if 9223372036854775808 < n.natAbs then Lib.NumEnd.range else Lib.NumEnd.ok (-((n.natAbs : Nat) : Int))) = _
    rw [if_neg (by omega)]
    congr 1; omega
  · rw [if_neg (by simp [hn])]
    show Lib.atoiAll (Lib.decDigits n.natAbs) = _
    obtain ⟨c, r, hc⟩ := List.exists_cons_of_ne_nil hne
    have hcd := (isDig_iff c).1 (hd c (by rw [hc]; simp))
    rw [hc, Lib.atoiAll_plain c r (by omega) (by omega), ← hc, mag_digs hd hne, decDigits_dec, if_pos (by omega)]
    show (if 9223372036854775808 ≤ n.natAbs then Lib.NumEnd.range else Lib.NumEnd.ok ((n.natAbs : Nat) : Int)) = _
    rw [if_neg (by omega)]
    congr 1; omega
theorem canon_ok {l : Bs} {v : Int} (h : Lib.atoiAll l = .ok v) : canonP l = if Lib.itoa v == l then some v else none := by
  have hb := Lib.atoiAll_bounds h
  by_cases e : Lib.itoa v = l
  · rw [if_pos (by simp [e]), ← e, canonP_itoa hb.1 hb.2]
  · rw [if_neg (by simp [e])]
    cases hc : canonP l with
    | none => rfl
    | some m =>
      obtain ⟨hm, rfl⟩ := canonP_some hc
      rw [atoi_itoa hm.1 hm.2] at h
      cases h
      exact absurd rfl e
theorem canon_bad {l : Bs} (h : ∀ v, Lib.atoiAll l ≠ .ok v) : canonP l = none := by
  cases hc : canonP l with
  | none => rfl
  | some m =>
    obtain ⟨hm, rfl⟩ := canonP_some hc
    exact absurd (atoi_itoa hm.1 hm.2) (h m)

def AtoiErr (w : World) (e : Ending) (w' : World) : Prop := ∃ x p, e = .returned (.tuple #[.int .i64 x, .iface 190 p]) ∧ Below w.heap.size w w'
def AtoiOk (v : Int) (w : World) (e : Ending) (w' : World) : Prop := e = .returned (.tuple #[.int .i64 v, .nilIface]) ∧ Below w.heap.size w w'
theorem atoi_ok {t : ByteArray} (hs : t.size ≤ 140737488351232) {v : Int} (h : Lib.atoiAll t.toList = .ok v) (w : World) : Calls Tryz.prog 103 #[.string t] w (AtoiOk v w) := by
  rw [bl_eq] at h
  refine (Tryz.strconv_Atoi_ok t (by omega) v h w).mono ?_
  rintro e w' ⟨rfl, rfl | ⟨x, rfl⟩⟩
  · exact ⟨rfl, Below.refl _ _⟩
  · exact ⟨rfl, Lib.bytesWorld_below _ _ _⟩
theorem atoi_bad {t : ByteArray} (hs : t.size ≤ 140737488351232) (h : ∀ v, Lib.atoiAll t.toList ≠ .ok v) (w : World) (ht : Tabs w) : Calls Tryz.prog 103 #[.string t] w (AtoiErr w) := by
  obtain ⟨tr, pr, hr⟩ := ht.rng
  obtain ⟨ts, ps, hsy⟩ := ht.syn
  rw [bl_eq] at h
  rcases hx : Lib.atoiAll t.data.toList with v | _ | _
  · exact absurd hx (h v)
  · have HP : Calls Tryz.prog 103 #[.string t] w fun e w' => ∃ N, e = .returned (.tuple #[.int .i64 0, .iface 190 (.pointer (some ⟨N, 0, none⟩))]) ∧ w.heap.size ≤ N ∧ w'.heap[N]? = some (.cells #[.string ⟨#[65, 116, 111, 105]⟩, .string t, .iface ts ps] 206 (0, 0)) ∧ Below w.heap.size w w' :=
      Any.strconv_Atoi_syntax_var Tryz.laysC172 t (by omega) hx ts ps w hsy
    refine HP.mono ?_
    rintro e w' ⟨N, rfl, _, _, hb⟩
    exact ⟨_, _, rfl, hb⟩
  · refine (Tryz.strconv_Atoi_range_var t (by omega) hx tr pr w hr).mono ?_
    rintro e w' ⟨N, rfl, _, _, hb⟩
    exact ⟨_, _, rfl, hb⟩
theorem itoa_any (n : Int) (h0 : -9223372036854775808 ≤ n) (h1 : n ≤ 9223372036854775807) (w : World) (ht : Tabs w) : Calls Tryz.prog 56 #[.int .i64 n] w (TextPost w (Lib.itoa n)) := by
  refine (Tryz.strconv_Itoa n h0 h1 w ht.pow).mono ?_
  rintro e w1 ⟨rfl, k, os, rfl⟩
  exact ⟨rfl, Lib.below_grow w.heap.size w (Nat.le_refl _) k os⟩

/-- A key that a call answers. -/
def KeyPost (w : World) (k : K) (e : Ending) (w' : World) : Prop := e = .returned k.v ∧ Below w.heap.size w w'

abbrev KB (b : Bool) (n : Int) (t : ByteArray) : Obj := .cells #[.bool b, .int .i64 n, .string t] 62
theorem cells3 {W : World} {B : Nat} {b : Bool} {n : Int} {t : ByteArray} (h : W.heap[B]? = some (KB b n t)) :
    W.cell? ⟨B, 0, none⟩ = some (.bool b) ∧ W.cell? ⟨B, 1, none⟩ = some (.int .i64 n) ∧ W.cell? ⟨B, 2, none⟩ = some (.string t) :=
  ⟨cell_blk h 0, cell_blk h 1, cell_blk h 2⟩
theorem free3 {W : World} {B : Nat} {b : Bool} {n : Int} {t : ByteArray} (h : W.heap[B]? = some (KB b n t)) :
    W.frozen? ⟨B, 0, none⟩ = false ∧ W.frozen? ⟨B, 1, none⟩ = false ∧ W.frozen? ⟨B, 2, none⟩ = false :=
  ⟨free_blk h 0, free_blk h 1, free_blk h 2⟩
theorem set3 {W : World} {B : Nat} {b : Bool} {n : Int} {t : ByteArray} (h : W.heap[B]? = some (KB b n t)) (b' : Bool) (n' : Int) (t' : ByteArray) :
    (((W.setCell ⟨B, 0, none⟩ (.bool b')).setCell ⟨B, 1, none⟩ (.int .i64 n')).setCell ⟨B, 2, none⟩ (.string t')).heap[B]? = some (KB b' n' t') := by
  have := set_blk (set_blk (set_blk h 0 (.bool b')) 1 (.int .i64 n')) 2 (.string t')
  simpa using this
theorem set3_below {w W : World} {B : Nat} (h : Below w.heap.size w W) (hB : w.heap.size ≤ B) (x y z : Value) :
    Below w.heap.size w (((W.setCell ⟨B, 0, none⟩ x).setCell ⟨B, 1, none⟩ y).setCell ⟨B, 2, none⟩ z) :=
  ((h.setCell hB _).setCell hB _).setCell hB _
theorem keyS {w W : World} {B : Nat} {b b' : Bool} {n n' : Int} {t t' : ByteArray} (h : S2 w B (KB b n t) (KB b' n' t') W) : W.cell? ⟨B, 2, none⟩ = some (.string t) ∧ S2 w B (KB b n t) (KB b' n' t') W :=
  ⟨(cells3 h.2.a).2.2, h⟩
theorem keyS2 {w W : World} {B : Nat} {b b' : Bool} {n n' : Int} {t t' : ByteArray} (h : W.cell? ⟨B, 2, none⟩ = some (.string t) ∧ S2 w B (KB b n t) (KB b' n' t') W) : S2 w B (KB b n t) (KB b' n' t') W := h.2
theorem norm_num_walk (n : Int) (t : ByteArray) (w : World) : Calls Tryz.prog 80 #[.agg #[.bool false, .int .i64 n, .string t]] w (KeyPost w ⟨false, n, ⟨#[]⟩⟩) := by
  go_enter Tryz.func80, Tryz.ntmps80
  go_wp2_with fail
  exact bodyPost_ret (v := K.v ⟨false, n, ⟨#[]⟩⟩) (by simp [results, Tryz.results80, go_sem, K.v]) rfl ⟨rfl, ((Below.refl _ w).alloc (Nat.le_refl _) _).alloc (by simp) _⟩
set_option maxHeartbeats 3200000 in
theorem norm_bad_walk (n : Int) (t : ByteArray) (hs : t.size ≤ 140737488351232) (h : ∀ v, Lib.atoiAll t.toList ≠ .ok v) (w : World) (ht : Tabs w) : Calls Tryz.prog 80 #[.agg #[.bool true, .int .i64 n, .string t]] w (KeyPost w ⟨true, 0, t⟩) := by
  have HC : ∀ w, Tabs w → Calls Tryz.prog 103 #[.string t] w (AtoiErr w) := atoi_bad hs h
  have HTS := Lib.hid ht
  have A0 := Lib.hid (at2_start w (KB true n t) (KB false 0 ⟨#[]⟩))
  clear h hs ht
  go_enter Tryz.func80, Tryz.ntmps80
  go_wp2_with fail
  refine (HC _ (HTS.out.mono A0.out.below)).mono ?_; rintro e w1 ⟨x, p, rfl, hb⟩; have A1 := Lib.hid (A0.out.mono hb); clear A0 hb HC
  obtain ⟨a0, a1, a2⟩ := cells3 A1.out.a
  obtain ⟨b0, b1, b2⟩ := cells3 A1.out.b
  obtain ⟨f0, f1, f2⟩ := free3 A1.out.b
  go_wp2_with fail
  go_quiet (fail)
  go_wp2_with fail
  obtain ⟨g0, g1, g2⟩ := cells3 (set3 (W := w1.drewN nq) A1.out.b true 0 t)
  exact bodyPost_ret (v := K.v ⟨true, 0, t⟩) (by simp [results, Tryz.results80, go_sem, K.v, g0, g1, g2]) rfl ⟨rfl, set3_below (belowN A1.out.below nq) (by simp) _ _ _⟩
set_option maxHeartbeats 3200000 in
theorem norm_ok_walk (n : Int) (t : ByteArray) (v : Int) (hs : t.size ≤ 140737488351232) (h : Lib.atoiAll t.toList = .ok v) (w : World) (ht : Tabs w) : Calls Tryz.prog 80 #[.agg #[.bool true, .int .i64 n, .string t]] w (KeyPost w (K.norm ⟨true, n, t⟩)) := by
  have HC : ∀ w, Calls Tryz.prog 103 #[.string t] w (AtoiOk v w) := atoi_ok hs h
  have hv := Lib.atoiAll_bounds h
  have HI : ∀ w, Tabs w → Calls Tryz.prog 56 #[.int .i64 v] w (TextPost w (Lib.itoa v)) := itoa_any v hv.1 hv.2
  obtain ⟨q, hq⟩ : ∃ q, q = (Lib.itoa v == t.toList) := ⟨_, rfl⟩
  have hk : K.norm ⟨true, n, t⟩ = if q then ⟨false, v, ⟨#[]⟩⟩ else ⟨true, 0, t⟩ := by
    unfold K.norm
    simp only [canon_ok h, if_true, hq]
    cases (Lib.itoa v == t.toList) <;> rfl
  obtain ⟨r, hr⟩ : ∃ r, r = K.norm ⟨true, n, t⟩ := ⟨_, rfl⟩
  rw [← hr] at hk ⊢
  have HR := Lib.hid hk
  obtain ⟨s, hss⟩ : ∃ s, s = str (Lib.itoa v) := ⟨_, rfl⟩
  have hq' : (s.toList == t.toList) = q := by rw [hss, str_toList, hq]
  have HI' : ∀ w, Tabs w → Calls Tryz.prog 56 #[.int .i64 v] w fun e w' => e = .returned (.string s) ∧ Below w.heap.size w w' := fun w h => by rw [hss]; exact HI w h
  have HTS := Lib.hid ht
  have A0 := Lib.hid (at2_start w (KB true n t) (KB false 0 ⟨#[]⟩))
  clear h hs ht HI hk hq hss hr
  go_enter Tryz.func80, Tryz.ntmps80
  go_wp2_with fail
  refine (HC _).mono ?_; rintro e w1 ⟨rfl, hb⟩; have A1 := Lib.hid (A0.out.mono hb); clear A0 hb HC
  go_wp2_with fail
  have HS0 : S2 w w.heap.size (KB true n t) (KB false 0 ⟨#[]⟩) w1 := ⟨HTS.out, A1.out⟩
  clear A1
  go_region_held3 (fun W => W.cell? ⟨w.heap.size, 2, none⟩ = some (.string t) ∧ S2 w w.heap.size (KB true n t) (KB false 0 ⟨#[]⟩) W)
    (first
      | assumption
      | (refine keyS (S2.mono (keyS2 ?_) hb); assumption)
      | (refine keyS (S2.drew ?_); assumption))
    (first
      | (go_at_call 56; refine (HI' _ (S2.tabs (w := w) (keyS2 (b := true) (n := n) (t := t) (b' := false) (n' := 0) (t' := ⟨#[]⟩) (B := w.heap.size) ?_))).mono ?_; assumption; rintro e wq ⟨rfl, hb⟩))
  obtain ⟨hS, A2⟩ := (‹_ ∧ S2 _ _ _ _ _› : _ ∧ S2 _ _ _ _ _)
  obtain ⟨a0, a1, a2⟩ := cells3 A2.2.a
  obtain ⟨b0, b1, b2⟩ := cells3 A2.2.b
  obtain ⟨f0, f1, f2⟩ := free3 A2.2.b
  clear hS
  cases q
  · have e : r = ⟨true, 0, t⟩ := HR.out
    subst e
    clear HR
    go_wp2_with fail
    obtain ⟨g0, g1, g2⟩ := cells3 (set3 A2.2.b true 0 t)
    exact bodyPost_ret (v := K.v ⟨true, 0, t⟩) (by simp [results, Tryz.results80, go_sem, K.v, g0, g1, g2]) rfl ⟨rfl, set3_below A2.below (by simp) _ _ _⟩
  · have e : r = ⟨false, v, ⟨#[]⟩⟩ := HR.out
    subst e
    clear HR
    go_wp2_with fail
    obtain ⟨g0, g1, g2⟩ := cells3 (set3 A2.2.b false v ⟨#[]⟩)
    exact bodyPost_ret (v := K.v ⟨false, v, ⟨#[]⟩⟩) (by simp [results, Tryz.results80, go_sem, K.v, g0, g1, g2]) rfl ⟨rfl, set3_below A2.below (by simp) _ _ _⟩

theorem norm_any (k : K) (hk : k.Good) (w : World) (ht : Tabs w) : Calls Tryz.prog 80 #[k.v] w (KeyPost w k.norm) := by
  obtain ⟨b, n, t⟩ := k
  cases b with
  | false => exact norm_num_walk n t w
  | true =>
    by_cases h : ∃ v, Lib.atoiAll t.toList = .ok v
    · obtain ⟨v, h⟩ := h
      exact norm_ok_walk n t v hk.sz h w ht
    · have h' : ∀ v, Lib.atoiAll t.toList ≠ .ok v := fun v hv => h ⟨v, hv⟩
      have e : K.norm ⟨true, n, t⟩ = ⟨true, 0, t⟩ := by unfold K.norm; simp [canon_bad h']
      rw [e]
      exact norm_bad_walk n t hk.sz h' w ht

end Go.Proofs.YtnaefnojmiolbaaGreatDoor
