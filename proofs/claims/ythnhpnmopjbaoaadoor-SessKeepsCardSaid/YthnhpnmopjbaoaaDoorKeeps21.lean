/-
  SessKeeps: the walk.
-/
import Derived.Test.YthnhpnmopjbaoaaDoorAlive21
namespace Go.Proofs.YthnhpnmopjbaoaaDoor
open Go.RowKit

/-- What Save answers. -/
def errP (s t : ByteArray) : Int := if rightP s then (if 65536 < t.size then 2 else 0) else 1
/-- What it leaves. -/
def SavesTo (F F' : ByteArray → Option Fl) (s t : ByteArray) : Prop :=
  (errP s t = 0 → ∃ q, F' = fun x => if x = str (pathB s.toList) then some ⟨t, q⟩ else F x) ∧ (errP s t ≠ 0 → F' = F)
def SavePost (w : World) (d fb gb : Nat) (F : ByteArray → Option Fl) (n : Nat) (wr rd : Int) (s t : ByteArray) (e : Ending) (w' : World) : Prop :=
  e = .returned (.int .i64 (errP s t)) ∧ ∃ F' n' wr', DiskIs w' d fb gb F' n' wr' rd ∧ n' ≤ n + 1 ∧ 0 ≤ wr' ∧ wr' ≤ wr + 1 ∧ Mod (fun k => k = d ∨ k = fb) w w' ∧ SavesTo F F' s t
section
variable {w : World} {d fb gb : Nat} {F : ByteArray → Option Fl} {n : Nat} {wr rd : Int}
theorem save_any (h : DiskIs w d fb gb F n wr rd) (hn : n < 256) (h0 : 0 ≤ wr) (h1 : wr ≤ 1000) (s : ByteArray) (hs : s.size ≤ 140737488351232) (t : ByteArray) (hz : t.size ≤ 140737488351232) (ht : Tabs w) :
    Calls Tryd.prog 18 #[.pointer (some ⟨d, 0, none⟩), .string s, .string t] w (SavePost w d fb gb F n wr rd s t) := by
  cases hr : rightP s
  · refine (save_wrong (.pointer (some ⟨d, 0, none⟩)) hr hs t w).mono ?_
    rintro e w' ⟨rfl, rfl⟩
    have he : errP s t = 1 := by unfold errP; rw [hr]; rfl
    exact ⟨by rw [he], F, n, wr, h, by omega, h0, by omega, Mod.refl _ _, fun e => by rw [he] at e; exact absurd e (by decide), fun _ => rfl⟩
  · refine (save_right h hn h0 h1 (right_iff.1 hr) ht t hz).mono ?_
    intro e w' hw
    rcases hw with ⟨hb, rfl, hB⟩ | ⟨hb, rfl, hM, hD⟩
    · have he : errP s t = 2 := by unfold errP; rw [hr]; simp [hb]
      exact ⟨by rw [he], F, n, wr, h.below hB, by omega, h0, by omega, Mod.of_below hB, fun e => by rw [he] at e; exact absurd e (by decide), fun _ => rfl⟩
    · have he : errP s t = 0 := by unfold errP; rw [hr]; simp; omega
      exact ⟨by rw [he], _, _, _, hD, by split <;> omega, by omega, by omega, hM, fun _ => ⟨_, rfl⟩, fun e => absurd he e⟩
/-- The record that Load finds. -/
def foundP (F : ByteArray → Option Fl) (s : ByteArray) : Option Fl := if rightP s then F (str (pathB s.toList)) else none
def textP (o : Option Fl) : ByteArray := (o.map Fl.t).getD ⟨#[]⟩
theorem loadV_eq (o : Option Fl) : loadV o = .tuple #[.string (textP o), .bool o.isSome] := by cases o <;> rfl
def LoadPost (w : World) (d fb gb : Nat) (F : ByteArray → Option Fl) (n : Nat) (wr rd : Int) (s : ByteArray) (e : Ending) (w' : World) : Prop :=
  e = .returned (.tuple #[.string (textP (foundP F s)), .bool (foundP F s).isSome]) ∧ Mod (fun k => k = d ∨ k = fb) w w' ∧ ∃ rd', DiskIs w' d fb gb F n wr rd' ∧ 0 ≤ rd' ∧ rd' ≤ rd + 1
theorem load_any (h : DiskIs w d fb gb F n wr rd) (h0 : 0 ≤ rd) (h1 : rd ≤ 1000) (s : ByteArray) (hs : s.size ≤ 140737488351232) (ht : Tabs w) :
    Calls Tryd.prog 19 #[.pointer (some ⟨d, 0, none⟩), .string s] w (LoadPost w d fb gb F n wr rd s) := by
  cases hr : rightP s
  · refine (load_wrong (.pointer (some ⟨d, 0, none⟩)) hr hs w).mono ?_
    rintro e w' ⟨rfl, rfl⟩
    have he : foundP F s = none := by unfold foundP; rw [hr]; rfl
    exact ⟨by rw [he]; rfl, Mod.refl _ _, rd, h, h0, by omega⟩
  · refine (load_right h h0 h1 (right_iff.1 hr) ht).mono ?_
    rintro e w' ⟨rfl, hM, hD⟩
    have he : foundP F s = F (str (pathB s.toList)) := by unfold foundP; rw [hr]; rfl
    exact ⟨by rw [he, loadV_eq], hM.mono (fun _ _ e => .inl e), rd + 1, hD, by omega, by omega⟩
end
theorem ba_eq {x y : ByteArray} (h : x.toList = y.toList) : x = y := by rw [← str_of x, ← str_of y, h]
theorem path_inj {a b : ByteArray} (h : str (pathB a.toList) = str (pathB b.toList)) : a = b := by
  have h2 := congrArg ByteArray.toList h
  rw [str_toList, str_toList] at h2
  exact ba_eq (List.append_cancel_left h2)
theorem err_right {s t : ByteArray} (h : errP s t = 0) : rightP s = true := by
  unfold errP at h
  cases hr : rightP s
  · rw [hr] at h; simp at h
  · rfl
/-- What is found behind two calls of Save on an empty disk. -/
theorem keeps_law {a b s t : ByteArray} {F1 F2 : ByteArray → Option Fl} (h1 : SavesTo (fun _ => none) F1 a s) (h2 : SavesTo F1 F2 b t) :
    (foundP F2 a).isSome = ((errP a s == 0) || ((a.toList == b.toList) && (errP b t == 0))) ∧ (foundP F2 b).isSome = ((errP b t == 0) || ((a.toList == b.toList) && (errP a s == 0))) ∧
    (¬ a = b → ((foundP F2 a).isSome = true → textP (foundP F2 a) = s) ∧ ((foundP F2 b).isSome = true → textP (foundP F2 b) = t)) := by
  have hab : (a.toList == b.toList) = decide (a = b) := by
    rw [Bool.eq_iff_iff, beq_iff_eq, decide_eq_true_eq]
    exact ⟨fun h => ba_eq h, fun h => by rw [h]⟩
  have hp : (str (pathB a.toList) = str (pathB b.toList)) ↔ a = b := ⟨path_inj, fun h => by rw [h]⟩
  have hp' : (str (pathB b.toList) = str (pathB a.toList)) ↔ a = b := ⟨fun h => (path_inj h).symm, fun h => by rw [h]⟩
  rw [hab]
  by_cases ha : errP a s = 0
  · obtain ⟨q, rfl⟩ := h1.1 ha
    have ra := err_right ha
    by_cases hb : errP b t = 0
    · obtain ⟨q', rfl⟩ := h2.1 hb
      have rb := err_right hb
      by_cases e : a = b
      · subst e
        simp [foundP, ra, ha, hb, textP]
      · simp [foundP, ra, rb, ha, hb, textP, hp, hp', e]
    · obtain rfl := h2.2 hb
      by_cases e : a = b
      · subst e
        simp [foundP, ra, ha, hb, textP]
      · simp [foundP, ra, ha, hb, textP, hp, hp', e]
  · obtain rfl := h1.2 ha
    by_cases hb : errP b t = 0
    · obtain ⟨q', rfl⟩ := h2.1 hb
      have rb := err_right hb
      by_cases e : a = b
      · subst e
        simp [foundP, rb, ha, hb, textP]
      · simp [foundP, rb, ha, hb, textP, hp, hp', e]
    · obtain rfl := h2.2 hb
      by_cases e : a = b
      · subst e
        simp [foundP, ha, hb, textP]
      · simp [foundP, ha, hb, textP, hp, hp', e]
set_option maxHeartbeats 6400000 in
set_option maxRecDepth 100000 in
theorem keeps_any (a b s t : ByteArray) (ha : a.size ≤ 140737488351232) (hb : b.size ≤ 140737488351232) (hs : s.size ≤ 140737488351232) (hz : t.size ≤ 140737488351232) (w : World) (ht : Tabs w) :
    Calls Tryd.prog 4 #[.agg #[.string a, .string b, .string s, .string t]] w (BoolPost w true) := by
  have HTS := Lib.hid ht
  have B0 := Lib.hid (below_alloc1 w (.cells #[.string a, .string b, .string s, .string t] 26))
  clear ht
  go_enter Tryd.func4, Tryd.ntmps4
  go_wp2_with fail
  go_quiet (fail)
  have B1 := Lib.hid (belowN B0.out nq)
  clear B0
  generalize World.drewN _ _ = W at B1 ⊢
  have HD := dnew_any W
  go_wp2_with fail
  refine HD.mono ?_
  rintro e w1 ⟨d, fb, gb, rfl, i1, h1, h2, h3, hbel⟩
  have hs0 := B1.out.size
  have M1 : Hid (MineD w w1 d fb gb (fun _ => none) 0 0 0) := Lib.hid ⟨i1, B1.out.trans (hbel.mono hs0), Nat.le_trans hs0 h1, Nat.le_trans hs0 h2⟩
  clear i1 h1 h2 h3 hbel HD hs0 B1
  have HS := save_any M1.out.dsk (by decide) (by decide) (by decide) a ha s hs (HTS.out.mono M1.out.below)
  go_wp2_with fail
  refine HS.mono ?_
  rintro e w2 ⟨rfl, F1, n1, wr1, i2, k1, k2, k3, m2, sv1⟩
  have M2 := Lib.hid (M1.out.turned i2 m2)
  have HS2 := save_any M2.out.dsk (Nat.lt_of_le_of_lt k1 (by decide)) k2 (Int.le_trans k3 (by decide)) b hb t hz (HTS.out.mono M2.out.below)
  have SV1 := Lib.hid sv1
  have HK := Lib.hid (⟨k1, k2, k3⟩ : _ ∧ _ ∧ _)
  clear i2 m2 HS M1 sv1 k1 k2 k3
  go_wp2_with fail
  refine HS2.mono ?_
  rintro e w3 ⟨rfl, F2, n2, wr2, i3, -, -, -, m3, sv2⟩
  have M3 := Lib.hid (M2.out.turned i3 m3)
  have HL := load_any M3.out.dsk (by decide) (by decide) a ha (HTS.out.mono M3.out.below)
  obtain ⟨q1, q2, q3⟩ := keeps_law SV1.out sv2
  have Q3 := Lib.hid q3
  unfold LoadPost at HL
  clear i3 m3 HS2 M2 sv2 SV1 HK q3
  go_wp2_with fail
  refine HL.mono ?_
  rintro e w4 ⟨rfl, m4, rd4, i4, j4, j5⟩
  have M4 := Lib.hid (M3.out.turned i4 m4)
  have HL2 := load_any M4.out.dsk j4 (Int.le_trans j5 (by decide)) b hb (HTS.out.mono M4.out.below)
  unfold LoadPost at HL2
  clear i4 m4 HL M3 j4 j5
  generalize foundP F2 a = A at HL2 q1 Q3 ⊢
  generalize foundP F2 b = B at HL2 q2 Q3 ⊢
  go_wp2_with fail
  refine HL2.mono ?_
  rintro e w5 ⟨rfl, m5, rd5, i5, j4, j5⟩
  have M5 := Lib.hid (M4.out.turned i5 m5)
  clear i5 m5 HL2 M4 j4 j5
  have HQ : Hid ((a.toList == b.toList) = false → (A.isSome = true → ((textP A).toList == s.toList) = true) ∧ (B.isSome = true → ((textP B).toList == t.toList) = true)) := Lib.hid (fun h => by
    have hne : ¬ a = b := fun e => by rw [e] at h; simp at h
    obtain ⟨u, v⟩ := Q3.out hne
    exact ⟨fun o => by rw [u o]; simp, fun o => by rw [v o]; simp⟩)
  have HA := salive_any w5 (HTS.out.mono M5.out.below)
  clear Q3
  generalize textP A = xa at HQ ⊢
  generalize textP B = xb at HQ ⊢
  generalize A.isSome = oa at HQ q1 ⊢
  generalize B.isSome = ob at HQ q2 ⊢
  generalize errP a s = ea at q1 q2 ⊢
  generalize errP b t = eb at q1 q2 ⊢
  cases h3 : (a.toList == b.toList)
  all_goals cases h1 : (ea == 0)
  all_goals cases h2 : (eb == 0)
  all_goals
    simp only [h1, h2, h3, Bool.true_or, Bool.false_or, Bool.or_true, Bool.or_false, Bool.and_true, Bool.true_and, Bool.false_and, Bool.and_false] at q1 q2
    subst q1
    subst q2
    try (have u := (HQ.out h3).1 rfl)
    try (have v := (HQ.out h3).2 rfl)
    clear HQ
    go_wp2_with fail
    refine HA.mono ?_
    rintro e w6 ⟨rfl, hbel⟩
    have B6 := Lib.hid (M5.out.below.trans (hbel.mono M5.out.below.size))
    clear hbel HA
    go_wp2_with fail
    go_ret
    exact ⟨rfl, B6.out⟩
end Go.Proofs.YthnhpnmopjbaoaaDoor
