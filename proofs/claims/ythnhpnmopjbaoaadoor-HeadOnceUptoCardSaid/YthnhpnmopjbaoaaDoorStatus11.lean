/-
  The walk of status at a status line.
-/
import Derived.Test.YthnhpnmopjbaoaaDoorNameB11
import Derived.Test.YthnhpnmopjbaoaaDoorShelfB
namespace Go.Proofs.YthnhpnmopjbaoaaDoor
open Go.RowKit

/-- The listed variables, the error for numbers out of range too. -/
structure TabsR (w : World) : Prop where
  t : Tabs w
  rng : ∃ tp p, w.var? Tryd.prog "strconv.ErrRange" = some #[.iface tp p]
theorem TabsR.mono {w w' : World} (h : TabsR w) (hb : Below w.heap.size w w') : TabsR w' := ⟨h.t.mono hb, let ⟨a, b, e⟩ := h.rng; ⟨a, b, var_keep e hb⟩⟩
/-- The number of a text, as Atoi has it. -/
def okV (l : Bs) : Option Int := match Lib.atoiAll l with | .ok v => some v | _ => none
theorem okV_some {l : Bs} {v : Int} (h : okV l = some v) : Lib.atoiAll l = .ok v := by
  unfold okV at h
  rcases hx : Lib.atoiAll l with u | _ | _ <;> rw [hx] at h
  · cases h; rfl
  · cases h
  · cases h
theorem okV_none {l : Bs} (h : okV l = none) : ∀ v, Lib.atoiAll l ≠ .ok v := by
  intro v hv
  unfold okV at h
  rw [hv] at h
  cases h
def AtoiErr (w : World) (e : Ending) (w' : World) : Prop := ∃ x p, e = .returned (.tuple #[.int .i64 x, .iface 136 p]) ∧ Below w.heap.size w w'
def AtoiOk (v : Int) (w : World) (e : Ending) (w' : World) : Prop := e = .returned (.tuple #[.int .i64 v, .nilIface]) ∧ Below w.heap.size w w'
theorem atoi_ok {t : ByteArray} (hs : t.size ≤ 140737488351232) {v : Int} (h : okV t.toList = some v) (w : World) : Calls Tryd.prog 71 #[.string t] w (AtoiOk v w) := by
  have h := okV_some h
  rw [ByteArray.toList_eq] at h
  refine (Tryd.strconv_Atoi_ok t (by omega) v h w).mono ?_
  rintro e w' ⟨rfl, rfl | ⟨x, rfl⟩⟩
  · exact ⟨rfl, Below.refl _ _⟩
  · exact ⟨rfl, Lib.bytesWorld_below _ _ _⟩
theorem atoi_bad {t : ByteArray} (hs : t.size ≤ 140737488351232) (h : okV t.toList = none) (w : World) (ht : TabsR w) : Calls Tryd.prog 71 #[.string t] w (AtoiErr w) := by
  have h := okV_none h
  obtain ⟨tr, pr, hr⟩ := ht.rng
  obtain ⟨ts, ps, hsy⟩ := ht.t.syn
  rw [ByteArray.toList_eq] at h
  rcases hx : Lib.atoiAll t.data.toList with v | _ | _
  · exact absurd hx (h v)
  · have HP : Calls Tryd.prog 71 #[.string t] w fun e w' => ∃ N, e = .returned (.tuple #[.int .i64 0, .iface 136 (.pointer (some ⟨N, 0, none⟩))]) ∧ w.heap.size ≤ N ∧ w'.heap[N]? = some (.cells #[.string ⟨#[65, 116, 111, 105]⟩, .string t, .iface ts ps] 150 (0, 0)) ∧ Below w.heap.size w w' :=
      Any.strconv_Atoi_syntax_var Tryd.laysC172 t (by omega) hx ts ps w hsy
    refine HP.mono ?_
    rintro e w' ⟨N, rfl, _, _, hb⟩
    exact ⟨_, _, rfl, hb⟩
  · refine (Tryd.strconv_Atoi_range_var t (by omega) hx tr pr w hr).mono ?_
    rintro e w' ⟨N, rfl, _, _, hb⟩
    exact ⟨_, _, rfl, hb⟩
/-- The number behind the first blank. -/
def codeP (d : ByteArray) : Int := match okV d.toList with | some v => if d.size = 3 ∧ 49 ≤ (d.get! 0).toNat ∧ 100 ≤ v ∧ v ≤ 599 then v else 0 | none => 0
def statusP (s : ByteArray) : Int :=
  if (cutP (s.extract 5 s.size) 32).2.2 = true ∧ Lib.hasPrefix (s.extract 5 s.size).data.toList [32] = false ∧ valuedP s = true then codeP (cutP (cutP (s.extract 5 s.size) 32).2.1 32).1 else 0
theorem cutP_size (s : ByteArray) (c : UInt8) : (cutP s c).1.size ≤ s.size ∧ (cutP s c).2.1.size ≤ s.size := by
  unfold cutP
  split
  · simp only [ByteArray.size_extract]; omega
  · exact ⟨Nat.le_refl _, Nat.zero_le _⟩
theorem get0 {d : ByteArray} (h : 0 < d.size) : d.get! 0 = d[0] := by
  rw [ByteArray.get!, getElem!_pos d.data 0 h]; rfl
theorem codeP_none {d : ByteArray} (h : okV d.toList = none) : codeP d = 0 := by unfold codeP; rw [h]
theorem codeP_some {d : ByteArray} {v : Int} (h : okV d.toList = some v) : codeP d = if d.size = 3 ∧ 49 ≤ (d.get! 0).toNat ∧ 100 ≤ v ∧ v ≤ 599 then v else 0 := by unfold codeP; rw [h]
def IntPost (w : World) (n : Int) (e : Ending) (w' : World) : Prop := e = .returned (.int .i64 n) ∧ Below w.heap.size w w'
set_option maxHeartbeats 3200000 in
set_option maxRecDepth 100000 in
theorem status_line {s : ByteArray} (h5 : 5 ≤ s.size) (hs : s.size ≤ 140737488351232) (w : World) (ht : TabsR w) : Calls Tryd.prog 50 #[.string s] w (IntPost w (statusP s)) := by
  have hts : (s.extract 5 s.size).size ≤ 140737488351232 := by rw [ByteArray.size_extract]; omega
  have g5 : (5 : Int) ≤ (s.size : Int) := by omega
  have HV := fun w => valued_any s hs w
  have hP := fun w => Tryd.strings_HasPrefix (s.extract 5 s.size) ⟨#[32]⟩ w
  have HC := cut_any (s.extract 5 s.size) hts 32 w
  have hsz := cutP_size (s.extract 5 s.size) 32
  obtain ⟨res, hres⟩ : ∃ res, res = statusP s := ⟨_, rfl⟩
  rw [← hres]
  unfold statusP at hres
  unfold cutV at HC
  rw [show (⟨#[32]⟩ : ByteArray).data.toList = [32] from rfl] at hP
  generalize (cutP (s.extract 5 s.size) 32).1 = before at HC
  generalize hrest : (cutP (s.extract 5 s.size) 32).2.1 = rest at HC hres hsz
  generalize (cutP (s.extract 5 s.size) 32).2.2 = found at HC hres
  generalize Lib.hasPrefix (s.extract 5 s.size).data.toList [32] = pre at hP hres
  generalize valuedP s = val at HV hres
  have HC2 := fun w => cut_any rest (by omega) 32 w
  have hsz2 := cutP_size rest 32
  have hd : (cutP rest 32).1.size ≤ 140737488351232 := by omega
  unfold cutV at HC2
  generalize (cutP rest 32).1 = d at HC2 hres hd
  have HTS := Lib.hid ht
  have HR := Lib.hid hres
  clear hrest hsz hsz2 hts ht hres
  go_enter Tryd.func50, Tryd.ntmps50
  go_wp2_with fail
  refine HC.mono ?_
  rintro e w1 ⟨rfl, n1, rfl⟩
  have B1 := Lib.hid (belowN (Below.refl w.heap.size w) n1)
  generalize w.drewN n1 = w1 at B1 ⊢
  clear HC
  cases found with
  | false =>
    have hr0 : Hid (res = 0) := Lib.hid (by rw [HR.out]; simp)
    go_wp2_with fail
    go_ret
    exact ⟨by rw [hr0.out]; rfl, B1.out⟩
  | true =>
    go_wp2_with fail
    refine (hP _).mono ?_
    rintro e w2 ⟨rfl, rfl⟩
    clear hP
    cases pre with
    | true =>
      have hr0 : Hid (res = 0) := Lib.hid (by rw [HR.out]; simp)
      go_wp2_with fail
      go_ret
      exact ⟨by rw [hr0.out]; rfl, B1.out⟩
    | false =>
      go_wp2_with fail
      refine (HV _).mono ?_
      rintro e w3 ⟨rfl, rfl⟩
      clear HV
      cases val with
      | false =>
        have hr0 : Hid (res = 0) := Lib.hid (by rw [HR.out]; simp)
        go_wp2_with fail
        go_ret
        exact ⟨by rw [hr0.out]; rfl, B1.out⟩
      | true =>
        have HR2 : Hid (res = codeP d) := Lib.hid (by rw [HR.out]; simp)
        clear HR
        go_wp2_with fail
        refine (HC2 _).mono ?_
        rintro e w4 ⟨rfl, n4, rfl⟩
        have B4 := Lib.hid (belowN B1.out n4)
        generalize w2.drewN n4 = w4 at B4 ⊢
        clear HC2 B1
        have H4 := Lib.hid (HTS.out.mono B4.out)
        cases hok : okV d.toList with
        | none =>
          have HA := atoi_bad hd hok w4 H4.out
          have hr0 : Hid (res = 0) := Lib.hid (HR2.out.trans (codeP_none hok))
          clear hok
          go_wp2_with fail
          refine HA.mono ?_
          rintro e w5 ⟨x, p, rfl, hb⟩
          have B5 := Lib.hid (B4.out.trans (hb.mono B4.out.size))
          clear HA hb
          go_wp2_with fail
          go_ret
          exact ⟨by rw [hr0.out]; rfl, B5.out⟩
        | some v =>
          have HA := atoi_ok hd hok w4
          have HR3 : Hid (res = if d.size = 3 ∧ 49 ≤ (d.get! 0).toNat ∧ 100 ≤ v ∧ v ≤ 599 then v else 0) := Lib.hid (HR2.out.trans (codeP_some hok))
          clear hok HR2
          go_wp2_with fail
          refine HA.mono ?_
          rintro e w5 ⟨rfl, hb⟩
          have B5 := Lib.hid (B4.out.trans (hb.mono B4.out.size))
          clear HA hb
          by_cases h3 : d.size = 3
          · have d3 : ((d.size : Int) != 3) = false := by rw [h3]; rfl
            have hp : 0 < d.size := by omega
            have hpi : (0 : Int) < (d.size : Int) := by omega
            have e0 := get0 hp
            obtain ⟨x, hx⟩ : ∃ x : Int, (d[0].toNat : Int) = x := ⟨_, rfl⟩
            by_cases h49 : 49 ≤ d[0].toNat
            · have d49 : decide (x < 49) = false := by simp; omega
              by_cases hlo : 100 ≤ v
              · have dlo : decide (v < 100) = false := by simp; omega
                by_cases hhi : v ≤ 599
                · have dhi : decide (599 < v) = false := by simp; omega
                  have hr0 : Hid (res = v) := Lib.hid (by rw [HR3.out, e0]; exact if_pos ⟨h3, h49, hlo, hhi⟩)
                  clear e0 h3 h49 hlo hhi
                  go_wp2_with fail
                  go_ret
                  exact ⟨by rw [hr0.out]; rfl, B5.out⟩
                · have dhi : decide (599 < v) = true := by simp; omega
                  have hr0 : Hid (res = 0) := Lib.hid (by rw [HR3.out]; exact if_neg (fun h => hhi h.2.2.2))
                  clear e0 h3 h49 hlo hhi
                  go_wp2_with fail
                  go_ret
                  exact ⟨by rw [hr0.out]; rfl, B5.out⟩
              · have dlo : decide (v < 100) = true := by simp; omega
                have hr0 : Hid (res = 0) := Lib.hid (by rw [HR3.out]; exact if_neg (fun h => hlo h.2.2.1))
                clear e0 h3 h49 hlo
                go_wp2_with fail
                go_ret
                exact ⟨by rw [hr0.out]; rfl, B5.out⟩
            · have d49 : decide (x < 49) = true := by simp; omega
              have hr0 : Hid (res = 0) := Lib.hid (by rw [HR3.out, e0]; exact if_neg (fun h => h49 h.2.1))
              clear e0 h3 h49
              go_wp2_with fail
              go_ret
              exact ⟨by rw [hr0.out]; rfl, B5.out⟩
          · have d3 : ((d.size : Int) != 3) = true := by simp; omega
            have hr0 : Hid (res = 0) := Lib.hid (by rw [HR3.out]; exact if_neg (fun h => h3 h.1))
            clear h3
            go_wp2_with fail
            go_ret
            exact ⟨by rw [hr0.out]; rfl, B5.out⟩
end Go.Proofs.YthnhpnmopjbaoaaDoor
