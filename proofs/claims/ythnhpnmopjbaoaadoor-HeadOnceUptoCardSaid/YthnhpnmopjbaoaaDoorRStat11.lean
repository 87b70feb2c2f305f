/-
  The walk of the document's status (layer 11).
-/
import Derived.Test.YthnhpnmopjbaoaaDoorStatP11
import Derived.Test.YthnhpnmopjbaoaaDoorRSame11
namespace Go.Proofs.YthnhpnmopjbaoaaDoor
open Go.RowKit

theorem code3_short {l : Bs} (h : l.length < 3) : code3 l = 0 := by
  match l with
  | [] => rfl
  | [a] => rfl
  | [a, b] => rfl
  | a :: b :: c :: r => simp at h; omega
theorem code3_at {l : Bs} (h : 3 ≤ l.length) : code3 l = if (∀ x ∈ l.take 3, isDig x = true) ∧ (l.length = 3 ∨ l[3]? = some 32) ∧ 100 ≤ dec 0 (l.take 3) ∧ dec 0 (l.take 3) ≤ 599 then (dec 0 (l.take 3) : Int) else 0 := by
  match l with
  | [] => simp at h
  | [a] => simp at h
  | [a, b] => simp at h
  | a :: b :: c :: r =>
    show (if isDig a = true ∧ isDig b = true ∧ isDig c = true ∧ (r = [] ∨ r.head? = some 32) ∧ 100 ≤ dec 0 [a, b, c] ∧ dec 0 [a, b, c] ≤ 599 then (dec 0 [a, b, c] : Int) else 0) = if (∀ x ∈ [a, b, c], isDig x = true) ∧ ((a :: b :: c :: r).length = 3 ∨ r[0]? = some 32) ∧ 100 ≤ dec 0 [a, b, c] ∧ dec 0 [a, b, c] ≤ 599 then (dec 0 [a, b, c] : Int) else 0
    have e1 : (∀ x ∈ [a, b, c], isDig x = true) ↔ (isDig a = true ∧ isDig b = true ∧ isDig c = true) := by simp
    have e2 : (a :: b :: c :: r).length = 3 ↔ r = [] := by
      cases r with
      | nil => simp
      | cons x q => simp
    have e3 : r[0]? = r.head? := (List.head?_eq_getElem? (l := r)).symm
    by_cases hc : isDig a = true ∧ isDig b = true ∧ isDig c = true ∧ (r = [] ∨ r.head? = some 32) ∧ 100 ≤ dec 0 [a, b, c] ∧ dec 0 [a, b, c] ≤ 599
    · rw [if_pos hc, if_pos ⟨e1.2 ⟨hc.1, hc.2.1, hc.2.2.1⟩, by rw [e2, e3]; exact hc.2.2.2.1, hc.2.2.2.2⟩]
    · rw [if_neg hc, if_neg (fun e => hc ⟨(e1.1 e.1).1, (e1.1 e.1).2.1, (e1.1 e.1).2.2, by rw [← e2, ← e3]; exact e.2.1, e.2.2⟩)]
/-- While the digits are taken: m of them so far. -/
structure DigI (l : Bs) (m : Nat) (n : Int) : Prop where
  le : m ≤ 3
  all : ∀ x ∈ l.take m, isDig x = true
  val : n = (dec 0 (l.take m) : Int)
theorem dec_le : ∀ (l : Bs) (acc : Nat), (∀ x ∈ l, isDig x = true) → dec acc l < (acc + 1) * 10 ^ l.length
  | [], acc, _ => by show acc < _; simp
  | c :: r, acc, h => by
    have hc := (isDig_iff c).1 (h c (by simp))
    have ih := dec_le r (acc * 10 + (c.toNat - 48)) (fun x hx => h x (by simp [hx]))
    show dec (acc * 10 + (c.toNat - 48)) r < _
    refine Nat.lt_of_lt_of_le ih ?_
    rw [List.length_cons, Nat.pow_succ, Nat.mul_comm (10 ^ r.length) 10, ← Nat.mul_assoc]
    exact Nat.mul_le_mul_right _ (by omega)
theorem DigI.small {l : Bs} {m : Nat} {n : Int} (d : DigI l m n) : 0 ≤ n ∧ n < 1000 := by
  have h := dec_le (l.take m) 0 d.all
  have h1 : 10 ^ (l.take m).length ≤ 10 ^ 3 := Nat.pow_le_pow_right (by omega) (by rw [List.length_take]; have := d.le; omega)
  have := d.val
  have e : (10 : Nat) ^ 3 = 1000 := rfl
  omega
theorem DigI.next {l : Bs} {m : Nat} {n : Int} (d : DigI l m n) (h3 : m < 3) (h : m < l.length) (hd : isDig l[m] = true) : DigI l (m + 1) (n * 10 + ((l[m].toNat : Int) - 48)) := by
  have ht : l.take (m + 1) = l.take m ++ [l[m]] := (List.take_append_getElem h).symm
  have hdd := (isDig_iff _).1 hd
  refine ⟨by omega, ?_, ?_⟩
  · rw [ht]
    intro x hx
    rcases List.mem_append.1 hx with hx | hx
    · exact d.all x hx
    · simp at hx; subst hx; exact hd
  · rw [ht, dec_snoc]
    have := d.val
    omega
theorem wr_in {n : Nat} {x : Int} (hs : n ≤ 140737488351232) (h0 : 0 ≤ x) (h1 : x ≤ (n : Int) + 8) : wrap64 x = x ∧ IntKind.i64.wrap x = x :=
  ⟨wr64 (by omega) (by omega), by rw [IntKind.wrap_i64]; omega⟩
theorem wr_sm {x : Int} (h0 : -1000 ≤ x) (h1 : x ≤ 100000) : wrap64 x = x ∧ IntKind.i64.wrap x = x :=
  ⟨wr64 (by omega) (by omega), by rw [IntKind.wrap_i64]; omega⟩
section
variable {s : ByteArray} {i m : Nat}
theorem dl_len : (s.toList.drop (i + 1)).length = s.size - (i + 1) := by rw [List.length_drop, size_toList]
theorem dl_short (h : s.size < i + 4) : (s.toList.drop (i + 1)).length < 3 := by rw [dl_len]; omega
theorem dl3 (h : i + 4 ≤ s.size) : 3 ≤ (s.toList.drop (i + 1)).length := by rw [dl_len]; omega
theorem dl_m (h : i + 4 ≤ s.size) (hm : m < 3) : m < (s.toList.drop (i + 1)).length := by rw [dl_len]; omega
theorem dl_mem (h : i + 4 ≤ s.size) (hm : m < 3) : (s.toList.drop (i + 1))[m]'(dl_m h hm) ∈ (s.toList.drop (i + 1)).take 3 := by
  rw [List.mem_take_iff_getElem]
  exact ⟨m, by rw [dl_len]; omega, rfl⟩
theorem dl_eq (h : i + 4 ≤ s.size) : (s.toList.drop (i + 1)).length = 3 ↔ s.size = i + 4 := by rw [dl_len]; omega
theorem dl_get (h : i + 4 < s.size) : (s.toList.drop (i + 1))[3]? = some s[i + 4] := by
  rw [List.getElem?_drop, List.getElem?_eq_getElem (by rw [size_toList]; omega)]
  congr 1
  have : i + 1 + 3 = i + 4 := by omega
  simp only [this]
  exact toList_at h
end
theorem dec_lt {a b : Int} (h : a < b) : decide (a < b) = true := by simpa using h
theorem dec_nlt {a b : Int} (h : b ≤ a) : decide (a < b) = false := by simpa using h
set_option maxHeartbeats 6400000 in
set_option maxRecDepth 100000 in
theorem rstatus_any {s : ByteArray} (h5 : 5 ≤ s.size) (hs : s.size ≤ 140737488351232) (w : World) : Calls Tryd.prog 63 #[.string s] w fun e w' => e = .returned (.int .i64 (statusP s)) ∧ w = w' := by
  have HV := fun w => rvalued_any s hs w
  obtain ⟨r, hr⟩ : ∃ r, r = statusP s := ⟨_, rfl⟩
  obtain ⟨v, hv⟩ : ∃ v, v = valuedP s := ⟨_, rfl⟩
  rw [← hr]
  rw [← hv] at HV
  have HR := Lib.hid hr
  have HVV := Lib.hid hv
  have H5 := Lib.hid h5
  have HS := Lib.hid hs
  clear hr hv hs
  go_enter Tryd.func63, Tryd.ntmps63
  go_wp2_with fail
  go_loopw [3] (fun kv wr => ∃ i : Nat, 5 ≤ i ∧ i ≤ s.size ∧ kv = .int .i64 i ∧ Hid (∀ j (h : j < s.size), 5 ≤ j → j < i → s[j] ≠ 32) ∧ w = wr) (fun kv _ => s.size - (intOf kv).toNat)
  case atStart => exact ⟨5, Nat.le_refl _, h5, rfl, fun j _ h1 h2 => by omega, rfl⟩
  case round =>
    obtain ⟨i, hi5, his, rfl, HA, rfl⟩ := hrel
    obtain ⟨hnext, hnext'⟩ : wrap64 ((i : Int) + 1) = (i : Int) + 1 ∧ IntKind.i64.wrap ((i : Int) + 1) = (i : Int) + 1 := wr_in HS.out (by omega) (by omega)
    obtain ⟨hw4, hw4'⟩ : wrap64 ((i : Int) + 4) = (i : Int) + 4 ∧ IntKind.i64.wrap ((i : Int) + 4) = (i : Int) + 4 := wr_in HS.out (by omega) (by omega)
    by_cases hlt : i < s.size
    · have hii : (i : Int) < (s.size : Int) := by omega
      obtain ⟨x, hx⟩ : ∃ x : Int, (s[i].toNat : Int) = x := ⟨_, rfl⟩
      by_cases h32 : s[i] = 32
      · have hx32 : x = 32 := by rw [← hx, h32]; rfl
        subst hx32
        have HRV : Hid (r = if i = 5 ∨ i = s.size ∨ valuedP s = false then 0 else code3 (s.toList.drop (i + 1))) := Lib.hid (HR.out.trans (statusP_at hi5 his HA.out (fun _ => h32)))
        clear h32
        by_cases h5 : i = 5
        · have d5 : ((i : Int) == 5) = true := by simp; omega
          have HF : Hid (r = 0) := Lib.hid (by rw [HRV.out]; exact if_pos (.inl h5))
          clear h5
          go_wp2_with fail
          go_ret
          exact ⟨by rw [HF.out]; rfl, rfl⟩
        · have d5 : ((i : Int) == 5) = false := by simp; omega
          by_cases hsz : s.size < i + 4
          · have d6 : decide ((s.size : Int) < (i : Int) + 4) = true := by simp; omega
            have HF : Hid (r = 0) := Lib.hid (by
              rw [HRV.out]
              split
              · rfl
              · exact code3_short (dl_short hsz))
            clear h5
            go_wp2_with fail
            go_ret
            exact ⟨by rw [HF.out]; rfl, rfl⟩
          · have d6 : decide ((s.size : Int) < (i : Int) + 4) = false := by simp; omega
            cases v with
            | false =>
              have HF : Hid (r = 0) := Lib.hid (by rw [HRV.out]; exact if_pos (.inr (.inr HVV.out.symm)))
              clear h5
              go_wp2_with fail
              refine (HV _).mono ?_
              rintro e w1 ⟨rfl, rfl⟩
              go_wp2_with fail
              go_ret
              exact ⟨by rw [HF.out]; rfl, rfl⟩
            | true =>
              have HL : Hid (r = code3 (s.toList.drop (i + 1))) := Lib.hid (by rw [HRV.out]; exact if_neg (by rintro (e | e | e) <;> first | exact h5 e | omega | (rw [← HVV.out] at e; cases e)))
              have HSZ : Hid (i + 4 ≤ s.size) := Lib.hid (by omega)
              have HLT := Lib.hid hlt
              clear h5 HRV
              go_wp2_with fail
              refine (HV _).mono ?_
              rintro e w1 ⟨rfl, rfl⟩
              clear HV hx hlt hii
              go_wp2_with fail
              go_loopw [4, 5] (fun nv kv wr => ∃ (m : Nat) (n : Int), nv = .int .i64 n ∧ kv = .int .i64 ((i : Int) + 1 + m) ∧ Hid (DigI (s.toList.drop (i + 1)) m n) ∧ w = wr) (fun _ kv _ => (i + 4) - (intOf kv).toNat)
              case atStart => exact ⟨0, 0, rfl, by go_num, ⟨by omega, by simp, rfl⟩, rfl⟩
              case round =>
                obtain ⟨m, n, rfl, rfl, D, rfl⟩ := hrel
                have hm3 := D.out.le
                have hn := D.out.small
                have hge := HSZ.out
                by_cases hm : m < 3
                · have dm : decide ((i : Int) + 1 + m < (i : Int) + 4) = true := by simp; omega
                  have hkl : i + 1 + m < s.size := by omega
                  have hki : (i : Int) + 1 + m < (s.size : Int) := by omega
                  have hk0 : (0 : Int) ≤ (i : Int) + 1 + m := by omega
                  have htn : ((i : Int) + 1 + m).toNat = i + 1 + m := by omega
                  obtain ⟨hwk, hwk'⟩ : wrap64 ((i : Int) + 1 + m + 1) = (i : Int) + 1 + m + 1 ∧ IntKind.i64.wrap ((i : Int) + 1 + m + 1) = (i : Int) + 1 + m + 1 := wr_in HS.out (by omega) (by omega)
                  have hel : ∀ h, (s.toList.drop (i + 1))[m]'h = s[i + 1 + m] := fun h => by rw [List.getElem_drop, toList_at hkl]
                  obtain ⟨y, hy⟩ : ∃ y : Int, (s[i + 1 + m].toNat : Int) = y := ⟨_, rfl⟩
                  have hy256 := s[i + 1 + m].toNat_lt
                  by_cases hd : isDig s[i + 1 + m] = true
                  · have hdd := (isDig_iff _).1 hd
                    have e1 : decide (y < 48) = false := by simp; omega
                    have e2 : decide (57 < y) = false := by simp; omega
                    have e3 : IntKind.u8.wrap (y - 48) = y - 48 := by unfold IntKind.wrap; simp [IntKind.bits]; omega
                    obtain ⟨e4, e4'⟩ : wrap64 (n * 10) = n * 10 ∧ IntKind.i64.wrap (n * 10) = n * 10 := wr_sm (by omega) (by omega)
                    obtain ⟨e5, e5'⟩ : wrap64 (n * 10 + (y - 48)) = n * 10 + (y - 48) ∧ IntKind.i64.wrap (n * 10 + (y - 48)) = n * 10 + (y - 48) := wr_sm (by omega) (by omega)
                    obtain ⟨e6, e6'⟩ : wrap64 (y - 48) = y - 48 ∧ IntKind.i64.wrap (y - 48) = y - 48 := wr_sm (by omega) (by omega)
                    have D2 : Hid (DigI (s.toList.drop (i + 1)) (m + 1) (n * 10 + (y - 48))) := Lib.hid (by
                      have := D.out.next hm (dl_m hge hm) (by rw [hel]; exact hd)
                      rw [hel, hy] at this
                      exact this)
                    have HM := Lib.hid hm
                    clear hd hdd hy256 hel D hm
                    go_wp2_with fail
                    go_roundw
                    case rel => exact ⟨m + 1, _, rfl, by go_num, D2, trivial⟩
                    case measure => have := HM.out; simp [intOf]; omega
                  · have HF : Hid (r = 0) := Lib.hid (by
                      rw [HL.out, code3_at (dl3 hge)]
                      refine if_neg (fun e => hd ?_)
                      rw [← hel (dl_m hge hm)]
                      exact e.1 _ (dl_mem hge hm))
                    rw [isDig_iff] at hd
                    have hbad : decide (y < 48) = true ∨ (decide (y < 48) = false ∧ decide (57 < y) = true) := by
                      by_cases h48 : y < 48
                      · exact .inl (by simp [h48])
                      · exact .inr ⟨by simp [h48], by simp; omega⟩
                    clear hd hy256 hel D
                    rcases hbad with e1 | ⟨e1, e2⟩
                    all_goals
                      go_wp2_with fail
                      go_ret
                      exact ⟨by rw [HF.out]; rfl, rfl⟩
                · obtain rfl : m = 3 := by omega
                  have dm : decide ((i : Int) + 1 + (3 : Nat) < (i : Int) + 4) = false := by simp; omega
                  have HC : Hid (r = if ((s.toList.drop (i + 1)).length = 3 ∨ (s.toList.drop (i + 1))[3]? = some 32) ∧ 100 ≤ n ∧ n ≤ 599 then n else 0) := Lib.hid (by
                    rw [HL.out, code3_at (dl3 hge), ← D.out.val]
                    have hv := D.out.val
                    by_cases hc : ((s.toList.drop (i + 1)).length = 3 ∨ (s.toList.drop (i + 1))[3]? = some 32) ∧ 100 ≤ n ∧ n ≤ 599
                    · rw [if_pos ⟨D.out.all, hc.1, by omega, by omega⟩, if_pos hc]
                    · rw [if_neg (fun e => hc ⟨e.2.1, by omega, by omega⟩), if_neg hc])
                  by_cases h1 : 100 ≤ n
                  · have e1 : decide (n < 100) = false := by simp; omega
                    by_cases h2 : n ≤ 599
                    · have e2 : decide (599 < n) = false := by simp; omega
                      by_cases hl4 : i + 4 < s.size
                      · have e3 : decide ((i : Int) + 4 < (s.size : Int)) = true := by simp; omega
                        have hki : (i : Int) + 4 < (s.size : Int) := by omega
                        have hk0 : (0 : Int) ≤ (i : Int) + 4 := by omega
                        have htn : ((i : Int) + 4).toNat = i + 4 := by omega
                        have hel := dl_get hl4
                        obtain ⟨y, hy⟩ : ∃ y : Int, (s[i + 4].toNat : Int) = y := ⟨_, rfl⟩
                        by_cases hb : s[i + 4] = 32
                        · have hy32 : y = 32 := by rw [← hy, hb]; rfl
                          subst hy32
                          have HF : Hid (r = n) := Lib.hid (by rw [HC.out]; exact if_pos ⟨.inr (by rw [hel, hb]), h1, h2⟩)
                          clear hb hel h1 h2 HC D
                          go_wp2_with fail
                          go_ret
                          exact ⟨by rw [HF.out]; rfl, rfl⟩
                        · have e4 : (y != 32) = true := by
                            simp only [bne_iff_ne, ne_eq]
                            intro e
                            exact hb (UInt8.toNat_inj.1 (by rw [e] at hy; show _ = 32; omega))
                          have HF : Hid (r = 0) := Lib.hid (by
                            rw [HC.out]
                            refine if_neg (fun e => ?_)
                            rcases e.1 with e | e
                            · have := (dl_eq hge).1 e; omega
                            · rw [hel] at e; exact hb (Option.some.inj e))
                          clear hb hel h1 h2 HC D
                          go_wp2_with fail
                          go_ret
                          exact ⟨by rw [HF.out]; rfl, rfl⟩
                      · have e3 : decide ((i : Int) + 4 < (s.size : Int)) = false := by simp; omega
                        have HF : Hid (r = n) := Lib.hid (by rw [HC.out]; exact if_pos ⟨.inl ((dl_eq hge).2 (by omega)), h1, h2⟩)
                        clear h1 h2 HC D
                        go_wp2_with fail
                        go_ret
                        exact ⟨by rw [HF.out]; rfl, rfl⟩
                    · have e2 : decide (599 < n) = true := by simp; omega
                      have HF : Hid (r = 0) := Lib.hid (by rw [HC.out]; exact if_neg (fun e => h2 e.2.2))
                      clear h1 h2 HC D
                      go_wp2_with fail
                      go_ret
                      exact ⟨by rw [HF.out]; rfl, rfl⟩
                  · have e1 : decide (n < 100) = true := by simp; omega
                    have HF : Hid (r = 0) := Lib.hid (by rw [HC.out]; exact if_neg (fun e => h1 e.2.1))
                    clear h1 HC D
                    go_wp2_with fail
                    go_ret
                    exact ⟨by rw [HF.out]; rfl, rfl⟩
      · have dx : (x != 32) = true := by
          simp only [bne_iff_ne, ne_eq]
          intro e
          exact h32 (UInt8.toNat_inj.1 (by rw [e] at hx; show _ = 32; omega))
        have HA2 : Hid (∀ j (h : j < s.size), 5 ≤ j → j < i + 1 → s[j] ≠ 32) := Lib.hid (fun j h h1 h2 => by
          rcases Nat.lt_succ_iff_lt_or_eq.1 h2 with h' | rfl
          · exact HA.out j h h1 h'
          · exact h32)
        clear h32
        go_wp2_with fail
        go_roundw
        case rel => exact ⟨i + 1, by omega, hlt, by go_num, HA2, trivial⟩
        case measure => simp [intOf]; omega
    · obtain rfl : i = s.size := by omega
      have HF : Hid (r = 0) := Lib.hid (HR.out.trans ((statusP_at hi5 his HA.out (fun h => absurd h hlt)).trans (if_pos (.inr (.inl rfl)))))
      have d6 : decide ((s.size : Int) < (s.size : Int) + 4) = true := by simp; omega
      by_cases h5 : ((s.size : Int) == 5) = true
      · go_wp2_with fail
        go_ret
        exact ⟨by rw [HF.out]; rfl, rfl⟩
      · have h5 : ((s.size : Int) == 5) = false := by simpa using h5
        go_wp2_with fail
        go_ret
        exact ⟨by rw [HF.out]; rfl, rfl⟩
end Go.Proofs.YthnhpnmopjbaoaaDoor
