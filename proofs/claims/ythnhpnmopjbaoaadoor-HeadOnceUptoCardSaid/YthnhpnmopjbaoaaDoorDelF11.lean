/-
  The walks of slices.IndexFunc, slices.DeleteFunc and without at lines.
-/
import Derived.Test.YthnhpnmopjbaoaaDoorNameB11
import Derived.Test.YthnhpnmopjbaoaaDoorClone11
namespace Go.Proofs.YthnhpnmopjbaoaaDoor
open Go.RowKit

/-- Has a line this name? -/
def isN (x s : ByteArray) : Bool := (str (nameV s)).toList == x.toList
/-- The lines but those of a name. -/
def dropP (x : ByteArray) (ls : List ByteArray) : List ByteArray := ls.filter fun s => !isN x s
theorem cl_any {w : World} {c : Nat} {x s : ByteArray} (hs : s.size ≤ 140737488351232) (hc : w.cell? ⟨c, 0, none⟩ = some (.string x)) :
    Calls Tryd.prog 73 #[.string s, .pointer (some ⟨c, 0, none⟩)] w fun e w' => e = .returned (.bool (isN x s)) ∧ Below w.heap.size w w' := by
  have HN := name_any hs w
  have HC := Lib.hid hc
  unfold isN
  generalize str (nameV s) = v at HN ⊢
  generalize (nameP s).isSome = b at HN
  clear hc
  go_enter Tryd.func73, Tryd.ntmps73
  go_wp2_with fail
  refine HN.mono ?_
  rintro e w1 ⟨rfl, hb⟩
  have hc1 := (hb.cell (p := ⟨c, 0, none⟩) (cell_lt HC.out)).trans HC.out
  have B1 := Lib.hid hb
  clear hb HN
  go_wp2_with fail
  go_ret
  exact ⟨rfl, B1.out⟩
/-- The place of the first line of a name. -/
def FirstIs (x : ByteArray) (ls : List ByteArray) (r : Int) : Prop :=
  (r = -1 ∧ ∀ s ∈ ls, isN x s = false) ∨ ∃ k : Nat, r = k ∧ ∃ h : k < ls.length, isN x ls[k] = true ∧ ∀ j (hj : j < ls.length), j < k → isN x ls[j] = false
theorem line_cell {w : World} {g : Nat} {ls : List ByteArray} (h : Lies w 1 (some ⟨g, 0, none⟩) (ls.map sR)) {k : Nat} (hk : k < ls.length) : w.cell? ⟨g, k, none⟩ = some (.string ls[k]) := by
  obtain ⟨g', off, e, _, _, hc⟩ := h k (sR ls[k]) (by simp [hk])
  cases e
  have := hc 0 (.string ls[k]) rfl
  simpa using this
set_option maxHeartbeats 1600000 in
set_option maxRecDepth 100000 in
theorem indexf_any {w : World} {c g cap : Nat} {x : ByteArray} {ls : List ByteArray} (hl : ls.length ≤ 2048) (hsz : ∀ s ∈ ls, s.size ≤ 140737488351232) (hL : Lies w 1 (some ⟨g, 0, none⟩) (ls.map sR)) (hg : g < w.heap.size) (hc : w.cell? ⟨c, 0, none⟩ = some (.string x)) :
    Calls Tryd.prog 86 #[.slice (some ⟨g, 0, none⟩) ls.length cap, .func (.func 73) #[] #[.pointer (some ⟨c, 0, none⟩)]] w fun e w' => ∃ r, e = .returned (.int .i64 r) ∧ FirstIs x ls r ∧ Below w.heap.size w w' := by
  have HSZ := Lib.hid hsz
  have HL := Lib.hid hL
  have HC := Lib.hid hc
  have HG := Lib.hid hg
  clear hsz hL hc hg
  go_enter Tryd.func86, Tryd.ntmps86
  go_wp2_with fail
  go_loopw [5, 8] (fun _ kv wr => ∃ k : Nat, k ≤ ls.length ∧ kv = .int .i64 k ∧ Hid (Below w.heap.size w wr) ∧ Hid (∀ j (hj : j < ls.length), j < k → isN x ls[j] = false)) (fun _ kv _ => ls.length - (intOf kv).toNat)
  case atStart => exact ⟨0, Nat.zero_le _, rfl, Below.refl _ _, fun j _ h => absurd h (Nat.not_lt_zero j)⟩
  case round =>
    obtain ⟨k, hk, rfl, HB, HA⟩ := hrel
    by_cases hlt : k < ls.length
    · have hi : (k : Int) < (ls.length : Int) := by omega
      have hw : IntKind.i64.wrap ((k : Int) + 1) = (k : Int) + 1 := by rw [IntKind.wrap_i64]; omega
      have hw' : wrap64 ((k : Int) + 1) = (k : Int) + 1 := wr64 (by omega) (by omega)
      have hcell := (HB.out.cell (p := ⟨g, k, none⟩) HG.out).trans (line_cell HL.out hlt)
      have HP := cl_any (w := wr) (HSZ.out ls[k] (List.getElem_mem _)) ((HB.out.cell (p := ⟨c, 0, none⟩) (cell_lt HC.out)).trans HC.out)
      cases hq : isN x ls[k] with
      | true =>
        rw [hq] at HP
        have HF : Hid (FirstIs x ls k) := Lib.hid (.inr ⟨k, rfl, hlt, hq, HA.out⟩)
        clear hq
        generalize ls[k] = s at hcell HP
        go_wp2_with fail
        refine HP.mono ?_
        rintro e w1 ⟨rfl, hb⟩
        have B1 := Lib.hid (HB.out.trans (hb.mono HB.out.size))
        clear hb HP
        go_wp2_with fail
        go_ret
        exact ⟨_, rfl, HF.out, B1.out⟩
      | false =>
        rw [hq] at HP
        have HA2 : Hid (∀ j (hj : j < ls.length), j < k + 1 → isN x ls[j] = false) := Lib.hid (fun j hj h => by
          rcases Nat.lt_succ_iff_lt_or_eq.1 h with h' | rfl
          · exact HA.out j hj h'
          · exact hq)
        have HLT := Lib.hid hlt
        clear hq
        generalize ls[k] = s at hcell HP
        clear hlt
        go_wp2_with fail
        refine HP.mono ?_
        rintro e w1 ⟨rfl, hb⟩
        have B1 := Lib.hid (HB.out.trans (hb.mono HB.out.size))
        clear hb HP
        go_wp2_with fail
        go_roundw
        case rel => exact ⟨k + 1, HLT.out, by go_num, B1, HA2⟩
        case measure => have := HLT.out; simp [intOf]; omega
    · obtain rfl : k = ls.length := by omega
      have HF : Hid (FirstIs x ls (-1)) := Lib.hid (.inl ⟨rfl, fun s hs => by
        obtain ⟨j, hj, rfl⟩ := List.getElem_of_mem hs
        exact HA.out j hj hj⟩)
      go_wp2_with fail
      go_ret
      exact ⟨_, rfl, HF.out, HB.out⟩
theorem zero9 (w : World) : (zeroValue 9).run Tryd.prog w = .ok (.string .empty) w := by kernel_rfl
/-- While the lines are gone over: i are kept, j looked at. -/
structure DelI (w wr : World) (g cap : Nat) (x : ByteArray) (ls cur : List ByteArray) (i j : Nat) : Prop where
  own : Owns wr 9 1 (.slice (some ⟨g, 0, none⟩) ls.length cap) (cur.map sR)
  mod : Mod (fun k => k = g) w wr
  len : cur.length = ls.length
  kept : cur.take i = dropP x (ls.take j)
  rest : cur.drop j = ls.drop j
theorem sR_map (ls : List ByteArray) : ls.map sR = (ls.map Value.string).map fun x => [x] := by rw [List.map_map]; rfl
section
variable {w wr w2 : World} {g cap : Nat} {x : ByteArray} {ls cur : List ByteArray} {i j : Nat}
theorem DelI.at (d : DelI w wr g cap x ls cur i j) (h : j < ls.length) : ∃ h' : j < cur.length, cur[j] = ls[j] := by
  have h' : j < cur.length := by rw [d.len]; exact h
  refine ⟨h', ?_⟩
  have e1 := List.getElem_drop (xs := cur) (i := j) (j := 0) (h := by simp; omega)
  have e2 := List.getElem_drop (xs := ls) (i := j) (j := 0) (h := by simp; omega)
  simp only [Nat.add_zero] at e1 e2
  rw [← e1, ← e2]
  simp [d.rest]
theorem take_dropP (h : j < ls.length) : dropP x (ls.take (j + 1)) = dropP x (ls.take j) ++ if isN x ls[j] then [] else [ls[j]] := by
  unfold dropP
  rw [← List.take_append_getElem h, List.filter_append]
  cases hq : isN x ls[j] <;> simp [hq]
theorem DelI.skip (d : DelI w wr g cap x ls cur i j) (h : j < ls.length) (hq : isN x ls[j] = true) (hb : Below wr.heap.size wr w2) : DelI w w2 g cap x ls cur i (j + 1) := by
  have m := Mod.of_below (F := fun _ => False) hb
  refine ⟨d.own.mod m (fun _ _ x => x), d.mod.trans (m.mono (fun _ _ e => e.elim)), d.len, ?_, ?_⟩
  · rw [take_dropP h, hq, d.kept]; simp
  · have := congrArg List.tail d.rest
    simpa [List.tail_drop] using this
theorem DelI.keep (d : DelI w wr g cap x ls cur i j) (h : j < ls.length) (hij : i < j) (hq : isN x ls[j] = false) (hb : Below wr.heap.size wr w2) : DelI w (w2.setCell ⟨g, i, none⟩ (.string ls[j])) g cap x ls (cur.set i ls[j]) (i + 1) (j + 1) := by
  have m := Mod.of_below (F := fun _ => False) hb
  have o2 := d.own.mod m (fun _ _ x => x)
  rw [sR_map] at o2
  have o3 := (o2.setOne i (.string ls[j]) rfl).1
  rw [← List.map_set, ← sR_map] at o3
  refine ⟨o3, (d.mod.trans (m.mono (fun _ _ e => e.elim))).setCell _ _ (fun _ => rfl), by rw [List.length_set, d.len], ?_, ?_⟩
  · have hi : i < cur.length := by rw [d.len]; omega
    rw [take_dropP h, hq, ← d.kept, List.take_set, ← List.take_append_getElem hi]
    have : (cur.take i).length = i := by simp; omega
    rw [List.set_append_right _ _ (by omega)]
    simp [this]
  · rw [List.drop_set_of_lt (by omega)]
    have := congrArg List.tail d.rest
    simpa [List.tail_drop] using this
end
/-- What DeleteFunc gives. -/
def DelPost (w : World) (g : Nat) (x : ByteArray) (ls : List ByteArray) (e : Ending) (w' : World) : Prop :=
  ∃ v', e = .returned v' ∧ Owns w' 9 1 v' ((dropP x ls).map sR) ∧ Mod (fun k => k = g) w w' ∧ v'.ownBlock = some g
set_option maxHeartbeats 1600000 in
set_option maxRecDepth 100000 in
theorem deletef_any {w : World} {c g cap : Nat} {x : ByteArray} {ls : List ByteArray} (hl : ls.length ≤ 2048) (hsz : ∀ s ∈ ls, s.size ≤ 140737488351232) (hown : Owns w 9 1 (.slice (some ⟨g, 0, none⟩) ls.length cap) (ls.map sR)) (hc : w.cell? ⟨c, 0, none⟩ = some (.string x)) (hcg : c ≠ g) :
    Calls Tryd.prog 72 #[.slice (some ⟨g, 0, none⟩) ls.length cap, .func (.func 73) #[] #[.pointer (some ⟨c, 0, none⟩)]] w (DelPost w g x ls) := by
  obtain ⟨ao, cap', hv, hlc, hcm, hlies, -, -⟩ := hown.any
  rw [List.length_map] at hv
  cases hv
  rw [List.length_map] at hlc
  have hgl : g < w.heap.size := hown.lt rfl
  have HI := indexf_any (cap := cap) hl hsz hlies hgl hc
  have HSZ := Lib.hid hsz
  have HO := Lib.hid hown
  have HC := Lib.hid hc
  have HCG := Lib.hid hcg
  have HLC := Lib.hid (⟨hlc, hcm⟩ : _ ∧ _)
  clear hsz hown hc hcg hlc hcm hlies hgl
  go_enter Tryd.func72, Tryd.ntmps72
  go_wp2_with fail
  refine HI.mono ?_
  rintro e w1 ⟨r, rfl, hf, hb⟩
  have B1 := Lib.hid hb
  rcases hf with ⟨rfl, hno⟩ | ⟨k, rfl, hk, hyes, hbefore⟩
  · have e1 : Hid (dropP x ls = ls) := Lib.hid (by
      unfold dropP
      rw [List.filter_eq_self]
      intro s hs
      rw [hno s hs]; rfl)
    clear HI hno hb
    go_wp2_with fail
    go_ret
    refine ⟨_, rfl, ?_, Mod.of_below B1.out, rfl⟩
    rw [e1.out]
    exact HO.out.mod (Mod.of_below (F := fun _ => False) B1.out) (fun _ _ x => x)
  · have D0 : Hid (DelI w w1 g cap x ls ls k (k + 1)) := Lib.hid (by
      refine ⟨HO.out.mod (Mod.of_below (F := fun _ => False) B1.out) (fun _ _ x => x), Mod.of_below B1.out, rfl, ?_, rfl⟩
      rw [take_dropP hk, hyes]
      simp only [if_true, List.append_nil]
      symm
      unfold dropP
      rw [List.filter_eq_self]
      intro s hs
      obtain ⟨j, hj, rfl⟩ := List.getElem_of_mem hs
      rw [List.length_take] at hj
      rw [List.getElem_take, hbefore j (by omega) (by omega)]
      rfl)
    have hwk : IntKind.i64.wrap ((k : Int) + 1) = (k : Int) + 1 := by rw [IntKind.wrap_i64]; omega
    have hwk' : wrap64 ((k : Int) + 1) = (k : Int) + 1 := wr64 (by omega) (by omega)
    have d1 : ((k : Int) == -1) = false := by simp
    have HK := Lib.hid hk
    clear HI hyes hbefore hb hk
    go_wp2_with fail
    go_loopw [5, 6, 7] (fun iv jv _ wr => ∃ (i j : Nat) (cur : List ByteArray), i < j ∧ j ≤ ls.length ∧ iv = .int .i64 i ∧ jv = .int .i64 j ∧ Hid (DelI w wr g cap x ls cur i j)) (fun _ jv _ _ => ls.length - (intOf jv).toNat)
    case atStart => exact ⟨k, k + 1, ls, by omega, HK.out, rfl, by go_num, D0⟩
    case round =>
      obtain ⟨i, j, cur, hij, hj, rfl, rfl, D⟩ := hrel
      clear D0
      have hi0 : i < ls.length ∨ j = ls.length := by omega
      by_cases hlt : j < ls.length
      · have hi : (j : Int) < (ls.length : Int) := by omega
        have hii : (i : Int) < (ls.length : Int) := by omega
        have hw : IntKind.i64.wrap ((j : Int) + 1) = (j : Int) + 1 := by rw [IntKind.wrap_i64]; omega
        have hw' : wrap64 ((j : Int) + 1) = (j : Int) + 1 := wr64 (by omega) (by omega)
        have hv : IntKind.i64.wrap ((i : Int) + 1) = (i : Int) + 1 := by rw [IntKind.wrap_i64]; omega
        have hv' : wrap64 ((i : Int) + 1) = (i : Int) + 1 := wr64 (by omega) (by omega)
        obtain ⟨h', hcj⟩ := D.out.at hlt
        have hlies : Lies wr 1 (some ⟨g, 0, none⟩) (cur.map sR) := by
          obtain ⟨_, _, e, _, _, hl, _, _⟩ := D.out.own.any
          rw [List.length_map, D.out.len] at e
          cases e
          exact hl
        have hcell := line_cell hlies h'
        rw [hcj] at hcell
        have HP := cl_any (w := wr) (c := c) (HSZ.out ls[j] (List.getElem_mem _)) ((D.out.mod.cell (p := ⟨c, 0, none⟩) (cell_lt HC.out) HCG.out).trans HC.out)
        have HIJ := Lib.hid hij
        cases hq : isN x ls[j] with
        | true =>
          rw [hq] at HP
          have HS : Hid (∀ w2, Below wr.heap.size wr w2 → DelI w w2 g cap x ls cur i (j + 1)) := Lib.hid (fun w2 hb => D.out.skip hlt hq hb)
          have HLT := Lib.hid hlt
          clear hq hcj hlies h' hi0
          generalize ls[j] = s at hcell HP
          clear hlt hij
          go_wp2_with fail
          refine HP.mono ?_
          rintro e w2 ⟨rfl, hb⟩
          have D2 := Lib.hid (HS.out _ hb)
          clear hb HP
          go_wp2_with fail
          go_roundw
          case rel => exact ⟨i, j + 1, cur, by have := HIJ.out; omega, HLT.out, rfl, by go_num, D2⟩
          case measure => have := HLT.out; simp [intOf]; omega
        | false =>
          rw [hq] at HP
          have HS : Hid (∀ w2, Below wr.heap.size wr w2 → DelI w (w2.setCell ⟨g, i, none⟩ (.string ls[j])) g cap x ls (cur.set i ls[j]) (i + 1) (j + 1)) := Lib.hid (fun w2 hb => D.out.keep hlt hij hq hb)
          have HF : Hid (∀ w2, Below wr.heap.size wr w2 → w2.frozen? ⟨g, i, none⟩ = false ∧ w2.cell? ⟨g, i, none⟩ = some (.string (cur[i]'(by rw [D.out.len]; omega)))) := Lib.hid (fun w2 hb => by
            have o2 := D.out.own.mod (Mod.of_below (F := fun _ => False) hb) (fun _ _ x => x)
            refine ⟨o2.free rfl i, ?_⟩
            obtain ⟨_, _, e, _, _, hl, _, _⟩ := o2.any
            rw [List.length_map, D.out.len] at e
            cases e
            exact line_cell hl (by rw [D.out.len]; omega))
          have HLT := Lib.hid hlt
          clear hq hcj hlies h' hi0
          generalize ls[j] = s at hcell HP HS
          clear hlt hij
          go_wp2_with fail
          refine HP.mono ?_
          rintro e w2 ⟨rfl, hb⟩
          have D2 := Lib.hid (HS.out _ hb)
          obtain ⟨f1, f2⟩ := HF.out _ hb
          clear hb HP HF HS
          go_wp2_with fail
          go_roundw
          case rel => exact ⟨i + 1, j + 1, cur.set i s, by have := HIJ.out; omega, HLT.out, by go_num, by go_num, D2⟩
          case measure => have := HLT.out; simp [intOf]; omega
      · obtain rfl : j = ls.length := by omega
        have hle := HLC.out.1
        have hlen := D.out.len
        have o1 := D.out.own
        rw [← D.out.len] at o1
        have hk := D.out.kept
        rw [List.take_of_length_le (Nat.le_refl _)] at hk
        have hil : i ≤ cur.length := by omega
        have o2 := o1.take i (by simp; omega)
        rw [← List.map_take, hk] at o2
        have hdl : (dropP x ls).length = i := by rw [← hk, List.length_take]; omega
        obtain ⟨w2, hcl, hown2, hgrow2⟩ := run_clear_rows (P := Tryd.prog) wr 50 0 9 _ 1 Tryd.underlying50 zero9 rfl (by decide) g i cap _ o2 (ls.length - i) (cap - i) (by omega) (by omega)
        rw [Nat.mul_one] at hcl
        have p1 : (i : Int) ≤ (ls.length : Int) := by omega
        have p2 : ¬ cap = i := by omega
        have p3 : i ≤ cap := by omega
        have HH := Lib.hid (⟨hown2, hgrow2⟩ : _ ∧ _)
        clear o1 o2 hk hdl hown2 hgrow2 hlen hle hil
        go_wp2
        go_ret
        exact ⟨_, rfl, HH.out.1, D.out.mod.grown HH.out.2 (fun k e _ => by cases e; rfl), rfl⟩
end Go.Proofs.YthnhpnmopjbaoaaDoor
