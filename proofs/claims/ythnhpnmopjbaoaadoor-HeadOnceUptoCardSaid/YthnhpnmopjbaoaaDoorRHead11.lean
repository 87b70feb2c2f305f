/-
  The document's heads in memory; the walks of its New, Status, without, Remove.
-/
import Derived.Test.YthnhpnmopjbaoaaDoorREnc11
import Derived.Test.YthnhpnmopjbaoaaDoorHLive11
namespace Go.Proofs.YthnhpnmopjbaoaaDoor
open Go.RowKit

/-- The document's heads in memory. -/
structure RIs (w : World) (r : Nat) (sent : Bool) (code : Int) (v : Value) (ls : List ByteArray) : Prop where
  blk : w.heap[r]? = some (.cells #[.int .i64 code, v, .bool sent] 52 (0, 0))
  own : Owns w 9 1 v (ls.map sR)
  ne : v.ownBlock ≠ some r
  len : ls.length ≤ 64
section
variable {w w' : World} {r : Nat} {sent : Bool} {code : Int} {v : Value} {ls : List ByteArray}
theorem RIs.mod {Z : Nat → Prop} (i : RIs w r sent code v ls) (m : Mod Z w w') (h1 : ¬ Z r) (h2 : ∀ g, v.ownBlock = some g → ¬ Z g) : RIs w' r sent code v ls :=
  ⟨m.blk i.blk h1, i.own.mod m h2, i.ne, i.len⟩
theorem RIs.below (i : RIs w r sent code v ls) (hb : Below w.heap.size w w') : RIs w' r sent code v ls :=
  i.mod (Mod.of_below (F := fun _ => False) hb) (fun x => x) (fun _ _ x => x)
theorem RIs.cells (i : RIs w r sent code v ls) : w.cell? ⟨r, 0, none⟩ = some (.int .i64 code) ∧ w.cell? ⟨r, 1, none⟩ = some v ∧ w.cell? ⟨r, 2, none⟩ = some (.bool sent) :=
  ⟨cell_blk i.blk 0, cell_blk i.blk 1, cell_blk i.blk 2⟩
theorem RIs.setCode (i : RIs w r sent code v ls) (n : Int) : RIs (w.setCell ⟨r, 0, none⟩ (.int .i64 n)) r sent n v ls := by
  have m : Mod (fun k => k = r) w (w.setCell ⟨r, 0, none⟩ (.int .i64 n)) := (Mod.refl _ _).setCell _ _ (fun _ => rfl)
  refine ⟨?_, i.own.mod m (fun g e x => i.ne (by rw [e, x])), i.ne, i.len⟩
  have := set_blk i.blk 0 (.int .i64 n)
  simpa using this
theorem RIs.setLines (i : RIs w r sent code v ls) {v' : Value} {ls' : List ByteArray} (o : Owns w 9 1 v' (ls'.map sR)) (hne : v'.ownBlock ≠ some r) (hl : ls'.length ≤ 64) : RIs (w.setCell ⟨r, 1, none⟩ v') r sent code v' ls' := by
  have m : Mod (fun k => k = r) w (w.setCell ⟨r, 1, none⟩ v') := (Mod.refl _ _).setCell _ _ (fun _ => rfl)
  refine ⟨?_, o.mod m (fun g e x => hne (by rw [e, x])), hne, hl⟩
  have := set_blk i.blk 1 v'
  simpa using this
theorem RIs.setSent (i : RIs w r sent code v ls) : RIs (w.setCell ⟨r, 2, none⟩ (.bool true)) r true code v ls := by
  have m : Mod (fun k => k = r) w (w.setCell ⟨r, 2, none⟩ (.bool true)) := (Mod.refl _ _).setCell _ _ (fun _ => rfl)
  refine ⟨?_, i.own.mod m (fun g e x => i.ne (by rw [e, x])), i.ne, i.len⟩
  have := set_blk i.blk 2 (.bool true)
  simpa using this
/-- What a call on the document's heads leaves. -/
def RPost (w : World) (r : Nat) (sent : Bool) (v : Value) (n code : Int) (ls : List ByteArray) (e : Ending) (w' : World) : Prop :=
  e = .returned (.int .i64 n) ∧ ∃ v', RIs w' r sent code v' ls ∧ Mod (fun k => k = r) w w' ∧ (v' = v ∨ ∀ g, v'.ownBlock = some g → w.heap.size ≤ g)
theorem rstatusm_sent (i : RIs w r true code v ls) (n : Int) : Calls Tryd.prog 43 #[.pointer (some ⟨r, 0, none⟩), .int .i64 n] w (RPost w r true v 17 code ls) := by
  have I := Lib.hid i
  obtain ⟨-, -, x2⟩ := i.cells
  clear i
  go_enter Tryd.func43, Tryd.ntmps43
  go_wp2_with fail
  go_ret
  exact ⟨rfl, v, I.out, Mod.refl _ _, .inl rfl⟩
theorem rstatusm_open (i : RIs w r false code v ls) (n : Int) : Calls Tryd.prog 43 #[.pointer (some ⟨r, 0, none⟩), .int .i64 n] w (RPost w r false v (if 100 ≤ n ∧ n ≤ 599 then 0 else 1) (if 100 ≤ n ∧ n ≤ 599 then n else code) ls) := by
  have I := Lib.hid i
  obtain ⟨x0, -, x2⟩ := i.cells
  have f0 := free_blk i.blk 0
  clear i
  by_cases h1 : 100 ≤ n
  · have e1 : decide (n < 100) = false := by simp; omega
    by_cases h2 : n ≤ 599
    · have e2 : decide (599 < n) = false := by simp; omega
      rw [if_pos ⟨h1, h2⟩, if_pos ⟨h1, h2⟩]
      clear h1 h2
      go_enter Tryd.func43, Tryd.ntmps43
      go_wp2_with fail
      go_ret
      exact ⟨rfl, v, I.out.setCode n, (Mod.refl _ _).setCell _ _ (fun _ => rfl), .inl rfl⟩
    · have e2 : decide (599 < n) = true := by simp; omega
      rw [if_neg (fun e => h2 e.2), if_neg (fun e => h2 e.2)]
      clear h1 h2
      go_enter Tryd.func43, Tryd.ntmps43
      go_wp2_with fail
      go_ret
      exact ⟨rfl, v, I.out, Mod.refl _ _, .inl rfl⟩
  · have e1 : decide (n < 100) = true := by simp; omega
    rw [if_neg (fun e => h1 e.1), if_neg (fun e => h1 e.1)]
    clear h1
    go_enter Tryd.func43, Tryd.ntmps43
    go_wp2_with fail
    go_ret
    exact ⟨rfl, v, I.out, Mod.refl _ _, .inl rfl⟩
end
/-- The document's lines but those of a name. -/
def rdropP (x : ByteArray) (ls : List ByteArray) : List ByteArray := ls.filter fun s => !sameP (str (rnameP s)) x
theorem rnameP_size (s : ByteArray) : (rnameP s).length ≤ 64 := by
  unfold rnameP
  split
  · rename_i h
    unfold nameP at h
    split at h
    · rename_i hc
      rw [size_toList]
      exact hc.2.2.1
    · cases h
  · simp
theorem take_rdropP {x : ByteArray} {ls : List ByteArray} {k : Nat} (h : k < ls.length) : rdropP x (ls.take (k + 1)) = rdropP x (ls.take k) ++ if sameP (str (rnameP ls[k])) x = true then [] else [ls[k]] := by
  unfold rdropP
  rw [← List.take_append_getElem h, List.filter_append]
  cases hq : sameP (str (rnameP ls[k])) x <;> simp [hq]
/-- While the lines are gone over. -/
structure RWithI (w wr : World) (x : ByteArray) (ls : List ByteArray) (k : Nat) (v : Value) : Prop where
  own : Owns wr 9 1 v ((rdropP x (ls.take k)).map sR)
  below : Below w.heap.size w wr
  fresh : ∀ g, v.ownBlock = some g → w.heap.size ≤ g
theorem RWithI.stay {w wr w1 : World} {x : ByteArray} {ls : List ByteArray} {k : Nat} {v : Value} (i : RWithI w wr x ls k v) (hb : Below wr.heap.size wr w1) : RWithI w w1 x ls k v :=
  ⟨i.own.mod (Mod.of_below (F := fun _ => False) hb) (fun _ _ x => x), i.below.trans (hb.mono i.below.size), i.fresh⟩
theorem RWithI.skip {w wr : World} {x : ByteArray} {ls : List ByteArray} {k : Nat} {v : Value} (i : RWithI w wr x ls k v) (h : k < ls.length) (hq : sameP (str (rnameP ls[k])) x = true) : RWithI w wr x ls (k + 1) v :=
  ⟨by rw [take_rdropP h, if_pos hq, List.append_nil]; exact i.own, i.below, i.fresh⟩
theorem RWithI.keep {w w1 w3 : World} {x : ByteArray} {ls : List ByteArray} {k : Nat} {v v3 : Value} (i : RWithI w w1 x ls k v) (h : k < ls.length) (hq : sameP (str (rnameP ls[k])) x = false)
    (o3 : Owns w3 9 1 v3 ((rdropP x (ls.take k)).map sR ++ [[.string ls[k]]])) (g3 : w1.grownBy w3 v.ownBlock) (n3 : v3.ownBlock = v.ownBlock ∨ ∃ g, v3.ownBlock = some g ∧ w1.heap.size ≤ g) : RWithI w w3 x ls (k + 1) v3 := by
  have hb1 := i.below
  refine ⟨?_, hb1.trans ?_, fun g e => ?_⟩
  · rw [take_rdropP h, if_neg (by rw [hq]; simp), List.map_append]
    exact o3
  · exact ⟨g3.os, g3.tape, g3.output, g3.size, fun k hk => g3.block k (Nat.lt_of_lt_of_le hk hb1.size) (fun e => by have := i.fresh k e.symm; omega)⟩
  · rcases n3 with h | ⟨g', h, hg⟩
    · exact i.fresh g (h ▸ e)
    · rw [h] at e; cases e
      have := hb1.size
      omega
/-- What without gives. -/
def RWithPost (w : World) (x : ByteArray) (ls : List ByteArray) (e : Ending) (w' : World) : Prop :=
  ∃ v', e = .returned v' ∧ Owns w' 9 1 v' ((rdropP x ls).map sR) ∧ Below w.heap.size w w' ∧ ∀ g, v'.ownBlock = some g → w.heap.size ≤ g
theorem rdropP_len (x : ByteArray) (ls : List ByteArray) : (rdropP x ls).length ≤ ls.length := List.length_filter_le _ _
set_option maxHeartbeats 3200000 in
set_option maxRecDepth 100000 in
theorem rwithout_any {w : World} {a : Option Addr} {cap : Nat} {x : ByteArray} {ls : List ByteArray} (hL : Lies w 1 a (ls.map sR)) (hl : ls.length ≤ 2048) (hsz : Small ls) : Calls Tryd.prog 65 #[.slice a ls.length cap, .string x] w (RWithPost w x ls) := by
  have S0 : Hid (RWithI w w x ls 0 (.slice none 0 0)) := Lib.hid ⟨Owns.empty _ _ _, Below.refl _ _, fun g e => by cases e⟩
  have HL := Lib.hid hL
  have HLN := Lib.hid hl
  have HSM := Lib.hid hsz
  clear hL hl hsz
  go_enter Tryd.func65, Tryd.ntmps65
  go_wp2_with fail
  go_loopw [5, 6] (fun v kv wr => ∃ (k : Nat) (ao : Option Addr) (L c : Nat), k ≤ ls.length ∧ v = .slice ao L c ∧ kv = .int .i64 k ∧ Hid (L = (rdropP x (ls.take k)).length) ∧ Hid (RWithI w wr x ls k (.slice ao L c))) (fun _ kv _ => ls.length - (intOf kv).toNat)
  case atStart => exact ⟨0, none, 0, 0, Nat.zero_le _, rfl, rfl, rfl, S0⟩
  case round =>
    obtain ⟨k, ao, L, c, hk, rfl, rfl, HLL, HI⟩ := hrel
    clear S0
    by_cases hlt : k < ls.length
    · have hi : (k : Int) < (ls.length : Int) := by omega
      obtain ⟨hw', hw⟩ : wrap64 ((k : Int) + 1) = (k : Int) + 1 ∧ IntKind.i64.wrap ((k : Int) + 1) = (k : Int) + 1 := wr_sm (by have := HLN.out; omega) (by have := HLN.out; omega)
      obtain ⟨g1, o1, rfl, hg1, hc1⟩ := line_at HL.out hlt
      have hw1 := (HI.out.below.cell (p := ⟨g1, o1 + k, none⟩) hg1).trans hc1
      have hw1n := fun n => ((belowN (HI.out.below) n).cell (p := ⟨g1, o1 + k, none⟩) hg1).trans hc1
      have HN := rname_any ls[k] (HSM.out _ (List.getElem_mem _)) wr
      have HSa := rsame_any (str (rnameP ls[k])) x (by have := rnameP_size ls[k]; rw [str_size]; omega) wr
      have HLE : Hid (L ≤ 2048) := Lib.hid (by
        have h1 := rdropP_len x (ls.take k)
        rw [List.length_take] at h1
        have := HLL.out; have := HLN.out; omega)
      cases hq : sameP (str (rnameP ls[k])) x with
      | true =>
        rw [hq] at HSa
        have HS2 : Hid (∀ n, RWithI w (wr.drewN n) x ls (k + 1) (.slice ao L c) ∧ L = (rdropP x (ls.take (k + 1))).length) := Lib.hid (fun n => by
          refine ⟨(HI.out.stay (belowN (Below.refl _ wr) n)).skip hlt hq, ?_⟩
          rw [take_rdropP hlt, if_pos hq, List.append_nil]
          exact HLL.out)
        clear hq hc1 hg1
        generalize ls[k] = s at hw1 hw1n HN HSa
        generalize str (rnameP s) = nv at HN HSa
        have HLT := Lib.hid hlt
        clear hlt
        go_wp2_with fail
        refine HN.mono ?_
        rintro e w1 ⟨rfl, rfl⟩
        go_wp2_with fail
        refine HSa.mono ?_
        rintro e w1 ⟨rfl, n, rfl⟩
        clear HN HSa
        obtain ⟨S3, hL3⟩ := HS2.out n
        have HR3 := Lib.hid S3
        have HL3 := Lib.hid hL3
        clear S3 hL3
        go_wp2_with fail
        go_roundw
        case rel => exact ⟨k + 1, _, _, _, HLT.out, rfl, by go_num, HL3, HR3⟩
        case measure => have := HLT.out; simp [intOf]; omega
      | false =>
        rw [hq] at HSa
        have HS2 : Hid (∀ n w3 v3, Owns w3 9 1 v3 ((rdropP x (ls.take k)).map sR ++ [[.string ls[k]]]) → ((wr.drewN n).alloc (.cells #[.string ls[k]] 9)).grownBy w3 (Value.slice ao L c).ownBlock → (v3.ownBlock = (Value.slice ao L c).ownBlock ∨ ∃ g, v3.ownBlock = some g ∧ ((wr.drewN n).alloc (.cells #[.string ls[k]] 9)).heap.size ≤ g) →
            ∃ ao3 L3 c3, v3 = .slice ao3 L3 c3 ∧ L3 = (rdropP x (ls.take (k + 1))).length ∧ RWithI w w3 x ls (k + 1) v3) := Lib.hid (fun n w3 v3 o3 g3 n3 => by
          have h1 := (HI.out.stay ((belowN (Below.refl _ wr) n).trans (below_alloc1 (wr.drewN n) (.cells #[.string ls[k]] 9)))).keep hlt hq o3 g3 n3
          obtain ⟨a', cp, hv, _⟩ := h1.own.any
          rw [List.length_map] at hv
          exact ⟨a', _, cp, hv, rfl, h1⟩)
        have HO : Hid (∀ n, Owns ((wr.drewN n).alloc (.cells #[.string ls[k]] 9)) 9 1 (.slice ao L c) ((rdropP x (ls.take k)).map sR)) := Lib.hid (fun n => (HI.out.stay ((belowN (Below.refl _ wr) n).trans (below_alloc1 (wr.drewN n) (.cells #[.string ls[k]] 9)))).own)
        have HNew : Hid (∀ n, Lies ((wr.drewN n).alloc (.cells #[.string ls[k]] 9)) 1 (some ⟨wr.heap.size, 0, none⟩) [[.string ls[k]]]) := Lib.hid (fun n => lies_new (wr.drewN n) [.string ls[k]] 9 rfl)
        have HR1 : Hid (((rdropP x (ls.take k)).map sR).length + 1 ≤ maxLen ∧ (((rdropP x (ls.take k)).map sR).length + 1) * 16 ≤ 140737488355328) := Lib.hid (by rw [List.length_map, ← HLL.out]; have := HLE.out; unfold maxLen; omega)
        clear hq hc1 hg1
        generalize ls[k] = s at hw1 hw1n HN HSa HS2 HO HNew
        generalize str (rnameP s) = nv at HN HSa
        have HLT := Lib.hid hlt
        clear hlt
        go_wp2_with fail
        refine HN.mono ?_
        rintro e w1 ⟨rfl, rfl⟩
        go_wp2_with fail
        refine HSa.mono ?_
        rintro e w1 ⟨rfl, n, rfl⟩
        clear HN HSa
        have hcell := hw1n n
        have hO := Lib.hid (HO.out n)
        have hLN := Lib.hid (HNew.out n)
        go_wp2_with (at_builtin; refine wpList_append_rows rfl (.tmp 21) (.tmp 26) 50 rfl 9 _ 1 16 Tryd.underlying50 info9 rfl (by decide) (.slice ao L c) ((rdropP x (ls.take k)).map sR) (by rfl) hO.out (some ⟨wr.heap.size, 0, none⟩) 1 1 [[.string s]] (by rfl) rfl (fun e => by cases e) hLN.out (by simp [Value.oneCell']) (by simp) HR1.out.1 (by have h := HR1.out.2; exact h) ?_; intro v3 w3 o3 g3 n3; obtain ⟨a7, L7, c7, hv7, hl7, R7⟩ := HS2.out n _ _ o3 g3 n3; subst hv7; have R3 := Lib.hid R7; have HL7 := Lib.hid hl7; clear o3 g3 n3 R7 hl7)
        go_roundw
        case rel => exact ⟨k + 1, _, _, _, HLT.out, rfl, by go_num, HL7, R3⟩
        case measure => have := HLT.out; simp [intOf]; omega
    · obtain rfl : k = ls.length := by omega
      have hI := HI.out
      go_wp2_with fail
      go_ret
      have e1 : ls.take ls.length = ls := List.take_of_length_le (Nat.le_refl _)
      have o := hI.own
      rw [e1] at o
      exact ⟨_, rfl, o, hI.below, hI.fresh⟩
end Go.Proofs.YthnhpnmopjbaoaaDoor
