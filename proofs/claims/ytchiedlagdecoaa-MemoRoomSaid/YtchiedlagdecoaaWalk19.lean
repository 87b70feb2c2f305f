/-
  The walks of the memo's own calls: New, Get, Put, Drop, Clear, Paths, Hits, Misses.
-/
import Derived.Test.YtchiedlagdecoaaDelete19
import Derived.Deep.QuietTactic
import Derived.BigQuiet
namespace Go.Proofs.Ytchiedlagdecoaa
open Go.RowKit

theorem clo_any (B : Nat) (s p : ByteArray) (st u : Int) (w : World) (h : w.cell? ⟨B, 0, none⟩ = some (.string p)) (hB : B < w.heap.size) :
    Calls Try.prog 28 #[.agg #[.string s, .int .i64 st, .int .i64 u], .pointer (some ⟨B, 0, none⟩)] w fun e w' => e = .returned (.bool (s.toList == p.toList)) ∧ w' = w.alloc (.cells #[.string s, .int .i64 st, .int .i64 u] 52) := by
  go_enter Try.func28, Try.ntmps28
  go_wp2
  go_ret
  exact ⟨rfl, rfl⟩

set_option maxHeartbeats 400000 in
theorem idxf_any (B cap : Nat) (ao : Option Addr) (p : ByteArray) (us : List U) (w : World) (hp : w.cell? ⟨B, 0, none⟩ = some (.string p)) (hB : B < w.heap.size) (hm : us.length ≤ maxLen)
    (hu : Lies w 3 ao (us.map U.cells)) :
    Calls Try.prog 27 #[.slice ao us.length cap, .func (.func 28) #[] #[.pointer (some ⟨B, 0, none⟩)]] w fun e w' => e = .returned (.int .i64 (idx p us)) ∧ Below w.heap.size w w' := by
  unfold maxLen at hm
  have HU := Lib.hid hu
  clear hu
  go_enter Try.func27, Try.ntmps27
  go_wp2_with fail
  go_loopw [8] (fun i wr => ∃ k : Nat, k ≤ us.length ∧ i = .int .i64 k ∧ find p (us.take k) = none ∧ Below w.heap.size w wr) (fun i _ => us.length - (intOf i).toNat)
  case atStart => exact ⟨0, Nat.zero_le _, rfl, rfl, Below.refl _ _⟩
  case round =>
    obtain ⟨k, hk, rfl, hf, hbel⟩ := hrel
    by_cases hlt : k < us.length
    · obtain ⟨g, off, rfl, hg, _, hc⟩ := HU.out k us[k].cells (by simp [hlt])
      have c0 := hc 0 _ rfl
      have c1 := hc 1 _ rfl
      have c2 := hc 2 _ rfl
      rw [Nat.add_zero] at c0
      rw [← hbel.cell (p := ⟨g, _, none⟩) hg] at c0 c1 c2
      rw [← hbel.cell (p := ⟨B, _, none⟩) hB] at hp
      have hBr : B < wr.heap.size := by have := hbel.size; omega
      clear hc
      have HF := Lib.hid hf; clear hf
      cases heq : (us[k].path.toList == p.toList) with
      | true =>
        have HI : Hid (idx p us = k) := by show idx p us = k; unfold idx; rw [idx_hit p us k hlt HF.out heq]
        go_wp2_with (go_at_call 28; refine (clo_any _ _ _ _ _ _ hp hBr).mono ?_; rintro e w' ⟨rfl, rfl⟩)
        go_ret
        exact ⟨by rw [HI.out]; rfl, hbel.alloc hbel.size _⟩
      | false =>
        have HN := Lib.hid (find_snoc hlt HF.out heq)
        go_wp2_with (go_at_call 28; refine (clo_any _ _ _ _ _ _ hp hBr).mono ?_; rintro e w' ⟨rfl, rfl⟩)
        go_roundw
        case rel => exact ⟨k + 1, by omega, by go_num, HN.out, hbel.alloc hbel.size _⟩
        case measure => simp [intOf]; omega
    · obtain rfl : k = us.length := by omega
      have HI : Hid (idx p us = -1) := by show idx p us = -1; unfold idx; rw [List.take_length] at hf; rw [hf]
      clear hf
      go_wp2
      go_ret
      exact ⟨by rw [HI.out]; rfl, hbel⟩

theorem ok_nil (w : World) : Calls Try.prog 23 #[.pointer none] w fun e w' => e = .returned (.bool false) ∧ w = w' := by
  go_enter Try.func23, Try.ntmps23
  go_wp2
  go_ret
  exact ⟨rfl, rfl⟩
theorem ok_any (b : Nat) (m : Bool) (w : World) (h : w.cell? ⟨b, 0, none⟩ = some (.bool m)) :
    Calls Try.prog 23 #[.pointer (some ⟨b, 0, none⟩)] w fun e w' => e = .returned (.bool m) ∧ w = w' := by
  go_enter Try.func23, Try.ntmps23
  go_wp2
  go_ret
  exact ⟨rfl, rfl⟩

/-- A memo in memory: its struct in block b, its units behind v. -/
structure MemoIs (w : World) (b : Nat) (v : Value) (most : Int) (us : List U) (h m : Int) : Prop where
  blk : w.heap[b]? = some (.cells #[.bool true, .int .i64 most, v, .int .i64 h, .int .i64 m] 43 (0, 0))
  own : Owns w 52 3 v (us.map U.cells)
  ne : v.ownBlock ≠ some b
  len : us.length ≤ 4398046511103

theorem MemoIs.mod {F : Nat → Prop} {w w' : World} {b : Nat} {v : Value} {most h m : Int} {us : List U} (i : MemoIs w b v most us h m) (hm : Mod F w w') (hb : ¬ F b) (hv : ∀ g, v.ownBlock = some g → ¬ F g) : MemoIs w' b v most us h m :=
  ⟨hm.blk i.blk hb, i.own.mod hm hv, i.ne, i.len⟩

theorem at_any (b : Nat) (v : Value) (most h m : Int) (us : List U) (p : ByteArray) (w : World) (i : MemoIs w b v most us h m) :
    Calls Try.prog 24 #[.pointer (some ⟨b, 0, none⟩), .string p] w fun e w' => e = .returned (.int .i64 (idx p us)) ∧ Below w.heap.size w w' := by
  obtain ⟨ao, cap, rfl, h1, h2, h3, _, _⟩ := i.own.any
  have hb := lt_of_block i.blk
  have c2 := cell_blk i.blk 2
  rw [List.length_map] at c2 h1
  have hu : Hid (Lies (w.alloc (.cells #[.string p] 9)) 3 ao (us.map U.cells)) := h3.kept fun g off e hg => ⟨Below.heap_alloc _ _ _ hg, by simp; omega⟩
  have hm : us.length ≤ maxLen := by omega
  have HM := Lib.hid hm
  simp at c2
  clear i h1 h2 h3 hm
  go_enter Try.func24, Try.ntmps24
  go_wp2_with (go_at_call 27; refine (idxf_any _ _ _ p us _ (by go_simp) (by simp) HM.out hu.out).mono ?_; rintro e w' ⟨rfl, hbel⟩)
  go_ret
  exact ⟨rfl, ((Below.refl _ _).alloc (Nat.le_refl _) _).trans (hbel.mono (by simp))⟩

/-- What Drop leaves. -/
def DropPost (w : World) (b : Nat) (v : Value) (most : Int) (us : List U) (h m : Int) (p : ByteArray) (e : Ending) (w' : World) : Prop :=
  e = .returned (.bool (hasU p us)) ∧ (∃ v', MemoIs w' b v' most (dropU p us) h m ∧ v'.ownBlock = v.ownBlock) ∧ Mod (fun k => k = b ∨ v.ownBlock = some k) w w'

set_option maxHeartbeats 800000 in
theorem drop_any (b : Nat) (v : Value) (most h m : Int) (us : List U) (p : ByteArray) (w : World) (i : MemoIs w b v most us h m) :
    Calls Try.prog 19 #[.pointer (some ⟨b, 0, none⟩), .string p] w (DropPost w b v most us h m p) := by
  have hb := lt_of_block i.blk
  have c0 := cell_blk i.blk 0
  simp at c0
  have I := Lib.hid i
  cases hf : find p us with
  | none =>
    have HI : idx p us = -1 := by unfold idx; rw [hf]
    have HF := Lib.hid hf
    clear i hf
    go_enter Try.func19, Try.ntmps19
    go_wp2_with (first | (go_at_call 23; refine (ok_any _ _ _ c0).mono ?_; rintro e w' ⟨rfl, rfl⟩) | (go_at_call 24; refine (at_any b v most h m us p _ I.out).mono ?_; rintro e w1 ⟨rfl, hbel⟩))
    go_ret
    exact ⟨by unfold hasU; rw [HF.out]; rfl, ⟨v, by unfold dropU; rw [HF.out]; exact I.out.mod (F := fun _ => False) ⟨hbel.os, hbel.tape, hbel.output, hbel.size, fun k hk _ => hbel.block k hk⟩ (fun x => x) (fun _ _ x => x), rfl⟩, Mod.of_below hbel⟩
  | some k =>
    have hk := find_lt hf
    have HI : idx p us = k := by unfold idx; rw [hf]
    have HF := Lib.hid hf
    obtain ⟨g, cap, rfl, hlc, hcm, hg⟩ := i.own.addr (by intro e; simp at e; subst e; simp at hk)
    obtain ⟨M, hM⟩ : ∃ M, us.length = M + 1 := ⟨us.length - 1, by omega⟩
    rw [List.length_map, hM] at hlc
    rw [List.length_map, hM] at I
    have hne : b ≠ g := fun e => i.ne (by simp [Value.ownBlock, e])
    have hkM : k ≤ M := by omega
    have hM' : M + 1 ≤ 9223372036854775807 := by have := i.len; omega
    have HM := Lib.hid hM
    clear i hf hM
    have hwr : IntKind.i64.wrap ((k : Int) + 1) = (k : Int) + 1 := by rw [IntKind.wrap_i64]; omega
    go_enter Try.func19, Try.ntmps19
    go_wp2_with (first
      | (go_at_call 23; refine (ok_any _ _ _ c0).mono ?_; rintro e w' ⟨rfl, rfl⟩)
      | (go_at_call 24; refine (at_any b _ most h m us p _ I.out).mono ?_; rintro e w1 ⟨rfl, hbel⟩; have I1 := Lib.hid (I.out.mod (F := fun _ => False) (Mod.of_below hbel) (fun x => x) (fun _ _ x => x)); have c2 := cell_blk I1.out.blk 2; simp at c2; clear c0)
      | (go_at_call 25; refine (delete_any g cap k M us _ I1.out.own HM.out hkM hlc hcm).mono ?_; rintro e w2 ⟨rfl, hown, hgrow⟩; have O2 := Lib.hid hown; have G2 := Lib.hid hgrow; have B2 := Lib.hid ((hgrow.block b (lt_of_block I1.out.blk) (by simpa using hne)).trans I1.out.blk); have d2 := cell_blk B2.out 2; have f2 := free_blk B2.out 2; simp at d2; clear hown hgrow c2))
    go_ret
    have i1 := I1.out
    have o2 := O2.out
    have g2 := G2.out
    have hd : (us.take k ++ us.drop (k + 1)) = dropU p us := by unfold dropU; rw [HF.out]
    have hl := drop_len_hit HF.out
    refine ⟨?_, ⟨.slice (some ⟨g, 0, none⟩) M cap, ⟨?_, ?_, ?_, ?_⟩, rfl⟩, ?_⟩
    · unfold hasU; rw [HF.out]; rfl
    · have := set_blk B2.out 2 (.slice (some ⟨g, 0, none⟩) M cap)
      simpa using this
    · rw [hd] at o2
      exact o2.kept fun g' e => by simp [Value.ownBlock] at e; subst e; exact Below.heap_setCell _ _ _ _ (fun e => hne e.symm)
    · simp [Value.ownBlock]; exact fun e => hne e.symm
    · have := i1.len; omega
    · exact ((Mod.of_below hbel).grown g2 (fun k e _ => .inr (by simpa [Value.ownBlock] using e))).setCell _ _ (fun _ => .inl rfl)

/-- What Clear leaves. -/
def SetPost (w : World) (b : Nat) (v : Value) (most : Int) (us' : List U) (h m : Int) (e : Ending) (w' : World) : Prop :=
  e = .returned (.tuple #[]) ∧ (∃ v', MemoIs w' b v' most us' h m ∧ (v'.ownBlock = none ∨ v'.ownBlock = v.ownBlock ∨ ∃ k, v'.ownBlock = some k ∧ w.heap.size ≤ k)) ∧ Mod (fun k => k = b ∨ v.ownBlock = some k) w w'

set_option maxHeartbeats 400000 in
theorem clear_any (b : Nat) (v : Value) (most h m : Int) (us : List U) (w : World) (i : MemoIs w b v most us h m) :
    Calls Try.prog 18 #[.pointer (some ⟨b, 0, none⟩)] w (SetPost w b v most [] h m) := by
  have c0 := cell_blk i.blk 0
  have c2 := cell_blk i.blk 2
  have f2 := free_blk i.blk 2
  simp at c0 c2
  have I := Lib.hid i
  clear i
  go_enter Try.func18, Try.ntmps18
  go_wp2_with (go_at_call 23; refine (ok_any _ _ _ c0).mono ?_; rintro e w' ⟨rfl, rfl⟩)
  go_end0
  have i := I.out
  refine ⟨rfl, ⟨.slice none 0 0, ⟨?_, ?_, ?_, ?_⟩, .inl rfl⟩, ?_⟩
  · have := set_blk i.blk 2 (.slice none 0 0)
    simpa using this
  · exact Owns.empty _ _ _
  · simp [Value.ownBlock]
  · simp
  · exact (Mod.refl _ _).setCell _ _ (fun _ => .inl rfl)

theorem hits_any (b : Nat) (v : Value) (most h m : Int) (us : List U) (w : World) (i : MemoIs w b v most us h m) :
    Calls Try.prog 15 #[.pointer (some ⟨b, 0, none⟩)] w fun e w' => e = .returned (.int .i64 h) ∧ w = w' := by
  have c0 := cell_blk i.blk 0
  have c3 := cell_blk i.blk 3
  simp at c0 c3
  clear i
  go_enter Try.func15, Try.ntmps15
  go_wp2_with (go_at_call 23; refine (ok_any _ _ _ c0).mono ?_; rintro e w' ⟨rfl, rfl⟩)
  go_ret
  exact ⟨rfl, rfl⟩
theorem misses_any (b : Nat) (v : Value) (most h m : Int) (us : List U) (w : World) (i : MemoIs w b v most us h m) :
    Calls Try.prog 16 #[.pointer (some ⟨b, 0, none⟩)] w fun e w' => e = .returned (.int .i64 m) ∧ w = w' := by
  have c0 := cell_blk i.blk 0
  have c4 := cell_blk i.blk 4
  simp at c0 c4
  clear i
  go_enter Try.func16, Try.ntmps16
  go_wp2_with (go_at_call 23; refine (ok_any _ _ _ c0).mono ?_; rintro e w' ⟨rfl, rfl⟩)
  go_ret
  exact ⟨rfl, rfl⟩

/-- What New gives. -/
def NewPost (w : World) (most : Int) (e : Ending) (w' : World) : Prop :=
  e = .returned (.pointer (some ⟨w.heap.size, 0, none⟩)) ∧ MemoIs w' w.heap.size (.slice none 0 0) (max most 0) [] 0 0 ∧ Below w.heap.size w w'

set_option maxHeartbeats 400000 in
theorem new_any (most : Int) (w : World) :
    Calls Try.prog 9 #[.int .i64 most] w (NewPost w most) := by
  go_enter Try.func9, Try.ntmps9
  go_wp2
  all_goals go_ret
  all_goals
    refine ⟨rfl, ⟨?_, Owns.empty _ _ _, by simp [Value.ownBlock], by simp⟩, (Below.refl _ _).alloc (Nat.le_refl _) _⟩
    rw [heap_alloc_new]
  · rw [show max most 0 = 0 by omega]
  · rw [show max most 0 = most by omega]

theorem MemoIs.set4 {w : World} {b : Nat} {v : Value} {most h m : Int} {us : List U} (i : MemoIs w b v most us h m) (m' : Int) : MemoIs (w.setCell ⟨b, 4, none⟩ (.int .i64 m')) b v most us h m' :=
  ⟨by have := set_blk i.blk 4 (.int .i64 m'); simpa using this, i.own.kept fun g e => Below.heap_setCell _ _ _ _ (fun x => i.ne (by rw [e, x])), i.ne, i.len⟩
theorem MemoIs.set3 {w : World} {b : Nat} {v : Value} {most h m : Int} {us : List U} (i : MemoIs w b v most us h m) (h' : Int) : MemoIs (w.setCell ⟨b, 3, none⟩ (.int .i64 h')) b v most us h' m :=
  ⟨by have := set_blk i.blk 3 (.int .i64 h'); simpa using this, i.own.kept fun g e => Below.heap_setCell _ _ _ _ (fun x => i.ne (by rw [e, x])), i.ne, i.len⟩
theorem MemoIs.set2 {w : World} {b : Nat} {v v' : Value} {most h m : Int} {us' : List U} (i : w.heap[b]? = some (.cells #[.bool true, .int .i64 most, v, .int .i64 h, .int .i64 m] 43 (0, 0))) (o : Owns w 52 3 v' (us'.map U.cells)) (n : v'.ownBlock ≠ some b) (hl : us'.length ≤ 4398046511103) : MemoIs (w.setCell ⟨b, 2, none⟩ v') b v' most us' h m :=
  ⟨by have := set_blk i 2 v'; simpa using this, o.kept fun g e => Below.heap_setCell _ _ _ _ (fun x => n (by rw [e, x])), n, hl⟩

/-- What Get leaves and answers. -/
def GetPost (w : World) (b : Nat) (v : Value) (most : Int) (us : List U) (h m : Int) (p : ByteArray) (st : Int) (e : Ending) (w' : World) : Prop :=
  e = .returned (.tuple #[.int .i64 ((hitU p st us).elim 0 U.u), .bool (hitU p st us).isSome]) ∧
  (∃ v', MemoIs w' b v' most (getU p st us) (if (hitU p st us).isSome then h + 1 else h) (if (hitU p st us).isSome then m else m + 1) ∧ (v'.ownBlock = v.ownBlock ∨ ∃ k, v'.ownBlock = some k ∧ w.heap.size ≤ k)) ∧ Mod (fun k => k = b ∨ v.ownBlock = some k) w w'

set_option maxHeartbeats 800000 in
theorem get_none (b : Nat) (v : Value) (most h m : Int) (us : List U) (p : ByteArray) (st : Int) (w : World) (i : MemoIs w b v most us h m) (hm : 0 ≤ m ∧ m ≤ 4611686018427387904) (hf : find p us = none) :
    Calls Try.prog 13 #[.pointer (some ⟨b, 0, none⟩), .string p, .int .i64 st] w (GetPost w b v most us h m p st) := by
  have hb := lt_of_block i.blk
  have c0 := cell_blk i.blk 0
  simp at c0
  have I := Lib.hid i
  have HI : idx p us = -1 := by unfold idx; rw [hf]
  have hit : hitU p st us = none := by unfold hitU; rw [hf]
  have HH := Lib.hid hit
  obtain ⟨hm0, hm1⟩ := hm
  have hwr : IntKind.i64.wrap (m + 1) = m + 1 := by rw [IntKind.wrap_i64]; omega
  clear i hf hit
  go_enter Try.func13, Try.ntmps13
  go_wp2_with (first
    | (go_at_call 23; refine (ok_any _ _ _ c0).mono ?_; rintro e w' ⟨rfl, rfl⟩)
    | (go_at_call 24; refine (at_any b v most h m us p _ I.out).mono ?_; rintro e w1 ⟨rfl, hbel⟩; have I1 := Lib.hid (I.out.mod (F := fun _ => False) (Mod.of_below hbel) (fun x => x) (fun _ _ x => x)); have c4 := cell_blk I1.out.blk 4; have f4 := free_blk I1.out.blk 4; simp at c4; clear c0)
    | (go_at_call 19; refine (drop_any b v most h (m + 1) us p _ (I1.out.set4 (m + 1))).mono ?_; rintro e w2 ⟨rfl, ⟨v2, i2, hv2⟩, hm2⟩; have I2 := Lib.hid i2; have M2 := Lib.hid hm2; have V2 := Lib.hid hv2; clear i2 hm2 hv2))
  go_ret2
  refine ⟨by rw [HH.out]; rfl, ⟨v2, ?_, .inl V2.out⟩, ?_⟩
  · rw [HH.out]; unfold getU; rw [HH.out]; exact I2.out
  · exact ((Mod.of_below hbel).setCell _ _ (fun _ => .inl rfl)).trans' M2.out (fun _ _ x => x)
end Go.Proofs.Ytchiedlagdecoaa
