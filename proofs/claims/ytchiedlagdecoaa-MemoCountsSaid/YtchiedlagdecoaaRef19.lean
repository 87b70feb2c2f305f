/-
  The walks of the document's memo: at, Drop.
-/
import Derived.Test.YtchiedlagdecoaaPaths19
namespace Go.Proofs.Ytchiedlagdecoaa
open Go.RowKit

theorem info49 : (Try.prog.info? 49).map (fun i => (i.zero, i.size, i.bytes)) = some (some (.agg #[.string .empty, .int .i64 0, .int .i64 0]), 3, 32) := by kernel_rfl

/-- A slice value that reads as units, in whosever memory. -/
def Reads (w : World) (v : Value) (us : List U) : Prop :=
  ∃ ao cap, v = .slice ao us.length cap ∧ us.length ≤ cap ∧ cap ≤ maxLen ∧ Lies w 3 ao (us.map U.cells) ∧ (ao = none → us = [] ∧ cap = 0) ∧ (∀ g, v.ownBlock = some g → g < w.heap.size)

theorem Reads.mod {F : Nat → Prop} {w w' : World} {v : Value} {us : List U} (h : Reads w v us) (hm : Mod F w w') (hF : ∀ g, v.ownBlock = some g → ¬ F g) : Reads w' v us := by
  obtain ⟨ao, cap, rfl, h1, h2, h3, h4, h5⟩ := h
  exact ⟨ao, cap, rfl, h1, h2, h3.mod hm (fun g off e => hF g (by rw [e]; rfl)), h4, fun g e => hm.lt (h5 g e)⟩
theorem Reads.of_owns {w : World} {e : TypeId} {v : Value} {us : List U} (h : Owns w e 3 v (us.map U.cells)) : Reads w v us := by
  obtain ⟨ao, cap, rfl, h1, h2, h3, h4, _⟩ := h.any
  rw [List.length_map] at h1
  exact ⟨ao, cap, by rw [List.length_map], h1, h2, h3, fun e => by obtain ⟨a, b⟩ := h4 e; exact ⟨by simpa using a, b⟩, fun g e => h.lt e⟩

/-- The document's memo in memory. -/
structure RefIs (w : World) (b : Nat) (v : Value) (most : Int) (us : List U) (h m : Int) : Prop where
  blk : w.heap[b]? = some (.cells #[.int .i64 most, v, .int .i64 h, .int .i64 m] 27 (0, 0))
  reads : Reads w v us
  ne : v.ownBlock ≠ some b
  len : us.length ≤ 4398046511103

theorem RefIs.mod {F : Nat → Prop} {w w' : World} {b : Nat} {v : Value} {most h m : Int} {us : List U} (i : RefIs w b v most us h m) (hm : Mod F w w') (hb : ¬ F b) (hv : ∀ g, v.ownBlock = some g → ¬ F g) : RefIs w' b v most us h m :=
  ⟨hm.blk i.blk hb, i.reads.mod hm hv, i.ne, i.len⟩
theorem RefIs.mod' {w w' : World} {b : Nat} {v : Value} {most h m : Int} {us : List U} (i : RefIs w b v most us h m) (hm : Mod (fun _ => False) w w') : RefIs w' b v most us h m :=
  i.mod hm (fun x => x) (fun _ _ x => x)
theorem RefIs.set {w : World} {b j : Nat} {v v' x : Value} {most h m h' m' : Int} {us' : List U} (i : w.heap[b]? = some (.cells #[.int .i64 most, v, .int .i64 h, .int .i64 m] 27 (0, 0))) (r : Reads w v' us') (n : v'.ownBlock ≠ some b) (hl : us'.length ≤ 4398046511103)
    (hx : (#[.int .i64 most, v, .int .i64 h, .int .i64 m] : Array Value).setIfInBounds j x = #[.int .i64 most, v', .int .i64 h', .int .i64 m']) : RefIs (w.setCell ⟨b, j, none⟩ x) b v' most us' h' m' :=
  ⟨by rw [← hx]; exact set_blk i j x, r.mod (F := fun k => k = b) ((Mod.refl _ w).setCell _ _ (fun _ => rfl)) (fun g e x => n (by rw [e, x])), n, hl⟩

set_option maxHeartbeats 400000 in
theorem rat_any (b : Nat) (v : Value) (most h m : Int) (us : List U) (p : ByteArray) (w : World) (i : RefIs w b v most us h m) :
    Calls Try.prog 26 #[.pointer (some ⟨b, 0, none⟩), .string p] w fun e w' => e = .returned (.int .i64 (idx p us)) ∧ w = w' := by
  obtain ⟨ao, cap, rfl, -, -, hu, -, -⟩ := i.reads
  have c1 := cell_blk i.blk 1
  simp at c1
  have hm := i.len
  have HU := Lib.hid hu
  clear hu i
  go_enter Try.func26, Try.ntmps26
  go_wp2_with fail
  go_loop [5] (fun i => ∃ k : Nat, k ≤ us.length ∧ i = .int .i64 k ∧ find p (us.take k) = none) (fun i => us.length - (intOf i).toNat)
  case atStart => exact ⟨0, Nat.zero_le _, rfl, rfl⟩
  case round =>
    obtain ⟨k, hk, rfl, hf⟩ := hrel
    by_cases hlt : k < us.length
    · obtain ⟨g, off, rfl, hg, -, hc⟩ := HU.out k us[k].cells (by simp [hlt])
      have c0 := hc 0 _ rfl
      rw [Nat.add_zero] at c0
      clear hc
      have HF := Lib.hid hf; clear hf
      cases heq : (us[k].path.toList == p.toList) with
      | true =>
        have HI : Hid (idx p us = k) := by show idx p us = k; unfold idx; rw [idx_hit p us k hlt HF.out heq]
        go_wp2
        go_ret
        exact ⟨by rw [HI.out]; rfl, rfl⟩
      | false =>
        have HN := Lib.hid (find_snoc hlt HF.out heq)
        go_wp2
        go_round
        case rel => exact ⟨k + 1, by omega, by go_num, HN.out⟩
        case measure => simp [intOf]; omega
    · obtain rfl : k = us.length := by omega
      have HI : Hid (idx p us = -1) := by show idx p us = -1; unfold idx; rw [List.take_length] at hf; rw [hf]
      clear hf
      go_wp2
      go_ret
      exact ⟨by rw [HI.out]; rfl, rfl⟩

/-- What the document's Drop leaves. -/
def RDropPost (w : World) (b : Nat) (v : Value) (most : Int) (us : List U) (h m : Int) (p : ByteArray) (e : Ending) (w' : World) : Prop :=
  e = .returned (.bool (hasU p us)) ∧ (∃ v', RefIs w' b v' most (dropU p us) h m ∧ ((v' = v ∧ find p us = none) ∨ (Owns w' 49 3 v' ((dropU p us).map U.cells) ∧ Fresh w v'))) ∧ Mod (fun k => k = b) w w'

set_option maxHeartbeats 1600000 in
theorem rdrop_any (b : Nat) (v : Value) (most h m : Int) (us : List U) (p : ByteArray) (w : World) (i : RefIs w b v most us h m) :
    Calls Try.prog 22 #[.pointer (some ⟨b, 0, none⟩), .string p] w (RDropPost w b v most us h m p) := by
  have I := Lib.hid i
  cases hf : find p us with
  | none =>
    have HI : idx p us = -1 := by unfold idx; rw [hf]
    have HF := Lib.hid hf
    clear i hf
    go_enter Try.func22, Try.ntmps22
    go_wp2_with (go_at_call 26; refine (rat_any b v most h m us p _ I.out).mono ?_; rintro e w1 ⟨rfl, rfl⟩)
    go_ret
    exact ⟨by unfold hasU; rw [HF.out]; rfl, ⟨v, by unfold dropU; rw [HF.out]; exact I.out, .inl ⟨rfl, HF.out⟩⟩, Mod.refl _ _⟩
  | some k =>
    have hk := find_lt hf
    have HI : idx p us = k := by unfold idx; rw [hf]
    have HF := Lib.hid hf
    obtain ⟨ao, cap, rfl, hlc, hcm, hu, -, -⟩ := i.reads
    obtain ⟨g, off, rfl, hg, -, -⟩ := hu k us[k].cells (by simp [hk])
    have HU := Lib.hid hu
    have hne : b ≠ g := fun e => i.ne (by simp [Value.ownBlock, e])
    have hb := lt_of_block i.blk
    have c1 := cell_blk i.blk 1
    simp at c1
    have f1 := free_blk i.blk 1
    unfold maxLen at hcm
    have hlen := i.len
    have hwr : IntKind.i64.wrap ((k : Int) + 1) = (k : Int) + 1 := wrap_in (by omega) (by omega)
    have lies : ∀ (rows : List U) (q : Nat), (us.drop q).take rows.length = rows → Hid (Lies w 3 (some ⟨g, off + q * 3, none⟩) (rows.map U.cells)) := by
      intro rows q hq i r hr
      have hi : i < rows.length := by have := (List.getElem?_eq_some_iff.1 hr).1; simpa using this
      obtain ⟨g', off', e, h1, h2, h3⟩ := hu (q + i) r (by rw [← hr, List.getElem?_map, List.getElem?_map]; congr 1; rw [← hq, List.getElem?_take, if_pos hi, List.getElem?_drop])
      cases e
      exact ⟨g, off + q * 3, rfl, h1, h2, fun j u hj => by rw [← h3 j u hj, Nat.add_mul]; congr 2; omega⟩
    have hL1 : Hid (Lies w.drew 3 (some ⟨g, off, none⟩) ((us.take k).map U.cells)) := by
      have := (lies (us.take k) 0 (by simp)).out
      rw [Nat.zero_mul, Nat.add_zero] at this
      exact this
    obtain ⟨A, hA, hlies⟩ : ∃ A : Addr, (if cap = k + 1 then some (⟨g, off, none⟩ : Addr) else some ⟨g, off + (k + 1) * 3, none⟩) = some A ∧ Hid (A.block = g ∧ Lies w 3 (some A) ((us.drop (k + 1)).map U.cells)) := by
      by_cases h : cap = k + 1
      · refine ⟨⟨g, off, none⟩, by simp [h], rfl, ?_⟩
        rw [List.drop_of_length_le (by omega)]
        exact Lies.nil _ _ _
      · exact ⟨⟨g, off + (k + 1) * 3, none⟩, by simp [h], rfl, (lies (us.drop (k + 1)) (k + 1) (List.take_length)).out⟩
    have n1 : Hid (k = ((us.take k).map U.cells).length) := by show _ = _; simp; omega
    have n2 : Hid (us.length - (k + 1) = ((us.drop (k + 1)).map U.cells).length) := by show _ = _; simp
    have r1 : Hid (([] : List (List Value)).length + ((us.take k).map U.cells).length ≤ maxLen) := by show _ ≤ _; unfold maxLen; simp; omega
    have r2 : Hid ((([] : List (List Value)).length + ((us.take k).map U.cells).length) * 32 ≤ 140737488355328) := by show _ ≤ _; simp; omega
    have r3 : Hid (([] ++ (us.take k).map U.cells).length + ((us.drop (k + 1)).map U.cells).length ≤ maxLen) := by show _ ≤ _; unfold maxLen; simp; omega
    have r4 : Hid ((([] ++ (us.take k).map U.cells).length + ((us.drop (k + 1)).map U.cells).length) * 32 ≤ 140737488355328) := by show _ ≤ _; simp; omega
    have p0 : (0 : Int) ≤ (k : Int) + 1 := by omega
    have p1 : (k : Int) + 1 ≤ (us.length : Int) := by omega
    have p2 : ((k : Int) + 1).toNat = k + 1 := by omega
    have hkc : k ≤ cap := by omega
    have hkc1 : k + 1 ≤ cap := by omega
    have B := Lib.hid I.out.blk
    clear i hf hu lies
    go_enter Try.func22, Try.ntmps22
    go_wp2_with (go_at_call 26; refine (rat_any b _ most h m us p _ I.out).mono ?_; rintro e w1 ⟨rfl, rfl⟩)
    go_region_law (first
      | (refine step_append_rows rfl (.const (.slice none 0 0)) (.tmp 17) 25 rfl 49 _ 3 32 Try.underlying25 info49 rfl (by decide) (.slice none 0 0) [] rfl (Owns.empty _ _ _) (some ⟨g, off, none⟩) k cap ((us.take k).map U.cells) (by simp [Act.eval, Act.put]) n1.out (fun e => by cases e) hL1.out (U.rows_one _) (U.rows_len _) r1.out r2.out ?_; intro v3 w3 o3 g3 b3; obtain ⟨ao3, cap3, hv3, -⟩ := o3.any; subst hv3; have B3 := Lib.hid ((g3.block b hb (by simp [Value.ownBlock])).trans B.out); have z1 := cell_blk B3.out 1; have ff := free_blk B3.out 1; simp at z1; have O3 := Lib.hid o3; have G3 := Lib.hid g3; have B3' := Lib.hid b3; clear o3 g3 b3)
      | (refine step_append_rows rfl (.tmp 18) (.tmp 25) 25 rfl 49 _ 3 32 Try.underlying25 info49 rfl (by decide) _ ([] ++ (us.take k).map U.cells) (by simp [Act.eval, Act.put]) O3.out (some A) (us.length - (k + 1)) (cap - (k + 1)) ((us.drop (k + 1)).map U.cells) (by simp [Act.eval, Act.put]) n2.out (fun e => by cases e) (hlies.out.2.mod (F := fun _ => False) ((Mod.refl _ w).drew.grown G3.out (fun _ e _ => by cases e)) (fun _ _ _ x => x)) (U.rows_one _) (U.rows_len _) r3.out r4.out ?_; intro v4 w4 o4 g4 b4; obtain ⟨ao4, cap4, hv4, -⟩ := o4.any; subst hv4; have B4 := Lib.hid ((g4.block b (lt_of_block B3.out) (by rcases B3'.out with e | ⟨j, e, hj⟩ <;> rw [e] <;> simp [Value.ownBlock] <;> simp at hj <;> omega)).trans B3.out); have z4 := cell_blk B4.out 1; have ff4 := free_blk B4.out 1; simp at z4; have O4 := Lib.hid o4; have G4 := Lib.hid g4; have B4' := Lib.hid b4; clear o4 g4 b4))
    all_goals clear z1 z4 hL1 c1 f1
    all_goals go_wp2
    all_goals go_ret
    all_goals
      have e4 : (([] ++ (us.take k).map U.cells) ++ (us.drop (k + 1)).map U.cells).length = min k us.length + (us.length - (k + 1)) := by simp
      have hd : dropU p us = us.take k ++ us.drop (k + 1) := by unfold dropU; rw [HF.out]
      have o4 := O4.out
      have b4 := B4'.out
      have b3 := B3'.out
      rw [e4] at o4 b4
      rw [List.nil_append, ← List.map_append, ← hd] at o4
      have m3 : Mod (fun _ => False) w w3 := (Mod.refl _ w).drew.grown G3.out (fun _ e _ => by cases e)
      have m4 : Mod (fun _ => False) w w4 := m3.trans' (G := fun j => w.heap.size ≤ j) ((Mod.refl _ w3).grown G4.out (fun j e _ => by
        rcases b3 with e' | ⟨j', e', hj⟩
        · rw [e'] at e; simp [Value.ownBlock] at e
        · rw [e'] at e; simp at e; subst e; simpa using hj)) (fun i h1 h2 => by omega)
      have fr : Fresh w (.slice ao4 (min k us.length + (us.length - (k + 1))) cap4) := by
        intro j e
        rcases b4 with e' | ⟨j', e', hj⟩
        · rcases b3 with e3 | ⟨j3, e3, hj3⟩
          · rw [e', e3] at e; simp [Value.ownBlock] at e
          · rw [e', e3] at e; simp at e; subst e; simpa using hj3
        · rw [e'] at e; simp at e; subst e
          exact Nat.le_trans m3.size hj
      have hn : (Value.slice ao4 (min k us.length + (us.length - (k + 1))) cap4).ownBlock ≠ some b := fun e => by have := fr b e; omega
      have hl : (dropU p us).length ≤ 4398046511103 := by have := drop_len p us; omega
      have own5 : Owns (w4.setCell ⟨b, 1, none⟩ (.slice ao4 (min k us.length + (us.length - (k + 1))) cap4)) 49 3 (.slice ao4 (min k us.length + (us.length - (k + 1))) cap4) ((dropU p us).map U.cells) :=
        o4.kept fun g e => Below.heap_setCell _ _ _ _ (fun x => hn (by rw [e, x]))
      refine ⟨by unfold hasU; rw [HF.out]; rfl, ⟨_, RefIs.set B4.out (Reads.of_owns o4) hn hl rfl, .inr ⟨own5, fr⟩⟩, (m4.mono (fun _ _ x => x.elim)).setCell _ _ (fun _ => rfl)⟩
end Go.Proofs.Ytchiedlagdecoaa
