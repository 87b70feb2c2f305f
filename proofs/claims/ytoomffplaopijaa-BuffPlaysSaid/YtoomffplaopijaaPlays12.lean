/-
  The walk of the statement BuffPlays.
-/
import Derived.Test.YtoomffplaopijaaDoes12b
import Derived.Test.YtoomffplaopijaaLawW
namespace Go.Proofs.Ytoomffplaopijaa
open Go.RowKit Go.ChangeShapes Go.WideShapes Go.ChangeAt

theorem reach_num : reachBytes ≤ 140737488351232 := by decide
section
variable {H : Type} {enc : TypeId × Value → H}
theorem open_ac_w {W : World} (n : Nat) (cs : List Value) (x : DataW H × List MemPlace) (hl : cs.length = 3) (hr : InReach Try.prog 28 x.1) (h : DataW.trod enc Try.prog W 0 (fun _ => true) true n 28 cs = some x) :
    ∃ a : Ac, cs = a.cells ∧ a.text.size ≤ 140737488351232 := by
  obtain ⟨xs, k, _, rfl, _, hxl, hf⟩ := DataW.trod_struct Try.underlying28 h
  match cs, hl with
  | [v0, v1, v2], _ =>
    have g0 := hf 0 _ rfl
    have g1 := hf 1 _ rfl
    have g2 := hf 2 _ rfl
    simp [Try.cells3, Try.cells9] at g0 g1 g2
    match xs, hxl with
    | [y0, y1, y2], _ =>
      simp at g0 g1 g2
      obtain ⟨a0, e0, _, _⟩ := DataW.trod_int Try.underlying3 g0
      obtain ⟨a1, e1, x1, hs⟩ := DataW.trod_string Try.underlying9 g1
      obtain ⟨a2, e2, _, _⟩ := DataW.trod_int Try.underlying3 g2
      cases e0; cases e1; cases e2
      have h1 : InReach Try.prog 9 y1.1 := reach_part Try.underlying28 hr (j := 1) rfl rfl
      rw [x1] at h1
      exact ⟨⟨a0, a1, a2⟩, rfl, Nat.le_trans (Nat.le_of_eq (show a1.size = a1.data.toList.length from Array.length_toList.symm)) (Nat.le_trans (reach_text h1) reach_num)⟩
/-- A script. -/
theorem open_script_w {W : World} {base : Nat} {v : Value} {d : DataW H} {p : List MemPlace} (hv : Value.okWide Try.prog W .any base 22 v) (hr : InReach Try.prog 22 d) (h : DataW.Trod enc Try.prog W 0 (fun _ => true) true 22 v d p) :
    ∃ ao cap, ∃ acts : List Ac, v = .slice ao acts.length cap ∧ Lies W 3 ao (acts.map Ac.cells) ∧ acts.length ≤ maxLen ∧ (∀ a ∈ acts, a.text.size ≤ 140737488351232) := by
  obtain ⟨a0, len, cap, rfl⟩ := okWide_slice Try.underlying22 hv
  obtain ⟨fuel, hf⟩ := h
  obtain ⟨ao, cap', acts, hcs, hle, hcm, hl, hg, -, -⟩ := open_rows_w (α := Ac) (cells := Ac.cells) (good := fun a => a.text.size ≤ 140737488351232) Try.underlying22 Try.cells28 (by decide) open_ac_w hr hf
  simp only [Value.cells] at hcs
  obtain ⟨rfl, rfl, rfl⟩ : a0 = ao ∧ len = acts.length ∧ cap = cap' := by simpa using hcs
  exact ⟨a0, cap, acts, rfl, hl, Nat.le_trans hle hcm, hg⟩
end

def RNewPost (w : World) (e : Ending) (w' : World) : Prop := e = .returned (.agg #[.slice none 0 0, .string .empty, .int .i64 0, .int .i64 (-1)]) ∧ Below w.heap.size w w'
theorem rnew_any (w : World) : Calls Try.prog 21 #[] w (RNewPost w) := by
  go_enter Try.func21, Try.ntmps21
  go_wp2
  exact bodyPost_ret (v := .agg #[.slice none 0 0, .string .empty, .int .i64 0, .int .i64 (-1)]) (by simp [results, Try.results21, go_sem]; rfl) rfl ⟨rfl, (Below.refl _ _).alloc (Nat.le_refl _) _⟩

theorem duo_start {W w1 w2 : World} (i1 : StackIs w1 W.heap.size (.func (.func 10) #[] #[]) true sh0 sk0) (b1 : Below W.heap.size W w1) (h1 : W.heap.size < w1.heap.size) (b2 : Below w1.heap.size w1 w2) :
    Duo (fun k => k < W.heap.size) (w2.alloc (.cells #[.slice none 0 0, .string .empty, .int .i64 0, .int .i64 (-1)] 42)) W.heap.size w2.heap.size sk0 sk0 ∧
    Below W.heap.size W (w2.alloc (.cells #[.slice none 0 0, .string .empty, .int .i64 0, .int .i64 (-1)] 42)) := by
  have hs := b2.size
  refine ⟨⟨fun k hk => by simp; omega, sh0, .slice none 0 0, (i1.stayB b2).stay ((Mod.refl _ w2).alloc _), ⟨heap_alloc_new w2 _, Owns.empty _ _ _, by simp [Value.ownBlock], sk0_ok true⟩, fun k x => ⟨by rw [sh0_fp x]; omega, by rw [sh0_fp x]; omega, by simp [Value.ownBlock]⟩, by omega, fun k e => by simp [Value.ownBlock] at e⟩,
    (b1.trans (b2.mono (Nat.le_of_lt h1))).alloc (by omega) _⟩

theorem kbelow {B : Nat} {w w1 w2 : World} (m : Below B w w1) (h : Mod (fun k => ¬ k < B) w1 w2) (hB : B ≤ w.heap.size) : Below B w w2 := m.trans (h.belowB (fun _ hk x => x hk) (Nat.le_trans hB m.size))

set_option maxRecDepth 100000 in
set_option maxHeartbeats 6400000 in
theorem plays_any (cap : Nat) (ao : Option Addr) (acts : List Ac) (W : World) (hl : Lies W 3 ao (acts.map Ac.cells)) (hn : acts.length ≤ 9223372036854775807) (hx : ∀ a ∈ acts, a.text.size ≤ 140737488351232) :
    Calls Try.prog 6 #[.slice ao acts.length cap] W (AlivePost W) := by
  have HL := Lib.hid hl
  have HFN : Hid (FnIs (.func (.func 10) #[] #[]) true) := .inl ⟨rfl, rfl⟩
  clear hl
  go_enter Try.func6, Try.ntmps6
  go_wp2_with fail
  refine (new_any HFN.out W).mono ?_
  rintro e w1 ⟨rfl, i1, b1, h1⟩
  have I1 := Lib.hid i1
  have B1 := Lib.hid b1
  have H1 := Lib.hid h1
  clear i1 b1 h1
  go_wp2_with fail
  refine (rnew_any _).mono ?_
  rintro e w2 ⟨rfl, b2⟩
  obtain ⟨l3, b3⟩ := duo_start I1.out B1.out H1.out b2
  have L3 := Lib.hid l3
  have B3 := Lib.hid b3
  clear l3 b3 b2
  go_wp2_with fail
  generalize w2.alloc (.cells #[.slice none 0 0, .string .empty, .int .i64 0, .int .i64 (-1)] 42) = w3 at *
  generalize w2.heap.size = rb at *
  refine (stands_any L3.out).mono ?_
  rintro e w4 ⟨rfl, m4⟩
  have L4 := Lib.hid (L3.out.stay m4)
  have B4 := Lib.hid (B3.out.trans (m4.below.mono B3.out.size))
  clear m4 L3 B3
  go_wp2_with fail
  refine (alive_any _).mono ?_
  rintro e w5 ⟨rfl, b5⟩
  have L5 := Lib.hid (L4.out.stay (Mod.of_below b5))
  have B5 := Lib.hid (B4.out.trans (b5.mono B4.out.size))
  clear b5 L4 B4
  go_wp2_with fail
  go_loopw [22] (fun i wr => ∃ (k : Nat) (s : Sk), k ≤ acts.length ∧ i = .int .i64 k ∧ Duo (fun k => k < W.heap.size) wr W.heap.size rb s s ∧ Below W.heap.size W wr) (fun i _ => acts.length - (intOf i).toNat)
  case atStart => exact ⟨0, sk0, Nat.zero_le _, rfl, L5.out, B5.out⟩
  case round =>
    obtain ⟨k, s, hk, rfl, l, bl⟩ := hrel
    have LL := Lib.hid l
    have BL := Lib.hid bl
    by_cases hlt : k < acts.length
    · obtain ⟨g, off, rfl, hg, c0, c1, c2⟩ := ac_cells HL.out hlt bl
      have hxk := hx acts[k] (List.getElem_mem hlt)
      have L6 := Lib.hid (l.stay ((Mod.refl _ wr).alloc (.cells #[.int .i64 acts[k].kind, .string acts[k].text, .int .i64 acts[k].n] 28)))
      have B6 := Lib.hid (bl.alloc bl.size (.cells #[.int .i64 acts[k].kind, .string acts[k].text, .int .i64 acts[k].n] 28))
      clear l bl
      go_wp2_with fail
      refine (does_any L6.out acts[k].kind acts[k].text acts[k].n hxk).mono ?_
      rintro e w7 ⟨rfl, l, m⟩
      have L7 := Lib.hid l
      have B7 := Lib.hid (kbelow B6.out m (Nat.le_refl _))
      clear l m
      go_wp2_with fail
      refine (stands_any L7.out).mono ?_
      rintro e w8 ⟨rfl, m8⟩
      have L8 := Lib.hid (L7.out.stay m8)
      have B8 := Lib.hid (B7.out.trans (m8.below.mono B7.out.size))
      clear m8
      go_wp2_with fail
      go_roundw
      case rel => exact ⟨k + 1, _, by omega, by go_num, L8.out, B8.out⟩
      case measure => simp [intOf]; omega
    · obtain rfl : k = acts.length := by omega
      clear l bl
      go_wp2_with fail
      go_ret
      exact ⟨rfl, BL.out⟩
end Go.Proofs.Ytoomffplaopijaa
