/-
  ListAppends: an activation of 140 slots of which some are known (its first part was printed by genAppF07.py); marks, boxes and rows within a round.
-/
import Derived.Test.YtgpdhmgbmhfooaaDoorAppS07
namespace Go.Proofs.YtgpdhmgbmhfooaaDoor
open Go.RowKit

theorem list_range {α : Type} (d : α) (l : List α) : l = (List.range l.length).map fun k => l[k]?.getD d := by
  apply List.ext_getElem (by simp)
  intro i h1 h2
  simp [h1]
set_option maxRecDepth 100000 in
theorem list140 {α : Type} (d : α) (l : List α) (h : l.length = 140) : ∃ g : Nat → α, (∀ k, k < 140 → l[k]? = some (g k)) ∧ l = [g 0, g 1, g 2, g 3, g 4, g 5, g 6, g 7, g 8, g 9, g 10, g 11, g 12, g 13, g 14, g 15, g 16, g 17, g 18, g 19, g 20, g 21, g 22, g 23, g 24, g 25, g 26, g 27, g 28, g 29, g 30, g 31, g 32, g 33, g 34, g 35, g 36, g 37, g 38, g 39, g 40, g 41, g 42, g 43, g 44, g 45, g 46, g 47, g 48, g 49, g 50, g 51, g 52, g 53, g 54, g 55, g 56, g 57, g 58, g 59, g 60, g 61, g 62, g 63, g 64, g 65, g 66, g 67, g 68, g 69, g 70, g 71, g 72, g 73, g 74, g 75, g 76, g 77, g 78, g 79, g 80, g 81, g 82, g 83, g 84, g 85, g 86, g 87, g 88, g 89, g 90, g 91, g 92, g 93, g 94, g 95, g 96, g 97, g 98, g 99, g 100, g 101, g 102, g 103, g 104, g 105, g 106, g 107, g 108, g 109, g 110, g 111, g 112, g 113, g 114, g 115, g 116, g 117, g 118, g 119, g 120, g 121, g 122, g 123, g 124, g 125, g 126, g 127, g 128, g 129, g 130, g 131, g 132, g 133, g 134, g 135, g 136, g 137, g 138, g 139] := by
  refine ⟨fun k => l[k]?.getD d, fun k hk => ?_, ?_⟩
  · have hk' : k < l.length := by omega
    simp [hk']
  · have := list_range d l
    rw [h] at this
    exact this
/-- What is known of the activation at the loop's head. -/
structure Fr (a : Act) (Ds : List Nat) (v0 v2 v3 v4 v25 v26 v27 : Value) : Prop where
  size : a.tmps.toList.length = 140
  ds : a.defers = Ds.map mark1
  h0 : a.tmps.toList[0]? = some v0
  h2 : a.tmps.toList[2]? = some v2
  h3 : a.tmps.toList[3]? = some v3
  h4 : a.tmps.toList[4]? = some v4
  h25 : a.tmps.toList[25]? = some v25
  h26 : a.tmps.toList[26]? = some v26
  h27 : a.tmps.toList[27]? = some v27
set_option maxRecDepth 100000 in
theorem Fr.out {a : Act} {Ds : List Nat} {v0 v2 v3 v4 v25 v26 v27 : Value} (h : Fr a Ds v0 v2 v3 v4 v25 v26 v27) : ∃ g : Nat → Value, a = { tmps := #[v0, g 1, v2, v3, v4, g 5, g 6, g 7, g 8, g 9, g 10, g 11, g 12, g 13, g 14, g 15, g 16, g 17, g 18, g 19, g 20, g 21, g 22, g 23, g 24, v25, v26, v27, g 28, g 29, g 30, g 31, g 32, g 33, g 34, g 35, g 36, g 37, g 38, g 39, g 40, g 41, g 42, g 43, g 44, g 45, g 46, g 47, g 48, g 49, g 50, g 51, g 52, g 53, g 54, g 55, g 56, g 57, g 58, g 59, g 60, g 61, g 62, g 63, g 64, g 65, g 66, g 67, g 68, g 69, g 70, g 71, g 72, g 73, g 74, g 75, g 76, g 77, g 78, g 79, g 80, g 81, g 82, g 83, g 84, g 85, g 86, g 87, g 88, g 89, g 90, g 91, g 92, g 93, g 94, g 95, g 96, g 97, g 98, g 99, g 100, g 101, g 102, g 103, g 104, g 105, g 106, g 107, g 108, g 109, g 110, g 111, g 112, g 113, g 114, g 115, g 116, g 117, g 118, g 119, g 120, g 121, g 122, g 123, g 124, g 125, g 126, g 127, g 128, g 129, g 130, g 131, g 132, g 133, g 134, g 135, g 136, g 137, g 138, g 139], defers := Ds.map mark1 } := by
  obtain ⟨g, hg, hl⟩ := list140 (.int .i64 0) a.tmps.toList h.size
  have e0 : g 0 = v0 := by have := hg 0 (by decide); rw [h.h0] at this; cases this; rfl
  have e2 : g 2 = v2 := by have := hg 2 (by decide); rw [h.h2] at this; cases this; rfl
  have e3 : g 3 = v3 := by have := hg 3 (by decide); rw [h.h3] at this; cases this; rfl
  have e4 : g 4 = v4 := by have := hg 4 (by decide); rw [h.h4] at this; cases this; rfl
  have e25 : g 25 = v25 := by have := hg 25 (by decide); rw [h.h25] at this; cases this; rfl
  have e26 : g 26 = v26 := by have := hg 26 (by decide); rw [h.h26] at this; cases this; rfl
  have e27 : g 27 = v27 := by have := hg 27 (by decide); rw [h.h27] at this; cases this; rfl
  refine ⟨g, ?_⟩
  obtain ⟨t, ds⟩ := a
  have hd := h.ds
  simp only at hd hl
  subst hd
  have : t = t.toList.toArray := by simp
  rw [this, hl, e0, e2, e3, e4, e25, e26, e27]

theorem two_of {a t : Nat} (h1 : a ≤ t) (h2 : t ≤ a + 1) : t = a ∨ t = a + 1 := by omega
theorem wrapT {t : Nat} (h : t ≤ 2048) : wrap64 ((t : Int) + 1) = (t : Int) + 1 ∧ IntKind.i64.wrap ((t : Int) + 1) = (t : Int) + 1 := ⟨wrap64_in' (by omega) (by omega), wrap_in (by omega) (by omega)⟩
section
variable {w W W' : World} {b N1 A6 A7 : Nat} {p : PtL} {l : LS} {Ds : List Nat} {a : A} {vk : Value} {ks : List K}
theorem AS.mark (h : AS w W b N1 A6 A7 p l Ds a vk ks) {D : Nat} (hn : D ∉ Ds) (hB : w.heap.size + 1 ≤ D) (hD : W.heap[D]? = some (.deferred (some []))) : AS w W b N1 A6 A7 p l (D :: Ds) a vk ks :=
  ⟨⟨h.b0.tabs, h.b0.below, h.b0.lst, h.b0.nb, h.b0.nv, h.b0.nm, h.b0.x2, h.b0.x3, h.b0.marks.cons hn hB hD⟩, h.x6, h.x7, h.n7, h.rows, h.nk⟩
theorem AS.box (h : AS w W b N1 A6 A7 p l Ds a vk ks) {B : Nat} {c : Array Value} (hB : W.heap[B]? = some (.cells c 3 (0, 0))) (hw : w.heap.size ≤ B) (m : Mod (fun k => k = B) W W') : AS w W' b N1 A6 A7 p l Ds a vk ks := by
  have hk : ∀ {q : Nat} {c : Array Value} {t : TypeId}, W.heap[q]? = some (.cells c t (0, 0)) → t ≠ 3 → W'.heap[q]? = some (.cells c t (0, 0)) := fun hq ht => m.blk hq (blk_ne hq hB ht)
  refine ⟨⟨h.b0.tabs, h.b0.below.trans (m.belowB (fun x hx e => by have e' : x = B := e; omega) h.b0.below.size), h.b0.lst.mod m (blk_ne h.b0.lst.blk hB (by decide)) (fun e => ?_) (fun g e x => owns_ne h.b0.lst.own hB (by decide) (by rw [e, x])), h.b0.nb, h.b0.nv, h.b0.nm, hk h.b0.x2 (by decide), hk h.b0.x3 (by decide), h.b0.marks.mod m (fun D hD e => ?_)⟩, hk h.x6 (by decide), hk h.x7 (by decide), h.n7, h.rows.mod m (fun g e x => owns_ne h.rows hB (by decide) (by rw [e, x])), h.nk⟩
  · obtain ⟨D, ⟨es, clock, hmm, _⟩, _⟩ := h.b0.lst.map
    rw [e, hB] at hmm; cases hmm
  · have := h.b0.marks.at_ D hD
    rw [e, hB] at this; cases this
theorem AS.row (h : AS w W b N1 A6 A7 p l Ds a vk ks) {x : Nat} (hx : x < ks.length) :
    ∃ g cap, vk = .slice (some ⟨g, 0, none⟩) ks.length cap ∧ ks.length ≤ cap ∧ cap ≤ maxLen ∧ g < W.heap.size ∧
      W.cell? ⟨g, x * 3, none⟩ = some (.bool ks[x].b) ∧ W.cell? ⟨g, x * 3 + 1, none⟩ = some (.int .i64 ks[x].n) ∧ W.cell? ⟨g, x * 3 + 2, none⟩ = some (.string ks[x].t) := by
  obtain ⟨ao, cap, hv, h1, h2, h3, _, h5⟩ := h.rows.any
  rw [List.length_map] at hv h1
  obtain ⟨g, off, rfl, hg, _, hc⟩ := h3 x (K.cells ks[x]) (by simp [hx])
  obtain ⟨rfl, _⟩ := h5 g off rfl
  have d0 := hc 0 _ rfl
  have d1 := hc 1 _ rfl
  have d2 := hc 2 _ rfl
  simp only [Nat.zero_add, Nat.add_zero] at d0 d1 d2
  exact ⟨g, cap, hv, h1, h2, hg, d0, d1, d2⟩
theorem append_key {v : Int} {l : LS} (h : (appendP v l).1.2 = 0) : (appendP v l).1.1 = ⟨false, l.nx, ⟨#[]⟩⟩ := by
  unfold appendP at h ⊢
  split at h
  · simp at h
  · rename_i hc
    rw [if_neg hc]
    split at h
    · rename_i h2; rw [if_pos h2]
    · rename_i h2; exact absurd h h2
end
/-- Within a round of the second range: what has turned since it began. -/
structure AR (w W2 W : World) (B b N1 A6 A7 : Nat) (p : PtL) (l : LS) (Ds : List Nat) (a : A) (vk : Value) (ks : List K) (Ib : Nat) (i : Int) : Prop where
  st : AS w W b N1 A6 A7 p l Ds a vk ks
  ib : W.heap[Ib]? = some (.cells #[.int .i64 i] 3 (0, 0))
  kp : KpL p.v 0 W2 W
  kr : KeepsR B W2 W
  nw : w.heap.size ≤ Ib
section
variable {w W2 W W' : World} {B b N1 A6 A7 : Nat} {p : PtL} {l : LS} {Ds : List Nat} {a : A} {vk : Value} {ks : List K} {Ib : Nat} {i : Int}
theorem AR.mono (h : AR w W2 W B b N1 A6 A7 p l Ds a vk ks Ib i) (hb : Below W.heap.size W W') : AR w W2 W' B b N1 A6 A7 p l Ds a vk ks Ib i :=
  ⟨h.st.mono hb, (hb.block _ (lt_of_block h.ib)).trans h.ib, h.kp.trans (KpL.of_below hb), h.kr.trans (KeepsR.of_below B hb), h.nw⟩
theorem AR.count (h : AR w W2 W B b N1 A6 A7 p l Ds a vk ks Ib i) (y : Int) : AR w W2 (W.setCell ⟨Ib, 0, none⟩ (.int .i64 y)) B b N1 A6 A7 p l Ds a vk ks Ib y := by
  have m : Mod (fun q => q = Ib) W (W.setCell ⟨Ib, 0, none⟩ (.int .i64 y)) := (Mod.refl _ _).setCell _ _ (fun _ => rfl)
  refine ⟨h.st.box h.ib h.nw m, ?_, h.kp.trans (fun g cs t e hc => m.blk hc (fun x => ?_)), h.kr.trans (KeepsR.of_mod B m (fun q o e ho => by rw [e, h.ib] at ho; cases ho; rfl)), h.nw⟩
  · have := set_blk h.ib 0 (.int .i64 y)
    simpa using this
  · obtain ⟨cur, hcur⟩ := owns_type h.st.b0.lst.own e
    exact blk_ne hcur h.ib (by decide) x
end
end Go.Proofs.YtgpdhmgbmhfooaaDoor
