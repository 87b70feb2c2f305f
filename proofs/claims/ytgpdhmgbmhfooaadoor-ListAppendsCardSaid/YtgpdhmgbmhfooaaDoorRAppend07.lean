/-
  The document's list: the walks of Append, and of number.
-/
import Derived.Test.YtgpdhmgbmhfooaaDoorRSet07
namespace Go.Proofs.YtgpdhmgbmhfooaaDoor
open Go.RowKit

theorem below2 (w : World) (o p : Obj) : Below w.heap.size w ((w.alloc o).alloc p) := (below_alloc1 w _).alloc (by simp) _
theorem below3 (w : World) (o p q : Obj) : Below w.heap.size w (((w.alloc o).alloc p).alloc q) := (below2 w o p).alloc (by simp; omega) _
set_option maxRecDepth 100000 in
theorem numv_any (x : Int) (w : World) : Calls Tryd.prog 56 #[.int .i64 x] w fun e w' => e = .returned (V4 2 x ⟨#[]⟩ none 0 0) ∧ Below w.heap.size w w' := by
  go_enter Tryd.func56, Tryd.ntmps56
  go_wp2_with fail
  exact bodyPost_ret (v := V4 2 x ⟨#[]⟩ none 0 0) (by simp [results, Tryd.results56, go_sem]) rfl ⟨rfl, below_alloc1 _ _⟩
set_option maxRecDepth 100000 in
theorem rappend_low {rb ro : Nat} {c : Array Value} {v : Value} {l : LS} (x : Int) (hn : l.nx < 0) (w : World) (i : RefAt w rb ro c v l) : Calls Tryd.prog 57 #[.pointer (some ⟨rb, ro, none⟩), V4 2 x ⟨#[]⟩ none 0 0] w (RefPost w rb ro c v l (.tuple #[K.v k0, .int .i64 8])) := by
  have i1 := i.below (below2 w (XB x) (KB false 0 ⟨#[]⟩))
  obtain ⟨-, c1⟩ := i1.cells
  have g0 : decide (l.nx < 0) = true := by simp [hn]
  have I1 := Lib.hid i1
  clear i i1 hn
  go_enter Tryd.func57, Tryd.ntmps57
  go_wp2_with fail
  refine bodyPost_ret (v := .tuple #[K.v k0, .int .i64 8]) (by simp [results, Tryd.results57, go_sem, K.v, k0]) rfl ⟨rfl, c, v, I1.out, Mod.of_below (below2 _ _ _), fun _ _ _ => rfl, .inl rfl⟩
set_option maxRecDepth 100000 in
set_option maxHeartbeats 1600000 in
theorem rappend_set {rb ro : Nat} {c : Array Value} {v : Value} {l : LS} (x : Int) (hn : 0 ≤ l.nx) (w : World) (ht : Tabs w) (i : RefAt w rb ro c v l) (e : Int) (l' : LS) (he : setP ⟨false, l.nx, ⟨#[]⟩⟩ x l = (e, l')) (r : (K × Int) × LS) (hr : r = if e = 0 then ((⟨false, l.nx, ⟨#[]⟩⟩, 0), l') else ((k0, e), l')) :
    Calls Tryd.prog 57 #[.pointer (some ⟨rb, ro, none⟩), V4 2 x ⟨#[]⟩ none 0 0] w (RefPost w rb ro c v r.2 (.tuple #[r.1.1.v, .int .i64 r.1.2])) := by
  have hbl := lt_of_block i.blk
  have hb3 := below3 w (XB x) (KB false 0 ⟨#[]⟩) (KB false l.nx ⟨#[]⟩)
  have i3 := i.below hb3
  have hg : (K.mk false l.nx ⟨#[]⟩).Good := ⟨by have := i.ok.lo; show _ ≤ l.nx; omega, i.ok.hi, by show (⟨#[]⟩ : ByteArray).size ≤ _; decide⟩
  have HS : ∀ W, Tabs W → RefAt W rb ro c v l → Calls Tryd.prog 55 #[.pointer (some ⟨rb, ro, none⟩), .agg #[.bool false, .int .i64 l.nx, .string ⟨#[]⟩], V4 2 x ⟨#[]⟩ none 0 0] W (RefPost W rb ro c v l' (.int .i64 e)) := fun W hT hL => by
    have := rset_any (k := ⟨false, l.nx, ⟨#[]⟩⟩) x hg W hT hL
    rw [he] at this
    exact this
  have i2 := i.below (below2 w (XB x) (KB false 0 ⟨#[]⟩))
  obtain ⟨-, c1⟩ := i2.cells
  have g0 : decide (l.nx < 0) = false := by simp; omega
  have hC : (((w.alloc (XB x)).alloc (KB false 0 ⟨#[]⟩)).alloc (KB false l.nx ⟨#[]⟩)).heap[w.heap.size + 1]? = some (KB false 0 ⟨#[]⟩) := alloc_blk (by have h := heap_alloc_new (w.alloc (XB x)) (KB false 0 ⟨#[]⟩); simpa using h) _
  have hD : (((w.alloc (XB x)).alloc (KB false 0 ⟨#[]⟩)).alloc (KB false l.nx ⟨#[]⟩)).heap[w.heap.size + 2]? = some (KB false l.nx ⟨#[]⟩) := by have h := heap_alloc_new ((w.alloc (XB x)).alloc (KB false 0 ⟨#[]⟩)) (KB false l.nx ⟨#[]⟩); simpa using h
  have H := Lib.hid (⟨i3, hC, hD, hb3, hbl, ht⟩ : _ ∧ _ ∧ _ ∧ _ ∧ _ ∧ _)
  have HR := Lib.hid hr
  clear i i2 i3 hn he hg hC hD hb3 ht hr hbl
  go_enter Tryd.func57, Tryd.ntmps57
  go_wp2_with fail
  refine (HS _ (H.out.2.2.2.2.2.mono H.out.2.2.2.1) H.out.1).mono ?_
  rintro e3 w3 ⟨rfl, c3, v3, i3, m3, r3, n3⟩
  have hC3 := m3.blk H.out.2.1 (fun e => by have := H.out.2.2.2.2.1; omega)
  have hD3 := m3.blk H.out.2.2.1 (fun e => by have := H.out.2.2.2.2.1; omega)
  have Q := Lib.hid (⟨i3, m3, r3, n3, hC3, hD3⟩ : _ ∧ _ ∧ _ ∧ _ ∧ _ ∧ _)
  obtain ⟨a0, a1, a2⟩ := cells3 hC3
  obtain ⟨f0, f1, f2⟩ := free3 hC3
  obtain ⟨d0, d1, d2⟩ := cells3 hD3
  clear i3 m3 r3 n3 hC3 hD3 HS c1
  have fin : ∀ (q : K) (W : World), W = (((w3.setCell ⟨w.heap.size + 1, 0, none⟩ (.bool q.b)).setCell ⟨w.heap.size + 1, 1, none⟩ (.int .i64 q.n)).setCell ⟨w.heap.size + 1, 2, none⟩ (.string q.t)) →
      W.heap[w.heap.size + 1]? = some (KB q.b q.n q.t) ∧ ∃ c' v', RefAt W rb ro c' v' l' ∧ Mod (fun k => k = rb) w W ∧ (∀ i, i ≠ ro → i ≠ ro + 1 → c'[i]? = c[i]?) ∧ (v' = v ∨ ∀ g, v'.ownBlock = some g → w.heap.size ≤ g) := by
    rintro q W rfl
    obtain ⟨i3, m3, r3, n3, hC3, hD3⟩ := Q.out
    have hs := (H.out.2.2.2.1).size
    have hrl := H.out.2.2.2.2.1
    refine ⟨set3 hC3 q.b q.n q.t, c3, v3, ?_, ?_, r3, ?_⟩
    · have hm : Mod (fun x => x = w.heap.size + 1) w3 (((w3.setCell ⟨w.heap.size + 1, 0, none⟩ (.bool q.b)).setCell ⟨w.heap.size + 1, 1, none⟩ (.int .i64 q.n)).setCell ⟨w.heap.size + 1, 2, none⟩ (.string q.t)) :=
        (((Mod.refl (fun x => x = w.heap.size + 1) w3).setCell ⟨w.heap.size + 1, 0, none⟩ _ (fun _ => rfl)).setCell ⟨w.heap.size + 1, 1, none⟩ _ (fun _ => rfl)).setCell ⟨w.heap.size + 1, 2, none⟩ _ (fun _ => rfl)
      exact i3.mod hm (fun e => by omega) (fun g e x => owns_ne i3.own hC3 (by decide) (by rw [e, x]))
    · have hmm : Mod (fun k => k = rb) w w3 := (Mod.of_below H.out.2.2.2.1).trans m3
      exact ((hmm.setCell ⟨w.heap.size + 1, 0, none⟩ _ (fun h => absurd h (by simp))).setCell ⟨w.heap.size + 1, 1, none⟩ _ (fun h => absurd h (by simp))).setCell ⟨w.heap.size + 1, 2, none⟩ _ (fun h => absurd h (by simp))
    · rcases n3 with h | h
      · exact .inl h
      · exact .inr fun g e => Nat.le_trans hs (h g e)
  by_cases he0 : e = 0
  · have hr : r = ((⟨false, l.nx, ⟨#[]⟩⟩, 0), l') := by rw [HR.out, if_pos he0]
    subst he0 hr
    clear HR
    go_wp2_with fail
    generalize hW : (((w3.setCell ⟨w.heap.size + 1, 0, none⟩ (.bool false)).setCell ⟨w.heap.size + 1, 1, none⟩ (.int .i64 l.nx)).setCell ⟨w.heap.size + 1, 2, none⟩ (.string ⟨#[]⟩)) = W
    obtain ⟨hk, c', v', i', m', gg⟩ := fin ⟨false, l.nx, ⟨#[]⟩⟩ W hW.symm
    obtain ⟨h0, h1, h2⟩ := cells3 hk
    clear hW
    have e0 : W.cell? ⟨w.heap.size + 1, 0, none⟩ = some (.bool false) := h0
    have e1 : W.cell? ⟨w.heap.size + 1, 1, none⟩ = some (.int .i64 l.nx) := h1
    have e2 : W.cell? ⟨w.heap.size + 1, 2, none⟩ = some (.string ⟨#[]⟩) := h2
    exact bodyPost_ret (v := .tuple #[K.v ⟨false, l.nx, ⟨#[]⟩⟩, .int .i64 0]) (by simp [results, Tryd.results57, go_sem, K.v, e0, e1, e2]) rfl ⟨rfl, c', v', i', m', gg⟩
  · have hr : r = ((k0, e), l') := by rw [HR.out, if_neg he0]
    have g1 : (e != 0) = true := by simp [he0]
    subst hr
    clear HR he0
    go_wp2_with fail
    generalize hW : (((w3.setCell ⟨w.heap.size + 1, 0, none⟩ (.bool false)).setCell ⟨w.heap.size + 1, 1, none⟩ (.int .i64 0)).setCell ⟨w.heap.size + 1, 2, none⟩ (.string ⟨#[]⟩)) = W
    obtain ⟨hk, c', v', i', m', gg⟩ := fin k0 W hW.symm
    obtain ⟨h0, h1, h2⟩ := cells3 hk
    clear hW
    have e0 : W.cell? ⟨w.heap.size + 1, 0, none⟩ = some (.bool false) := h0
    have e1 : W.cell? ⟨w.heap.size + 1, 1, none⟩ = some (.int .i64 0) := h1
    have e2 : W.cell? ⟨w.heap.size + 1, 2, none⟩ = some (.string ⟨#[]⟩) := h2
    exact bodyPost_ret (v := .tuple #[K.v k0, .int .i64 e]) (by simp [results, Tryd.results57, go_sem, K.v, k0, e0, e1, e2]) rfl ⟨rfl, c', v', i', m', gg⟩

theorem rappend_any {rb ro : Nat} {c : Array Value} {v : Value} {l : LS} (x : Int) (w : World) (ht : Tabs w) (i : RefAt w rb ro c v l) :
    Calls Tryd.prog 57 #[.pointer (some ⟨rb, ro, none⟩), V4 2 x ⟨#[]⟩ none 0 0] w (RefPost w rb ro c v (appendP x l).2 (.tuple #[(appendP x l).1.1.v, .int .i64 (appendP x l).1.2])) := by
  unfold appendP
  by_cases hn : l.nx < 0
  · rw [if_pos hn]; exact rappend_low x hn w i
  · rw [if_neg hn]
    exact rappend_set x (by omega) w ht i _ _ rfl _ rfl
end Go.Proofs.YtgpdhmgbmhfooaaDoor
