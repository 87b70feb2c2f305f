/-
  The walk of Append.
-/
import Derived.Test.YtgpdhmgbmhfooaaDoorSet07
namespace Go.Proofs.YtgpdhmgbmhfooaaDoor
open Go.RowKit

theorem Goes.mono {n n' : Nat} (h : n ≤ n') {sh : Bool} {v : Value} {mb : Nat} {sh' : Bool} {v' : Value} {mb' : Nat} (g : Goes n' sh v mb sh' v' mb') : Goes n sh v mb sh' v' mb' := by
  rcases g with g | ⟨h1, h2, h3⟩
  · exact .inl g
  · exact .inr ⟨h1, fun x e => (h2 x e).imp (fun h' => by omega) id, h3.imp (fun h' => by omega) id⟩
/-- Blocks that a call has made ahead stay apart. -/
theorem Goes.apart {n c : Nat} {sh : Bool} {v : Value} {mb : Nat} {sh' : Bool} {v' : Value} {mb' : Nat} (g : Goes n sh v mb sh' v' mb') (hv : ∀ g, v.ownBlock = some g → g < c) (hm : mb < c) (hc : c < n) : (∀ g, v'.ownBlock = some g → g ≠ c) ∧ mb' ≠ c := by
  rcases g with ⟨_, rfl, rfl⟩ | ⟨_, h2, h3⟩
  · exact ⟨fun g e => by have := hv g e; omega, by omega⟩
  · refine ⟨fun g e => ?_, ?_⟩
    · rcases h2 g e with h | ⟨_, h⟩
      · omega
      · have := hv g h; omega
    · rcases h3 with h | ⟨_, h⟩ <;> omega
/-- What Append leaves. -/
def AppendPost (w : World) (b : Nat) (sh : Bool) (v : Value) (mb : Nat) (r : (K × Int) × LS) (e : Ending) (w' : World) : Prop :=
  e = .returned (.tuple #[r.1.1.v, .int .i64 r.1.2]) ∧ ∃ sh' v' mb', ListIs w' b sh' v' mb' r.2 ∧ Mod (Foot b sh v mb) w w' ∧ Goes w.heap.size sh v mb sh' v' mb'

set_option maxRecDepth 100000 in
theorem append_low {b : Nat} {sh : Bool} {v : Value} {mb : Nat} {l : LS} (x : Int) (hn : l.nx < 0) (w : World) (i : ListIs w b sh v mb l) : Calls Tryd.prog 24 #[.pointer (some ⟨b, 0, none⟩), .int .i64 x] w (AppendPost w b sh v mb ((k0, 8), l)) := by
  have i1 := i.below (below_alloc1 w (KB false 0 ⟨#[]⟩))
  obtain ⟨c0, c1, c2, c3, c4⟩ := cells5 i1.blk
  have hk := heap_alloc_new w (KB false 0 ⟨#[]⟩)
  obtain ⟨a0, a1, a2⟩ := cells3 hk
  obtain ⟨f0, f1, f2⟩ := free3 hk
  have g0 : decide (l.nx < 0) = true := by simp [hn]
  have I1 := Lib.hid i1
  have HK := Lib.hid hk
  clear i i1 hn hk
  go_enter Tryd.func24, Tryd.ntmps24
  go_wp2_with (go_at_call 51; refine (lok_any _ _ _ c0).mono ?_; rintro e w' ⟨rfl, rfl⟩)
  refine bodyPost_ret (v := .tuple #[K.v k0, .int .i64 8]) (by simp [results, Tryd.results24, go_sem, K.v, k0]) rfl ⟨rfl, sh, v, mb, I1.out, Mod.of_below (below_alloc1 _ _), Goes.refl _ _ _ _⟩
set_option maxRecDepth 100000 in
set_option maxHeartbeats 1600000 in
theorem append_set {b : Nat} {sh : Bool} {v : Value} {mb : Nat} {l : LS} (x : Int) (hn : 0 ≤ l.nx) (w : World) (ht : Tabs w) (i : ListIs w b sh v mb l) (e : Int) (l' : LS) (he : setP ⟨false, l.nx, ⟨#[]⟩⟩ x l = (e, l')) (r : (K × Int) × LS) (hr : r = if e = 0 then ((⟨false, l.nx, ⟨#[]⟩⟩, 0), l') else ((k0, e), l')) :
    Calls Tryd.prog 24 #[.pointer (some ⟨b, 0, none⟩), .int .i64 x] w (AppendPost w b sh v mb r) := by
  have hbl := lt_of_block i.blk
  have hb2 : Below w.heap.size w ((w.alloc (KB false 0 ⟨#[]⟩)).alloc (KB false l.nx ⟨#[]⟩)) := (below_alloc1 w _).alloc (by simp) _
  have i2 := i.below hb2
  have hg : (K.mk false l.nx ⟨#[]⟩).Good := ⟨by have := i.ok.lo; show _ ≤ l.nx; omega, i.ok.hi, by show (⟨#[]⟩ : ByteArray).size ≤ _; decide⟩
  have HS : ∀ W, Tabs W → ListIs W b sh v mb l → Calls Tryd.prog 19 #[.pointer (some ⟨b, 0, none⟩), .agg #[.bool false, .int .i64 l.nx, .string ⟨#[]⟩], .int .i64 x] W (SetPost W b sh v mb (e, l')) := fun W hT hL => by
    rw [← he]; exact set_any x hg W hT hL
  have i1 := i.below (below_alloc1 w (KB false 0 ⟨#[]⟩))
  obtain ⟨c0, c1, c2, c3, c4⟩ := cells5 i1.blk
  have g0 : decide (l.nx < 0) = false := by simp; omega
  have hC : ((w.alloc (KB false 0 ⟨#[]⟩)).alloc (KB false l.nx ⟨#[]⟩)).heap[w.heap.size]? = some (KB false 0 ⟨#[]⟩) := alloc_blk (heap_alloc_new _ _) _
  have hD : ((w.alloc (KB false 0 ⟨#[]⟩)).alloc (KB false l.nx ⟨#[]⟩)).heap[w.heap.size + 1]? = some (KB false l.nx ⟨#[]⟩) := by have h := heap_alloc_new (w.alloc (KB false 0 ⟨#[]⟩)) (KB false l.nx ⟨#[]⟩); simpa using h
  have hfoot : ∀ k, w.heap.size ≤ k → ¬ Foot b sh v mb k := fun k hk => by
    rintro (h | ⟨_, h | h⟩)
    · omega
    · have := i.own.lt h; omega
    · have := i.map.lt; omega
  have H := Lib.hid (⟨i2, hC, hD, hb2, hfoot, ht⟩ : _ ∧ _ ∧ _ ∧ _ ∧ _ ∧ _)
  have H2 := Lib.hid (⟨fun g e => i.own.lt (g := g) e, i.map.lt⟩ : _ ∧ _)
  have HR := Lib.hid hr
  clear i i1 i2 hn he hg hC hD hfoot hb2 ht hr
  go_enter Tryd.func24, Tryd.ntmps24
  go_wp2_with (go_at_call 51; refine (lok_any _ _ _ c0).mono ?_; rintro e w' ⟨rfl, rfl⟩)
  refine (HS _ (H.out.2.2.2.2.2.mono H.out.2.2.2.1) H.out.1).mono ?_
  rintro e3 w3 ⟨rfl, sh3, v3, mb3, i3, m3, g3⟩
  have hC3 := m3.blk H.out.2.1 (H.out.2.2.2.2.1 _ (Nat.le_refl _))
  have hD3 := m3.blk H.out.2.2.1 (H.out.2.2.2.2.1 _ (by omega))
  have Q := Lib.hid (⟨i3, m3, g3, hC3, hD3⟩ : _ ∧ _ ∧ _ ∧ _ ∧ _)
  obtain ⟨a0, a1, a2⟩ := cells3 hC3
  obtain ⟨f0, f1, f2⟩ := free3 hC3
  obtain ⟨d0, d1, d2⟩ := cells3 hD3
  clear i3 m3 g3 hC3 hD3 HS c0 c1 c2 c3 c4
  have fin : ∀ (q : K) (W : World), W = (((w3.setCell ⟨w.heap.size, 0, none⟩ (.bool q.b)).setCell ⟨w.heap.size, 1, none⟩ (.int .i64 q.n)).setCell ⟨w.heap.size, 2, none⟩ (.string q.t)) →
      W.heap[w.heap.size]? = some (KB q.b q.n q.t) ∧ ∃ sh' v' mb', ListIs W b sh' v' mb' l' ∧ Mod (Foot b sh v mb) w W ∧ Goes w.heap.size sh v mb sh' v' mb' := by
    rintro q W rfl
    obtain ⟨i3, m3, g3, hC3, hD3⟩ := Q.out
    refine ⟨set3 hC3 q.b q.n q.t, sh3, v3, mb3, ?_, ?_, g3.mono (H.out.2.2.2.1).size⟩
    · have hm : Mod (fun x => x = w.heap.size) w3 (((w3.setCell ⟨w.heap.size, 0, none⟩ (.bool q.b)).setCell ⟨w.heap.size, 1, none⟩ (.int .i64 q.n)).setCell ⟨w.heap.size, 2, none⟩ (.string q.t)) :=
        (((Mod.refl (fun x => x = w.heap.size) w3).setCell ⟨w.heap.size, 0, none⟩ _ (fun _ => rfl)).setCell ⟨w.heap.size, 1, none⟩ _ (fun _ => rfl)).setCell ⟨w.heap.size, 2, none⟩ _ (fun _ => rfl)
      have hs : ((w.alloc (KB false 0 ⟨#[]⟩)).alloc (KB false l.nx ⟨#[]⟩)).heap.size = w.heap.size + 2 := by simp
      obtain ⟨ap1, ap2⟩ := g3.apart H2.out.1 H2.out.2 (by omega)
      exact i3.mod hm (fun e => by omega) (fun e => ap2 e) (fun g e => ap1 g e)
    · have hmm : Mod (Foot b sh v mb) w w3 := (Mod.of_below H.out.2.2.2.1).trans m3
      exact ((hmm.setCell ⟨w.heap.size, 0, none⟩ _ (fun h => absurd h (Nat.lt_irrefl _))).setCell ⟨w.heap.size, 1, none⟩ _ (fun h => absurd h (Nat.lt_irrefl _))).setCell ⟨w.heap.size, 2, none⟩ _ (fun h => absurd h (Nat.lt_irrefl _))
  by_cases he0 : e = 0
  · have hr : r = ((⟨false, l.nx, ⟨#[]⟩⟩, 0), l') := by rw [HR.out, if_pos he0]
    subst he0 hr
    clear HR
    go_wp2_with fail
    generalize hW : (((w3.setCell ⟨w.heap.size, 0, none⟩ (.bool false)).setCell ⟨w.heap.size, 1, none⟩ (.int .i64 l.nx)).setCell ⟨w.heap.size, 2, none⟩ (.string ⟨#[]⟩)) = W
    obtain ⟨hk, sh', v', mb', i', m', gg⟩ := fin ⟨false, l.nx, ⟨#[]⟩⟩ W hW.symm
    obtain ⟨h0, h1, h2⟩ := cells3 hk
    clear hW
    have e0 : W.cell? ⟨w.heap.size, 0, none⟩ = some (.bool false) := h0
    have e1 : W.cell? ⟨w.heap.size, 1, none⟩ = some (.int .i64 l.nx) := h1
    have e2 : W.cell? ⟨w.heap.size, 2, none⟩ = some (.string ⟨#[]⟩) := h2
    exact bodyPost_ret (v := .tuple #[K.v ⟨false, l.nx, ⟨#[]⟩⟩, .int .i64 0]) (by simp [results, Tryd.results24, go_sem, K.v, e0, e1, e2]) rfl ⟨rfl, sh', v', mb', i', m', gg⟩
  · have hr : r = ((k0, e), l') := by rw [HR.out, if_neg he0]
    have g1 : (e != 0) = true := by simp [he0]
    subst hr
    clear HR he0
    go_wp2_with fail
    generalize hW : (((w3.setCell ⟨w.heap.size, 0, none⟩ (.bool false)).setCell ⟨w.heap.size, 1, none⟩ (.int .i64 0)).setCell ⟨w.heap.size, 2, none⟩ (.string ⟨#[]⟩)) = W
    obtain ⟨hk, sh', v', mb', i', m', gg⟩ := fin k0 W hW.symm
    obtain ⟨h0, h1, h2⟩ := cells3 hk
    clear hW
    have e0 : W.cell? ⟨w.heap.size, 0, none⟩ = some (.bool false) := h0
    have e1 : W.cell? ⟨w.heap.size, 1, none⟩ = some (.int .i64 0) := h1
    have e2 : W.cell? ⟨w.heap.size, 2, none⟩ = some (.string ⟨#[]⟩) := h2
    exact bodyPost_ret (v := .tuple #[K.v k0, .int .i64 e]) (by simp [results, Tryd.results24, go_sem, K.v, k0, e0, e1, e2]) rfl ⟨rfl, sh', v', mb', i', m', gg⟩

theorem append_any {b : Nat} {sh : Bool} {v : Value} {mb : Nat} {l : LS} (x : Int) (w : World) (ht : Tabs w) (i : ListIs w b sh v mb l) : Calls Tryd.prog 24 #[.pointer (some ⟨b, 0, none⟩), .int .i64 x] w (AppendPost w b sh v mb (appendP x l)) := by
  unfold appendP
  by_cases hn : l.nx < 0
  · rw [if_pos hn]; exact append_low x hn w i
  · rw [if_neg hn]
    exact append_set x (by omega) w ht i _ _ rfl _ rfl
theorem append_nil (x : Int) (w : World) : Calls Tryd.prog 24 #[.pointer none, .int .i64 x] w fun e w' => e = .returned (.tuple #[K.v k0, .int .i64 5]) ∧ Below w.heap.size w w' := by
  go_enter Tryd.func24, Tryd.ntmps24
  go_wp2_with (go_at_call 51; refine (lok_nil _).mono ?_; rintro e w' ⟨rfl, rfl⟩)
  exact bodyPost_ret (v := .tuple #[K.v k0, .int .i64 5]) (by simp [results, Tryd.results24, go_sem, K.v, k0]) rfl ⟨rfl, below_alloc1 _ _⟩
end Go.Proofs.YtgpdhmgbmhfooaaDoor
