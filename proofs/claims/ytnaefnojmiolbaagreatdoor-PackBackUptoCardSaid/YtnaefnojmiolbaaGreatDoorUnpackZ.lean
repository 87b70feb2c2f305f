/-
  The walk of Unpack.
-/
import Derived.Test.YtnaefnojmiolbaaGreatDoorReadFZ
import Derived.Test.YtnaefnojmiolbaaGreatDoorPureWZ
namespace Go.Proofs.YtnaefnojmiolbaaGreatDoor
open Go.RowKit

attribute [local go_sem] yld_undef
/-- What Unpack leaves. -/
def UnPost (w : World) (x : Except ER (VT × List TP)) (e : Ending) (w' : World) : Prop :=
  Below w.heap.size w w' ∧ match x with
  | .ok (y, tps) => ∃ co cm cc ao cap ths, e = .returned (.tuple #[y.v (.slice co cm cc), .slice ao (List.length ths) cap, .agg #[.int .i64 0, .int .i64 0]]) ∧ VT64 w' (.slice co cm cc) y.xs ∧ Owns w' 48 2 (.slice ao (List.length ths) cap) (ths.map Th.row) ∧ (∀ t ∈ ths, VT64 w' t.c t.xs) ∧ ths.map Th.tp = tps
  | .error (c, a) => e = .returned (.tuple #[VT.v (.mk 0 0 ⟨#[]⟩ []) (.slice none 0 0), .slice none 0 0, .agg #[.int .i64 c, .int .i64 a]])
theorem cell_drew {w : World} {b : Nat} {c : Array Value} {t : TypeId} {fr : Nat × Nat} (h : w.heap[b]? = some (.cells c t fr)) (i : Nat) : w.drew.cell? ⟨b, i, none⟩ = c[i]? := cell_blk h i
/-- Two stores into the results' cells. -/
theorem set24_33 (W : World) (B : Nat) (x0 x1 x2 x3 y0 y1 : Value) {a0 a1 a2 a3 c0 c1 : Value} (h0 : W.heap[B]? = some (.cells #[a0, a1, a2, a3] 24 (0, 0))) (h1 : W.heap[B + 1]? = some (.cells #[c0, c1] 33 (0, 0))) :
    let V := ((((W.setCell ⟨B, 0, none⟩ x0).setCell ⟨B, 1, none⟩ x1).setCell ⟨B, 2, none⟩ x2).setCell ⟨B, 3, none⟩ x3)
    Mod (fun k => k = B) W V ∧ V.heap[B + 1]? = some (.cells #[c0, c1] 33 (0, 0)) ∧ Mod (fun k => k = B ∨ k = B + 1) W ((V.setCell ⟨B + 1, 0, none⟩ y0).setCell ⟨B + 1, 1, none⟩ y1) ∧ ((V.setCell ⟨B + 1, 0, none⟩ y0).setCell ⟨B + 1, 1, none⟩ y1).heap[B]? = some (.cells #[x0, x1, x2, x3] 24 (0, 0)) ∧ ((V.setCell ⟨B + 1, 0, none⟩ y0).setCell ⟨B + 1, 1, none⟩ y1).heap[B + 1]? = some (.cells #[y0, y1] 33 (0, 0)) := by
  intro V
  have m := set4_mod W B x0 x1 x2 x3
  have b1 : V.heap[B + 1]? = some (.cells #[c0, c1] 33 (0, 0)) := (m.block (B + 1) (lt_of_block h1) (fun e => by have h3 : B + 1 = B := e; omega)).trans h1
  have b0 : V.heap[B]? = some (.cells #[x0, x1, x2, x3] 24 (0, 0)) := set4 h0 x0 x1 x2 x3
  have m2 : Mod (fun k => k = B + 1) V ((V.setCell ⟨B + 1, 0, none⟩ y0).setCell ⟨B + 1, 1, none⟩ y1) := ((Mod.refl (fun k => k = B + 1) V).setCell ⟨B + 1, 0, none⟩ y0 (fun _ => rfl)).setCell ⟨B + 1, 1, none⟩ y1 (fun _ => rfl)
  refine ⟨m, b1, (m.mono (fun _ _ e => .inl e)).trans (m2.mono (fun _ _ e => .inr e)), (m2.block B (lt_of_block b0) (fun e => by have h3 : B = B + 1 := e; omega)).trans b0, ?_⟩
  have := set_blk (set_blk b1 0 y0) 1 y1
  simpa using this
set_option maxHeartbeats 6400000 in
set_option maxRecDepth 100000 in
theorem unpack_any (s : ByteArray) (hz : s.size ≤ 140737488355328) (w : World) (ht : Tabs w) : Calls Tryz.prog 19 #[.string s] w (UnPost w (unpackP s)) := by
  obtain ⟨x, hx⟩ : ∃ x, x = unpackP s := ⟨_, rfl⟩
  rw [← hx]
  unfold unpackP at hx
  by_cases hs : 65536 < s.size
  · rw [if_pos hs] at hx
    subst hx
    have hi : (65536 : Int) < (s.size : Int) := by omega
    go_enter Tryz.func19, Tryz.ntmps19
    go_wp2_with fail
    have hb : Below w.heap.size w ((w.alloc V0).alloc (.cells #[.int .i64 2, .int .i64 0] 33)) := ((Below.refl _ w).alloc (Nat.le_refl _) _).alloc (by simp) _
    have b0 : ((w.alloc V0).alloc (.cells #[.int .i64 2, .int .i64 0] 33)).heap[w.heap.size]? = some V0 := alloc_blk (heap_alloc_new w _) _
    have b1 : ((w.alloc V0).alloc (.cells #[.int .i64 2, .int .i64 0] 33)).heap[w.heap.size + 1]? = some (.cells #[.int .i64 2, .int .i64 0] 33 (0, 0)) := by have := heap_alloc_new (w.alloc V0) (.cells #[.int .i64 2, .int .i64 0] 33); simpa using this
    obtain ⟨z0, z1, z2, z3⟩ := vb4 b0
    have q0 := cell_blk b1 0
    have q1 := cell_blk b1 1
    exact bodyPost_ret (v := .tuple #[VT.v (.mk 0 0 ⟨#[]⟩ []) (.slice none 0 0), .slice none 0 0, .agg #[.int .i64 2, .int .i64 0]]) (by simp [results, Tryz.results19, go_sem, VT.v, VT.k, VT.n, VT.t, z0, z1, z2, z3, q0, q1]) rfl ⟨hb, rfl⟩
  · rw [if_neg hs] at hx
    have hi : ¬ (65536 : Int) < (s.size : Int) := by omega
    have HB2 : Below w.heap.size w ((w.alloc V0).alloc (.cells #[.int .i64 0, .int .i64 0] 33)) := ((Below.refl _ w).alloc (Nat.le_refl _) _).alloc (by simp) _
    have HR := read_any s (by omega) ((w.alloc V0).alloc (.cells #[.int .i64 0, .int .i64 0] 33)) (ht.mono HB2)
    have B0 : Hid (((w.alloc V0).alloc (.cells #[.int .i64 0, .int .i64 0] 33)).heap[w.heap.size]? = some V0) := Lib.hid (alloc_blk (heap_alloc_new w _) _)
    have B1 : Hid (((w.alloc V0).alloc (.cells #[.int .i64 0, .int .i64 0] 33)).heap[w.heap.size + 1]? = some (.cells #[.int .i64 0, .int .i64 0] 33 (0, 0))) := Lib.hid (by have := heap_alloc_new (w.alloc V0) (.cells #[.int .i64 0, .int .i64 0] 33); simpa using this)
    have HER : Hid (∀ c a, x = .error (c, a) → c ≠ 0) := Lib.hid (fun c a e => (read_err (by omega) (hx.symm.trans e)).2)
    have HBB := Lib.hid HB2
    rw [← hx] at HR
    clear hx HB2 ht hs
    rcases x with ⟨c, a⟩ | ⟨y, tps⟩
    · have hc : c ≠ 0 := HER.out c a rfl
      go_enter Tryz.func19, Tryz.ntmps19
      go_wp2_with fail
      refine HR.mono ?_
      rintro e w1 ⟨hb, y, co, cm, cc, rfl⟩
      have HB1 := Lib.hid hb
      clear HR hb
      simp only [VT.v]
      have HBZ : Hid (Below w1.heap.size w1 ((w1.alloc (.cells #[.int .i64 y.k, .int .i64 y.n, .string y.t, .slice co cm cc] 24)).alloc (.cells #[.int .i64 c, .int .i64 (a : Int)] 33))) := Lib.hid (((Below.refl _ w1).alloc (Nat.le_refl _) _).alloc (by simp) _)
      have H5 : Hid (((w1.alloc (.cells #[.int .i64 y.k, .int .i64 y.n, .string y.t, .slice co cm cc] 24)).alloc (.cells #[.int .i64 c, .int .i64 (a : Int)] 33)).heap[w1.heap.size]? = some (.cells #[.int .i64 y.k, .int .i64 y.n, .string y.t, .slice co cm cc] 24 (0, 0))) := Lib.hid (alloc_blk (heap_alloc_new w1 _) _)
      have H7 : Hid (((w1.alloc (.cells #[.int .i64 y.k, .int .i64 y.n, .string y.t, .slice co cm cc] 24)).alloc (.cells #[.int .i64 c, .int .i64 (a : Int)] 33)).heap[w1.heap.size + 1]? = some (.cells #[.int .i64 c, .int .i64 (a : Int)] 33 (0, 0))) := Lib.hid (by have := heap_alloc_new (w1.alloc (.cells #[.int .i64 y.k, .int .i64 y.n, .string y.t, .slice co cm cc] 24)) (.cells #[.int .i64 c, .int .i64 (a : Int)] 33); simpa using this)
      have q0 := cell_blk H7.out 0
      have q1 := cell_blk H7.out 1
      go_wp2_with fail
      clear q0 q1
      generalize ((w1.alloc (.cells #[.int .i64 y.k, .int .i64 y.n, .string y.t, .slice co cm cc] 24)).alloc (.cells #[.int .i64 c, .int .i64 (a : Int)] 33)) = w2 at HBZ H5 H7 ⊢
      have HB12 : Hid (Below (w.heap.size + 2) ((w.alloc V0).alloc (.cells #[.int .i64 0, .int .i64 0] 33)) w2) := Lib.hid (by
        have h1 := HB1.out
        have e : ((w.alloc V0).alloc (.cells #[.int .i64 0, .int .i64 0] 33)).heap.size = w.heap.size + 2 := by simp
        rw [e] at h1
        have h2 := h1.size
        rw [e] at h2
        exact h1.trans (HBZ.out.mono h2))
      have C0 := (HB12.out.block _ (by omega)).trans B0.out
      have C1 := (HB12.out.block _ (by omega)).trans B1.out
      have HW : Hid (Below w.heap.size w w2) := Lib.hid (HBB.out.trans (HB12.out.mono (by omega)))
      have hge : w.heap.size + 2 ≤ w1.heap.size := by have := HB1.out.size; simpa using this
      have f0 := free_blk C0 0; have f1 := free_blk C0 1; have f2 := free_blk C0 2; have f3 := free_blk C0 3
      have k0 := free_blk C1 0; have k1 := free_blk C1 1; have k2 := cell_blk C1 0; have k3 := cell_blk C1 1
      obtain ⟨g0, g1, g2, g3⟩ := vb4 C0
      obtain ⟨m1, d1, m2, e0, e1⟩ := set24_33 w2 w.heap.size (.int .i64 0) (.int .i64 0) (.string ⟨#[]⟩) (.slice none 0 0) (.int .i64 c) (.int .i64 (a : Int)) C0 C1
      obtain ⟨b7, hb7⟩ : ∃ b7, b7 = w1.heap.size + 1 := ⟨_, rfl⟩
      rw [← hb7] at H7 ⊢
      have M2 := Lib.hid m2
      have E0 := Lib.hid e0
      have E1 := Lib.hid e1
      have S0 := Lib.hid (⟨cell_blk H7.out 0, cell_blk H7.out 1⟩ : _ ∧ _)
      have h71 := m1.blk H7.out (fun e => by have h3 : b7 = w.heap.size := e; omega)
      have h72 := m2.blk H7.out (fun e => by rcases e with e | e <;> omega)
      have S1 := Lib.hid (⟨cell_drew h71 0, cell_drew h71 1⟩ : _ ∧ _)
      have S2 := Lib.hid (⟨cell_drew h72 0, cell_drew h72 1⟩ : _ ∧ _)
      clear m1 d1 m2 e0 e1 h71 h72 C0 C1 hb7
      refine wp_region_noPanic ?_
      refine wp_region_held_drew (S := (fun V => V.cell? ⟨b7, 0, none⟩ = some (.int .i64 c) ∧ V.cell? ⟨b7, 1, none⟩ = some (.int .i64 a))) (by kernel_rfl) (by exact S0.out) (fun hHeld => ?_)
      refine wpAnyH_take (i := 0) (oi := ?o0) (v := ?v0) ?hi0 (by kernel_rfl) (by kernel_rfl) (by kernel_rfl) (fun _ _ _ h => h) ?hy0 (by assumption) ?rest0
      case hi0 => simp only [gA, gZ]; rfl
      case hy0 =>
        refine Or.inl ⟨by rfl, ?_⟩
        intro w hSw; (try dsimp only at hSw); go_simp <;> (with_reducible rfl)
      (try simp only [Act.put, pA, pZ, pS])
      refine wpAnyH_take (i := 1) (oi := ?o1) (v := ?v1) ?hi1 (by kernel_rfl) (by kernel_rfl) (by kernel_rfl) (fun _ _ _ h => h) ?hy1 (by assumption) ?rest1
      case hi1 => simp only [gA, gS, gZ]; rfl
      case hy1 =>
        refine Or.inl ⟨by rfl, ?_⟩
        intro w hSw; (try dsimp only at hSw); go_simp <;> (with_reducible rfl)
      (try simp only [Act.put, pA, pZ, pS])
      refine wpAnyH_ready (rs := [2]) (by kernel_rfl) (by simp) ?_
      refine AllReadyH.cons rfl (fun K hK => ?_) AllReadyH.nil
      go_simp
      skip
      refine hK.out _ _ S1.out (fun hHeld2 => ?_)
      clear hK K
      (try simp only [Act.put, pA, pZ, pS])
      refine wpAnyH_take (i := 3) (oi := ?o3) (v := ?v3) ?hi3 (by kernel_rfl) (by kernel_rfl) (by kernel_rfl) (fun _ _ _ h => h) ?hy3 (by assumption) ?rest3
      case hi3 => simp only [gA, gS, gZ]; rfl
      case hy3 =>
        refine Or.inl ⟨by rfl, ?_⟩
        intro w hSw; (try dsimp only at hSw); go_simp <;> (with_reducible rfl)
      (try simp only [Act.put, pA, pZ, pS])
      refine wpAnyH_ready (rs := [4]) (by kernel_rfl) (by simp) ?_
      refine AllReadyH.cons rfl (fun K hK => ?_) AllReadyH.nil
      go_simp
      skip
      refine hK.out _ _ S2.out (fun hHeld4 => ?_)
      clear hK K
      (try simp only [Act.put, pA, pZ, pS])
      refine wpAnyH_done (by kernel_rfl) ?_ _
      refine NoPanic.normal ?_
      go_wp2_with fail
      obtain ⟨z0, z1, z2, z3⟩ := vb4 E0.out
      have q0 := cell_blk E1.out 0
      have q1 := cell_blk E1.out 1
      exact bodyPost_ret (v := .tuple #[VT.v (.mk 0 0 ⟨#[]⟩ []) (.slice none 0 0), .slice none 0 0, .agg #[.int .i64 c, .int .i64 (a : Int)]]) (by simp [results, Tryz.results19, go_sem, VT.v, VT.k, VT.n, VT.t, z0, z1, z2, z3, q0, q1]) rfl ⟨(mod_below HW.out M2.out HW.out.size (fun k e => by rcases e with e | e <;> omega)).drew, rfl⟩
    · go_enter Tryz.func19, Tryz.ntmps19
      go_wp2_with fail
      refine HR.mono ?_
      rintro e w1 ⟨hb, co, cm, cc, ao, cap, ths, rfl, hvt, hown, hval, htp⟩
      have HB1 := Lib.hid hb
      have HVT := Lib.hid hvt
      have HOW := Lib.hid hown
      have HVL := Lib.hid hval
      have HTP := Lib.hid htp
      clear HR hb hvt hown hval htp
      simp only [VT.v]
      have HBZ : Hid (Below w1.heap.size w1 ((w1.alloc (.cells #[.int .i64 y.k, .int .i64 y.n, .string y.t, .slice co cm cc] 24)).alloc (.cells #[.int .i64 0, .int .i64 0] 33))) := Lib.hid (((Below.refl _ w1).alloc (Nat.le_refl _) _).alloc (by simp) _)
      have H5 : Hid (((w1.alloc (.cells #[.int .i64 y.k, .int .i64 y.n, .string y.t, .slice co cm cc] 24)).alloc (.cells #[.int .i64 0, .int .i64 0] 33)).heap[w1.heap.size]? = some (.cells #[.int .i64 y.k, .int .i64 y.n, .string y.t, .slice co cm cc] 24 (0, 0))) := Lib.hid (alloc_blk (heap_alloc_new w1 _) _)
      have H7 : Hid (((w1.alloc (.cells #[.int .i64 y.k, .int .i64 y.n, .string y.t, .slice co cm cc] 24)).alloc (.cells #[.int .i64 0, .int .i64 0] 33)).heap[w1.heap.size + 1]? = some (.cells #[.int .i64 0, .int .i64 0] 33 (0, 0))) := Lib.hid (by have := heap_alloc_new (w1.alloc (.cells #[.int .i64 y.k, .int .i64 y.n, .string y.t, .slice co cm cc] 24)) (.cells #[.int .i64 0, .int .i64 0] 33); simpa using this)
      have q0 := cell_blk H7.out 0
      have q1 := cell_blk H7.out 1
      go_wp2_with fail
      clear q0 q1
      generalize ((w1.alloc (.cells #[.int .i64 y.k, .int .i64 y.n, .string y.t, .slice co cm cc] 24)).alloc (.cells #[.int .i64 0, .int .i64 0] 33)) = w2 at HBZ H5 H7 ⊢
      have HB12 : Hid (Below (w.heap.size + 2) ((w.alloc V0).alloc (.cells #[.int .i64 0, .int .i64 0] 33)) w2) := Lib.hid (by
        have h1 := HB1.out
        have e : ((w.alloc V0).alloc (.cells #[.int .i64 0, .int .i64 0] 33)).heap.size = w.heap.size + 2 := by simp
        rw [e] at h1
        have h2 := h1.size
        rw [e] at h2
        exact h1.trans (HBZ.out.mono h2))
      have C0 := (HB12.out.block _ (by omega)).trans B0.out
      have C1 := (HB12.out.block _ (by omega)).trans B1.out
      have HW : Hid (Below w.heap.size w w2) := Lib.hid (HBB.out.trans (HB12.out.mono (by omega)))
      have hge : w.heap.size + 2 ≤ w1.heap.size := by have := HB1.out.size; simpa using this
      have f0 := free_blk C0 0; have f1 := free_blk C0 1; have f2 := free_blk C0 2; have f3 := free_blk C0 3
      have k0 := free_blk C1 0; have k1 := free_blk C1 1; have k2 := cell_blk C1 0; have k3 := cell_blk C1 1
      obtain ⟨g0, g1, g2, g3⟩ := vb4 C0
      obtain ⟨m1, d1, m2, e0, e1⟩ := set24_33 w2 w.heap.size (.int .i64 y.k) (.int .i64 y.n) (.string y.t) (.slice co cm cc) (.int .i64 0) (.int .i64 0) C0 C1
      obtain ⟨b5, hb5⟩ : ∃ b5, b5 = w1.heap.size := ⟨_, rfl⟩
      have HVT2 := Lib.hid (HVT.out.under HBZ.out)
      have HOW2 : Hid (Owns w2 48 2 (.slice ao ths.length cap) (ths.map Th.row)) := Lib.hid (HOW.out.kept fun g e => HBZ.out.block g (HOW.out.lt e))
      have HVL2 : Hid (∀ t ∈ ths, VT64 w2 t.c t.xs) := Lib.hid (fun t ht => (HVL.out t ht).under HBZ.out)
      rw [← hb5] at H5 H7 ⊢
      have N64 : Hid (∀ g, g = w.heap.size ∨ g = w.heap.size + 1 → ¬ B64 w2 g) := Lib.hid (fun g e => by
        rcases e with rfl | rfl
        · exact blk_no64 C0 (by decide)
        · exact blk_no64 C1 (by decide))
      have N48 : Hid (∀ g, (Value.slice ao ths.length cap).ownBlock = some g → ¬ (g = w.heap.size ∨ g = w.heap.size + 1)) := Lib.hid (fun g e h => by
        obtain ⟨cur, hc⟩ := owns_blk HOW2.out e
        rcases h with rfl | rfl
        · rw [C0] at hc; cases hc
        · rw [C1] at hc; cases hc)
      have M2 := Lib.hid m2
      have E0 := Lib.hid e0
      have E1 := Lib.hid e1
      have six : ∀ {V : World}, V.heap[b5]? = some (.cells #[.int .i64 y.k, .int .i64 y.n, .string y.t, .slice co cm cc] 24 (0, 0)) → V.heap[b5 + 1]? = some (.cells #[.int .i64 0, .int .i64 0] 33 (0, 0)) → V.cell? ⟨b5, 0, none⟩ = some (.int .i64 y.k) ∧ V.cell? ⟨b5, 1, none⟩ = some (.int .i64 y.n) ∧ V.cell? ⟨b5, 2, none⟩ = some (.string y.t) ∧ V.cell? ⟨b5, 3, none⟩ = some (.slice co cm cc) ∧ V.cell? ⟨b5 + 1, 0, none⟩ = some (.int .i64 0) ∧ V.cell? ⟨b5 + 1, 1, none⟩ = some (.int .i64 0) := fun h1 h2 =>
        ⟨cell_blk h1 0, cell_blk h1 1, cell_blk h1 2, cell_blk h1 3, cell_blk h2 0, cell_blk h2 1⟩
      have S0 := Lib.hid (six H5.out H7.out)
      have drw : ∀ {V : World} {k : Nat} {o : Obj}, V.heap[k]? = some o → V.drew.heap[k]? = some o := fun h => h
      have S1 := Lib.hid (six (drw (m1.blk H5.out (fun e => by have h3 : b5 = w.heap.size := e; omega))) (drw (m1.blk H7.out (fun e => by have h3 : b5 + 1 = w.heap.size := e; omega))))
      have S2 := Lib.hid (six (drw (m2.blk H5.out (fun e => by rcases e with e | e <;> omega))) (drw (m2.blk H7.out (fun e => by rcases e with e | e <;> omega))))
      clear m1 d1 m2 e0 e1 C0 C1 hb5 six drw
      refine wp_region_noPanic ?_
      refine wp_region_held_drew (S := (fun V => V.cell? ⟨b5, 0, none⟩ = some (.int .i64 y.k) ∧ V.cell? ⟨b5, 1, none⟩ = some (.int .i64 y.n) ∧ V.cell? ⟨b5, 2, none⟩ = some (.string y.t) ∧ V.cell? ⟨b5, 3, none⟩ = some (.slice co cm cc) ∧ V.cell? ⟨b5 + 1, 0, none⟩ = some (.int .i64 0) ∧ V.cell? ⟨b5 + 1, 1, none⟩ = some (.int .i64 0))) (by kernel_rfl) (by exact S0.out) (fun hHeld => ?_)
      refine wpAnyH_take (i := 0) (oi := ?ok0) (v := ?vk0) ?hik0 (by kernel_rfl) (by kernel_rfl) (by kernel_rfl) (fun _ _ _ h => h) ?hyk0 (by assumption) ?restk0
      case hik0 => simp only [gA, gZ]; rfl
      case hyk0 =>
        refine Or.inl ⟨by rfl, ?_⟩
        intro w hSw; (try dsimp only at hSw); go_simp <;> (with_reducible rfl)
      (try simp only [Act.put, pA, pZ, pS])
      refine wpAnyH_take (i := 1) (oi := ?ok1) (v := ?vk1) ?hik1 (by kernel_rfl) (by kernel_rfl) (by kernel_rfl) (fun _ _ _ h => h) ?hyk1 (by assumption) ?restk1
      case hik1 => simp only [gA, gS, gZ]; rfl
      case hyk1 =>
        refine Or.inl ⟨by rfl, ?_⟩
        intro w hSw; (try dsimp only at hSw); go_simp <;> (with_reducible rfl)
      (try simp only [Act.put, pA, pZ, pS])
      refine wpAnyH_take (i := 2) (oi := ?ok2) (v := ?vk2) ?hik2 (by kernel_rfl) (by kernel_rfl) (by kernel_rfl) (fun _ _ _ h => h) ?hyk2 (by assumption) ?restk2
      case hik2 => simp only [gA, gS, gZ]; rfl
      case hyk2 =>
        refine Or.inl ⟨by rfl, ?_⟩
        intro w hSw; (try dsimp only at hSw); go_simp <;> (with_reducible rfl)
      (try simp only [Act.put, pA, pZ, pS])
      refine wpAnyH_ready (rs := [3]) (by kernel_rfl) (by simp) ?_
      refine AllReadyH.cons rfl (fun K hK => ?_) AllReadyH.nil
      go_simp
      skip
      refine hK.out _ _ S1.out (fun hHeldk3 => ?_)
      clear hK K
      (try simp only [Act.put, pA, pZ, pS])
      refine wpAnyH_take (i := 4) (oi := ?ok4) (v := ?vk4) ?hik4 (by kernel_rfl) (by kernel_rfl) (by kernel_rfl) (fun _ _ _ h => h) ?hyk4 (by assumption) ?restk4
      case hik4 => simp only [gA, gS, gZ]; rfl
      case hyk4 =>
        refine Or.inl ⟨by rfl, ?_⟩
        intro w hSw; (try dsimp only at hSw); go_simp <;> (with_reducible rfl)
      (try simp only [Act.put, pA, pZ, pS])
      refine wpAnyH_ready (rs := [5]) (by kernel_rfl) (by simp) ?_
      refine AllReadyH.cons rfl (fun K hK => ?_) AllReadyH.nil
      go_simp
      skip
      refine hK.out _ _ S2.out (fun hHeldk5 => ?_)
      clear hK K
      (try simp only [Act.put, pA, pZ, pS])
      refine wpAnyH_done (by kernel_rfl) ?_ _
      refine NoPanic.normal ?_
      go_wp2_with fail
      obtain ⟨z0, z1, z2, z3⟩ := vb4 E0.out
      have q0 := cell_blk E1.out 0
      have q1 := cell_blk E1.out 1
      have M3 := M2.out.trans (Mod.of_below (F := fun k => k = w.heap.size ∨ k = w.heap.size + 1) (Below.refl _ _).drew)
      exact bodyPost_ret (v := .tuple #[y.v (.slice co cm cc), .slice ao ths.length cap, .agg #[.int .i64 0, .int .i64 0]]) (by simp [results, Tryz.results19, go_sem, VT.v, z0, z1, z2, z3, q0, q1]) rfl ⟨(mod_below HW.out M2.out HW.out.size (fun k e => by rcases e with e | e <;> omega)).drew, co, cm, cc, ao, cap, ths, rfl, VT64.mod HVT2.out M3 N64.out, Owns.mod HOW2.out M3 N48.out, fun t ht => VT64.mod (HVL2.out t ht) M3 N64.out, HTP.out⟩
end Go.Proofs.YtnaefnojmiolbaaGreatDoor
