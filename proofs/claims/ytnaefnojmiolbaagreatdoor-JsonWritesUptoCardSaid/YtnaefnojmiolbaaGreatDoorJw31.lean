/-
  JSON: values at every depth.
  JSON: the walk of Decode (printed by genJDecZ.py).
  JSON: what was read may be, and can be said; a fault's place lies within the text. Of no program.
-/
import Derived.Test.YtnaefnojmiolbaaGreatDoorJw30
import Derived.Test.YtnaefnojmiolbaaGreatDoorJw6
import Derived.Test.YtnaefnojmiolbaaGreatDoorJw11
namespace Go.Proofs.YtnaefnojmiolbaaGreatDoor
open Go.RowKit Go.Shelf Go.Maps

attribute [local go_sem] yld_undef Oper.semAt_some
set_option maxRecDepth 100000 in
set_option maxHeartbeats 1600000 in
theorem jlst_deep {r : Nat} {s : ByteArray} {fw fa : Int} : JLst r s fw fa 64 none := by
  intro obj w vb p m h hv hne h6 hp
  have hx : jlistP s obj none p m = .error (4, p) := rfl
  rw [hx]
  have hb1 : Below w.heap.size w (w.alloc (.cells #[.pointer (some ⟨vb, 0, none⟩)] 69)) := below_alloc1 w _
  have HJ := Lib.hid (h.under hb1)
  obtain ⟨c0, c1, -, -, -⟩ := HJ.out.cells
  have HB := Lib.hid hb1
  clear h hv hne h6 hp hb1 hx
  refine callsIn_wide.1 (callsIn_of_wp_marks (F := Fence.wide) (n := 5) Tryz.func69 rfl trivial ?_ rfl)
  refine wpIn_wide.2 ?_
  simp only [Tryz.ntmps69, List.size_toArray, List.length_cons, List.length_nil, Nat.reduceAdd, Nat.reduceSub, Array.replicate_succ, Array.replicate_zero, List.push_toArray, List.append_toArray, List.nil_append, List.cons_append]
  go_wp2_with fail
  refine (jfail_any 4 p HJ.out).mono ?_
  rintro _ w2 ⟨rfl, hj2, hm2⟩
  have HF := Lib.hid (⟨hj2, (Mod.of_below (F := JV2 r vb) HB.out).trans hm2.j1⟩ : _ ∧ _)
  clear hj2 hm2
  go_wp2_with fail
  exact ⟨.bool false, by simp [results, Tryz.results69, go_sem], ⟨_, rfl, rfl⟩, ⟨_, _, HF.out.1⟩, HF.out.2⟩
theorem jlst_of {r : Nat} {s : ByteArray} {fw fa : Int} {val : JValF} {n : Int} (hn0 : 0 ≤ n) (hn1 : n < 64) (HV : JVal r s fw fa (n + 1) val) (hok : JOk s val) : JLst r s fw fa n (some val) := by
  intro obj w vb p m h hv hne h6 hp
  exact jitems_any obj hn0 hn1 h hv hne h6 hp HV hok
theorem jdepth_any {r : Nat} {s : ByteArray} {fw fa : Int} : ∀ d : Nat, d ≤ 64 → JVal r s fw fa (64 - (d : Int)) (jdepth s d)
  | 0, _ => jval_any jlst_deep
  | d + 1, hd => by
    refine jval_any (jlst_of (by omega) (by omega) ?_ (jdepth_ok d))
    have h := jdepth_any (r := r) (s := s) (fw := fw) (fa := fa) d (by omega)
    rw [show (64 : Int) - ((d + 1 : Nat) : Int) + 1 = 64 - (d : Int) by omega]
    exact h
end Go.Proofs.YtnaefnojmiolbaaGreatDoor

namespace Go.Proofs.YtnaefnojmiolbaaGreatDoor
open Go.RowKit Go.Shelf Go.Maps

attribute [local go_sem] yld_undef
/-- What stands behind the value. -/
def dendP (s : ByteArray) (u : JV VT) : Except ER VT := match u with
  | .error e => .error e
  | .ok (y, p, _) => if blankE s p < s.size then .error (7, blankE s p) else .ok y
/-- What Decode leaves. -/
def DecPost (w : World) (x : Except ER VT) (e : Ending) (w' : World) : Prop :=
  Below w.heap.size w w' ∧ match x with
  | .error (c, a) => e = .returned (.tuple #[VT.v (.mk 0 0 ⟨#[]⟩ []) (.slice none 0 0), .agg #[.int .i64 c, .int .i64 a]])
  | .ok y => ∃ co cc, e = .returned (.tuple #[y.v (.slice co y.xs.length cc), .agg #[.int .i64 0, .int .i64 0]]) ∧ VT64 w' (.slice co y.xs.length cc) y.xs
theorem mod_below' {w W0 w1 : World} {F : Nat → Prop} {g : Nat} (h : Below g w W0) (m : Mod F W0 w1) (hg : g ≤ W0.heap.size) (hF : ∀ k, F k → g ≤ k) : Below g w w1 :=
  ⟨m.os.trans h.os, m.tape.trans h.tape, m.output.trans h.output, Nat.le_trans h.size m.size, fun k hk => (m.block k (by omega) (fun e => by have := hF k e; omega)).trans (h.block k hk)⟩
abbrev st24 (W : World) (S : Nat) (k n : Int) (t : ByteArray) (v : Value) : World := (((W.setCell ⟨S, 0, none⟩ (.int .i64 k)).setCell ⟨S, 1, none⟩ (.int .i64 n)).setCell ⟨S, 2, none⟩ (.string t)).setCell ⟨S, 3, none⟩ v
abbrev st33 (W : World) (S : Nat) (c a : Int) : World := (W.setCell ⟨S + 1, 0, none⟩ (.int .i64 c)).setCell ⟨S + 1, 1, none⟩ (.int .i64 a)
theorem st24_mod (W : World) (S : Nat) (k n : Int) (t : ByteArray) (v : Value) : Mod (fun k => k = S ∨ k = S + 1) W (st24 W S k n t v) :=
  ((((Mod.refl _ W).setCell _ _ (fun _ => .inl rfl)).setCell _ _ (fun _ => .inl rfl)).setCell _ _ (fun _ => .inl rfl)).setCell _ _ (fun _ => .inl rfl)
theorem st33_mod (W : World) (S : Nat) (c a : Int) : Mod (fun k => k = S ∨ k = S + 1) W (st33 W S c a) :=
  ((Mod.refl _ W).setCell _ _ (fun _ => .inr rfl)).setCell _ _ (fun _ => .inr rfl)
theorem st24_blk {W : World} {S : Nat} {a0 a1 a2 a3 : Value} (h : W.heap[S]? = some (.cells #[a0, a1, a2, a3] 24 (0, 0))) (k n : Int) (t : ByteArray) (v : Value) : (st24 W S k n t v).heap[S]? = some (.cells #[.int .i64 k, .int .i64 n, .string t, v] 24 (0, 0)) := (st4 h _ _ _ _).2.2.2.2.1
theorem st24_oth {W : World} {S j : Nat} {o : Obj} (h : W.heap[j]? = some o) (hj : j ≠ S) (k n : Int) (t : ByteArray) (v : Value) : (st24 W S k n t v).heap[j]? = some o :=
  (((((Mod.refl (fun x => x = S) W).setCell ⟨S, 0, none⟩ (.int .i64 k) (fun _ => rfl)).setCell ⟨S, 1, none⟩ (.int .i64 n) (fun _ => rfl)).setCell ⟨S, 2, none⟩ (.string t) (fun _ => rfl)).setCell ⟨S, 3, none⟩ v (fun _ => rfl)).blk h hj
theorem st33_blk {W : World} {S : Nat} {a0 a1 : Value} (h : W.heap[S + 1]? = some (.cells #[a0, a1] 33 (0, 0))) (c a : Int) : (st33 W S c a).heap[S + 1]? = some (.cells #[.int .i64 c, .int .i64 a] 33 (0, 0)) := by
  have := set_blk (set_blk h 0 (.int .i64 c)) 1 (.int .i64 a)
  simpa using this
theorem st33_oth {W : World} {S j : Nat} {o : Obj} (h : W.heap[j]? = some o) (hj : j ≠ S + 1) (c a : Int) : (st33 W S c a).heap[j]? = some o :=
  (((Mod.refl (fun x => x = S + 1) W).setCell ⟨S + 1, 0, none⟩ (.int .i64 c) (fun _ => rfl)).setCell ⟨S + 1, 1, none⟩ (.int .i64 a) (fun _ => rfl)).blk h hj
theorem two_st1 {W : World} {S : Nat} {a0 a1 a2 a3 b0 b1 : Value} (h0 : W.heap[S]? = some (.cells #[a0, a1, a2, a3] 24 (0, 0))) (h1 : W.heap[S + 1]? = some (.cells #[b0, b1] 33 (0, 0))) (c a : Int) :
    (st33 (st24 W S 0 0 ⟨#[]⟩ (.slice none 0 0)) S c a).heap[S]? = some V0 ∧ (st33 (st24 W S 0 0 ⟨#[]⟩ (.slice none 0 0)) S c a).heap[S + 1]? = some (.cells #[.int .i64 c, .int .i64 a] 33 (0, 0)) ∧ Mod (fun k => k = S ∨ k = S + 1) W (st33 (st24 W S 0 0 ⟨#[]⟩ (.slice none 0 0)) S c a) :=
  ⟨st33_oth (st24_blk h0 _ _ _ _) (by omega) _ _, st33_blk (st24_oth h1 (by omega) _ _ _ _) _ _, (st24_mod _ _ _ _ _ _).trans (st33_mod _ _ _ _)⟩
theorem keep_cell {W W' : World} {S : Nat} (m : Mod (fun k => k = S ∨ k = S + 1) W W') {i : Nat} {v : Value} (h : W.cell? ⟨S + 1 + 1, i, none⟩ = some v) : W'.cell? ⟨S + 1 + 1, i, none⟩ = some v :=
  (m.cell (cell_lt h) (fun e => by have e : S + 1 + 1 = S ∨ S + 1 + 1 = S + 1 := e; omega)).trans h
/-- The reader's fault stands behind each of the two stores. -/
theorem keep_st (W : World) (S : Nat) (c a : Int) (h3 : W.cell? ⟨S + 1 + 1, 3, none⟩ = some (.int .i64 c)) (h4 : W.cell? ⟨S + 1 + 1, 4, none⟩ = some (.int .i64 a)) :
    Hid (((st24 W S 0 0 ⟨#[]⟩ (.slice none 0 0)).drew.cell? ⟨S + 1 + 1, 3, none⟩ = some (.int .i64 c) ∧ (st24 W S 0 0 ⟨#[]⟩ (.slice none 0 0)).drew.cell? ⟨S + 1 + 1, 4, none⟩ = some (.int .i64 a)) ∧
      ((st33 (st24 W S 0 0 ⟨#[]⟩ (.slice none 0 0)) S c a).drew.cell? ⟨S + 1 + 1, 3, none⟩ = some (.int .i64 c) ∧ (st33 (st24 W S 0 0 ⟨#[]⟩ (.slice none 0 0)) S c a).drew.cell? ⟨S + 1 + 1, 4, none⟩ = some (.int .i64 a))) := by
  have m1 := st24_mod W S 0 0 ⟨#[]⟩ (.slice none 0 0)
  have m2 := m1.trans (st33_mod (st24 W S 0 0 ⟨#[]⟩ (.slice none 0 0)) S c a)
  exact Lib.hid ⟨⟨keep_cell m1.drew h3, keep_cell m1.drew h4⟩, keep_cell m2.drew h3, keep_cell m2.drew h4⟩
set_option maxHeartbeats 6400000 in
set_option maxRecDepth 100000 in
theorem decode_any (s : ByteArray) (hz : s.size ≤ 140737488355328) (w : World) (ht : Tabs w) : Calls Tryz.prog 12 #[.string s] w (DecPost w (decodeP s)) := by
  obtain ⟨x, hx⟩ : ∃ x, x = decodeP s := ⟨_, rfl⟩
  rw [← hx]
  unfold decodeP at hx
  by_cases hs : 65536 < s.size
  · rw [if_pos hs] at hx
    subst hx
    have hi : (65536 : Int) < (s.size : Int) := by omega
    go_enter Tryz.func12, Tryz.ntmps12
    go_wp2_with fail
    have hb : Below w.heap.size w ((w.alloc V0).alloc (.cells #[.int .i64 2, .int .i64 0] 33)) := ((Below.refl _ w).alloc (Nat.le_refl _) _).alloc (by simp) _
    have b0 : ((w.alloc V0).alloc (.cells #[.int .i64 2, .int .i64 0] 33)).heap[w.heap.size]? = some V0 := alloc_blk (heap_alloc_new w _) _
    have b1 : ((w.alloc V0).alloc (.cells #[.int .i64 2, .int .i64 0] 33)).heap[w.heap.size + 1]? = some (.cells #[.int .i64 2, .int .i64 0] 33 (0, 0)) := by have := heap_alloc_new (w.alloc V0) (.cells #[.int .i64 2, .int .i64 0] 33); simpa using this
    obtain ⟨z0, z1, z2, z3⟩ := vb4 b0
    have q0 := cell_blk b1 0
    have q1 := cell_blk b1 1
    exact bodyPost_ret (v := .tuple #[VT.v (.mk 0 0 ⟨#[]⟩ []) (.slice none 0 0), .agg #[.int .i64 2, .int .i64 0]]) (by simp [results, Tryz.results12, go_sem, VT.v, VT.k, VT.n, VT.t, z0, z1, z2, z3, q0, q1]) rfl ⟨hb, rfl⟩
  · have hx2 : x = dendP s (jdepth s 64 (blankE s 0) 0) := by
      rw [if_neg hs] at hx
      exact hx
    have HX := Lib.hid hx2
    clear hx hx2
    have hi : ¬ (65536 : Int) < (s.size : Int) := by omega
    have h6 := ht.lt
    obtain ⟨w1, hw1⟩ : ∃ w1, w1 = ((w.alloc V0).alloc (.cells #[.int .i64 0, .int .i64 0] 33)).alloc (.cells #[.string s, .int .i64 0, .int .i64 0, .int .i64 0, .int .i64 0] 67) := ⟨_, rfl⟩
    have hb1 : Below w.heap.size w w1 := hw1 ▸ (((Below.refl _ w).alloc (Nat.le_refl _) _).alloc (by simp) _).alloc (by simp; omega) _
    have b0 : w1.heap[w.heap.size]? = some V0 := hw1 ▸ alloc_blk (alloc_blk (heap_alloc_new w _) _) _
    have b1 : w1.heap[w.heap.size + 1]? = some (.cells #[.int .i64 0, .int .i64 0] 33 (0, 0)) := hw1 ▸ alloc_blk (by have := heap_alloc_new (w.alloc V0) (.cells #[.int .i64 0, .int .i64 0] 33); simpa using this) _
    have b2 : w1.heap[w.heap.size + 1 + 1]? = some (.cells #[.string s, .int .i64 0, .int .i64 0, .int .i64 0, .int .i64 0] 67 (0, 0)) := by
      rw [hw1]
      have := heap_alloc_new ((w.alloc V0).alloc (.cells #[.int .i64 0, .int .i64 0] 33)) (.cells #[.string s, .int .i64 0, .int .i64 0, .int .i64 0, .int .i64 0] 67)
      simpa using this
    have hj1 : Jd w1 (w.heap.size + 1 + 1) s 0 0 0 0 := ⟨b2, Nat.zero_le _, by omega, Nat.le_refl _, ht.mono hb1, by omega⟩
    have HBK := blanks_any hj1
    have H1 := Lib.hid (⟨hb1, b0, b1, hj1⟩ : _ ∧ _ ∧ _ ∧ _)
    have H6 := Lib.hid h6
    clear hb1 b0 b1 b2 hj1 ht hs h6
    go_enter Tryz.func12, Tryz.ntmps12
    go_wp2_with fail
    rw [hw1] at HBK
    refine HBK.mono ?_
    rw [← hw1]
    rintro _ w2 ⟨rfl, hj2, hm2⟩
    have hb2 : Below w.heap.size w w2 := mod_below' H1.out.1 hm2 H1.out.1.size (fun k e => by have e : k = w.heap.size + 1 + 1 := e; omega)
    have hs2 : w.heap.size + 3 ≤ w2.heap.size := by have := lt_of_block hj2.blk; omega
    have HC := jdepth_any (r := w.heap.size + 2) (s := s) (fw := 0) (fa := 0) 64 (Nat.le_refl _) (w2.alloc (.cells #[.int .i64 0, .int .i64 0, .string ⟨#[]⟩, .slice none 0 0] 24)) w2.heap.size (blankE s 0) 0 (hj2.under (below_alloc1 _ _)) ⟨_, _, _, _, heap_alloc_new _ _⟩ (by omega) (by have := H6.out; omega)
    rw [show (64 : Int) - ((64 : Nat) : Int) = 0 by decide] at HC
    have H2 := Lib.hid (⟨hb2, hm2.blk H1.out.2.1 (fun e => by have e : w.heap.size = w.heap.size + 1 + 1 := e; omega), hm2.blk H1.out.2.2.1 (fun e => by have e : w.heap.size + 1 = w.heap.size + 1 + 1 := e; omega), hs2⟩ : _ ∧ _ ∧ _ ∧ _)
    obtain ⟨u, hu⟩ : ∃ u, u = jdepth s 64 (blankE s 0) 0 := ⟨_, rfl⟩
    rw [← hu] at HC
    have HX2 : Hid (x = dendP s u) := Lib.hid (by rw [hu]; exact HX.out)
    clear hu hj2 hm2 hb2 hs2 HBK HX
    go_wp2_with fail
    refine HC.mono ?_
    rintro e w4 hp
    have hS : ∀ (W : World), Mod (JV2 (w.heap.size + 1 + 1) w2.heap.size) (w2.alloc (.cells #[.int .i64 0, .int .i64 0, .string ⟨#[]⟩, .slice none 0 0] 24)) W → W.heap[w.heap.size]? = some V0 ∧ W.heap[w.heap.size + 1]? = some (.cells #[.int .i64 0, .int .i64 0] 33 (0, 0)) ∧ Below w.heap.size w W := fun W hm => by
      have hs := H2.out.2.2.2
      refine ⟨hm.blk (alloc_blk H2.out.2.1 _) (fun e => by rcases e with e | e <;> omega), hm.blk (alloc_blk H2.out.2.2.1 _) (fun e => by rcases e with e | e <;> omega), mod_below' (H2.out.1.trans ((below_alloc1 w2 _).mono H2.out.1.size)) hm (by have := H2.out.1.size; simp; omega) (fun k e => by rcases e with e | e <;> omega)⟩
    have HSS := Lib.hid hS
    clear hS HC
    rcases u with ⟨c, a⟩ | ⟨y, p, m⟩
    · have hxe : x = .error (c, a) := HX2.out
      subst hxe
      obtain ⟨⟨_, rfl, rfl⟩, ⟨p4, m4, hj4⟩, hm4⟩ := hp
      obtain ⟨g0, g1, g2⟩ := HSS.out _ hm4
      have HAB := Lib.hid (⟨g0, g1, hj4⟩ : _ ∧ _ ∧ _)
      have HBW := Lib.hid g2
      clear HX2 hj4 hm4 g0 g1 g2
      obtain ⟨z0, z1, z2, z3⟩ := vb4 HAB.out.1
      have y0 := cell_blk HAB.out.2.1 0
      have y1 := cell_blk HAB.out.2.1 1
      have f0 := free_blk HAB.out.1 0
      have f1 := free_blk HAB.out.1 1
      have f2 := free_blk HAB.out.1 2
      have f3 := free_blk HAB.out.1 3
      have i0 := free_blk HAB.out.2.1 0
      have i1 := free_blk HAB.out.2.1 1
      have HS : Hid (w4.drew.cell? ⟨w.heap.size + 1 + 1, 3, none⟩ = some (.int .i64 c) ∧ w4.drew.cell? ⟨w.heap.size + 1 + 1, 4, none⟩ = some (.int .i64 a)) := Lib.hid ⟨HAB.out.2.2.cells.2.2.2.1, HAB.out.2.2.cells.2.2.2.2⟩
      have HST := keep_st w4 w.heap.size c a HAB.out.2.2.cells.2.2.2.1 HAB.out.2.2.cells.2.2.2.2
      go_wp2_with fail
      refine wp_region_noPanic ?_
      refine wp_region_held_drew (S := (fun X => X.cell? ⟨w.heap.size + 1 + 1, 3, none⟩ = some (.int .i64 c) ∧ X.cell? ⟨w.heap.size + 1 + 1, 4, none⟩ = some (.int .i64 a))) (by kernel_rfl) (by exact HS.out) (fun hHeld => ?_)
      refine wpAnyH_take (i := 0) (oi := ?oa0) (v := ?va0) ?hia0 (by kernel_rfl) (by kernel_rfl) (by kernel_rfl) (fun _ _ _ h => h) ?hya0 (by assumption) ?resta0
      case hia0 => simp only [gA, gZ]; rfl
      case hya0 =>
        refine Or.inl ⟨by rfl, ?_⟩
        intro w hSw; (try dsimp only at hSw); go_simp <;> (with_reducible rfl)
      (try simp only [Act.put, pA, pZ, pS])
      refine wpAnyH_take (i := 1) (oi := ?oa1) (v := ?va1) ?hia1 (by kernel_rfl) (by kernel_rfl) (by kernel_rfl) (fun _ _ _ h => h) ?hya1 (by assumption) ?resta1
      case hia1 => simp only [gA, gS, gZ]; rfl
      case hya1 =>
        refine Or.inl ⟨by rfl, ?_⟩
        intro w hSw; (try dsimp only at hSw); go_simp <;> (with_reducible rfl)
      (try simp only [Act.put, pA, pZ, pS])
      refine wpAnyH_take (i := 2) (oi := ?oa2) (v := ?va2) ?hia2 (by kernel_rfl) (by kernel_rfl) (by kernel_rfl) (fun _ _ _ h => h) ?hya2 (by assumption) ?resta2
      case hia2 => simp only [gA, gS, gZ]; rfl
      case hya2 =>
        refine Or.inl ⟨by rfl, ?_⟩
        intro w hSw; (try dsimp only at hSw); go_simp <;> (with_reducible rfl)
      (try simp only [Act.put, pA, pZ, pS])
      refine wpAnyH_take (i := 3) (oi := ?oa3) (v := ?va3) ?hia3 (by kernel_rfl) (by kernel_rfl) (by kernel_rfl) (fun _ _ _ h => h) ?hya3 (by assumption) ?resta3
      case hia3 => simp only [gA, gS, gZ]; rfl
      case hya3 =>
        refine Or.inl ⟨by rfl, ?_⟩
        intro w hSw; (try dsimp only at hSw); go_simp <;> (with_reducible rfl)
      (try simp only [Act.put, pA, pZ, pS])
      refine wpAnyH_take (i := 4) (oi := ?oa4) (v := ?va4) ?hia4 (by kernel_rfl) (by kernel_rfl) (by kernel_rfl) (fun _ _ _ h => h) ?hya4 (by assumption) ?resta4
      case hia4 => simp only [gA, gS, gZ]; rfl
      case hya4 =>
        refine Or.inl ⟨by rfl, ?_⟩
        intro w hSw; (try dsimp only at hSw); go_simp <;> (with_reducible rfl)
      (try simp only [Act.put, pA, pZ, pS])
      refine wpAnyH_ready (rs := [5]) (by kernel_rfl) (by simp) ?_
      refine AllReadyH.cons rfl (fun K hK => ?_) AllReadyH.nil
      go_simp
      refine hK.out _ _ (HST.out.1) (fun hHeld5 => ?_)
      clear hK K
      (try simp only [Act.put, pA, pZ, pS])
      refine wpAnyH_ready (rs := [6]) (by kernel_rfl) (by simp) ?_
      refine AllReadyH.cons rfl (fun K hK => ?_) AllReadyH.nil
      go_simp
      refine hK.out _ _ (HST.out.2) (fun hHeld6 => ?_)
      clear hK K
      (try simp only [Act.put, pA, pZ, pS])
      refine wpAnyH_done (by kernel_rfl) ?_ _
      refine NoPanic.normal ?_
      go_wp2_with fail
      obtain ⟨b0, b1, mm⟩ := two_st1 (W := w4) (S := w.heap.size) HAB.out.1 HAB.out.2.1 c a
      obtain ⟨z0, z1, z2, z3⟩ := vb4 b0
      have q0 := cell_blk b1 0
      have q1 := cell_blk b1 1
      refine bodyPost_ret (v := .tuple #[VT.v (.mk 0 0 ⟨#[]⟩ []) (.slice none 0 0), .agg #[.int .i64 c, .int .i64 a]]) (by simp [results, Tryz.results12, go_sem, VT.v, VT.k, VT.n, VT.t, z0, z1, z2, z3, q0, q1]) rfl ⟨?_, rfl⟩
      exact (mod_below' HBW.out mm HBW.out.size (fun k e => by rcases e with e | e <;> omega)).drew
    · obtain ⟨⟨rfl, hj4, co, cc, hvb, hvt⟩, hm4⟩ := hp
      obtain ⟨g0, g1, g2⟩ := HSS.out _ hm4
      have HBK := blanks_any hj4
      have H4 := Lib.hid (⟨g0, g1, g2, hvb, hvt, hj4⟩ : _ ∧ _ ∧ _ ∧ _ ∧ _ ∧ _)
      clear hj4 hm4 g0 g1 g2 hvb hvt
      go_wp2_with fail
      refine HBK.mono ?_
      rintro _ w5 ⟨rfl, hj5, hm5⟩
      obtain ⟨q, hq⟩ : ∃ q, q = blankE s p := ⟨_, rfl⟩
      have HQ := Lib.hid hq
      rw [← hq] at hj5
      have hs2 := H2.out.2.2.2
      have H5 := Lib.hid (⟨hm5.blk H4.out.1 (fun e => by have e : w.heap.size = w.heap.size + 1 + 1 := e; omega), hm5.blk H4.out.2.1 (fun e => by have e : w.heap.size + 1 = w.heap.size + 1 + 1 := e; omega), hj5⟩ : _ ∧ _ ∧ _)
      have HBW5 : Hid (Below w.heap.size w w5) := Lib.hid (mod_below' H4.out.2.2.1 hm5 H4.out.2.2.1.size (fun k e => by have e : k = w.heap.size + 1 + 1 := e; omega))
      have HV5 : Hid (w5.heap[w2.heap.size]? = some (VB y (.slice co y.xs.length cc)) ∧ VT64 w5 (.slice co y.xs.length cc) y.xs) := Lib.hid ⟨hm5.blk H4.out.2.2.2.1 (fun e => by have e : w2.heap.size = w.heap.size + 1 + 1 := e; omega), VT64.mod H4.out.2.2.2.2.1 hm5 (fun k e => H4.out.2.2.2.2.2.no64 e)⟩
      obtain ⟨c0, c1, -, -, -⟩ := hj5.cells
      clear hq hj5 hm5 HBK
      by_cases hlt : q < s.size
      · have k1 : (q : Int) < (s.size : Int) := by omega
        have hxe : x = .error (7, q) := by
          rw [HX2.out]; unfold dendP; simp only; rw [← HQ.out, if_pos hlt]
        subst hxe
        have HW : Hid (wrongC s q = 7) := Lib.hid (by unfold wrongC; rw [if_pos hlt])
        clear HX2
        go_wp2_with fail
        refine (jwrong_any H5.out.2.2).mono ?_
        rintro _ w6 ⟨rfl, hj6, hm6⟩
        rw [HW.out] at hj6
        have HAB := Lib.hid (⟨hm6.blk H5.out.1 (fun e => by have e : w.heap.size = w.heap.size + 1 + 1 := e; omega), hm6.blk H5.out.2.1 (fun e => by have e : w.heap.size + 1 = w.heap.size + 1 + 1 := e; omega), hj6⟩ : _ ∧ _ ∧ _)
        have HBW : Hid (Below w.heap.size w w6) := Lib.hid (mod_below' HBW5.out hm6 HBW5.out.size (fun k e => by have e : k = w.heap.size + 1 + 1 := e; omega))
        clear hj6 hm6 c0 c1
        obtain ⟨z0, z1, z2, z3⟩ := vb4 HAB.out.1
        have y0 := cell_blk HAB.out.2.1 0
        have y1 := cell_blk HAB.out.2.1 1
        have f0 := free_blk HAB.out.1 0
        have f1 := free_blk HAB.out.1 1
        have f2 := free_blk HAB.out.1 2
        have f3 := free_blk HAB.out.1 3
        have i0 := free_blk HAB.out.2.1 0
        have i1 := free_blk HAB.out.2.1 1
        have HS : Hid (w6.drew.cell? ⟨w.heap.size + 1 + 1, 3, none⟩ = some (.int .i64 7) ∧ w6.drew.cell? ⟨w.heap.size + 1 + 1, 4, none⟩ = some (.int .i64 q)) := Lib.hid ⟨HAB.out.2.2.cells.2.2.2.1, HAB.out.2.2.cells.2.2.2.2⟩
        have HST := keep_st w6 w.heap.size 7 q HAB.out.2.2.cells.2.2.2.1 HAB.out.2.2.cells.2.2.2.2
        go_wp2_with fail
        refine wp_region_noPanic ?_
        refine wp_region_held_drew (S := (fun X => X.cell? ⟨w.heap.size + 1 + 1, 3, none⟩ = some (.int .i64 7) ∧ X.cell? ⟨w.heap.size + 1 + 1, 4, none⟩ = some (.int .i64 q))) (by kernel_rfl) (by exact HS.out) (fun hHeld => ?_)
        refine wpAnyH_take (i := 0) (oi := ?ob0) (v := ?vb0) ?hib0 (by kernel_rfl) (by kernel_rfl) (by kernel_rfl) (fun _ _ _ h => h) ?hyb0 (by assumption) ?restb0
        case hib0 => simp only [gA, gZ]; rfl
        case hyb0 =>
          refine Or.inl ⟨by rfl, ?_⟩
          intro w hSw; (try dsimp only at hSw); go_simp <;> (with_reducible rfl)
        (try simp only [Act.put, pA, pZ, pS])
        refine wpAnyH_take (i := 1) (oi := ?ob1) (v := ?vb1) ?hib1 (by kernel_rfl) (by kernel_rfl) (by kernel_rfl) (fun _ _ _ h => h) ?hyb1 (by assumption) ?restb1
        case hib1 => simp only [gA, gS, gZ]; rfl
        case hyb1 =>
          refine Or.inl ⟨by rfl, ?_⟩
          intro w hSw; (try dsimp only at hSw); go_simp <;> (with_reducible rfl)
        (try simp only [Act.put, pA, pZ, pS])
        refine wpAnyH_take (i := 2) (oi := ?ob2) (v := ?vb2) ?hib2 (by kernel_rfl) (by kernel_rfl) (by kernel_rfl) (fun _ _ _ h => h) ?hyb2 (by assumption) ?restb2
        case hib2 => simp only [gA, gS, gZ]; rfl
        case hyb2 =>
          refine Or.inl ⟨by rfl, ?_⟩
          intro w hSw; (try dsimp only at hSw); go_simp <;> (with_reducible rfl)
        (try simp only [Act.put, pA, pZ, pS])
        refine wpAnyH_take (i := 3) (oi := ?ob3) (v := ?vb3) ?hib3 (by kernel_rfl) (by kernel_rfl) (by kernel_rfl) (fun _ _ _ h => h) ?hyb3 (by assumption) ?restb3
        case hib3 => simp only [gA, gS, gZ]; rfl
        case hyb3 =>
          refine Or.inl ⟨by rfl, ?_⟩
          intro w hSw; (try dsimp only at hSw); go_simp <;> (with_reducible rfl)
        (try simp only [Act.put, pA, pZ, pS])
        refine wpAnyH_take (i := 4) (oi := ?ob4) (v := ?vb4) ?hib4 (by kernel_rfl) (by kernel_rfl) (by kernel_rfl) (fun _ _ _ h => h) ?hyb4 (by assumption) ?restb4
        case hib4 => simp only [gA, gS, gZ]; rfl
        case hyb4 =>
          refine Or.inl ⟨by rfl, ?_⟩
          intro w hSw; (try dsimp only at hSw); go_simp <;> (with_reducible rfl)
        (try simp only [Act.put, pA, pZ, pS])
        refine wpAnyH_ready (rs := [5]) (by kernel_rfl) (by simp) ?_
        refine AllReadyH.cons rfl (fun K hK => ?_) AllReadyH.nil
        go_simp
        refine hK.out _ _ (HST.out.1) (fun hHeld5 => ?_)
        clear hK K
        (try simp only [Act.put, pA, pZ, pS])
        refine wpAnyH_ready (rs := [6]) (by kernel_rfl) (by simp) ?_
        refine AllReadyH.cons rfl (fun K hK => ?_) AllReadyH.nil
        go_simp
        refine hK.out _ _ (HST.out.2) (fun hHeld6 => ?_)
        clear hK K
        (try simp only [Act.put, pA, pZ, pS])
        refine wpAnyH_done (by kernel_rfl) ?_ _
        refine NoPanic.normal ?_
        go_wp2_with fail
        obtain ⟨b0, b1, mm⟩ := two_st1 (W := w6) (S := w.heap.size) HAB.out.1 HAB.out.2.1 7 q
        obtain ⟨z0, z1, z2, z3⟩ := vb4 b0
        have q0 := cell_blk b1 0
        have q1 := cell_blk b1 1
        refine bodyPost_ret (v := .tuple #[VT.v (.mk 0 0 ⟨#[]⟩ []) (.slice none 0 0), .agg #[.int .i64 7, .int .i64 q]]) (by simp [results, Tryz.results12, go_sem, VT.v, VT.k, VT.n, VT.t, z0, z1, z2, z3, q0, q1]) rfl ⟨?_, rfl⟩
        exact (mod_below' HBW.out mm HBW.out.size (fun k e => by rcases e with e | e <;> omega)).drew
      · have k1 : ¬ (q : Int) < (s.size : Int) := by omega
        have hxe : x = .ok y := by
          rw [HX2.out]; unfold dendP; simp only; rw [← HQ.out, if_neg hlt]
        subst hxe
        clear HX2
        obtain ⟨v0, v1, v2, v3⟩ := vb_cells HV5.out.1
        obtain ⟨z0, z1, z2, z3⟩ := vb4 H5.out.1
        have y0 := cell_blk H5.out.2.1 0
        have y1 := cell_blk H5.out.2.1 1
        have f0 := free_blk H5.out.1 0
        have f1 := free_blk H5.out.1 1
        have f2 := free_blk H5.out.1 2
        have f3 := free_blk H5.out.1 3
        have i0 := free_blk H5.out.2.1 0
        have i1 := free_blk H5.out.2.1 1
        go_wp2_with fail
        have b0 : (st33 (st24 w5 w.heap.size y.k y.n y.t (.slice co y.xs.length cc)) w.heap.size 0 0).heap[w.heap.size]? = some (VB y (.slice co y.xs.length cc)) := st33_oth (st24_blk H5.out.1 _ _ _ _) (by omega) _ _
        have b1 : (st33 (st24 w5 w.heap.size y.k y.n y.t (.slice co y.xs.length cc)) w.heap.size 0 0).heap[w.heap.size + 1]? = some (.cells #[.int .i64 0, .int .i64 0] 33 (0, 0)) := st33_blk (st24_oth H5.out.2.1 (by omega) _ _ _ _) _ _
        have mm := (st24_mod w5 w.heap.size y.k y.n y.t (.slice co y.xs.length cc)).trans (st33_mod (st24 w5 w.heap.size y.k y.n y.t (.slice co y.xs.length cc)) w.heap.size 0 0)
        obtain ⟨n0, n1, n2, n3⟩ := vb_cells b0
        have q0 := cell_blk b1 0
        have q1 := cell_blk b1 1
        refine bodyPost_ret (v := .tuple #[y.v (.slice co y.xs.length cc), .agg #[.int .i64 0, .int .i64 0]]) (by simp [results, Tryz.results12, go_sem, VT.v, n0, n1, n2, n3, q0, q1]) rfl ⟨mod_below' HBW5.out mm HBW5.out.size (fun k e => by rcases e with e | e <;> omega), co, cc, rfl, VT64.mod HV5.out.2 mm (fun k e => ?_)⟩
        rcases e with e | e
        · exact e ▸ no64_vb (vb := w.heap.size) ⟨_, _, _, _, H5.out.1⟩ rfl
        · rintro ⟨cs, fr, hc⟩
          rw [e, H5.out.2.1] at hc
          cases hc
end Go.Proofs.YtnaefnojmiolbaaGreatDoor

namespace Go.Proofs.YtnaefnojmiolbaaGreatDoor
open Go.RowKit

/-- How many items a list has in all. -/
def cntS (l : LS) : Nat := l.xs.length + countL l.xs
/-- A list that was read: it may be, and can be said. -/
structure LJ (e : Int) (l : LS) : Prop where
  ok : l.Ok
  at_ : ∀ x ∈ l.xs, mayV x.2 (e + 1) = true ∧ Lib.validD x.1.t.toList = true ∧ saidV x.2 = true ∧ (GoodS x.2 ∧ x.1.t.size ≤ 1073741824) ∧ (x.1.b = false → 0 ≤ l.nx → x.1.n < l.nx)
theorem LJ.new (e : Int) : LJ e LS.new := ⟨LS.new_ok, by simp [LS.new]⟩
theorem countL_set : ∀ {l : List It} {i : Nat} {x : It}, countL (l.set i x) ≤ countL l + countV x.2
  | [], i, x => by simp [countL]
  | y :: l, 0, x => by rw [List.set_cons_zero, countL_cons, countL_cons]; omega
  | y :: l, i + 1, x => by
    have := countL_set (l := l) (i := i) (x := x)
    rw [List.set_cons_succ, countL_cons, countL_cons]; omega
theorem setN_fit {e : Int} {k : K} {v : VT} {l : LS} (h : LJ e l) (hk : k.Norm) (hkv : Lib.validD k.t.toList = true) (hm : mayV v (e + 1) = true) (hs : saidV v = true) (hg : GoodS v) (hkz : k.t.size ≤ 1073741824) : LJ e (setN k v l).2 ∧ cntS (setN k v l).2 ≤ cntS l + 1 + countV v := by
  have hok := setN_ok (v := v) hk h.ok
  unfold setN at hok ⊢
  cases hf : findK k l.xs with
  | some i =>
    rw [hf] at hok
    simp only at hok ⊢
    have hi := findK_lt hf
    have hat := findK_at hf
    refine ⟨⟨hok, fun x hx => ?_⟩, ?_⟩
    · rcases List.mem_or_eq_of_mem_set hx with hx | rfl
      · exact h.at_ x hx
      · obtain ⟨-, -, -, -, b5⟩ := h.at_ _ (List.getElem_mem hi)
        rw [hat] at b5
        exact ⟨hm, hkv, hs, ⟨hg, hkz⟩, b5⟩
    · have := countL_set (l := l.xs) (i := i) (x := (k, v))
      unfold cntS
      simp only [List.length_set] at this ⊢
      omega
  | none =>
    rw [hf] at hok
    simp only at hok ⊢
    split
    · exact ⟨h, by simp only; omega⟩
    · rename_i hlen
      rw [if_neg hlen] at hok
      refine ⟨⟨hok, fun y hy => ?_⟩, by unfold cntS; simp only [countL_append, countL_cons, List.length_append, List.length_cons, List.length_nil]; simp [countL]; omega⟩
      rcases List.mem_append.1 hy with hy | hy
      · obtain ⟨a1, a2, a3, a4, a5⟩ := h.at_ y hy
        refine ⟨a1, a2, a3, a4, fun e1 e2 => ?_⟩
        have a8 := a5 e1
        simp only at e2 ⊢
        unfold nextP at e2 ⊢
        split
        · rename_i hc
          rw [if_pos hc] at e2
          split
          · rename_i hm; rw [if_pos hm] at e2; omega
          · omega
        · rename_i hc
          rw [if_neg hc] at e2
          exact a8 e2
      · rw [List.mem_singleton.1 hy]
        refine ⟨hm, hkv, hs, ⟨hg, hkz⟩, fun e1 e2 => ?_⟩
        simp only at e1 e2 ⊢
        unfold nextP at e2 ⊢
        split
        · rename_i hc
          rw [if_pos hc] at e2
          split
          · rename_i hm; rw [if_pos hm] at e2; omega
          · omega
        · rename_i hc
          rw [if_neg hc] at e2
          rcases Int.lt_or_le k.n l.nx with hl | hl
          · exact hl
          · exact absurd ⟨e1, e2, hl⟩ hc
theorem nil_valid : Lib.validD (⟨#[]⟩ : ByteArray).toList = true := by rw [ByteArray.toList_eq]; exact Lib.validD_nil
theorem norm_valid {k : K} (h : Lib.validD k.t.toList = true) : Lib.validD k.norm.t.toList = true := by
  unfold K.norm
  split
  · split
    · exact nil_valid
    · exact h
  · exact nil_valid
theorem setP_fit {e : Int} {k : K} {v : VT} {l : LS} (h : LJ e l) (hk : k.Good) (hkv : Lib.validD k.t.toList = true) (hm : mayV v (e + 1) = true) (hs : saidV v = true) (hg : GoodS v) (hkz : k.t.size ≤ 1073741824) : LJ e (setP k v l).2 ∧ cntS (setP k v l).2 ≤ cntS l + 1 + countV v :=
  setN_fit h (K.norm_is hk) (norm_valid hkv) hm hs hg (by unfold K.norm; split <;> first | (split <;> first | exact hkz | (show (⟨#[]⟩ : ByteArray).size ≤ _; decide)) | (show (⟨#[]⟩ : ByteArray).size ≤ _; decide))
theorem appendP_fit {e : Int} {v : VT} {l : LS} (h : LJ e l) (hm : mayV v (e + 1) = true) (hs : saidV v = true) (hg : GoodS v) : LJ e (appendP v l).2 ∧ cntS (appendP v l).2 ≤ cntS l + 1 + countV v := by
  unfold appendP
  split
  · exact ⟨h, by simp only; omega⟩
  · have hk : (K.mk false l.nx ⟨#[]⟩).Good := ⟨by have := h.ok.lo; show _ ≤ l.nx; omega, h.ok.hi, by show (⟨#[]⟩ : ByteArray).size ≤ _; decide⟩
    split
    · exact setP_fit h hk nil_valid hm hs hg (by show (⟨#[]⟩ : ByteArray).size ≤ _; decide)
    · exact setP_fit h hk nil_valid hm hs hg (by show (⟨#[]⟩ : ByteArray).size ≤ _; decide)
/-- What a reading gives may be, can be said, and was counted. -/
def FitJ (s : ByteArray) (e : Int) (val : JValF) : Prop := ∀ p m a, p ≤ s.size → val p m = .ok a → mayV a.1 e = true ∧ saidV a.1 = true ∧ GoodS a.1 ∧ (m ≤ 2048 → m + countV a.1 ≤ a.2.2 ∧ a.2.2 ≤ 2048)
section
variable {s : ByteArray}
theorem jitemP_fit (hz : s.size ≤ 65536) {e : Int} {obj : Bool} {val : JValF} (_hv : JOk s val) (hF : FitJ s (e + 1) val) {l : LS} {p m : Nat} {a : LS × Nat × Nat} (hp : p ≤ s.size) (h : jitemP s obj val l p m = .ok a) (hl : LJ e l) (hm : m ≤ 2048) :
    LJ e a.1 ∧ cntS a.1 + m ≤ cntS l + 1 + a.2.2 ∧ a.2.2 ≤ 2048 := by
  unfold jitemP at h
  split at h
  · split at h
    · cases h
    · rename_i t p1 h1
      obtain ⟨t1, t2, t3⟩ := jtextP_ok h1 hp
      simp only at t1 t2 t3
      have b1 := blankE_le t3
      split at h
      · cases h
      · rename_i p2 h2
        obtain ⟨m1, m2⟩ := mustP_ok h2
        have m2 := m2 b1.1
        have b2 := blankE_le m2
        split at h
        · cases h
        · rename_i x p3 m' h3
          obtain ⟨f1, f2, f3, f4⟩ := hF _ _ _ b2.1 h3
          have f4 := f4 hm
          simp only at f1 f2 f3 f4
          cases h
          have := setP_fit (k := ⟨true, 0, str t⟩) hl ⟨by show (-9223372036854775808 : Int) ≤ 0; decide, by show (0 : Int) ≤ 9223372036854775807; decide, by show (str t).size ≤ _; rw [str_size]; omega⟩ (by rw [str_toList]; exact t1) f1 f2 f3 (by show (str t).size ≤ _; rw [str_size]; omega)
          exact ⟨this.1, by simp only; omega, f4.2⟩
  · split at h
    · cases h
    · rename_i x p3 m' h3
      obtain ⟨f1, f2, f3, f4⟩ := hF _ _ _ hp h3
      have f4 := f4 hm
      simp only at f1 f2 f3 f4
      cases h
      have := appendP_fit hl f1 f2 f3
      exact ⟨this.1, by simp only; omega, f4.2⟩
theorem jroundP_fit (hz : s.size ≤ 65536) {e : Int} {obj : Bool} {val : JValF} (hv : JOk s val) (hF : FitJ s (e + 1) val) {l : LS} {p m : Nat} {a : LS × Nat × Nat} (hp : p ≤ s.size) (h : jroundP s obj val l p m = .ok a) (hl : LJ e l) :
    LJ e a.1 ∧ cntS a.1 + m ≤ cntS l + a.2.2 ∧ a.2.2 ≤ 2048 := by
  have h9 := (jroundP_ok hv hp h).2.2.2
  unfold jroundP at h
  split at h
  · cases h
  · split at h
    · cases h
    · rename_i l' p' m' h1
      obtain ⟨i1, i2, i3⟩ := jitemP_fit hz hv hF hp h1 hl h9
      simp only at i1 i2 i3
      cases h
      exact ⟨i1, by simp only; omega, i3⟩
theorem jitemsL_fit (hz : s.size ≤ 65536) {e : Int} {obj : Bool} {val : JValF} (hv : JOk s val) (hF : FitJ s (e + 1) val) : ∀ {k : Nat} {fst : Bool} {l : LS} {p m : Nat} {a : LS × Nat × Nat}, p ≤ s.size → jitemsL s obj val k fst l p m = .ok a → LJ e l → m ≤ 2048 →
    LJ e a.1 ∧ cntS a.1 + m ≤ cntS l + a.2.2 ∧ a.2.2 ≤ 2048
  | 0, fst, l, p, m, a, _, h, _, _ => by rw [jitemsL] at h; cases h
  | k + 1, fst, l, p, m, a, hp, h, hl, hm => by
    rw [jitemsL] at h
    split at h
    · split at h
      · cases h; exact ⟨hl, by simp only; omega, hm⟩
      · split at h
        · cases h
        · rename_i l' p' m' h1
          obtain ⟨r1, r2, r3, r4⟩ := jroundP_ok hv hp h1
          obtain ⟨q1, q2, q3⟩ := jroundP_fit hz hv hF hp h1 hl
          simp only at r1 r2 r3 q1 q2 q3
          obtain ⟨t1, t2, t3⟩ := jitemsL_fit hz hv hF r2 h q1 q3
          exact ⟨t1, by omega, t3⟩
    · split at h
      · rename_i hc
        have hlt : p < s.size := now_lt (by rw [hc]; decide)
        have b := blankE_le (s := s) (p := p + 1) (by omega)
        split at h
        · cases h
        · rename_i l' p' m' h1
          obtain ⟨r1, r2, r3, r4⟩ := jroundP_ok hv b.1 h1
          obtain ⟨q1, q2, q3⟩ := jroundP_fit hz hv hF b.1 h1 hl
          simp only at r1 r2 r3 q1 q2 q3
          obtain ⟨t1, t2, t3⟩ := jitemsL_fit hz hv hF r2 h q1 q3
          exact ⟨t1, by omega, t3⟩
      · cases h; exact ⟨hl, by simp only; omega, hm⟩
theorem empty_T : emptyT ⟨#[]⟩ = true := by unfold emptyT; rw [ByteArray.toList_eq]; rfl
theorem jlistP_fit (hz : s.size ≤ 65536) {e : Int} {obj : Bool} {sub : Option JValF} (hs : ∀ v, sub = some v → JOk s v ∧ FitJ s (e + 1) v ∧ e < 64) {p m : Nat} {a : VT × Nat × Nat} (hp : p < s.size) (h : jlistP s obj sub p m = .ok a) :
    mayV a.1 e = true ∧ saidV a.1 = true ∧ GoodS a.1 ∧ (m ≤ 2048 → m + countV a.1 ≤ a.2.2 ∧ a.2.2 ≤ 2048) := by
  unfold jlistP at h
  split at h
  · cases h
  · rename_i val
    obtain ⟨hv, hF, he⟩ := hs _ rfl
    split at h
    · cases h
    · rename_i l q m' h1
      have b := blankE_le (s := s) (p := p + 1) (by omega)
      split at h
      · cases h
        have key : m ≤ 2048 → LJ e l ∧ cntS l + m ≤ cntS LS.new + m' ∧ m' ≤ 2048 := fun hm => jitemsL_fit hz hv hF b.1 h1 (LJ.new e) hm
        have hL : LJ e l := by
          rcases Nat.lt_or_ge 2048 m with hm | hm
          · rw [jitemsL] at h1
            split at h1
            · split at h1
              · cases h1; exact LJ.new e
              · split at h1
                · cases h1
                · rename_i h2
                  have := (jroundP_ok hv b.1 h2).2.2.2
                  omega
            · exact absurd rfl ‹¬ true = true›
          · exact (key hm).1
        refine ⟨?_, ?_, ?_, fun hm => ?_⟩
        · rw [mayV]
          simp only [show ¬ ((4 : Int) = 0) by decide, show ¬ ((4 : Int) = 1) by decide, show ¬ ((4 : Int) = 2) by decide, show ¬ ((4 : Int) = 3) by decide, show ¬ ((4 : Int) = 5) by decide, if_false, if_true]
          rw [itemsL_of hL.ok.once (fun x hx => ?_), empty_T]
          · have := hL.ok.lo
            have := hL.ok.len
            simp
            omega
          · obtain ⟨a1, a2, a3, a4, a5⟩ := hL.at_ x hx
            exact ⟨(hL.ok.norm x hx).same, by simp, a1, a5⟩
        · rw [saidV, saidL_iff.2 fun x hx => ⟨(hL.at_ x hx).2.1, (hL.at_ x hx).2.2.1⟩, nil_valid]
          rfl
        · exact ⟨VT.good_mk (by decide) ⟨by have := hL.ok.lo; omega, hL.ok.hi⟩ (by decide) fun x hx => ⟨(hL.ok.norm x hx).toGood, (hL.at_ x hx).2.2.2.1.1.1⟩, .mk _ _ _ _ (fun x hx => (hL.at_ x hx).2.2.2.1.2) (fun x hx => (hL.at_ x hx).2.2.2.1.1.2)⟩
        · obtain ⟨-, k2, k3⟩ := key hm
          simp only
          rw [countV]
          have e0 : cntS LS.new = 0 := by simp [cntS, LS.new, countL]
          rw [e0] at k2
          unfold cntS at k2
          omega
      · cases h
theorem good_lf {k n : Int} {t : ByteArray} (h1 : -9223372036854775808 ≤ k ∧ k ≤ 9223372036854775807) (h2 : -9223372036854775808 ≤ n ∧ n ≤ 9223372036854775807) (h3 : t.size ≤ 140737488351232) : GoodS (VT.mk k n t []) := ⟨VT.good_mk h1 h2 h3 (fun x hx => by cases hx), .mk _ _ _ _ (fun x hx => by cases hx) (fun x hx => by cases hx)⟩
theorem cnt_lf (k n : Int) (t : ByteArray) : countV (.mk k n t []) = 0 := by rw [countV]; simp [countL]
theorem said_lf {k n : Int} {t : ByteArray} (hk : k ≠ 5) (h : Lib.validD t.toList = true) : saidV (.mk k n t []) = true := by rw [saidV, saidL, h]; simp [hk]
theorem jvalP_fit (hz : s.size ≤ 65536) {e : Int} {sub : Option JValF} (hs : ∀ v, sub = some v → JOk s v ∧ FitJ s (e + 1) v ∧ e < 64) : FitJ s e (jvalP s sub) := by
  intro p m a hp h
  unfold jvalP at h
  split at h
  · unfold jintP at h
    split at h
    · cases h
    · rename_i n q h1
      obtain ⟨n1, n2, n3, n4⟩ := jnumP_ok h1
      cases h
      refine ⟨by rw [mayV, empty_T]; rfl, said_lf (by decide) nil_valid, good_lf (by decide) n4 (by decide), fun hm => ⟨?_, hm⟩⟩
      simp only [cnt_lf]
      omega
  · have word : ∀ {w : Bs} {y : VT}, mayV y e = true ∧ saidV y = true ∧ GoodS y ∧ countV y = 0 → jwordP s w y p m = .ok a → mayV a.1 e = true ∧ saidV a.1 = true ∧ GoodS a.1 ∧ (m ≤ 2048 → m + countV a.1 ≤ a.2.2 ∧ a.2.2 ≤ 2048) := by
      intro w y hy h1
      unfold jwordP at h1
      split at h1
      · cases h1
      · cases h1
        exact ⟨hy.1, hy.2.1, hy.2.2.1, fun hm => ⟨by simp only [hy.2.2.2]; omega, hm⟩⟩
    split at h
    · exact word ⟨by rw [mayV, empty_T]; rfl, said_lf (by decide) nil_valid, good_lf (by decide) (by decide) (by decide), cnt_lf _ _ _⟩ h
    · split at h
      · exact word ⟨by rw [mayV, empty_T]; rfl, said_lf (by decide) nil_valid, good_lf (by decide) (by decide) (by decide), cnt_lf _ _ _⟩ h
      · split at h
        · exact word ⟨by rw [mayV, empty_T]; rfl, said_lf (by decide) nil_valid, good_lf (by decide) (by decide) (by decide), cnt_lf _ _ _⟩ h
        · split at h
          · rename_i hc
            exact jlistP_fit hz hs (now_lt (by rw [hc]; decide)) h
          · split at h
            · rename_i hc
              exact jlistP_fit hz hs (now_lt (by rw [hc]; decide)) h
            · split at h
              · unfold jstrP at h
                split at h
                · cases h
                · rename_i t q h1
                  obtain ⟨t1, t2, t3⟩ := jtextP_ok h1 hp
                  simp only at t1 t2 t3
                  cases h
                  have hsz : (str t).size ≤ 65536 := by rw [str_size]; omega
                  refine ⟨?_, said_lf (by decide) (by rw [str_toList]; exact t1), good_lf (by decide) (by decide) (by omega), fun hm => ⟨by simp only [cnt_lf]; omega, hm⟩⟩
                  rw [mayV]
                  simp [hsz]
              · cases h
theorem jdepth_fit (hz : s.size ≤ 65536) : ∀ d : Nat, FitJ s (64 - (d : Int)) (jdepth s d)
  | 0 => jvalP_fit hz (fun v e => by cases e)
  | d + 1 => jvalP_fit hz (fun v e => by
    cases e
    refine ⟨jdepth_ok d, ?_, by omega⟩
    have := jdepth_fit hz d
    rw [show (64 - ((d + 1 : Nat) : Int)) + 1 = 64 - (d : Int) by omega]
    exact this)
/-- What Decode gives may be, and can be said. -/
theorem decode_fit {y : VT} (h : decodeP s = .ok y) : rightV y = true ∧ saidV y = true ∧ GoodS y ∧ countV y ≤ 2048 := by
  unfold decodeP at h
  split at h
  · cases h
  · rename_i hz
    split at h
    · cases h
    · rename_i y' p m h1
      split at h
      · cases h
      · cases h
        obtain ⟨f1, f2, f3, f4⟩ := jdepth_fit (s := s) (by omega) 64 _ _ _ (blankE_le (Nat.zero_le _)).1 h1
        have f4 := f4 (by omega)
        simp only at f1 f2 f3 f4
        have hc : countV y ≤ 2048 := by omega
        exact ⟨right_of (by rw [show (64 - ((64 : Nat) : Int)) = 0 by omega] at f1; exact f1) hc, f2, f3, hc⟩

def BadJ (s : ByteArray) (val : JValF) : Prop := ∀ p m c a, p ≤ s.size → val p m = .error (c, a) → a ≤ s.size
end
end Go.Proofs.YtnaefnojmiolbaaGreatDoor
