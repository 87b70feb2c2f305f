/-
  The law's number: the objects in the order in which they begin; the walks of place, items and value.
  The walk of the law's walk: the objects in the order in which they begin.
-/
import Derived.Test.YtnaefnojmiolbaaGreatDoorPackAllZ
import Derived.Test.YtnaefnojmiolbaaGreatDoorAllZ
import Derived.Test.YtnaefnojmiolbaaGreatDoorBackPZ
namespace Go.Proofs.YtnaefnojmiolbaaGreatDoor
open Go.RowKit

attribute [local go_sem] yld_undef
def oRows (o : List Int) : List (List Value) := o.map fun x => [.int .i64 x]
theorem oRows_len (o : List Int) : (oRows o).length = o.length := List.length_map ..
/-- A number in memory. -/
structure NB (w : World) (b : Nat) (tv ov : Value) (o : List Int) : Prop where
  blk : w.heap[b]? = some (.cells #[tv, ov] 45 (0, 0))
  own : Owns w 3 1 ov (oRows o)
  ne : ov.ownBlock ≠ some b
theorem NB.under {w w' : World} {b : Nat} {tv ov : Value} {o : List Int} (h : NB w b tv ov o) (hb : Below w.heap.size w w') : NB w' b tv ov o :=
  ⟨(hb.block _ (lt_of_block h.blk)).trans h.blk, h.own.kept fun g e => hb.block g (h.own.lt e), h.ne⟩
/-- The place of an object, 0: none. -/
def placeN (o : List Int) (n : Int) : Int := match placeW o n with
  | none => 0
  | some i => (i : Int) + 1
set_option maxHeartbeats 3200000 in
set_option maxRecDepth 100000 in
theorem place_any {b : Nat} {tv ov : Value} {o : List Int} (n : Int) (w : World) (h : NB w b tv ov o) (hl : o.length ≤ 140737488355328) : Calls Tryz.prog 50 #[.pointer (some ⟨b, 0, none⟩), .int .i64 n] w (IntPost w (placeN o n)) := by
  obtain ⟨ao, cap, hv, hlc, hcm, hlies, -, -⟩ := h.own.any
  rw [oRows_len] at hv
  subst hv
  have HN := Lib.hid h
  have HL := Lib.hid hl
  have HLI := Lib.hid hlies
  have c0 := cell_blk h.blk 0
  have c1 := cell_blk h.blk 1
  obtain ⟨x, hx⟩ : ∃ x, x = placeN o n := ⟨_, rfl⟩
  rw [← hx]
  have HX := Lib.hid hx
  clear h hl hlies hlc hcm hx
  go_enter Tryz.func50, Tryz.ntmps50
  go_wp2_with fail
  go_loopw [11] (fun kv wr => ∃ (j : Nat), j ≤ o.length ∧ kv = .int .i64 j ∧ Hid (Below w.heap.size w wr) ∧ Hid (∀ i (hi : i < o.length), i < j → o[i] ≠ n)) (fun kv _ => o.length - (intOf kv).toNat)
  case atStart => exact ⟨0, Nat.zero_le _, rfl, Lib.hid (Below.refl _ _), Lib.hid (fun i _ h => by omega)⟩
  case round =>
    obtain ⟨j, hj, rfl, HB, HM⟩ := hrel
    have N1 := HN.out.under HB.out
    have c1 := cell_blk N1.blk 1
    by_cases hlt : j < o.length
    · have hi : (j : Int) < (o.length : Int) := by omega
      obtain ⟨hwi', hwi⟩ : wrap64 ((j : Int) + 1) = (j : Int) + 1 ∧ IntKind.i64.wrap ((j : Int) + 1) = (j : Int) + 1 := wr_sm (by omega) (by have := HL.out; omega)
      obtain ⟨y, hy0⟩ : ∃ y, o[j]? = some y := ⟨_, List.getElem?_eq_getElem hlt⟩
      have hy : y = o[j] := by rw [List.getElem?_eq_getElem hlt] at hy0; exact (Option.some.inj hy0).symm
      obtain ⟨g, off, rfl, hg, -, hc⟩ := HLI.out j [.int .i64 y] (by simp [oRows, hy0])
      have r0 : wr.cell? ⟨g, off + j * 1 + 0, none⟩ = some (.int .i64 y) := (HB.out.cell (p := ⟨g, off + j * 1 + 0, none⟩) hg).trans (hc 0 _ rfl)
      rw [Nat.mul_one, Nat.add_zero] at r0
      have HLT := Lib.hid hlt
      have HY := Lib.hid hy0
      by_cases he : y = n
      · have hxe : x = (j : Int) + 1 := by
          rw [HX.out]
          unfold placeN
          have hp : placeW o n = some j := by
            unfold placeW
            rw [List.findIdx?_eq_some_iff_getElem]
            exact ⟨hlt, by simp [← hy, he], fun i hij => by simpa using HM.out i (by omega) hij⟩
          rw [hp]
        subst hxe
        have hbe : (y == n) = true := by simp [he]
        clear hc hy hy0 he hlt
        go_wp2_with fail
        go_ret
        exact ⟨rfl, HB.out⟩
      · have hbe : (y == n) = false := by simp [he]
        have HM2 : Hid (∀ i (hi : i < o.length), i < j + 1 → o[i] ≠ n) := Lib.hid (fun i hi h => by
          rcases Nat.lt_or_ge i j with h2 | h2
          · exact HM.out i hi h2
          · obtain rfl : i = j := by omega
            rw [(List.getElem?_eq_some_iff.1 HY.out).2]
            exact he)
        clear hc hy hy0 he hlt
        go_wp2_with fail
        go_roundw
        case rel => exact ⟨j + 1, HLT.out, by go_num, HB, HM2⟩
        case measure => have := HLT.out; simp [intOf]; omega
    · obtain rfl : j = o.length := by omega
      have hxe : x = 0 := by
        rw [HX.out]
        unfold placeN
        have hp : placeW o n = none := by
          unfold placeW
          rw [List.findIdx?_eq_none_iff]
          intro y hy
          obtain ⟨i, hi, rfl⟩ := List.getElem_of_mem hy
          simpa using HM.out i hi hi
        rw [hp]
      subst hxe
      go_wp2_with fail
      go_ret
      exact ⟨rfl, HB.out⟩
mutual
/-- A value, its objects by their places. -/
def numV (O : List Int) : VT → VT
  | .mk k n t l => .mk k (if k = 5 then placeN O n else n) t (numL O l)
def numL (O : List Int) : List (K × VT) → List (K × VT)
  | [] => []
  | (q, v) :: r => (q, numV O v) :: numL O r
end
theorem numL_cons (O : List Int) (x : It) (r : List It) : numL O (x :: r) = (x.1, numV O x.2) :: numL O r := by cases x; rw [numL]
theorem numL_len (O : List Int) : ∀ l : List It, (numL O l).length = l.length
  | [] => by rw [numL]
  | x :: l => by rw [numL_cons, List.length_cons, List.length_cons, numL_len O l]
theorem numL_app (O : List Int) : ∀ a b : List It, numL O (a ++ b) = numL O a ++ numL O b
  | [], b => by rw [numL]; rfl
  | x :: a, b => by rw [List.cons_append, numL_cons, numL_cons, numL_app O a b]; rfl
/-- What a value by its numbers leaves: its items lie in blocks of the call's own. -/
def NumPost (w : World) (y : VT) (e : Ending) (w' : World) : Prop := ∃ co cc, e = .returned (y.v (.slice co y.xs.length cc)) ∧ VAt (fun g => w.heap.size ≤ g) w' (.slice co y.xs.length cc) y.xs ∧ Below w.heap.size w w'
/-- What items by their numbers leave. -/
def NumsPost (w : World) (ys : List It) (e : Ending) (w' : World) : Prop := ∃ co cc, e = .returned (.slice co ys.length cc) ∧ VAt (fun g => w.heap.size ≤ g) w' (.slice co ys.length cc) ys ∧ Below w.heap.size w w'
/-- Items are gathered. -/
structure NI (w W : World) (zs : List It2) (vo : Value) : Prop where
  below : Below w.heap.size w W
  own : Owns W 64 7 vo (rows2 zs)
  fresh : ∀ g, vo.ownBlock = some g → w.heap.size ≤ g
  val : ∀ y ∈ zs, VAt (fun g => w.heap.size ≤ g ∧ vo.ownBlock ≠ some g) W y.2 y.1.2.xs
theorem NI.under {w W W' : World} {zs : List It2} {vo : Value} (h : NI w W zs vo) (hb : Below W.heap.size W W') : NI w W' zs vo :=
  ⟨h.below.trans (hb.mono h.below.size), h.own.kept fun g e => hb.block g (h.own.lt e), h.fresh, fun y hy => (h.val y hy).under hb⟩
theorem NI.push {w W w6 : World} {zs : List It2} {vo v6 : Value} (h : NI w W zs vo) {x : It} {c : Value} {B : Nat} (hB : w.heap.size ≤ B) (hB2 : ∀ g, vo.ownBlock = some g → g < B) (hx : VAt (fun g => B ≤ g) W c x.2.xs) {ob : Obj} (o6 : Owns w6 64 7 v6 (rows2 zs ++ [itCells x c])) (g6 : (W.alloc ob).grownBy w6 vo.ownBlock) (b6 : v6.ownBlock = vo.ownBlock ∨ ∃ k, v6.ownBlock = some k ∧ (W.alloc ob).heap.size ≤ k) : NI w w6 (zs ++ [(x, c)]) v6 := by
  have hm : Mod (fun k => vo.ownBlock = some k) W w6 := ((Mod.refl _ W).alloc ob).grown g6 (fun k e _ => e)
  have hv6 : ∀ g, g < W.heap.size → vo.ownBlock ≠ some g → v6.ownBlock ≠ some g := fun g hg hne e => by
    rcases b6 with h1 | ⟨k, h1, h2⟩
    · exact hne (by rw [← h1]; exact e)
    · rw [h1] at e
      cases e
      simp at h2
      omega
  refine ⟨((Mod.of_below (F := fun k => w.heap.size ≤ k) h.below).trans' hm (fun i _ e => h.fresh i e)).belowB (fun k hk e => by omega) (Nat.le_refl _), by rw [rows2_snoc]; exact o6, fun g e => ?_, fun y hy => ?_⟩
  · rcases b6 with h1 | ⟨k, h1, h2⟩
    · exact h.fresh g (by rw [← h1]; exact e)
    · rw [h1] at e
      cases e
      have := h.below.size
      simp at h2
      omega
  · rcases List.mem_append.1 hy with hy | hy
    · exact (h.val y hy).kept fun g ha hg => ⟨hm.block g hg ha.2, hm.lt hg, ha.1, hv6 g hg ha.2⟩
    · rw [List.mem_singleton] at hy
      subst hy
      exact hx.kept fun g ha hg => by
        have hne : vo.ownBlock ≠ some g := fun e => by have := hB2 g e; omega
        exact ⟨hm.block g hg hne, hm.lt hg, by omega, hv6 g hg hne⟩
theorem NI.done {w W : World} {zs : List It2} {vo : Value} {l : List It} (h : NI w W zs vo) (hz : zs.map (·.1) = l) (hl : l.length ≤ 140737488355328) : ∃ co cc, vo = .slice co l.length cc ∧ VAt (fun g => w.heap.size ≤ g) W (.slice co l.length cc) l := by
  subst hz
  obtain ⟨ao, cap, hvo, -, -, hl2, -, hown⟩ := h.own.any
  have hlen : (rows2 zs).length = (zs.map (·.1)).length := by rw [rows2_len, List.length_map]
  rw [hlen] at hvo
  refine ⟨ao, cap, hvo, VAt.mk ao cap (zs.map (·.1)) (fun j => (itAt zs j).2) ?_ ?_ hl ?_⟩
  · have e : rowsV (zs.map (·.1)) (fun j => (itAt zs j).2) = rows2 zs := by
      unfold rowsV rows2
      apply List.ext_getElem
      · simp
      · intro i h1 h2
        simp at h1 h2
        simp [itAt_lt (ys := zs) (j := i) (by omega)]
    rw [e]
    exact hl2
  · intro g off e hne
    obtain ⟨rfl, hown2⟩ := hown g off e
    exact h.fresh _ hown2
  · intro j hj
    have hj' : j < zs.length := by simpa using hj
    rw [itAt_lt hj']
    simpa using (h.val zs[j] (List.getElem_mem hj')).mono fun g a _ => a.1
theorem numL_snoc (O : List Int) {l : List It} {j : Nat} {x : It} (h : l[j]? = some x) : numL O (l.take (j + 1)) = numL O (l.take j) ++ [(x.1, numV O x.2)] := by
  rw [List.take_add_one, h, numL_app]
  simp [numL_cons, numL]
set_option maxHeartbeats 12800000 in
set_option maxRecDepth 100000 in
theorem numitems_any {b : Nat} {tv ov : Value} {o : List Int} {l : List It} (hl : l.length ≤ 2048)
    (HV : ∀ x ∈ l, ∀ (W : World) (c : Value), NB W b tv ov o → VIn W c x.2.xs → Calls Tryz.prog 23 #[.pointer (some ⟨b, 0, none⟩), x.2.v c] W (NumPost W (numV o x.2)))
    (w : World) (c : Value) (h : NB w b tv ov o) (hv : VIn w c l) : Calls Tryz.prog 21 #[.pointer (some ⟨b, 0, none⟩), c] w (NumsPost w (numL o l)) := by
  obtain ⟨ao, cap, rfl, hlen⟩ := hv.form
  have HN := Lib.hid h
  have HL := Lib.hid hl
  have HVI := Lib.hid hv
  have HVV := @Lib.hid _ @HV
  have HI0 : Hid (NI w w [] (.slice none 0 0)) := Lib.hid ⟨Below.refl _ _, Owns.empty _ _ _, fun g e => (by simp [Value.ownBlock] at e), fun y hy => (by cases hy)⟩
  clear h hl hv HV hlen
  go_enter Tryz.func21, Tryz.ntmps21
  go_wp2_with fail
  go_loopw [5, 10] (fun vo kv wr => ∃ (j : Nat) (zs : List It2), j ≤ l.length ∧ kv = .int .i64 j ∧ Hid (zs.map (·.1) = numL o (l.take j)) ∧ Hid (NI w wr zs vo)) (fun _ kv _ => l.length - (intOf kv).toNat)
  case atStart => exact ⟨0, [], Nat.zero_le _, rfl, Lib.hid (by rw [List.take_zero, numL]; rfl), HI0⟩
  case round =>
    rename_i vo kv
    obtain ⟨j, zs, hj, rfl, HZ, HI⟩ := hrel
    by_cases hlt : j < l.length
    · have hi : (j : Int) < (l.length : Int) := by omega
      obtain ⟨hwi', hwi⟩ : wrap64 ((j : Int) + 1) = (j : Int) + 1 ∧ IntKind.i64.wrap ((j : Int) + 1) = (j : Int) + 1 := wr_sm (by omega) (by have := HL.out; omega)
      obtain ⟨q, x, g, off, co, cc, hq, hm, rfl, hc, r0, r1, r2, r3, r4, r5, r6⟩ := HVI.out.getB hlt HI.out.below rfl
      have hzl : (rows2 zs).length = j := by
        have hz := congrArg List.length HZ.out
        rw [List.length_map, numL_len, List.length_take] at hz
        rw [rows2_len]
        omega
      obtain ⟨ov2, cap2, hvo, -⟩ := HI.out.own.any
      rw [hzl] at hvo
      subst hvo
      have HZL := Lib.hid hzl
      have HA := Lib.hid (heap_alloc_new wr (IB (q, x) (.slice co x.xs.length cc)))
      have HBA := Lib.hid (below_alloc1 wr (IB (q, x) (.slice co x.xs.length cc)))
      have six : ∀ {V : World}, V.heap[wr.heap.size]? = some (IB (q, x) (.slice co x.xs.length cc)) → (((fun V => V.cell? ⟨wr.heap.size, 0, none⟩ = some (.bool q.b) ∧ V.cell? ⟨wr.heap.size, 1, none⟩ = some (.int .i64 q.n) ∧ V.cell? ⟨wr.heap.size, 2, none⟩ = some (.string q.t) ∧ V.cell? ⟨wr.heap.size, 3, none⟩ = some (.int .i64 x.k) ∧ V.cell? ⟨wr.heap.size, 4, none⟩ = some (.int .i64 x.n) ∧ V.cell? ⟨wr.heap.size, 5, none⟩ = some (.string x.t) ∧ V.cell? ⟨wr.heap.size, 6, none⟩ = some (.slice co x.xs.length cc)) V)) := fun {V} hb => ib_cells hb
      have HSX := @Lib.hid _ @six
      have HS0 := Lib.hid (six (V := (wr.alloc (IB (q, x) (.slice co x.xs.length cc))).drew) HA.out)
      have HB0 : Hid (Below wr.heap.size wr (wr.alloc (IB (q, x) (.slice co x.xs.length cc))).drew) := Lib.hid (HBA.out.drew)
      have HNB := Lib.hid ((HN.out.under HI.out.below).under HB0.out)
      have HC : ∀ W, NB W b tv ov o → VIn W (.slice co x.xs.length cc) x.xs → Calls Tryz.prog 23 #[.pointer (some ⟨b, 0, none⟩), .agg #[.int .i64 x.k, .int .i64 x.n, .string x.t, .slice co x.xs.length cc]] W (NumPost W (numV o x)) := fun W h1 h2 => HVV.out (q, x) hm W _ h1 h2
      have HCV := Lib.hid (hc.under HB0.out)
      have HQ := Lib.hid hq
      have HLT := Lib.hid hlt
      obtain ⟨y, hy⟩ : ∃ y, y = numV o x := ⟨_, rfl⟩
      rw [← hy] at HC
      have HY := Lib.hid hy
      clear hc hq hm hlt six hzl hy
      go_wp2_with fail
      refine wp_region_noPanic ?_
      refine wp_region_held_drew (S := (fun V => V.cell? ⟨wr.heap.size, 0, none⟩ = some (.bool q.b) ∧ V.cell? ⟨wr.heap.size, 1, none⟩ = some (.int .i64 q.n) ∧ V.cell? ⟨wr.heap.size, 2, none⟩ = some (.string q.t) ∧ V.cell? ⟨wr.heap.size, 3, none⟩ = some (.int .i64 x.k) ∧ V.cell? ⟨wr.heap.size, 4, none⟩ = some (.int .i64 x.n) ∧ V.cell? ⟨wr.heap.size, 5, none⟩ = some (.string x.t) ∧ V.cell? ⟨wr.heap.size, 6, none⟩ = some (.slice co x.xs.length cc))) (by kernel_rfl) (by exact HS0.out) (fun hHeld => ?_)
      refine wpAnyH_take (i := 0) (oi := ?o0) (v := ?v0) ?hi0 (by kernel_rfl) (by kernel_rfl) (by kernel_rfl) (fun _ _ _ h => h) ?hy0 (by assumption) ?rest0
      case hi0 => simp only [gA, gZ]; rfl
      case hy0 =>
        refine Or.inl ⟨by rfl, ?_⟩
        intro w hSw; (try dsimp only at hSw); go_simp <;> (with_reducible rfl)
      (try simp only [Act.put, pA, pZ, pS])
      refine wpAnyH_take (i := 1) (oi := ?o1) (v := ?v1) ?hi1 (by kernel_rfl) (by kernel_rfl) (by kernel_rfl) (fun _ _ _ h => h) ?hy1 (by assumption) ?rest1
      case hi1 => simp only [gA, gS, gZ]; rfl
      case hy1 =>
        refine Or.inl ⟨by rfl, ?_⟩
        intro w hSw; (try dsimp only at hSw); go_simp <;> (with_reducible rfl)
      (try simp only [Act.put, pA, pZ, pS])
      refine wpAnyH_take (i := 2) (oi := ?o2) (v := ?v2) ?hi2 (by kernel_rfl) (by kernel_rfl) (by kernel_rfl) (fun _ _ _ h => h) ?hy2 (by assumption) ?rest2
      case hi2 => simp only [gA, gS, gZ]; rfl
      case hy2 =>
        refine Or.inl ⟨by rfl, ?_⟩
        intro w hSw; (try dsimp only at hSw); go_simp <;> (with_reducible rfl)
      (try simp only [Act.put, pA, pZ, pS])
      refine wpAnyH_take (i := 3) (oi := ?o3) (v := ?v3) ?hi3 (by kernel_rfl) (by kernel_rfl) (by kernel_rfl) (fun _ _ _ h => h) ?hy3 (by assumption) ?rest3
      case hi3 => simp only [gA, gS, gZ]; rfl
      case hy3 =>
        refine Or.inl ⟨by rfl, ?_⟩
        intro w hSw; (try dsimp only at hSw); go_simp <;> (with_reducible rfl)
      (try simp only [Act.put, pA, pZ, pS])
      refine wpAnyH_take (i := 4) (oi := ?o4) (v := ?v4) ?hi4 (by kernel_rfl) (by kernel_rfl) (by kernel_rfl) (fun _ _ _ h => h) ?hy4 (by assumption) ?rest4
      case hi4 => simp only [gA, gS, gZ]; rfl
      case hy4 =>
        refine Or.inl ⟨by rfl, ?_⟩
        intro w hSw; (try dsimp only at hSw); go_simp <;> (with_reducible rfl)
      (try simp only [Act.put, pA, pZ, pS])
      refine wpAnyH_take (i := 5) (oi := ?o5) (v := ?v5) ?hi5 (by kernel_rfl) (by kernel_rfl) (by kernel_rfl) (fun _ _ _ h => h) ?hy5 (by assumption) ?rest5
      case hi5 => simp only [gA, gS, gZ]; rfl
      case hy5 =>
        refine Or.inl ⟨by rfl, ?_⟩
        intro w hSw; (try dsimp only at hSw); go_simp <;> (with_reducible rfl)
      (try simp only [Act.put, pA, pZ, pS])
      refine wpAnyH_ready (rs := [6]) (by kernel_rfl) (by simp) ?_
      refine AllReadyH.cons rfl (fun K hK => ?_) AllReadyH.nil
      go_simp
      refine (HC _ HNB.out HCV.out).mono ?_
      rintro _ w1 ⟨cy, ky, rfl, hvy, hb⟩
      simp only [VT.v]
      have H1 := Lib.hid ((HI.out.under HB0.out).under hb)
      have HVY := Lib.hid hvy
      have H1b := Lib.hid ((hb.block wr.heap.size (by have := lt_of_block HA.out; exact this)).trans HA.out)
      have H1s : Hid (wr.heap.size < w1.heap.size) := Lib.hid (lt_of_block H1b.out)
      clear hb hvy
      refine hK.out _ _ (HSX.out H1b.out) (fun hHeld6 => ?_)
      clear hK K
      (try simp only [Act.put, pA, pZ, pS])
      refine wpAnyH_take (i := 7) (oi := ?o7) (v := ?v7) ?hi7 (by kernel_rfl) (by kernel_rfl) (by kernel_rfl) (fun _ _ _ h => h) ?hy7 (by assumption) ?rest7
      case hi7 => simp only [gA, gS, gZ]; rfl
      case hy7 =>
        refine Or.inl ⟨by rfl, ?_⟩
        intro w hSw; (try dsimp only at hSw); go_simp <;> (with_reducible rfl)
      (try simp only [Act.put, pA, pZ, pS])
      refine wpAnyH_ready (rs := [8]) (by kernel_rfl) (by simp) ?_
      refine AllReadyH.cons rfl (fun K hK => ?_) AllReadyH.nil
      go_simp
      skip
      refine hK.out _ _ (HSX.out (alloc_blk H1b.out _)) (fun hHeld8 => ?_)
      clear hK K
      (try simp only [Act.put, pA, pZ, pS])
      refine wpAnyH_ready (rs := [9]) (by kernel_rfl) (by simp) ?_
      refine AllReadyH.cons rfl (fun K hK => ?_) AllReadyH.nil
      have hO : Owns (w1.alloc (.cells #[.bool q.b, .int .i64 q.n, .string q.t, .int .i64 y.k, .int .i64 y.n, .string y.t, .slice cy y.xs.length ky] 64)) 64 7 (.slice ov2 j cap2) (rows2 zs) := H1.out.own.kept fun g e => Below.heap_alloc _ _ _ (H1.out.own.lt e)
      have hLi : Lies (w1.alloc (.cells #[.bool q.b, .int .i64 q.n, .string q.t, .int .i64 y.k, .int .i64 y.n, .string y.t, .slice cy y.xs.length ky] 64)) 7 (some ⟨w1.heap.size, 0, none⟩) [itCells (q, y) (.slice cy y.xs.length ky)] := lies_new w1 (itCells (q, y) (.slice cy y.xs.length ky)) 64 rfl
      refine step_append_rows rfl (.tmp 14) (.tmp 22) 22 rfl 64 _ 7 88 Tryz.underlying22 info64 rfl (by decide) (.slice ov2 j cap2) (rows2 zs) (by simp [Act.eval]) hO (some ⟨w1.heap.size, 0, none⟩) 1 1 [itCells (q, y) (.slice cy y.xs.length ky)] (by simp [Act.eval]) rfl (fun e => by cases e) hLi (by simp [itCells, Value.oneCell']) (by simp [itCells]) (by have := HZL.out; have := HLT.out; have := HL.out; unfold maxLen; simp; omega) (by have := HZL.out; have := HLT.out; have := HL.out; simp; omega) ?_
      intro v6 w6 o6 g6 b6
      have H6b : Hid (w6.heap[wr.heap.size]? = some (IB (q, x) (.slice co x.xs.length cc))) := Lib.hid ((g6.block wr.heap.size (by have := H1s.out; simp; omega) (fun e => by have := HI.out.own.lt e.symm; omega)).trans (alloc_blk H1b.out _))
      have H7 := Lib.hid (H1.out.push (x := (q, y)) (B := wr.heap.size) HI.out.below.size (fun g e => HI.out.own.lt e) (HVY.out.mono fun g a _ => by have := HB0.out.size; omega) o6 g6 b6)
      clear o6 g6 b6 hO hLi
      refine hK.out _ _ (HSX.out H6b.out) (fun hHeld9 => ?_)
      clear hK K
      (try simp only [Act.put, pA, pZ, pS])
      refine wpAnyH_take (i := 10) (oi := ?o10) (v := ?v10) ?hi10 (by kernel_rfl) (by kernel_rfl) (by kernel_rfl) (fun _ _ _ h => h) ?hy10 (by assumption) ?rest10
      case hi10 => simp only [gA, gS, gZ]; rfl
      case hy10 =>
        refine Or.inl ⟨by rfl, ?_⟩
        intro w hSw; (try dsimp only at hSw); go_simp <;> (with_reducible rfl)
      (try simp only [Act.put, pA, pZ, pS])
      refine wpAnyH_done (by kernel_rfl) ?_ _
      refine NoPanic.normal ?_
      go_wp2_with fail
      go_roundw
      case rel => exact ⟨j + 1, zs ++ [((q, y), .slice cy y.xs.length ky)], HLT.out, by go_num, Lib.hid (by rw [numL_snoc o HQ.out, List.map_append, HZ.out, ← HY.out]; rfl), H7⟩
      case measure => have := HLT.out; simp [intOf]; omega
    · obtain rfl : j = l.length := by omega
      have hz := HZ.out
      rw [List.take_length] at hz
      obtain ⟨co, cc, rfl, hvt⟩ := HI.out.done hz (by rw [numL_len]; have := HL.out; omega)
      go_wp2_with fail
      go_ret
      exact ⟨co, cc, rfl, hvt, HI.out.below⟩
set_option maxHeartbeats 6400000 in
set_option maxRecDepth 100000 in
theorem numval_any {b : Nat} {tv ov : Value} {o : List Int} (ho : o.length ≤ 140737488355328) (v : VT) : countV v ≤ 2048 → ∀ (w : World) (c : Value), NB w b tv ov o → VIn w c v.xs → Calls Tryz.prog 23 #[.pointer (some ⟨b, 0, none⟩), v.v c] w (NumPost w (numV o v)) := by
  refine VT.ind (P := fun v => countV v ≤ 2048 → ∀ (w : World) (c : Value), NB w b tv ov o → VIn w c v.xs → Calls Tryz.prog 23 #[.pointer (some ⟨b, 0, none⟩), v.v c] w (NumPost w (numV o v))) ?_ v
  intro k n t l ih hcv w c h hv
  have hv : VIn w c l := hv
  rw [countV] at hcv
  have HI : Hid (∀ W c2, NB W b tv ov o → VIn W c2 l → Calls Tryz.prog 21 #[.pointer (some ⟨b, 0, none⟩), c2] W (NumsPost W (numL o l))) := Lib.hid (fun W c2 h1 h2 => numitems_any (o := o) (l := l) (by omega) (fun x hx W c h1 h2 => ih x hx (by have := count_mem hx; omega) W c h1 h2) W c2 h1 h2)
  have HP : Hid (∀ W, NB W b tv ov o → Calls Tryz.prog 50 #[.pointer (some ⟨b, 0, none⟩), .int .i64 n] W (IntPost W (placeN o n))) := Lib.hid (fun W h1 => place_any n W h1 ho)
  obtain ⟨ao, cap, rfl, hlen⟩ := hv.form
  have HN := Lib.hid h
  have HV := Lib.hid hv
  have A0 := Lib.hid (at2_start w (.cells #[.int .i64 k, .int .i64 n, .string t, .slice ao l.length cap] 24) (.cells #[.int .i64 0, .int .i64 0, .string ⟨#[]⟩, .slice none 0 0] 24))
  obtain ⟨a0, a1, a2, a3⟩ := vb4 A0.out.a
  obtain ⟨m, hm⟩ : ∃ m, m = if k = 5 then placeN o n else n := ⟨_, rfl⟩
  have hy : numV o (.mk k n t l) = .mk k m t (numL o l) := by rw [numV, hm]
  rw [hy]
  clear ih hcv h hv ho hlen hy
  show Calls Tryz.prog 23 #[.pointer (some ⟨b, 0, none⟩), .agg #[.int .i64 k, .int .i64 n, .string t, .slice ao l.length cap]] w _
  by_cases hk : k = 5
  · rw [if_pos hk] at hm
    have hke : (k == 5) = true := by simp [hk]
    rw [← hm] at HP
    clear hk hm
    go_enter Tryz.func23, Tryz.ntmps23
    go_wp2_with fail
    refine (HP.out _ (HN.out.under A0.out.below)).mono ?_
    rintro _ w1 ⟨rfl, hb⟩
    have A1 := Lib.hid (A0.out.mono hb)
    obtain ⟨a0, a1, a2, a3⟩ := vb4 A1.out.a
    have f1 := free_blk A1.out.a 1
    have A2 : Hid (At2 w (w1.setCell ⟨w.heap.size, 1, none⟩ (.int .i64 m)) w.heap.size (.cells #[.int .i64 k, .int .i64 m, .string t, .slice ao l.length cap] 24) (.cells #[.int .i64 0, .int .i64 0, .string ⟨#[]⟩, .slice none 0 0] 24)) :=
      Lib.hid ⟨by have := set_blk A1.out.a 1 (.int .i64 m); simpa using this, (Below.heap_setCell _ _ _ _ (by simp)).trans A1.out.b, A1.out.below.setCell (Nat.le_refl _) _⟩
    clear hb A0
    go_wp2_with fail
    refine (HI.out _ _ (HN.out.under A2.out.below) (HV.out.under A2.out.below)).mono ?_
    rintro _ w2 ⟨cy, ky, rfl, hvy, hb⟩
    have HVY := Lib.hid hvy
    have HSZ := Lib.hid (lt_of_block A2.out.b)
    have A3 := Lib.hid (A2.out.mono hb)
    obtain ⟨c0, c1, c2, c3⟩ := vb4 A3.out.a
    obtain ⟨d0, d1, d2, d3⟩ := vb4 A3.out.b
    have f3 := free_blk A3.out.a 3
    have g0 := free_blk A3.out.b 0
    have g1 := free_blk A3.out.b 1
    have g2 := free_blk A3.out.b 2
    have g3 := free_blk A3.out.b 3
    have hs1 : w.heap.size < w2.heap.size := lt_of_block A3.out.a
    have hs2 : w.heap.size + 1 < w2.heap.size := lt_of_block A3.out.b
    clear hb hvy a0 a1 a2 a3
    go_wp2_with fail
    have B4 : (w2.setCell ⟨w.heap.size, 3, none⟩ (.slice cy (numL o l).length ky)).heap[w.heap.size + 1]? = some (.cells #[.int .i64 0, .int .i64 0, .string ⟨#[]⟩, .slice none 0 0] 24 (0, 0)) := (Below.heap_setCell _ _ _ _ (by simp)).trans A3.out.b
    obtain ⟨z0, z1, z2, z3⟩ := vb4 (set4 B4 (.int .i64 k) (.int .i64 m) (.string t) (.slice cy (numL o l).length ky))
    have hmm : Mod (fun i => i = w.heap.size ∨ i = w.heap.size + 1) w2 (((((w2.setCell ⟨w.heap.size, 3, none⟩ (.slice cy (numL o l).length ky)).setCell ⟨w.heap.size + 1, 0, none⟩ (.int .i64 k)).setCell ⟨w.heap.size + 1, 1, none⟩ (.int .i64 m)).setCell ⟨w.heap.size + 1, 2, none⟩ (.string t)).setCell ⟨w.heap.size + 1, 3, none⟩ (.slice cy (numL o l).length ky)) :=
      (((((Mod.refl _ w2).setCell _ _ (fun _ => .inl rfl)).setCell _ _ (fun _ => .inr rfl)).setCell _ _ (fun _ => .inr rfl)).setCell _ _ (fun _ => .inr rfl)).setCell _ _ (fun _ => .inr rfl)
    refine bodyPost_ret (v := (VT.mk k m t (numL o l)).v (.slice cy (numL o l).length ky)) (by simp [results, Tryz.results23, go_sem, VT.v, VT.k, VT.n, VT.t, z0, z1, z2, z3]) rfl ⟨cy, ky, rfl, ?_, ?_⟩
    · exact HVY.out.kept fun g ha hg => ⟨hmm.block g hg (fun e => by have := HSZ.out; omega), hmm.lt hg, by have := HSZ.out; omega⟩
    · exact ((Mod.of_below (F := fun i => w.heap.size ≤ i) A3.out.below).trans' hmm (fun i _ e => by omega)).belowB (fun i hi e => by omega) (Nat.le_refl _)
  · rw [if_neg hk] at hm
    have hke : (k == 5) = false := by simp [hk]
    subst hm
    clear hk HP
    have A2 := A0
    go_enter Tryz.func23, Tryz.ntmps23
    go_wp2_with fail
    refine (HI.out _ _ (HN.out.under A2.out.below) (HV.out.under A2.out.below)).mono ?_
    rintro _ w2 ⟨cy, ky, rfl, hvy, hb⟩
    have HVY := Lib.hid hvy
    have HSZ := Lib.hid (lt_of_block A2.out.b)
    have A3 := Lib.hid (A2.out.mono hb)
    obtain ⟨c0, c1, c2, c3⟩ := vb4 A3.out.a
    obtain ⟨d0, d1, d2, d3⟩ := vb4 A3.out.b
    have f3 := free_blk A3.out.a 3
    have g0 := free_blk A3.out.b 0
    have g1 := free_blk A3.out.b 1
    have g2 := free_blk A3.out.b 2
    have g3 := free_blk A3.out.b 3
    have hs1 : w.heap.size < w2.heap.size := lt_of_block A3.out.a
    have hs2 : w.heap.size + 1 < w2.heap.size := lt_of_block A3.out.b
    clear hb hvy a0 a1 a2 a3
    go_wp2_with fail
    have B4 : (w2.setCell ⟨w.heap.size, 3, none⟩ (.slice cy (numL o l).length ky)).heap[w.heap.size + 1]? = some (.cells #[.int .i64 0, .int .i64 0, .string ⟨#[]⟩, .slice none 0 0] 24 (0, 0)) := (Below.heap_setCell _ _ _ _ (by simp)).trans A3.out.b
    obtain ⟨z0, z1, z2, z3⟩ := vb4 (set4 B4 (.int .i64 k) (.int .i64 m) (.string t) (.slice cy (numL o l).length ky))
    have hmm : Mod (fun i => i = w.heap.size ∨ i = w.heap.size + 1) w2 (((((w2.setCell ⟨w.heap.size, 3, none⟩ (.slice cy (numL o l).length ky)).setCell ⟨w.heap.size + 1, 0, none⟩ (.int .i64 k)).setCell ⟨w.heap.size + 1, 1, none⟩ (.int .i64 m)).setCell ⟨w.heap.size + 1, 2, none⟩ (.string t)).setCell ⟨w.heap.size + 1, 3, none⟩ (.slice cy (numL o l).length ky)) :=
      (((((Mod.refl _ w2).setCell _ _ (fun _ => .inl rfl)).setCell _ _ (fun _ => .inr rfl)).setCell _ _ (fun _ => .inr rfl)).setCell _ _ (fun _ => .inr rfl)).setCell _ _ (fun _ => .inr rfl)
    refine bodyPost_ret (v := (VT.mk k m t (numL o l)).v (.slice cy (numL o l).length ky)) (by simp [results, Tryz.results23, go_sem, VT.v, VT.k, VT.n, VT.t, z0, z1, z2, z3]) rfl ⟨cy, ky, rfl, ?_, ?_⟩
    · exact HVY.out.kept fun g ha hg => ⟨hmm.block g hg (fun e => by have := HSZ.out; omega), hmm.lt hg, by have := HSZ.out; omega⟩
    · exact ((Mod.of_below (F := fun i => w.heap.size ≤ i) A3.out.below).trans' hmm (fun i _ e => by omega)).belowB (fun i hi e => by omega) (Nat.le_refl _)
end Go.Proofs.YtnaefnojmiolbaaGreatDoor

namespace Go.Proofs.YtnaefnojmiolbaaGreatDoor
open Go.RowKit

attribute [local go_sem] yld_undef
theorem infoI3 : (Tryz.prog.info? 3).map (fun i => (i.zero, i.size, i.bytes)) = some (some (.int .i64 0), 1, 8) := by kernel_rfl
theorem oRows_snoc (o : List Int) (n : Int) : oRows (o ++ [n]) = oRows o ++ [[.int .i64 n]] := by simp [oRows]
/-- A number above a world that it leaves. -/
structure WN (w0 : World) (b : Nat) (tv : Value) (W : World) (ov : Value) (o : List Int) : Prop where
  below : Below w0.heap.size w0 W
  nb : NB W b tv ov o
  hb : w0.heap.size ≤ b
  fresh : ∀ g, ov.ownBlock = some g → w0.heap.size ≤ g
/-- What is neither a number nor an order stays. -/
structure KeptN (w w' : World) : Prop where
  size : w.heap.size ≤ w'.heap.size
  blk : ∀ (k : Nat) (cs : Array Value) (ty : TypeId) (fr : Nat × Nat), w.heap[k]? = some (.cells cs ty fr) → ty ≠ 45 → ty ≠ 3 → w'.heap[k]? = some (.cells cs ty fr)
theorem KeptN.refl (w : World) : KeptN w w := ⟨Nat.le_refl _, fun _ _ _ _ h _ _ => h⟩
theorem KeptN.trans {a b c : World} (h : KeptN a b) (k : KeptN b c) : KeptN a c := ⟨Nat.le_trans h.size k.size, fun i cs ty fr e h1 h2 => k.blk i cs ty fr (h.blk i cs ty fr e h1 h2) h1 h2⟩
theorem KeptN.of_below {w w' : World} (h : Below w.heap.size w w') : KeptN w w' := ⟨h.size, fun k _ _ _ e _ _ => (h.block k (lt_of_block e)).trans e⟩
section
variable {w0 W w6 : World} {b : Nat} {tv ov v6 : Value} {o : List Int} {n : Int} {ob : Obj}
theorem WN.under {W' : World} (h : WN w0 b tv W ov o) (hb : Below W.heap.size W W') : WN w0 b tv W' ov o := ⟨h.below.trans (hb.mono h.below.size), h.nb.under hb, h.hb, h.fresh⟩
theorem WN.push (h : WN w0 b tv W ov o) (o6 : Owns w6 3 1 v6 (oRows o ++ [[.int .i64 n]])) (g6 : (W.drew.alloc ob).grownBy w6 ov.ownBlock) (b6 : v6.ownBlock = ov.ownBlock ∨ ∃ k, v6.ownBlock = some k ∧ (W.drew.alloc ob).heap.size ≤ k) :
    WN w0 b tv (w6.setCell ⟨b, 1, none⟩ v6) v6 (o ++ [n]) ∧ KeptN W (w6.setCell ⟨b, 1, none⟩ v6) := by
  have hlt := lt_of_block h.nb.blk
  have hm6 : Mod (fun k => ov.ownBlock = some k) W w6 := (((Mod.refl _ W).drew).alloc ob).grown g6 (fun k e _ => e)
  have hm : Mod (fun k => k = b ∨ ov.ownBlock = some k) W (w6.setCell ⟨b, 1, none⟩ v6) := (hm6.mono fun i _ e => .inr e).setCell _ _ (fun _ => .inl rfl)
  have hbk : w6.heap[b]? = some (.cells #[tv, ov] 45 (0, 0)) := hm6.blk h.nb.blk h.nb.ne
  have hne : v6.ownBlock ≠ some b := fun e => by
    rcases b6 with h1 | ⟨k, h1, h2⟩
    · exact h.nb.ne (by rw [← h1]; exact e)
    · rw [h1] at e
      cases e
      simp at h2
      omega
  refine ⟨⟨((Mod.of_below (F := fun k => w0.heap.size ≤ k) h.below).trans' hm (fun i _ e => ?_)).belowB (fun k hk e => by omega) (Nat.le_refl _), ⟨?_, ?_, hne⟩, h.hb, fun g e => ?_⟩, hm.size, fun k cs ty fr e h1 h2 => hm.blk e fun hf => ?_⟩
  · rcases e with rfl | e
    · exact h.hb
    · exact h.fresh i e
  · have := set_blk hbk 1 v6
    simpa using this
  · rw [oRows_snoc]
    exact o6.kept fun g e => Below.heap_setCell _ _ _ _ (fun e2 => hne (by rw [e]; exact congrArg some e2))
  · rcases b6 with h1 | ⟨k, h1, h2⟩
    · exact h.fresh g (by rw [← h1]; exact e)
    · rw [h1] at e
      cases e
      have := h.below.size
      simp at h2
      omega
  · rcases hf with rfl | hf
    · rw [h.nb.blk] at e
      cases e
      exact h1 rfl
    · obtain ⟨cur, hc⟩ := owns_blk h.nb.own hf
      rw [hc] at e
      cases e
      exact h2 rfl
end
/-- What a walk leaves. -/
def WKPost (w0 : World) (b : Nat) (tv : Value) (w : World) (o : List Int) (e : Ending) (w' : World) : Prop := e = .returned (.tuple #[]) ∧ (∃ ov, WN w0 b tv w' ov o) ∧ KeptN w w'
/-- A walk goes over a value as a writing does. -/
def WalkAt (w0 : World) (N b : Nat) (tv : Value) (put : PutF) : Prop :=
  ∀ v S S', put v S = .ok S' → WOk N v → (∃ d, mayV v d = true) → S'.o.length ≤ 65536 → ∀ (w : World) (c ov : Value), WN w0 b tv w ov S.o → VIn w0 c v.xs → Calls Tryz.prog 20 #[.pointer (some ⟨b, 0, none⟩), v.v c] w (WKPost w0 b tv w S'.o)
theorem placeN_none {o : List Int} {n : Int} (h : placeW o n = none) : placeN o n = 0 := by unfold placeN; rw [h]
theorem placeN_some {o : List Int} {n : Int} {i : Nat} (h : placeW o n = some i) : (placeN o n == 0) = false := by unfold placeN; rw [h]; simp; omega
/-- The items that are still to be gone over. -/
def Nxt (w0 : World) (N b : Nat) (tv : Value) (l : List It) (o o2 : List Int) : Prop := ∃ (put : PutF) (S SE : WS), (l ≠ [] → WalkAt w0 N b tv put ∧ (∀ x S S', put x S = .ok S' → Adds S S') ∧ ∀ x ∈ l, WOk N x.2 ∧ ∃ d, mayV x.2 d = true) ∧ itemsW put l S = .ok SE ∧ S.o = o ∧ SE.o = o2
theorem Nxt.nil (w0 : World) (N b : Nat) (tv : Value) (o : List Int) : Nxt w0 N b tv [] o o := ⟨fun _ w => .ok w, ⟨[], o⟩, ⟨[], o⟩, fun h => absurd rfl h, rfl, rfl, rfl⟩
theorem Nxt.one {w0 : World} {N b : Nat} {tv : Value} {l : List It} {o o2 : List Int} {j : Nat} {x : It} (h : Nxt w0 N b tv (l.drop j) o o2) (hx : l[j]? = some x) (h2 : o2.length ≤ 65536) :
    ∃ o1, (∀ (w : World) (c ov : Value), WN w0 b tv w ov o → VIn w0 c x.2.xs → Calls Tryz.prog 20 #[.pointer (some ⟨b, 0, none⟩), x.2.v c] w (WKPost w0 b tv w o1)) ∧ Nxt w0 N b tv (l.drop (j + 1)) o1 o2 := by
  rw [drop_at hx] at h
  obtain ⟨put, S, SE, h1, h3, rfl, rfl⟩ := h
  obtain ⟨a, ad, c⟩ := h1 (by simp)
  rw [itemsW] at h3
  split at h3
  · cases h3
  · rename_i S1 h4
    obtain ⟨⟨u, hu⟩, -⟩ := itemsW_adds ad h3
    refine ⟨S1.o, fun w c' ov hw hv => a x.2 _ S1 h4 (c x (by simp)).1 (c x (by simp)).2 (by rw [hu] at h2; simp at h2; omega) w c' ov hw hv, put, S1, SE, fun _ => ⟨a, ad, fun y hy => c y (by simp [hy])⟩, h3, rfl, rfl⟩
theorem Nxt.done {w0 : World} {N b : Nat} {tv : Value} {l : List It} {o o2 : List Int} (h : Nxt w0 N b tv (l.drop l.length) o o2) : o = o2 := by
  rw [List.drop_length] at h
  obtain ⟨put, S, SE, -, h3, rfl, rfl⟩ := h
  rw [itemsW] at h3
  cases h3
  rfl
theorem VAt.form' {A : Nat → Prop} {w : World} {ao : Option Addr} {m cap : Nat} {xs : List It} (h : VAt A w (.slice ao m cap) xs) : xs.length ≤ 140737488355328 := by
  obtain ⟨_, _, e, h⟩ := h.form
  exact h
set_option maxHeartbeats 12800000 in
set_option maxRecDepth 100000 in
theorem walk_lvl {F : List TP} {w0 : World} {N b : Nat} {tv : Value} (hF : ThAt w0 tv F) (hFo : ∀ th ∈ F, ∀ x ∈ th.2, WOk N x.2 ∧ ∃ d, mayV x.2 d = true) {sub : Option PutF} (HV : ∀ put, sub = some put → WalkAt w0 N b tv put) (HA : ∀ put, sub = some put → ∀ x S S', put x S = .ok S' → Adds S S') (HLg : ∀ put, sub = some put → ∀ x S S', put x S = .ok S' → 65536 < S.t.length → 65536 < S'.t.length) : WalkAt w0 N b tv (graphW F sub) := by
  intro v S S' h hwo hm hlen w c ov hW hv
  have hpl : S.o.length ≤ 65536 := by
    obtain ⟨⟨u, hu⟩, -⟩ := graphW_adds HA HLg h
    rw [hu] at hlen
    simp at hlen
    omega
  unfold graphW at h
  obtain ⟨S0, hS0, hS0o⟩ : ∃ S0 : WS, S0 = ⟨cutW S.t, S.o⟩ ∧ S0.o = S.o := ⟨_, rfl, rfl⟩
  rw [← hS0] at h
  rw [← hS0o] at hW hpl
  clear hS0 hS0o
  obtain ⟨d, hm⟩ := hm
  obtain ⟨k, n, t, l⟩ := v
  have hv : VIn w0 c l := hv
  obtain ⟨ao, cap, rfl, hll⟩ := hv.form
  obtain ⟨O2, hO2⟩ : ∃ O2, O2 = S'.o := ⟨_, rfl⟩
  rw [← hO2] at hlen ⊢
  -- how the object, if it is a new one, is gone over; what comes behind
  have hcase : (∃ e5 pz, ((k == 5) = e5 ∧ (placeN S0.o n == 0) = pz ∧ (e5 = true → pz = false)) ∧ Nxt w0 N b tv l S0.o O2) ∨
      (k = 5 ∧ placeN S0.o n = 0 ∧ l = [] ∧ 1 ≤ n ∧ ∃ (i : Nat) (hi : i < F.length), n = (i : Int) + 1 ∧ Nxt w0 N b tv (F[i]).2 (S0.o ++ [n]) O2) := by
    cases hwo with
    | mk k n t l hk hn hkk ht2 hx hsx hlx =>
    have hk5 : (k = 0 ∨ k = 1 ∨ k = 2 ∨ k = 3) ∨ k = 4 ∨ k = 5 := by omega
    rcases hk5 with hk3 | rfl | rfl
    · left
      have hl0 : l = [] ∧ S'.o = S0.o := by
        rcases hk3 with rfl | rfl | rfl | rfl
        · rw [valueW_0] at h; cases h; rw [mayV, if_pos rfl] at hm; simp only [Bool.and_eq_true, decide_eq_true_eq] at hm; exact ⟨hm.1, rfl⟩
        · rw [valueW_1] at h; cases h; rw [mayV, if_neg (by decide), if_pos rfl] at hm; simp only [Bool.and_eq_true, decide_eq_true_eq] at hm; exact ⟨hm.1, rfl⟩
        · rw [valueW_2] at h; cases h; rw [mayV, if_neg (by decide), if_neg (by decide), if_pos rfl] at hm; simp only [Bool.and_eq_true, decide_eq_true_eq] at hm; exact ⟨hm.1, rfl⟩
        · rw [valueW_3] at h; cases h; rw [mayV, if_neg (by decide), if_neg (by decide), if_neg (by decide), if_pos rfl] at hm; simp only [Bool.and_eq_true, decide_eq_true_eq] at hm; exact ⟨hm.1, rfl⟩
      obtain ⟨rfl, e⟩ := hl0
      rw [hO2, e]
      exact ⟨false, _, ⟨by rcases hk3 with rfl | rfl | rfl | rfl <;> rfl, rfl, by simp⟩, Nxt.nil ..⟩
    · left
      rw [valueW_4] at h
      rw [mayV, if_neg (by decide), if_neg (by decide), if_neg (by decide), if_neg (by decide), if_neg (by decide), if_pos rfl] at hm
      simp only [Bool.and_eq_true, decide_eq_true_eq] at hm
      cases sub with
      | none => unfold bracesW at h; cases h
      | some put =>
        unfold bracesW at h
        simp only at h
        split at h
        · cases h
        · rename_i S1 h1
          cases h
          exact ⟨false, _, ⟨rfl, rfl, by simp⟩, put, _, S1, fun _ => ⟨HV put rfl, HA put rfl, fun x hx2 => ⟨hsx x hx2, _, itemsL_all hm.2 x hx2⟩⟩, h1, rfl, hO2.symm⟩
    · rw [valueW_5] at h
      rw [mayV, if_neg (by decide), if_neg (by decide), if_neg (by decide), if_neg (by decide), if_pos rfl] at hm
      simp only [Bool.and_eq_true, decide_eq_true_eq] at hm
      obtain ⟨rfl, -, -⟩ := hm
      unfold objectW at h
      split at h
      · rename_i i hp
        cases h
        left
        rw [hO2]
        exact ⟨true, false, ⟨rfl, placeN_some hp, fun _ => rfl⟩, Nxt.nil ..⟩
      · rename_i hp
        split at h
        · cases h
        · rename_i th hth
          right
          obtain ⟨hi, hth0⟩ := List.getElem?_eq_some_iff.1 hth
          cases sub with
          | none => unfold bracesW at h; cases h
          | some put =>
            unfold bracesW at h
            simp only at h
            split at h
            · cases h
            · rename_i S1 h1
              cases h
              refine ⟨rfl, placeN_none hp, rfl, (hk rfl).1, (n - 1).toNat, hi, by have := (hk rfl).1; omega, ?_⟩
              rw [hth0]
              exact ⟨put, _, S1, fun _ => ⟨HV put rfl, HA put rfl, fun x hx2 => hFo th (hth0 ▸ List.getElem_mem hi) x hx2⟩, h1, rfl, hO2.symm⟩
  clear h hwo hm hO2 HV HA hFo
  have HC := Lib.hid hcase
  have HVI := Lib.hid hv
  have HO2 := Lib.hid hlen
  have HWW := Lib.hid hW
  have HPL := Lib.hid hpl
  have HF := Lib.hid hF
  have HBX := Lib.hid (heap_alloc_new w (.cells #[.int .i64 k, .int .i64 n, .string t, .slice ao l.length cap] 24))
  have HB0 := Lib.hid (below_alloc1 w (.cells #[.int .i64 k, .int .i64 n, .string t, .slice ao l.length cap] 24))
  have HW0 := Lib.hid (HWW.out.under HB0.out)
  clear hcase hv hlen hW hF hll hpl
  show Calls Tryz.prog 20 #[.pointer (some ⟨b, 0, none⟩), .agg #[.int .i64 k, .int .i64 n, .string t, .slice ao l.length cap]] w _
  go_enter Tryz.func20, Tryz.ntmps20
  go_upto_region 1 with fail
  go_cut [17] from 8 to 17 (fun s wx => Hid ((s = .bool false ∧ ∃ ov1 o1, WN w0 b tv wx ov1 o1 ∧ Nxt w0 N b tv l o1 O2 ∧ KeptN w wx ∧ wx.heap[w.heap.size]? = some (.cells #[.int .i64 k, .int .i64 n, .string t, .slice ao l.length cap] 24 (0, 0))) ∨ (s = .bool true ∧ k = 5 ∧ l = [] ∧ (∃ (i : Nat) (hi : i < F.length), n = (i : Int) + 1 ∧ Nxt w0 N b tv (F[i]).2 (S0.o ++ [n]) O2) ∧ WN w0 b tv wx ov S0.o ∧ KeptN w wx ∧ wx.heap[w.heap.size]? = some (.cells #[.int .i64 k, .int .i64 n, .string t, .slice ao l.length cap] 24 (0, 0)))))
  case first =>
    obtain ⟨a0, a1, a2, a3⟩ := vb4 HBX.out
    rcases HC.out with ⟨e5, pz, ⟨h5, hz, hzz⟩, hnx⟩ | ⟨rfl, hz, rfl, hn1, i, hi, rfl, hnx⟩
    · have HNX := Lib.hid hnx
      have HEND : Hid (∀ W', Below (w.alloc (.cells #[.int .i64 k, .int .i64 n, .string t, .slice ao l.length cap] 24)).heap.size (w.alloc (.cells #[.int .i64 k, .int .i64 n, .string t, .slice ao l.length cap] 24)) W' → (∃ ov1 o1, WN w0 b tv W' ov1 o1 ∧ Nxt w0 N b tv l o1 O2 ∧ KeptN w W' ∧ W'.heap[w.heap.size]? = some (.cells #[.int .i64 k, .int .i64 n, .string t, .slice ao l.length cap] 24 (0, 0)))) := Lib.hid fun W' hb => ⟨ov, S0.o, HW0.out.under hb, HNX.out, (KeptN.of_below HB0.out).trans (KeptN.of_below hb), (hb.block _ (lt_of_block HBX.out)).trans HBX.out⟩
      cases e5
      · clear hz hzz hnx
        go_wp2_with fail
        go_meet
        exact Lib.hid (.inl ⟨rfl, HEND.out _ (Below.refl _ _)⟩)
      · obtain rfl := hzz rfl
        have HP := place_any n _ HW0.out.nb (by have := HPL.out; omega)
        clear hzz hnx
        go_wp2_with fail
        refine HP.mono ?_
        rintro _ w1 ⟨rfl, hb⟩
        have HE := HEND.out w1 hb
        clear hb HP
        go_wp2_with fail
        go_meet
        exact Lib.hid (.inl ⟨rfl, HE⟩)
    · have HNX := Lib.hid hnx
      have HP := place_any ((i : Int) + 1) _ HW0.out.nb (by have := HPL.out; omega)
      rw [hz] at HP
      have HI := Lib.hid hi
      clear hnx hz hn1
      go_wp2_with fail
      refine HP.mono ?_
      rintro _ w1 ⟨rfl, hb⟩
      have HE := Lib.hid (⟨HW0.out.under hb, (KeptN.of_below HB0.out).trans (KeptN.of_below hb), (hb.block _ (lt_of_block HBX.out)).trans HBX.out⟩ : WN w0 b tv w1 ov S0.o ∧ KeptN w w1 ∧ w1.heap[w.heap.size]? = some (.cells #[.int .i64 5, .int .i64 ((i : Int) + 1), .string t, .slice ao ([] : List It).length cap] 24 (0, 0)))
      clear hb HP
      go_wp2_with fail
      go_meet
      exact Lib.hid (.inr ⟨rfl, trivial, trivial, ⟨i, HI.out, rfl, HNX.out⟩, HE.out⟩)
  case rest =>
  have HCU := hcut
  clear hcut HC
  go_upto_if 17 with fail
  go_cut [] from 18 to 48 (fun wx => Hid (∃ ov1 o1, WN w0 b tv wx ov1 o1 ∧ Nxt w0 N b tv l o1 O2 ∧ KeptN w wx ∧ wx.heap[w.heap.size]? = some (.cells #[.int .i64 k, .int .i64 n, .string t, .slice ao l.length cap] 24 (0, 0))))
  case first =>
    rcases HCU.out with ⟨rfl, hst⟩ | ⟨rfl, rfl, rfl, ⟨i, hi, rfl, hnx⟩, hw1, hk1, hb1⟩
    · have HST := Lib.hid hst
      clear hst HCU
      go_wp2_with fail
      go_meet
      exact Lib.hid HST.out
    · have HNX := Lib.hid hnx
      have HI := Lib.hid hi
      obtain ⟨w1, hw1e⟩ : ∃ w1, w1 = wc := ⟨_, rfl⟩
      subst hw1e
      have HW1 := Lib.hid hw1
      have HB1 := Lib.hid hb1
      have HK1 := Lib.hid hk1
      clear hnx hw1 hk1 hb1 HCU
      go_upto_region 2 with fail
      go_cut [] from 18 to 28 (fun wx => Hid (∃ ov2, WN w0 b tv wx ov2 (S0.o ++ [(i : Int) + 1]) ∧ KeptN w1 wx))
      case first =>
        obtain ⟨ao2, cap2, hvo, -⟩ := HW1.out.nb.own.any
        rw [oRows_len] at hvo
        have hvo2 := hvo
        subst hvo2
        have HN1 := Lib.hid HW1.out.nb
        have hXA : ∀ (ob : Obj), Hid ((w1.drew.alloc ob).cell? ⟨w.heap.size, 1, none⟩ = some (.int .i64 ((i : Int) + 1))) := fun ob => Lib.hid (cell_blk (alloc_blk (w := w1.drew) HB1.out ob) 1)
        have hO : ∀ (ob : Obj), Hid (Owns (w1.drew.alloc ob) 3 1 (.slice ao2 S0.o.length cap2) (oRows S0.o)) := fun ob => Lib.hid (HN1.out.own.kept fun g e => Below.heap_alloc _ _ _ (HN1.out.own.lt e))
        have hLi : Hid (Lies (w1.drew.alloc (.cells #[.int .i64 ((i : Int) + 1)] 3)) 1 (some ⟨w1.heap.size, 0, none⟩) [[.int .i64 ((i : Int) + 1)]]) := Lib.hid (lies_new w1.drew [.int .i64 ((i : Int) + 1)] 3 rfl)
        have HDB : Hid (w1.drew.cell? ⟨w.heap.size, 1, none⟩ = some (.int .i64 ((i : Int) + 1))) := Lib.hid (cell_blk HB1.out 1)
        have z1 : w1.cell? ⟨b, 1, none⟩ = some (.slice ao2 S0.o.length cap2) := cell_blk HN1.out.blk 1
        have hbl := lt_of_block HN1.out.blk
        have hBl := lt_of_block HB1.out
        refine wp_region_noPanic ?_
        refine wp_region_held_drew (S := (fun V => V.cell? ⟨w.heap.size, 1, none⟩ = some (.int .i64 ((i : Int) + 1)))) (by kernel_rfl) (by exact HDB.out) (fun hHeld => ?_)
        refine wpAnyH_take (i := 0) (oi := ?oz1_) (v := ?vz1_) ?hiz1_ (by kernel_rfl) (by kernel_rfl) (by kernel_rfl) (fun _ _ _ h => h) ?hyz1_ (by assumption) ?restz1_
        case hiz1_ => simp only [gA, gZ]; rfl
        case hyz1_ =>
          refine Or.inl ⟨by rfl, ?_⟩
          intro w hSw; (try dsimp only at hSw); go_simp <;> (with_reducible rfl)
        (try simp only [Act.put, pA, pZ, pS])
        refine wpAnyH_take (i := 1) (oi := ?oz2_) (v := ?vz2_) ?hiz2_ (by kernel_rfl) (by kernel_rfl) (by kernel_rfl) (fun _ _ _ h => h) ?hyz2_ (by assumption) ?restz2_
        case hiz2_ => simp only [gA, gS, gZ]; rfl
        case hyz2_ =>
          refine Or.inl ⟨by rfl, ?_⟩
          intro w hSw; (try dsimp only at hSw); go_simp <;> (with_reducible rfl)
        (try simp only [Act.put, pA, pZ, pS])
        refine wpAnyH_take (i := 2) (oi := ?oz3_) (v := ?vz3_) ?hiz3_ (by kernel_rfl) (by kernel_rfl) (by kernel_rfl) (fun _ _ _ h => h) ?hyz3_ (by assumption) ?restz3_
        case hiz3_ => simp only [gA, gS, gZ]; rfl
        case hyz3_ =>
          refine Or.inl ⟨by rfl, ?_⟩
          intro w hSw; (try dsimp only at hSw); go_simp <;> (with_reducible rfl)
        (try simp only [Act.put, pA, pZ, pS])
        refine wpAnyH_take (i := 3) (oi := ?oz4_) (v := ?vz4_) ?hiz4_ (by kernel_rfl) (by kernel_rfl) (by kernel_rfl) (fun _ _ _ h => h) ?hyz4_ (by assumption) ?restz4_
        case hiz4_ => simp only [gA, gS, gZ]; rfl
        case hyz4_ =>
          refine Or.inl ⟨by rfl, ?_⟩
          intro w hSw; (try dsimp only at hSw); go_simp <;> (with_reducible rfl)
        (try simp only [Act.put, pA, pZ, pS])
        refine wpAnyH_take (i := 5) (oi := ?oz5_) (v := ?vz5_) ?hiz5_ (by kernel_rfl) (by kernel_rfl) (by kernel_rfl) (fun _ _ _ h => h) ?hyz5_ (by assumption) ?restz5_
        case hiz5_ => simp only [gA, gS, gZ]; rfl
        case hyz5_ =>
          refine Or.inl ⟨by rfl, ?_⟩
          intro w hSw; (try dsimp only at hSw); go_simp <;> (with_reducible rfl)
        (try simp only [Act.put, pA, pZ, pS])
        refine wpAnyH_take (i := 6) (oi := ?oz6_) (v := ?vz6_) ?hiz6_ (by kernel_rfl) (by kernel_rfl) (by kernel_rfl) (fun _ _ _ h => h) ?hyz6_ (by assumption) ?restz6_
        case hiz6_ => simp only [gA, gS, gZ]; rfl
        case hyz6_ =>
          refine Or.inl ⟨by rfl, ?_⟩
          intro w hSw; (try dsimp only at hSw); go_simp <;> (with_reducible rfl)
        (try simp only [Act.put, pA, pZ, pS])
        refine wpAnyH_ready (rs := [4, 7]) (by kernel_rfl) (by simp) ?_
        refine AllReadyH.cons rfl (fun K hK => ?_) (AllReadyH.cons rfl (fun K hK => ?_) AllReadyH.nil)
        · go_simp
          refine hK.out _ _ hHeld (fun hHeld4 => ?_)
          clear hK K
          (try simp only [Act.put, pA, pZ, pS])
          refine wpAnyH_ready (rs := [7]) (by kernel_rfl) (by simp) ?_
          refine AllReadyH.cons rfl (fun K hK => ?_) AllReadyH.nil
          go_simp
          refine hK.out _ _ (hXA _).out (fun hHeld7 => ?_)
          clear hK K
          (try simp only [Act.put, pA, pZ, pS])
          refine wpAnyH_ready (rs := [8]) (by kernel_rfl) (by simp) ?_
          refine AllReadyH.cons rfl (fun K hK => ?_) AllReadyH.nil
          refine step_append_rows rfl (.tmp 22) (.tmp 25) 43 rfl 3 _ 1 8 Tryz.underlying43 infoI3 rfl (by decide) (.slice ao2 S0.o.length cap2) (oRows S0.o) (by simp [Act.eval]) (hO _).out (some ⟨w1.heap.size, 0, none⟩) 1 1 [[.int .i64 ((i : Int) + 1)]] (by simp [Act.eval]) rfl (fun e => by cases e) hLi.out (by simp [Value.oneCell']) (by simp) (by have := HPL.out; rw [oRows_len]; unfold maxLen; simp; omega) (by have := HPL.out; rw [oRows_len]; simp; omega) ?_
          intro v6 w6 o6 g6 b6
          obtain ⟨g7, cap6, hv6, -, -, -⟩ := o6.addr (by simp)
          rw [show (oRows S0.o ++ [[Value.int .i64 ((i : Int) + 1)]]).length = S0.o.length + 1 by simp [oRows]] at hv6
          subst hv6
          have HP6 := Lib.hid (HW1.out.push o6 g6 b6)
          have hb6 : w6.heap[b]? = some (.cells #[tv, .slice ao2 S0.o.length cap2] 45 (0, 0)) := (g6.block b (by simp; omega) (fun e => HN1.out.ne e.symm)).trans (alloc_blk (w := w1.drew) HN1.out.blk _)
          have hbx6 : w6.heap[w.heap.size]? = some (.cells #[.int .i64 5, .int .i64 ((i : Int) + 1), .string t, .slice ao ([] : List It).length cap] 24 (0, 0)) := (g6.block w.heap.size (by simp; omega) (fun e => by obtain ⟨cur, hc⟩ := owns_blk HN1.out.own e.symm; rw [HB1.out] at hc; cases hc)).trans (alloc_blk (w := w1.drew) HB1.out _)
          have hx6 := cell_blk hbx6 1; simp only [List.getElem?_toArray, List.getElem?_cons_succ, List.getElem?_cons_zero] at hx6
          have hc6 := cell_blk hb6 1
          have hf6 := free_blk hb6 1
          have hbne : w.heap.size ≠ b := fun e => by have := HB1.out; rw [e, HN1.out.blk] at this; cases this
          have hx7 := cell_blk ((Below.heap_setCell w6 ⟨b, 1, none⟩ (.slice (some ⟨g7, 0, none⟩) (S0.o.length + 1) cap6) _ hbne).trans hbx6) 1; simp only [List.getElem?_toArray, List.getElem?_cons_succ, List.getElem?_cons_zero] at hx7
          clear o6 g6 b6 hb6 hbx6
          refine hK.out _ _ hx6 (fun hHeld8 => ?_)
          clear hK K
          (try simp only [Act.put, pA, pZ, pS])
          refine wpAnyH_take (i := 9) (oi := ?oz7_) (v := ?vz7_) ?hiz7_ (by kernel_rfl) (by kernel_rfl) (by kernel_rfl) (fun _ _ _ h => h) ?hyz7_ (by assumption) ?restz7_
          case hiz7_ => simp only [gA, gS, gZ]; rfl
          case hyz7_ =>
            refine Or.inl ⟨by rfl, ?_⟩
            intro w hSw; (try dsimp only at hSw); go_simp <;> (with_reducible rfl)
          (try simp only [Act.put, pA, pZ, pS])
          refine wpAnyH_take (i := 10) (oi := ?oz8_) (v := ?vz8_) ?hiz8_ (by kernel_rfl) (by kernel_rfl) (by kernel_rfl) (fun _ _ _ h => h) ?hyz8_ (by assumption) ?restz8_
          case hiz8_ => simp only [gA, gS, gZ]; rfl
          case hyz8_ =>
            refine Or.inl ⟨by rfl, ?_⟩
            intro w hSw; (try dsimp only at hSw); go_simp <;> (with_reducible rfl)
          (try simp only [Act.put, pA, pZ, pS])
          refine wpAnyH_ready (rs := [11]) (by kernel_rfl) (by simp) ?_
          refine AllReadyH.cons rfl (fun K hK => ?_) AllReadyH.nil
          go_simp
          refine hK.out _ _ hx7 (fun hHeld11 => ?_)
          clear hK K
          (try simp only [Act.put, pA, pZ, pS])
          refine wpAnyH_done (by kernel_rfl) ?_ _
          refine NoPanic.normal ?_
          go_wp2_with fail
          go_meet
          exact Lib.hid ⟨_, HP6.out.1, HP6.out.2⟩
        · go_simp
          refine hK.out _ _ (hXA _).out (fun hHeld7 => ?_)
          clear hK K
          (try simp only [Act.put, pA, pZ, pS])
          refine wpAnyH_ready (rs := [4]) (by kernel_rfl) (by simp) ?_
          refine AllReadyH.cons rfl (fun K hK => ?_) AllReadyH.nil
          go_simp
          refine hK.out _ _ (hXA _).out (fun hHeld4 => ?_)
          clear hK K
          (try simp only [Act.put, pA, pZ, pS])
          refine wpAnyH_ready (rs := [8]) (by kernel_rfl) (by simp) ?_
          refine AllReadyH.cons rfl (fun K hK => ?_) AllReadyH.nil
          refine step_append_rows rfl (.tmp 22) (.tmp 25) 43 rfl 3 _ 1 8 Tryz.underlying43 infoI3 rfl (by decide) (.slice ao2 S0.o.length cap2) (oRows S0.o) (by simp [Act.eval]) (hO _).out (some ⟨w1.heap.size, 0, none⟩) 1 1 [[.int .i64 ((i : Int) + 1)]] (by simp [Act.eval]) rfl (fun e => by cases e) hLi.out (by simp [Value.oneCell']) (by simp) (by have := HPL.out; rw [oRows_len]; unfold maxLen; simp; omega) (by have := HPL.out; rw [oRows_len]; simp; omega) ?_
          intro v6 w6 o6 g6 b6
          obtain ⟨g7, cap6, hv6, -, -, -⟩ := o6.addr (by simp)
          rw [show (oRows S0.o ++ [[Value.int .i64 ((i : Int) + 1)]]).length = S0.o.length + 1 by simp [oRows]] at hv6
          subst hv6
          have HP6 := Lib.hid (HW1.out.push o6 g6 b6)
          have hb6 : w6.heap[b]? = some (.cells #[tv, .slice ao2 S0.o.length cap2] 45 (0, 0)) := (g6.block b (by simp; omega) (fun e => HN1.out.ne e.symm)).trans (alloc_blk (w := w1.drew) HN1.out.blk _)
          have hbx6 : w6.heap[w.heap.size]? = some (.cells #[.int .i64 5, .int .i64 ((i : Int) + 1), .string t, .slice ao ([] : List It).length cap] 24 (0, 0)) := (g6.block w.heap.size (by simp; omega) (fun e => by obtain ⟨cur, hc⟩ := owns_blk HN1.out.own e.symm; rw [HB1.out] at hc; cases hc)).trans (alloc_blk (w := w1.drew) HB1.out _)
          have hx6 := cell_blk hbx6 1; simp only [List.getElem?_toArray, List.getElem?_cons_succ, List.getElem?_cons_zero] at hx6
          have hc6 := cell_blk hb6 1
          have hf6 := free_blk hb6 1
          have hbne : w.heap.size ≠ b := fun e => by have := HB1.out; rw [e, HN1.out.blk] at this; cases this
          have hx7 := cell_blk ((Below.heap_setCell w6 ⟨b, 1, none⟩ (.slice (some ⟨g7, 0, none⟩) (S0.o.length + 1) cap6) _ hbne).trans hbx6) 1; simp only [List.getElem?_toArray, List.getElem?_cons_succ, List.getElem?_cons_zero] at hx7
          clear o6 g6 b6 hb6 hbx6
          refine hK.out _ _ hx6 (fun hHeld8 => ?_)
          clear hK K
          (try simp only [Act.put, pA, pZ, pS])
          refine wpAnyH_take (i := 9) (oi := ?oz9_) (v := ?vz9_) ?hiz9_ (by kernel_rfl) (by kernel_rfl) (by kernel_rfl) (fun _ _ _ h => h) ?hyz9_ (by assumption) ?restz9_
          case hiz9_ => simp only [gA, gS, gZ]; rfl
          case hyz9_ =>
            refine Or.inl ⟨by rfl, ?_⟩
            intro w hSw; (try dsimp only at hSw); go_simp <;> (with_reducible rfl)
          (try simp only [Act.put, pA, pZ, pS])
          refine wpAnyH_take (i := 10) (oi := ?oz10_) (v := ?vz10_) ?hiz10_ (by kernel_rfl) (by kernel_rfl) (by kernel_rfl) (fun _ _ _ h => h) ?hyz10_ (by assumption) ?restz10_
          case hiz10_ => simp only [gA, gS, gZ]; rfl
          case hyz10_ =>
            refine Or.inl ⟨by rfl, ?_⟩
            intro w hSw; (try dsimp only at hSw); go_simp <;> (with_reducible rfl)
          (try simp only [Act.put, pA, pZ, pS])
          refine wpAnyH_ready (rs := [11]) (by kernel_rfl) (by simp) ?_
          refine AllReadyH.cons rfl (fun K hK => ?_) AllReadyH.nil
          go_simp
          refine hK.out _ _ hx7 (fun hHeld11 => ?_)
          clear hK K
          (try simp only [Act.put, pA, pZ, pS])
          refine wpAnyH_done (by kernel_rfl) ?_ _
          refine NoPanic.normal ?_
          go_wp2_with fail
          go_meet
          exact Lib.hid ⟨_, HP6.out.1, HP6.out.2⟩
      case rest =>
        obtain ⟨ov2, hw2, hk2⟩ := hcut.out
        have HW2 := Lib.hid hw2
        have HK2 : Hid (KeptN w wc ∧ wc.heap[w.heap.size]? = some (.cells #[.int .i64 5, .int .i64 ((i : Int) + 1), .string t, .slice ao ([] : List It).length cap] 24 (0, 0))) := Lib.hid ⟨HK1.out.trans hk2, hk2.blk _ _ _ _ HB1.out (by decide) (by decide)⟩
        clear hcut hw2 hk2
        obtain ⟨ta, tc, htv, hFl, hth⟩ := HF.out
        obtain ⟨g, off, cx, hta, hg, hvx, c0, c1⟩ := hth i HI.out
        subst hta
        obtain ⟨po, pc, rfl, hpl⟩ := hvx.form
        have HVX := Lib.hid hvx
        have z1 := (vb4 HK2.out.2).2.1
        have y0 : wc.cell? ⟨b, 0, none⟩ = some tv := cell_blk HW2.out.nb.blk 0
        rw [htv] at y0
        have HW3 := Lib.hid (HW2.out.under (Below.refl _ _).drew)
        have HK3 := Lib.hid (And.intro (HK2.out.1.trans (KeptN.of_below (Below.refl wc.heap.size wc).drew)) (show wc.drew.heap[w.heap.size]? = _ from HK2.out.2))
        have y1 : wc.cell? ⟨g, off + i * 2 + 1, none⟩ = some (.slice po (F[i]'HI.out).2.length pc) := (HW2.out.below.cell (p := ⟨g, off + i * 2 + 1, none⟩) hg).trans c1
        have hiF : (i : Int) < (F.length : Int) := by have := HI.out; omega
        have hi0 : (0 : Int) ≤ (i : Int) := by omega
        obtain ⟨hwi, hwi2⟩ := wr_sm (x := (i : Int)) (by omega) (by omega)
        obtain ⟨P, hP⟩ : ∃ P, P = (F[i]'HI.out).2 := ⟨_, rfl⟩
        rw [← hP] at HVX HNX y1
        have HS0 : Hid (((fun V => V.cell? ⟨w.heap.size, 1, none⟩ = some (.int .i64 ((i : Int) + 1)) ∧ V.cell? ⟨b, 0, none⟩ = some (.slice (some ⟨g, off, none⟩) F.length tc) ∧ V.cell? ⟨g, off + i * 2 + 1, none⟩ = some (.slice po P.length pc)) wc.drew)) := Lib.hid ⟨z1, y0, y1⟩
        clear htv hth c0 c1 hvx hpl z1 y0 y1 hP
        go_wp2_with fail
        refine wp_region_noPanic ?_
        refine wp_region_held_drew (S := (fun V => V.cell? ⟨w.heap.size, 1, none⟩ = some (.int .i64 ((i : Int) + 1)) ∧ V.cell? ⟨b, 0, none⟩ = some (.slice (some ⟨g, off, none⟩) F.length tc) ∧ V.cell? ⟨g, off + i * 2 + 1, none⟩ = some (.slice po P.length pc))) (by kernel_rfl) (by exact HS0.out) (fun hHeld => ?_)
        refine wpAnyH_take (i := 0) (oi := ?o0) (v := ?v0) ?hi0 (by kernel_rfl) (by kernel_rfl) (by kernel_rfl) (fun _ _ _ h => h) ?hy0 (by assumption) ?rest0
        case hi0 => simp only [gA, gZ]; rfl
        case hy0 =>
          refine Or.inl ⟨by rfl, ?_⟩
          intro w hSw; (try dsimp only at hSw); go_simp <;> (with_reducible rfl)
        (try simp only [Act.put, pA, pZ, pS])
        refine wpAnyH_take (i := 1) (oi := ?o1) (v := ?v1) ?hi1 (by kernel_rfl) (by kernel_rfl) (by kernel_rfl) (fun _ _ _ h => h) ?hy1 (by assumption) ?rest1
        case hi1 => simp only [gA, gS, gZ]; rfl
        case hy1 =>
          refine Or.inl ⟨by rfl, ?_⟩
          intro w hSw; (try dsimp only at hSw); go_simp <;> (with_reducible rfl)
        (try simp only [Act.put, pA, pZ, pS])
        refine wpAnyH_take (i := 2) (oi := ?o2) (v := ?v2) ?hi2 (by kernel_rfl) (by kernel_rfl) (by kernel_rfl) (fun _ _ _ h => h) ?hy2 (by assumption) ?rest2
        case hi2 => simp only [gA, gS, gZ]; rfl
        case hy2 =>
          refine Or.inl ⟨by rfl, ?_⟩
          intro w hSw; (try dsimp only at hSw); go_simp <;> (with_reducible rfl)
        (try simp only [Act.put, pA, pZ, pS])
        refine wpAnyH_take (i := 3) (oi := ?o3) (v := ?v3) ?hi3 (by kernel_rfl) (by kernel_rfl) (by kernel_rfl) (fun _ _ _ h => h) ?hy3 (by assumption) ?rest3
        case hi3 => simp only [gA, gS, gZ]; rfl
        case hy3 =>
          refine Or.inl ⟨by rfl, ?_⟩
          intro w hSw; (try dsimp only at hSw); go_simp <;> (with_reducible rfl)
        (try simp only [Act.put, pA, pZ, pS])
        refine wpAnyH_take (i := 4) (oi := ?o4) (v := ?v4) ?hi4 (by kernel_rfl) (by kernel_rfl) (by kernel_rfl) (fun _ _ _ h => h) ?hy4 (by assumption) ?rest4
        case hi4 => simp only [gA, gS, gZ]; rfl
        case hy4 =>
          refine Or.inl ⟨by rfl, ?_⟩
          intro w hSw; (try dsimp only at hSw); go_simp <;> (with_reducible rfl)
        (try simp only [Act.put, pA, pZ, pS])
        refine wpAnyH_take (i := 5) (oi := ?o5) (v := ?v5) ?hi5 (by kernel_rfl) (by kernel_rfl) (by kernel_rfl) (fun _ _ _ h => h) ?hy5 (by assumption) ?rest5
        case hi5 => simp only [gA, gS, gZ]; rfl
        case hy5 =>
          refine Or.inl ⟨by rfl, ?_⟩
          intro w hSw; (try dsimp only at hSw); go_simp <;> (with_reducible rfl)
        (try simp only [Act.put, pA, pZ, pS])
        refine wpAnyH_take (i := 6) (oi := ?o6) (v := ?v6) ?hi6 (by kernel_rfl) (by kernel_rfl) (by kernel_rfl) (fun _ _ _ h => h) ?hy6 (by assumption) ?rest6
        case hi6 => simp only [gA, gS, gZ]; rfl
        case hy6 =>
          refine Or.inl ⟨by rfl, ?_⟩
          intro w hSw; (try dsimp only at hSw); go_simp <;> (with_reducible rfl)
        (try simp only [Act.put, pA, pZ, pS])
        refine wpAnyH_take (i := 7) (oi := ?o7) (v := ?v7) ?hi7 (by kernel_rfl) (by kernel_rfl) (by kernel_rfl) (fun _ _ _ h => h) ?hy7 (by assumption) ?rest7
        case hi7 => simp only [gA, gS, gZ]; rfl
        case hy7 =>
          refine Or.inl ⟨by rfl, ?_⟩
          intro w hSw; (try dsimp only at hSw); go_simp <;> (with_reducible rfl)
        (try simp only [Act.put, pA, pZ, pS])
        refine wpAnyH_take (i := 8) (oi := ?o8) (v := ?v8) ?hi8 (by kernel_rfl) (by kernel_rfl) (by kernel_rfl) (fun _ _ _ h => h) ?hy8 (by assumption) ?rest8
        case hi8 => simp only [gA, gS, gZ]; rfl
        case hy8 =>
          refine Or.inl ⟨by rfl, ?_⟩
          intro w hSw; (try dsimp only at hSw); go_simp <;> (with_reducible rfl)
        (try simp only [Act.put, pA, pZ, pS])
        refine wpAnyH_take (i := 9) (oi := ?o9) (v := ?v9) ?hi9 (by kernel_rfl) (by kernel_rfl) (by kernel_rfl) (fun _ _ _ h => h) ?hy9 (by assumption) ?rest9
        case hi9 => simp only [gA, gS, gZ]; rfl
        case hy9 =>
          refine Or.inl ⟨by rfl, ?_⟩
          intro w hSw; (try dsimp only at hSw); go_simp <;> (with_reducible rfl)
        (try simp only [Act.put, pA, pZ, pS])
        refine wpAnyH_take (i := 10) (oi := ?o10) (v := ?v10) ?hi10 (by kernel_rfl) (by kernel_rfl) (by kernel_rfl) (fun _ _ _ h => h) ?hy10 (by assumption) ?rest10
        case hi10 => simp only [gA, gS, gZ]; rfl
        case hy10 =>
          refine Or.inl ⟨by rfl, ?_⟩
          intro w hSw; (try dsimp only at hSw); go_simp <;> (with_reducible rfl)
        (try simp only [Act.put, pA, pZ, pS])
        refine wpAnyH_take (i := 11) (oi := ?o11) (v := ?v11) ?hi11 (by kernel_rfl) (by kernel_rfl) (by kernel_rfl) (fun _ _ _ h => h) ?hy11 (by assumption) ?rest11
        case hi11 => simp only [gA, gS, gZ]; rfl
        case hy11 =>
          refine Or.inl ⟨by rfl, ?_⟩
          intro w hSw; (try dsimp only at hSw); go_simp <;> (with_reducible rfl)
        (try simp only [Act.put, pA, pZ, pS])
        refine wpAnyH_done (by kernel_rfl) ?_ _
        refine NoPanic.normal ?_
        go_wp2_with fail
        go_loopw [40] (fun kv wr => ∃ (j : Nat) (ov' : Value) (o' : List Int), j ≤ P.length ∧ kv = .int .i64 j ∧ Hid (Nxt w0 N b tv (P.drop j) o' O2) ∧ Hid (WN w0 b tv wr ov' o') ∧ Hid (KeptN w wr ∧ wr.heap[w.heap.size]? = some (.cells #[.int .i64 5, .int .i64 ((i : Int) + 1), .string t, .slice ao ([] : List It).length cap] 24 (0, 0)))) (fun kv _ => P.length - (intOf kv).toNat)
        case atStart => exact ⟨0, ov2, _, Nat.zero_le _, rfl, Lib.hid HNX.out, HW3, HK3⟩
        case round =>
          obtain ⟨j, ov', o', hj, rfl, HNX, HW, HK⟩ := hrel
          skip
          by_cases hlt : j < P.length
          · have hi : (j : Int) < (P.length : Int) := by omega
            obtain ⟨hw', hw⟩ := wr_sm (x := (j : Int) + 1) (by omega) (by have := HVX.out.form'; omega)
            obtain ⟨q, x, g, off, co, cc, hget, hmem, rfl, -, r0, r1, r2, r3, r4, r5, r6⟩ := HVX.out.getB hlt HW.out.below rfl
            have HVY : Hid (VIn w0 (.slice co x.xs.length cc) x.xs) := by
              obtain ⟨q2, y2, g2, off2, co2, cc2, hget2, -, e2, hv2, s0, s1, s2, s3, s4, s5, s6⟩ := HVX.out.getB hlt (Below.refl w0.heap.size w0) rfl
              cases e2
              rw [hget] at hget2
              cases hget2
              have hk := HW.out.below.cell (p := ⟨g, off + j * 7 + 6, none⟩) (cell_lt s6)
              rw [r6, s6] at hk
              cases hk
              exact Lib.hid hv2
            obtain ⟨o1, hcall, hnx⟩ := HNX.out.one hget HO2.out
            have HCA := @Lib.hid _ hcall
            have HNX1 := Lib.hid hnx
            have HA := Lib.hid (heap_alloc_new wr (IB (q, x) (.slice co x.xs.length cc)))
            have HBA := Lib.hid (below_alloc1 wr (IB (q, x) (.slice co x.xs.length cc)))
            obtain ⟨e0, e1, e2, e3, e4, e5, e6⟩ := ib_cells HA.out
            simp only at e0 e1 e2 e3 e4 e5 e6
            have HLT := Lib.hid hlt
            clear hget hmem hcall hnx hlt
            go_wp2_with fail
            refine (HCA.out _ _ _ (HW.out.under HBA.out) HVY.out).mono ?_
            rintro _ w2 ⟨rfl, ⟨ov2, hw2⟩, hk2⟩
            have HW2 := Lib.hid hw2
            have HK2 := Lib.hid (And.intro (HK.out.1.trans ((KeptN.of_below HBA.out).trans hk2)) (hk2.blk _ _ _ _ (alloc_blk HK.out.2 _) (by decide) (by decide)))
            clear hw2 hk2 e0 e1 e2 e3 e4 e5 e6
            go_wp2_with fail
            go_roundw
            case rel => exact ⟨j + 1, ov2, o1, HLT.out, by go_num, HNX1, HW2, HK2⟩
            case measure => have := HLT.out; simp [intOf]; omega
          · obtain rfl : j = P.length := by omega
            have ho := HNX.out.done
            subst ho
            go_wp2_with fail
            go_meet
            exact Lib.hid ⟨ov', o', HW.out, Nxt.nil .., HK.out.1, HK.out.2⟩
  case rest =>
    obtain ⟨ov1, o1, hw1, hnx, hk1, hb1⟩ := hcut.out
    have HW1 := Lib.hid hw1
    have HNX := Lib.hid hnx
    have HK1 := Lib.hid (⟨hk1, hb1⟩ : KeptN w wc ∧ wc.heap[w.heap.size]? = some (.cells #[.int .i64 k, .int .i64 n, .string t, .slice ao l.length cap] 24 (0, 0)))
    obtain ⟨a0, a1, a2, a3⟩ := vb4 hb1
    clear hcut hw1 hnx hk1 hb1
    go_wp2_with fail
    go_loopw [52] (fun kv wr => ∃ (j : Nat) (ov' : Value) (o' : List Int), j ≤ l.length ∧ kv = .int .i64 j ∧ Hid (Nxt w0 N b tv (l.drop j) o' O2) ∧ Hid (WN w0 b tv wr ov' o') ∧ Hid (KeptN w wr ∧ wr.heap[w.heap.size]? = some (.cells #[.int .i64 k, .int .i64 n, .string t, .slice ao l.length cap] 24 (0, 0)))) (fun kv _ => l.length - (intOf kv).toNat)
    case atStart => exact ⟨0, ov1, o1, Nat.zero_le _, rfl, HNX, HW1, HK1⟩
    case round =>
      obtain ⟨j, ov', o', hj, rfl, HNX, HW, HK⟩ := hrel
      skip
      by_cases hlt : j < l.length
      · have hi : (j : Int) < (l.length : Int) := by omega
        obtain ⟨hw', hw⟩ := wr_sm (x := (j : Int) + 1) (by omega) (by have := HVI.out.form'; omega)
        obtain ⟨q, x, g, off, co, cc, hget, hmem, rfl, -, r0, r1, r2, r3, r4, r5, r6⟩ := HVI.out.getB hlt HW.out.below rfl
        have HVY : Hid (VIn w0 (.slice co x.xs.length cc) x.xs) := by
          obtain ⟨q2, y2, g2, off2, co2, cc2, hget2, -, e2, hv2, s0, s1, s2, s3, s4, s5, s6⟩ := HVI.out.getB hlt (Below.refl w0.heap.size w0) rfl
          cases e2
          rw [hget] at hget2
          cases hget2
          have hk := HW.out.below.cell (p := ⟨g, off + j * 7 + 6, none⟩) (cell_lt s6)
          rw [r6, s6] at hk
          cases hk
          exact Lib.hid hv2
        obtain ⟨o1, hcall, hnx⟩ := HNX.out.one hget HO2.out
        have HCA := @Lib.hid _ hcall
        have HNX1 := Lib.hid hnx
        have HA := Lib.hid (heap_alloc_new wr (IB (q, x) (.slice co x.xs.length cc)))
        have HBA := Lib.hid (below_alloc1 wr (IB (q, x) (.slice co x.xs.length cc)))
        obtain ⟨e0, e1, e2, e3, e4, e5, e6⟩ := ib_cells HA.out
        simp only at e0 e1 e2 e3 e4 e5 e6
        have HLT := Lib.hid hlt
        clear hget hmem hcall hnx hlt
        go_wp2_with fail
        refine (HCA.out _ _ _ (HW.out.under HBA.out) HVY.out).mono ?_
        rintro _ w2 ⟨rfl, ⟨ov2, hw2⟩, hk2⟩
        have HW2 := Lib.hid hw2
        have HK2 := Lib.hid (And.intro (HK.out.1.trans ((KeptN.of_below HBA.out).trans hk2)) (hk2.blk _ _ _ _ (alloc_blk HK.out.2 _) (by decide) (by decide)))
        clear hw2 hk2 e0 e1 e2 e3 e4 e5 e6
        go_wp2_with fail
        go_roundw
        case rel => exact ⟨j + 1, ov2, o1, HLT.out, by go_num, HNX1, HW2, HK2⟩
        case measure => have := HLT.out; simp [intOf]; omega
      · obtain rfl : j = l.length := by omega
        have ho := HNX.out.done
        subst ho
        go_wp2_with fail
        first | go_end0 | (refine bodyPost_ret (results_none rfl _ _ _) rfl ?_)
        exact ⟨rfl, ⟨ov', HW.out⟩, HK.out.1⟩
theorem walk_any {F : List TP} {w0 : World} {N b : Nat} {tv : Value} (hF : ThAt w0 tv F) (hFo : ∀ th ∈ F, ∀ x ∈ th.2, WOk N x.2 ∧ ∃ d, mayV x.2 d = true) : ∀ k : Nat, WalkAt w0 N b tv (gvalW F k)
  | 0 => walk_lvl hF hFo (sub := none) (fun _ e => by cases e) (fun _ e => by cases e) (fun _ e => by cases e)
  | k + 1 => walk_lvl hF hFo (sub := some (gvalW F k)) (fun put e => by cases e; exact walk_any hF hFo k) (fun put e => by cases e; exact gvalW_adds F k) (fun put e => by cases e; exact gvalW_long F k)
end Go.Proofs.YtnaefnojmiolbaaGreatDoor
