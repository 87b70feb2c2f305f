/-
  All's iterator: its contract.
-/
import Derived.Test.YtgpdhmgbmhfooaaDoorRangeG
import Derived.Test.YtgpdhmgbmhfooaaDoorCopy07
import Derived.Test.YtgpdhmgbmhfooaaDoorDoes07
namespace Go.Proofs.YtgpdhmgbmhfooaaDoor
open Go.RowKit Go.Shelf

attribute [local go_sem] Oper.semAt_some

def itAt (xs : List It) (j : Nat) : It := xs[j]?.getD (k0, 0)
theorem itAt_lt {xs : List It} {j : Nat} (h : j < xs.length) : itAt xs j = xs[j] := by unfold itAt; simp [h]
abbrev encL (xs : List It) (j : Nat) : Array Value := #[(itAt xs j).1.v, .int .i64 (itAt xs j).2]
/-- What the iterator does ahead of the first round: the list shares its parts with a copy. -/
def PreL (b : Nat) (v : Value) (mb : Nat) (l : LS) (_ : Nat) (W W' : World) : Prop := ListIs W' b true v mb l ∧ Mod (fun k => k = b) W W'
/-- What a round must keep: the items. -/
def KpL (v : Value) (_ : Nat) (W W' : World) : Prop := ∀ k cs t, v.ownBlock = some k → W.heap[k]? = some (.cells cs t (0, 0)) → W'.heap[k]? = some (.cells cs t (0, 0))
theorem KpL.owns {v : Value} {c : Nat} {W W' : World} {e : TypeId} {size : Nat} {rows : List (List Value)} (h : KpL v c W W') (o : Owns W e size v rows) : Owns W' e size v rows :=
  o.kept fun g e => by
    obtain ⟨cur, hc⟩ := owns_type o e
    rw [h g cur _ e hc, hc]
theorem KpL.trans {v : Value} {c : Nat} {A B C : World} (h : KpL v c A B) (k : KpL v c B C) : KpL v c A C := fun q cs t e hc => k q cs t e (h q cs t e hc)
theorem KpL.putObj {v : Value} {c : Nat} {W : World} {l : Nat} {o o' : Obj} (hl : W.heap[l]? = some o) (ho : o.isCells = false) : KpL v c W (W.putObj l o') := fun k cs t _ hc => by
  have hne : k ≠ l := fun e => by
    rw [e, hl] at hc
    cases hc
    cases ho
  exact (World.putObj_heap_other hne).trans hc
abbrev IB (y : K) (x : Int) : Obj := .cells #[.bool y.b, .int .i64 y.n, .string y.t, .int .i64 x] 88 (0, 0)

set_option maxRecDepth 100000 in
set_option maxHeartbeats 3200000 in
theorem all_seq {b mb : Nat} {sh : Bool} {v : Value} {l : LS} (B : Nat) (m : Nat) (w : World) (i : ListIs w b sh v mb l) (hB : w.heap[B]? = some (.cells #[.pointer (some ⟨b, 0, none⟩)] 25 (0, 0))) :
    SeqG Fence.wide m Tryd.prog 53 #[.pointer (some ⟨B, 0, none⟩)] (encL l.xs) (PreL b v mb l) (KpL v) l.xs.length w := by
  obtain ⟨ao, cap, hv, -⟩ := i.own.any
  rw [List.length_map] at hv
  subst hv
  intro q J Jx W hbW hJa hY hP
  have iW := i.below hbW
  have c0 := (cells5 iW.blk).1
  have cB := cell_blk ((hbW.block _ (lt_of_block hB)).trans hB) 0
  have HC := copy_any W iW
  have hlen := i.ok.len
  have HI := Lib.hid iW
  have HY := Lib.hid hY
  have HP := Lib.hid hP
  have HJ := Lib.hid hJa
  clear i hB iW hY hP hJa hbW
  refine callsIn_of_wp Tryd.func53 rfl trivial ?_ rfl
  simp only [Tryd.ntmps53, List.size_toArray, List.length_cons, List.length_nil, Nat.reduceAdd, Nat.reduceSub, Array.replicate_succ, Array.replicate_zero, List.push_toArray, List.append_toArray, List.nil_append, List.cons_append]
  gi_wp2_with (first
    | (refine ⟨trivial, fun h => (by cases h), ?_⟩; gi_at_call 51; refine (callsIn_wide.2 (lok_any _ _ _ c0)).mono ?_; rintro e w' ⟨rfl, rfl⟩)
    | (refine ⟨trivial, fun h => (by cases h), ?_⟩; gi_at_call 28; refine (callsIn_wide.2 HC).mono ?_; rintro e w1 ⟨rfl, i1, i2, m1, -⟩; have P0 := HP.out 0 w1 ⟨i1, m1⟩; have c2 := (cells5 i2.blk).2.2.1; have O1 := Lib.hid i2.own; clear HP i1 i2 m1))
  gi_loopw [16] (fun i wr => ∃ k : Nat, k ≤ l.xs.length ∧ i = .int .i64 k ∧ Hid (J 0 k wr ∧ Owns wr 88 4 (.slice ao l.xs.length cap) (l.xs.map It.cells))) (fun i _ => l.xs.length - (intOf i).toNat)
  case atStart => exact ⟨0, Nat.zero_le _, rfl, P0, O1.out⟩
  case round =>
    obtain ⟨k, hk, rfl, HS⟩ := hrel
    by_cases hlt : k < l.xs.length
    · obtain ⟨ao', cap', hv, h1, h2, h3, _, h5⟩ := HS.out.2.any
      rw [List.length_map] at hv
      cases hv
      obtain ⟨g, off, rfl, hg, _, hc⟩ := h3 k (It.cells l.xs[k]) (by simp [hlt])
      obtain ⟨rfl, _⟩ := h5 g off rfl
      have d0 := hc 0 _ rfl
      have d1 := hc 1 _ rfl
      have d2 := hc 2 _ rfl
      have d3 := hc 3 _ rfl
      simp only [Nat.zero_add, Nat.add_zero] at d0 d1 d2 d3
      have hi1 : (k : Int) < (l.xs.length : Int) := by omega
      obtain ⟨y, x, hyx⟩ : ∃ y x, (y, x) = l.xs[k] := ⟨_, _, rfl⟩
      rw [← hyx] at d0 d1 d2 d3
      have HR := HY.out 0 k (wr.alloc (IB y x)) (HJ.out _ _ _ _ HS.out.1) hlt
      have he : encL l.xs k = #[.agg #[.bool y.b, .int .i64 y.n, .string y.t], .int .i64 x] := by unfold encL; rw [itAt_lt hlt, ← hyx]; rfl
      rw [he] at HR
      obtain ⟨fn, tmps, assign, body, hy, hR⟩ := HR
      clear h1 h2 h3 h5 hc hyx he HY hg
      gi_wp2
      refine ⟨fun h => (by cases h), hR.mono ?_⟩
      clear hy hR
      rintro e W3 (⟨rfl, hJ3, hk3⟩ | ⟨rfl, hJx3⟩)
      · gi_wp2
        go_roundw
        case rel => exact ⟨k + 1, hlt, by go_num, hJ3, hk3.owns (HS.out.2.kept (fun g e => Below.heap_alloc _ _ _ (HS.out.2.lt e)))⟩
        case measure => exact Nat.sub_lt_sub_left hlt (Nat.lt_succ_self k)
      · gi_wp2
        refine bodyPost_ret (results_none rfl _ _ _) rfl ?_
        exact ⟨⟨_, rfl⟩, 0, .inr ⟨k, hlt, hJx3⟩⟩
    · obtain rfl : k = l.xs.length := by omega
      gi_wp2
      refine bodyPost_end (v := .tuple #[]) (by simp [results, Tryd.results53, go_sem]) rfl ?_
      exact ⟨⟨_, rfl⟩, 0, .inl HS.out.1⟩
end Go.Proofs.YtgpdhmgbmhfooaaDoor
