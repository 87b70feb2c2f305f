/-
  The document's list: the walk of Del.
-/
import Derived.Test.YtgpdhmgbmhfooaaDoorRGet07
import Derived.Deep.RegionHeldLaw
namespace Go.Proofs.YtgpdhmgbmhfooaaDoor
open Go.RowKit

theorem info56 : (Tryd.prog.info? 56).map (fun i => (i.zero, i.size, i.bytes)) = some (some (.agg #[.bool false, .int .i64 0, .string .empty, .int .i64 0, .int .i64 0, .string .empty, .slice none 0 0]), 7, 88) := by kernel_rfl

/-- What a call on the document's list leaves. -/
def RefPost (w : World) (rb ro : Nat) (c : Array Value) (v : Value) (l : LS) (r : Value) (e : Ending) (w' : World) : Prop :=
  e = .returned r ∧ ∃ c' v', RefAt w' rb ro c' v' l ∧ Mod (fun k => k = rb) w w' ∧ (∀ i, i ≠ ro → i ≠ ro + 1 → c'[i]? = c[i]?) ∧ (v' = v ∨ ∀ g, v'.ownBlock = some g → w.heap.size ≤ g)

theorem owns_type {w : World} {e size : Nat} {v : Value} {rows : List (List Value)} (o : Owns w e size v rows) {g : Nat} (hg : v.ownBlock = some g) : ∃ cur, w.heap[g]? = some (.cells cur e (0, 0)) := by
  rcases o.row.2 with ⟨rfl, _⟩ | ⟨g', cap, cur, rfl, _, hgg, _⟩
  · simp [Value.ownBlock] at hg
  · simp [Value.ownBlock] at hg; subst hg; exact ⟨cur, hgg⟩
theorem owns_ne {w : World} {e t size : Nat} {v : Value} {rows : List (List Value)} (o : Owns w e size v rows) {b : Nat} {c : Array Value} {fr : Nat × Nat} (hb : w.heap[b]? = some (.cells c t fr)) (hne : e ≠ t) : v.ownBlock ≠ some b := fun h => by
  obtain ⟨cur, hc⟩ := owns_type o h
  rw [hb] at hc
  cases hc
  exact hne rfl
/-- The list's items are others: what the call leaves. -/
theorem ref_store {w W : World} {rb ro : Nat} {c : Array Value} {v v' : Value} {l l' : LS} {r : Value} (hm : Mod (fun k => k = rb) w W) (hB : W.heap[rb]? = some (.cells c 47 (0, 0))) (h0 : c[ro]? = some v) (h1 : c[ro + 1]? = some (.int .i64 l.nx))
    (hO : Owns W 56 7 v' (l'.xs.map RC)) (hok : l'.Ok) (hnx : l'.nx = l.nx) (hg : ∀ g, v'.ownBlock = some g → w.heap.size ≤ g) :
    RefPost w rb ro c v l' r (.returned r) (W.setCell ⟨rb, ro, none⟩ v') := by
  have hlt : ro < c.size := (Array.getElem?_eq_some_iff.1 h0).1
  refine ⟨rfl, c.setIfInBounds ro v', v', ⟨set_blk hB ro v', by simp [hlt], ?_, hO.kept fun g e => Below.heap_setCell _ _ _ _ (fun h => owns_ne hO hB (by decide) (by rw [e, h])), hok⟩, hm.setCell _ _ (fun _ => rfl), fun i h h' => ?_, .inr hg⟩
  · rw [Array.getElem?_setIfInBounds_ne (by omega), h1, hnx]
  · rw [Array.getElem?_setIfInBounds_ne (by omega)]
theorem rdel_done {w wq w1 w2 : World} {rb ro B j : Nat} {c : Array Value} {v v1 v2 : Value} {l : LS} {k : K} (A2 : InRef w wq rb ro c v l B k none)
    (G1 : wq.drew.grownBy w1 (Value.slice none 0 0).ownBlock ∧ (v1.ownBlock = (Value.slice none 0 0).ownBlock ∨ ∃ k, v1.ownBlock = some k ∧ wq.drew.heap.size ≤ k))
    (O2 : Owns w2 56 7 v2 ([] ++ (l.xs.take j).map RC ++ (l.xs.drop (j + 1)).map RC)) (G2 : w1.grownBy w2 v1.ownBlock ∧ (v2.ownBlock = v1.ownBlock ∨ ∃ k, v2.ownBlock = some k ∧ w1.heap.size ≤ k))
    (hB2 : w2.heap[rb]? = some (.cells c 47 (0, 0))) : RefPost w rb ro c v ⟨l.xs.eraseIdx j, l.nx⟩ (.bool true) (.returned (.bool true)) (w2.setCell ⟨rb, ro, none⟩ v2) := by
  obtain ⟨g1, b1⟩ := G1
  obtain ⟨g2, b2⟩ := G2
  have hs := A2.below.size
  have hs1 : wq.heap.size ≤ w1.heap.size := g1.size
  have hb1 : ∀ g, v1.ownBlock = some g → wq.heap.size ≤ g := fun g e => by
    rcases b1 with h | ⟨k, h, hk⟩
    · rw [h] at e; cases e
    · rw [h] at e; cases e; exact hk
  rw [List.nil_append, ← List.map_append, take_drop_erase] at O2
  refine ref_store (l := l) (l' := ⟨l.xs.eraseIdx j, l.nx⟩) ?_ hB2 A2.lst.c0 A2.lst.c1 O2 (del_ok A2.lst.ok j) rfl (fun g e => ?_)
  · refine ((((Mod.of_below (F := fun k => k = rb) A2.below).drew).grown g1 (fun k e _ => by cases e)).grown g2 (fun k e hk => ?_))
    have := hb1 k e
    omega
  · rcases b2 with h | ⟨k, h, hk⟩
    · rw [h] at e; have := hb1 g e; omega
    · rw [h] at e; cases e; omega
set_option maxRecDepth 100000 in
set_option maxHeartbeats 3200000 in
theorem rdel_of {rb ro : Nat} {c : Array Value} {v : Value} {l : LS} {k : K} (hk : k.Good) (f : Int) (hf : findI k.norm l.xs = f) (r : Bool × LS)
    (hr : (f = -1 ∧ r = (false, l)) ∨ ∃ j : Nat, j < l.xs.length ∧ f = j ∧ r = (true, ⟨l.xs.eraseIdx j, l.nx⟩)) (w : World) (ht : Tabs w) (i : RefAt w rb ro c v l) :
    Calls Tryd.prog 58 #[.pointer (some ⟨rb, ro, none⟩), k.v] w (RefPost w rb ro c v r.2 (.bool r.1)) := by
  obtain ⟨ao, cap, hv, -⟩ := i.own.any
  rw [List.length_map] at hv
  subst hv
  obtain ⟨q, hq⟩ : ∃ q, q = k.norm := ⟨_, rfl⟩
  have HN : ∀ w, Tabs w → Calls Tryd.prog 17 #[.agg #[.bool k.b, .int .i64 k.n, .string k.t]] w fun e w' => e = .returned (.agg #[.bool q.b, .int .i64 q.n, .string q.t]) ∧ Below w.heap.size w w' := fun w h => by rw [hq]; exact rnorm_any k hk w h
  have HF : ∀ W, Owns W 56 7 (.slice ao l.xs.length cap) (l.xs.map RC) → Calls Tryd.prog 76 #[.slice ao l.xs.length cap, .agg #[.bool q.b, .int .i64 q.n, .string q.t]] W fun e w' => e = .returned (.int .i64 f) ∧ Below W.heap.size W w' := fun W o => by
    have := rfind_any l.xs q i.ok.len W o
    rw [hq, hf] at this
    rw [hq]
    exact this
  have A0 : Hid (InRef w (w.alloc (KB k.b k.n k.t)) rb ro c (.slice ao l.xs.length cap) l w.heap.size k none) :=
    ⟨ht, i.below (below_alloc1 _ _), heap_alloc_new _ _, fun o e => (by cases e), below_alloc1 _ _⟩
  have hlen := i.ok.len
  clear i ht hk hq hf
  unfold K.v
  go_enter Tryd.func58, Tryd.ntmps58
  go_wp2_with fail
  generalize hW : w.alloc _ = W0 at A0 ⊢
  clear hW
  have A1 := A0.out
  go_region_held3 (fun W => W.cell? ⟨rb, ro, none⟩ = some (.slice ao l.xs.length cap) ∧ W.cell? ⟨w.heap.size, 0, none⟩ = some (.bool k.b) ∧ W.cell? ⟨w.heap.size, 1, none⟩ = some (.int .i64 k.n) ∧ W.cell? ⟨w.heap.size, 2, none⟩ = some (.string k.t) ∧ InRef w W rb ro c (.slice ao l.xs.length cap) l w.heap.size k none)
    (first
      | assumption
      | (refine refS (InRef.mono (refS' ?_) hb); assumption)
      | (refine refS (InRef.drew ?_); assumption))
    (first
      | (go_at_call 17; refine (HN _ (InRef.tabsW (refS' (w := w) (rb := rb) (ro := ro) (c := c) (v := .slice ao l.xs.length cap) (l := l) (B := w.heap.size) (k := k) (o2 := none) ?_))).mono ?_; assumption; rintro e wq ⟨rfl, hb⟩)
      | (go_at_call 76; refine (HF _ (refS' (w := w) (rb := rb) (ro := ro) (c := c) (v := .slice ao l.xs.length cap) (l := l) (B := w.heap.size) (k := k) (o2 := none) ?_).lst.own).mono ?_; assumption; rintro e wq ⟨rfl, hb⟩))
  have A2 := Lib.hid (refS' (w := w) (rb := rb) (ro := ro) (c := c) (v := .slice ao l.xs.length cap) (l := l) (B := w.heap.size) (k := k) (o2 := none) (by assumption))
  clear A1 A0 HN HF
  rename_i wq _ hHeld
  clear hHeld
  rcases hr with ⟨rfl, rfl⟩ | ⟨j, hj, rfl, rfl⟩
  · go_wp2_with fail
    go_ret
    exact ⟨rfl, c, _, A2.out.lst, Mod.of_below A2.out.below, fun _ _ _ => rfl, .inl rfl⟩
  · obtain ⟨g, rfl, -, hlc, hcm, hgl, -⟩ := ritem A2.out.lst.own hj
    have HC := Lib.hid hcm
    unfold maxLen at hcm
    obtain ⟨A, hA, hlies⟩ : ∃ A : Addr, (if cap = j + 1 then some (⟨g, 0, none⟩ : Addr) else some ⟨g, (j + 1) * 7, none⟩) = some A ∧ Hid (Lies wq.drew 7 (some A) ((l.xs.drop (j + 1)).map RC)) := by
      by_cases h : cap = j + 1
      · have hd : l.xs.drop (j + 1) = [] := List.drop_of_length_le (by omega)
        refine ⟨⟨g, 0, none⟩, by simp [h], Lib.hid ?_⟩
        rw [hd]
        exact Lies.nil _ _ _
      · refine ⟨⟨g, (j + 1) * 7, none⟩, by simp [h], Lib.hid ?_⟩
        have := A2.out.lst.own.liesFrom (j + 1)
        rw [← List.map_drop] at this
        exact this
    have hpre : Hid (Lies wq.drew 7 (some ⟨g, 0, none⟩) ((l.xs.take j).map RC)) := by
      have h2 := A2.out.lst.own.liesFrom 0
      rw [Nat.zero_mul, List.drop_zero] at h2
      intro i r hi
      refine h2 i r ?_
      rw [← hi, List.getElem?_map, List.getElem?_map, List.getElem?_take]
      split
      · rfl
      · rename_i hc
        rw [List.getElem?_map, List.getElem?_take, if_neg hc] at hi
        cases hi
    have hw : IntKind.i64.wrap ((j : Int) + 1) = (j : Int) + 1 := wrap_in (by omega) (by omega)
    have hw' : wrap64 ((j : Int) + 1) = (j : Int) + 1 := wrap64_in' (by omega) (by omega)
    obtain ⟨d, -⟩ := A2.out.lst.cells
    have hn1 : Hid (j = ((l.xs.take j).map RC).length) := by show _ = _; simp; omega
    have hn2 : Hid (l.xs.length - (j + 1) = ((l.xs.drop (j + 1)).map RC).length) := by show _ = _; simp
    have hr1 : Hid (([] : List (List Value)).length + ((l.xs.take j).map RC).length ≤ maxLen ∧ (([] : List (List Value)).length + ((l.xs.take j).map RC).length) * 88 ≤ 140737488355328) := by
      have : ((l.xs.take j).map RC).length ≤ 2048 := by simp; omega
      exact ⟨by simp only [List.length_nil]; unfold maxLen; omega, by simp only [List.length_nil]; omega⟩
    have hr2 : Hid (([] ++ (l.xs.take j).map RC).length + ((l.xs.drop (j + 1)).map RC).length ≤ maxLen ∧ (([] ++ (l.xs.take j).map RC).length + ((l.xs.drop (j + 1)).map RC).length) * 88 ≤ 140737488355328) := by
      have h1 : ([] ++ (l.xs.take j).map RC).length ≤ 2048 := by simp; omega
      have h2 : ((l.xs.drop (j + 1)).map RC).length ≤ 2048 := by simp; omega
      exact ⟨by unfold maxLen; omega, by omega⟩
    have hr3 : Hid (([] ++ (l.xs.take j).map RC ++ (l.xs.drop (j + 1)).map RC).length = l.xs.length - 1) := by show _ = _; simp; omega
    have hrb := lt_of_block A2.out.lst.blk
    have p0 : (0 : Int) ≤ (j : Int) + 1 := by omega
    have p1 : (j : Int) + 1 ≤ (l.xs.length : Int) := by omega
    have p2 : ((j : Int) + 1).toNat = j + 1 := by omega
    have p3 : (j : Int) ≤ (cap : Int) := by omega
    have hjl : j + 1 ≤ l.xs.length := hj
    have hjc : j ≤ cap := by omega
    have hD : Hid (wq.drew.heap[rb]? = some (.cells c 47 (0, 0)) ∧ c[ro]? = some (.slice (some ⟨g, 0, none⟩) l.xs.length cap)) := ⟨A2.out.lst.blk, A2.out.lst.c0⟩
    go_wp2_with fail
    go_region_law
      (first
        | ((refine step_append_rows rfl (.const (.slice none 0 0)) (.tmp 21) 45 rfl 56 _ 7 88 Tryd.underlying45 info56 rfl (by decide) (.slice none 0 0) [] (by rfl) (Owns.empty _ _ _) (some ⟨g, 0, none⟩) j cap ((l.xs.take j).map RC) (by rfl) hn1.out (fun e => by cases e) hpre.out (RC_one _) (RC_len _) hr1.out.1 hr1.out.2 ?_; intro v1 w1 o1 g1 b1; have hB1 := Lib.hid ((g1.block rb hrb (by simp [Value.ownBlock])).trans hD.out.1); have hL1 := Lib.hid (hlies.out.kept (w' := w1) (fun g' off e hg => ⟨g1.block g' hg (by simp [Value.ownBlock]), Nat.lt_of_lt_of_le hg g1.size⟩)); have z1 := (cell_blk hB1.out ro).trans hD.out.2; have O1 := Lib.hid o1; have G1 := Lib.hid (⟨g1, b1⟩ : _ ∧ _); clear o1 g1 b1))
        | ((refine step_append_rows rfl (.tmp 22) (.tmp 29) 45 rfl 56 _ 7 88 Tryd.underlying45 info56 rfl (by decide) v1 ([] ++ (l.xs.take j).map RC) (by rfl) O1.out (some A) (l.xs.length - (j + 1)) (cap - (j + 1)) ((l.xs.drop (j + 1)).map RC) (by rfl) hn2.out (fun e => by cases e) hL1.out (RC_one _) (RC_len _) hr2.out.1 hr2.out.2 ?_; intro v2 w2 o2 g2 b2; have hB2 := Lib.hid ((g2.block rb (lt_of_block hB1.out) (fun e => by rcases G1.out.2 with h | ⟨k, h, hk⟩ <;> rw [h] at e <;> cases e; exact Nat.lt_irrefl _ (Nat.lt_of_lt_of_le hrb hk))).trans hB1.out); have z2 := (cell_blk hB2.out ro).trans hD.out.2; have ff := free_blk hB2.out ro; obtain ⟨ao2, cap2, hv2, -⟩ := o2.any; rw [hr3.out] at hv2; subst hv2; have O2 := Lib.hid o2; have G2 := Lib.hid (⟨g2, b2⟩ : _ ∧ _); clear o2 g2 b2)))
    all_goals
      go_wp2_with fail
      go_ret
      exact rdel_done A2.out G1.out O2.out G2.out hB2.out
theorem rdel_any {rb ro : Nat} {c : Array Value} {v : Value} {l : LS} {k : K} (hk : k.Good) (w : World) (ht : Tabs w) (i : RefAt w rb ro c v l) :
    Calls Tryd.prog 58 #[.pointer (some ⟨rb, ro, none⟩), k.v] w (RefPost w rb ro c v (delP k l).2 (.bool (delP k l).1)) := by
  cases hf : findK k.norm l.xs with
  | none =>
    have e : delP k l = (false, l) := by unfold delP; rw [hf]
    exact rdel_of hk _ (findI_none hf) _ (.inl ⟨rfl, e⟩) w ht i
  | some j =>
    have hj := findK_lt hf
    have e : delP k l = (true, ⟨l.xs.eraseIdx j, l.nx⟩) := by unfold delP; rw [hf]
    exact rdel_of hk _ (findI_some hf) _ (.inr ⟨j, hj, rfl, e⟩) w ht i
end Go.Proofs.YtgpdhmgbmhfooaaDoor
