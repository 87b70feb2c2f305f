/-
  The document's list: the walk of Get.
-/
import Derived.Test.YtgpdhmgbmhfooaaDoorRef07
namespace Go.Proofs.YtgpdhmgbmhfooaaDoor
open Go.RowKit

/-- A call on the document's list is under way: its key stands in block B. -/
structure InRef (w W : World) (rb ro : Nat) (c : Array Value) (v : Value) (l : LS) (B : Nat) (k : K) (o2 : Option Obj) : Prop where
  tabs : Tabs w
  lst : RefAt W rb ro c v l
  key : W.heap[B]? = some (KB k.b k.n k.t)
  two : ∀ o, o2 = some o → W.heap[B + 1]? = some o
  below : Below w.heap.size w W
theorem InRef.tabsW {w W : World} {rb ro : Nat} {c : Array Value} {v : Value} {l : LS} {B : Nat} {k : K} {o2 : Option Obj} (h : InRef w W rb ro c v l B k o2) : Tabs W := h.tabs.mono h.below
theorem InRef.mono {w W W' : World} {rb ro : Nat} {c : Array Value} {v : Value} {l : LS} {B : Nat} {k : K} {o2 : Option Obj} (h : InRef w W rb ro c v l B k o2) (hb : Below W.heap.size W W') : InRef w W' rb ro c v l B k o2 :=
  ⟨h.tabs, h.lst.below hb, (hb.block _ (lt_of_block h.key)).trans h.key, fun o e => (hb.block _ (lt_of_block (h.two o e))).trans (h.two o e), h.below.trans (hb.mono h.below.size)⟩
theorem InRef.drew {w W : World} {rb ro : Nat} {c : Array Value} {v : Value} {l : LS} {B : Nat} {k : K} {o2 : Option Obj} (h : InRef w W rb ro c v l B k o2) : InRef w W.drew rb ro c v l B k o2 :=
  ⟨h.tabs, h.lst.drewN 1, h.key, h.two, h.below.drew⟩
theorem refS {w W : World} {rb ro : Nat} {c : Array Value} {v : Value} {l : LS} {B : Nat} {k : K} {o2 : Option Obj} (h : InRef w W rb ro c v l B k o2) : 
    W.cell? ⟨rb, ro, none⟩ = some v ∧ W.cell? ⟨B, 0, none⟩ = some (.bool k.b) ∧ W.cell? ⟨B, 1, none⟩ = some (.int .i64 k.n) ∧ W.cell? ⟨B, 2, none⟩ = some (.string k.t) ∧ InRef w W rb ro c v l B k o2 := by
  obtain ⟨x0, x1, x2⟩ := cells3 h.key
  exact ⟨h.lst.cells.1, x0, x1, x2, h⟩
theorem refS' {w W : World} {rb ro : Nat} {c : Array Value} {v : Value} {l : LS} {B : Nat} {k : K} {o2 : Option Obj} (h : W.cell? ⟨rb, ro, none⟩ = some v ∧ W.cell? ⟨B, 0, none⟩ = some (.bool k.b) ∧ W.cell? ⟨B, 1, none⟩ = some (.int .i64 k.n) ∧ W.cell? ⟨B, 2, none⟩ = some (.string k.t) ∧ InRef w W rb ro c v l B k o2) :
    InRef w W rb ro c v l B k o2 := h.2.2.2.2

abbrev R0 : Obj := .cells #[.int .i64 0, .int .i64 0, .string ⟨#[]⟩, .slice none 0 0] 54 (0, 0)
def RGetPost (w : World) (x : Int × Bool) (e : Ending) (w' : World) : Prop := e = .returned (.tuple #[V4 (if x.2 then 2 else 0) x.1 ⟨#[]⟩ none 0 0, .bool x.2]) ∧ Below w.heap.size w w'

theorem set4_below {w W : World} {B : Nat} (h : Below w.heap.size w W) (hB : w.heap.size ≤ B) (x y z u : Value) :
    Below w.heap.size w ((((W.setCell ⟨B, 0, none⟩ x).setCell ⟨B, 1, none⟩ y).setCell ⟨B, 2, none⟩ z).setCell ⟨B, 3, none⟩ u) :=
  (((h.setCell (p := ⟨B, 0, none⟩) hB x).setCell (p := ⟨B, 1, none⟩) hB y).setCell (p := ⟨B, 2, none⟩) hB z).setCell (p := ⟨B, 3, none⟩) hB u
set_option maxRecDepth 100000 in
set_option maxHeartbeats 3200000 in
theorem rget_of {rb ro : Nat} {c : Array Value} {v : Value} {l : LS} {k : K} (hk : k.Good) (f : Int) (hf : findI k.norm l.xs = f) (r : Int × Bool)
    (hr : (f = -1 ∧ r = (0, false)) ∨ ∃ (j : Nat) (hj : j < l.xs.length), f = j ∧ r = (l.xs[j].2, true)) (w : World) (ht : Tabs w) (i : RefAt w rb ro c v l) :
    Calls Tryd.prog 59 #[.pointer (some ⟨rb, ro, none⟩), k.v] w (RGetPost w r) := by
  obtain ⟨ao, cap, hv, -⟩ := i.own.any
  rw [List.length_map] at hv
  subst hv
  obtain ⟨q, hq⟩ : ∃ q, q = k.norm := ⟨_, rfl⟩
  have HN : ∀ w, Tabs w → Calls Tryd.prog 17 #[.agg #[.bool k.b, .int .i64 k.n, .string k.t]] w fun e w' => e = .returned (.agg #[.bool q.b, .int .i64 q.n, .string q.t]) ∧ Below w.heap.size w w' := fun w h => by rw [hq]; exact rnorm_any k hk w h
  have HF : ∀ W, Owns W 56 7 (.slice ao l.xs.length cap) (l.xs.map RC) → Calls Tryd.prog 76 #[.slice ao l.xs.length cap, .agg #[.bool q.b, .int .i64 q.n, .string q.t]] W fun e w' => e = .returned (.int .i64 f) ∧ Below W.heap.size W w' := fun W o => by
    have := rfind_any l.xs q i.ok.len W o
    rw [hq, hf] at this
    rw [hq]
    exact this
  have A0 : Hid (InRef w ((w.alloc (KB k.b k.n k.t)).alloc R0) rb ro c (.slice ao l.xs.length cap) l w.heap.size k (some R0)) :=
    ⟨ht, (i.below (below_alloc1 _ _)).below (below_alloc1 _ _), alloc_blk (heap_alloc_new _ _) _, fun o e => by cases e; have := heap_alloc_new (w.alloc (KB k.b k.n k.t)) R0; simpa using this, (below_alloc1 _ _).trans ((below_alloc1 _ _).mono (by simp))⟩
  have hlen := i.ok.len
  clear i ht hk hq hf
  unfold K.v
  go_enter Tryd.func59, Tryd.ntmps59
  go_wp2_with fail
  generalize hW : (w.alloc _).alloc _ = W0 at A0 ⊢
  clear hW
  have A1 := A0.out
  go_region_held3 (fun W => W.cell? ⟨rb, ro, none⟩ = some (.slice ao l.xs.length cap) ∧ W.cell? ⟨w.heap.size, 0, none⟩ = some (.bool k.b) ∧ W.cell? ⟨w.heap.size, 1, none⟩ = some (.int .i64 k.n) ∧ W.cell? ⟨w.heap.size, 2, none⟩ = some (.string k.t) ∧ InRef w W rb ro c (.slice ao l.xs.length cap) l w.heap.size k (some R0))
    (first
      | assumption
      | (refine refS (InRef.mono (refS' ?_) hb); assumption)
      | (refine refS (InRef.drew ?_); assumption))
    (first
      | (go_at_call 17; refine (HN _ (InRef.tabsW (refS' (w := w) (rb := rb) (ro := ro) (c := c) (v := .slice ao l.xs.length cap) (l := l) (B := w.heap.size) (k := k) (o2 := some R0) ?_))).mono ?_; assumption; rintro e wq ⟨rfl, hb⟩)
      | (go_at_call 76; refine (HF _ (refS' (w := w) (rb := rb) (ro := ro) (c := c) (v := .slice ao l.xs.length cap) (l := l) (B := w.heap.size) (k := k) (o2 := some R0) ?_).lst.own).mono ?_; assumption; rintro e wq ⟨rfl, hb⟩))
  have A2 := refS' (w := w) (rb := rb) (ro := ro) (c := c) (v := .slice ao l.xs.length cap) (l := l) (B := w.heap.size) (k := k) (o2 := some R0) (by assumption)
  clear A1 A0
  have b2 := A2.two _ rfl
  have r0 := cell_blk b2 0
  have r1 := cell_blk b2 1
  have r2 := cell_blk b2 2
  have r3 := cell_blk b2 3
  have f0 := free_blk b2 0
  have f1 := free_blk b2 1
  have f2 := free_blk b2 2
  have f3 := free_blk b2 3
  have hb := Lib.hid A2.below
  rcases hr with ⟨rfl, rfl⟩ | ⟨j, hj, rfl, rfl⟩
  · clear A2 b2
    go_wp2_with fail
    refine bodyPost_ret (v := .tuple #[V4 0 0 ⟨#[]⟩ none 0 0, .bool false]) (by simp [results, Tryd.results59, go_sem, r0, r1, r2, r3]) rfl ⟨rfl, ?_⟩
    exact set4_below hb.out (by omega) _ _ _ _
  · obtain ⟨g, rfl, -, hlc, hcm, hgl, -, -, -, d3, d4, d5, d6⟩ := ritem A2.lst.own hj
    obtain ⟨d, -⟩ := A2.lst.cells
    obtain ⟨x, hx⟩ : ∃ x, x = l.xs[j].2 := ⟨_, rfl⟩
    rw [← hx] at d4 ⊢
    have HX := Lib.hid hx
    clear A2 b2 hx hlc hcm hgl
    have hi1 : (j : Int) < (l.xs.length : Int) := by omega
    go_wp2_with fail
    refine bodyPost_ret (v := .tuple #[V4 2 x ⟨#[]⟩ none 0 0, .bool true]) (by simp [results, Tryd.results59, go_sem, r0, r1, r2, r3]) rfl ⟨by rw [HX.out]; rfl, ?_⟩
    exact set4_below hb.out (by omega) _ _ _ _
theorem rget_any {rb ro : Nat} {c : Array Value} {v : Value} {l : LS} {k : K} (hk : k.Good) (w : World) (ht : Tabs w) (i : RefAt w rb ro c v l) :
    Calls Tryd.prog 59 #[.pointer (some ⟨rb, ro, none⟩), k.v] w (RGetPost w (getP k l)) := by
  cases hf : findK k.norm l.xs with
  | none =>
    have e : getP k l = (0, false) := by unfold getP; rw [hf]
    exact rget_of hk _ (findI_none hf) _ (.inl ⟨rfl, e⟩) w ht i
  | some j =>
    have hj := findK_lt hf
    have e : getP k l = (l.xs[j].2, true) := by unfold getP; rw [hf]; simp [hj]
    exact rget_of hk _ (findI_some hf) _ (.inr ⟨j, hj, rfl, e⟩) w ht i
end Go.Proofs.YtgpdhmgbmhfooaaDoor
