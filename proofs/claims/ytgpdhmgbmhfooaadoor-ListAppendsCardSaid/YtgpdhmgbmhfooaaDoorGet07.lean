/-
  The walk of Get.
-/
import Derived.Test.YtgpdhmgbmhfooaaDoorList07
namespace Go.Proofs.YtgpdhmgbmhfooaaDoor
open Go.RowKit

/-- A call on a list is under way: its key stands in block B. -/
structure InList (w W : World) (b : Nat) (sh : Bool) (v : Value) (mb : Nat) (l : LS) (B : Nat) (k : K) : Prop where
  tabs : Tabs w
  lst : ListIs W b sh v mb l
  key : W.heap[B]? = some (KB k.b k.n k.t)
  below : Below w.heap.size w W
theorem InList.tabsW {w W : World} {b : Nat} {sh : Bool} {v : Value} {mb : Nat} {l : LS} {B : Nat} {k : K} (h : InList w W b sh v mb l B k) : Tabs W := h.tabs.mono h.below
theorem InList.mono {w W W' : World} {b : Nat} {sh : Bool} {v : Value} {mb : Nat} {l : LS} {B : Nat} {k : K} (h : InList w W b sh v mb l B k) (hb : Below W.heap.size W W') : InList w W' b sh v mb l B k :=
  ⟨h.tabs, h.lst.below hb, (hb.block _ (lt_of_block h.key)).trans h.key, h.below.trans (hb.mono h.below.size)⟩
theorem InList.drew {w W : World} {b : Nat} {sh : Bool} {v : Value} {mb : Nat} {l : LS} {B : Nat} {k : K} (h : InList w W b sh v mb l B k) : InList w W.drew b sh v mb l B k :=
  ⟨h.tabs, h.lst.drewN 1, h.key, h.below.drew⟩
theorem look_none {w : World} {b : Nat} {sh : Bool} {v : Value} {mb : Nat} {l : LS} {k : K} (i : ListIs w b sh v mb l) (hk : k.Good) (hf : findK k l.xs = none) :
    (Instr.lookup 59 (.map (some mb)) k.v true).run Tryd.prog w = .ok (.tuple #[.int .i64 0, .bool false]) w := by
  have := i.map.look hk
  unfold placeF at this
  rw [hf] at this
  exact this
theorem look_some {w : World} {b : Nat} {sh : Bool} {v : Value} {mb : Nat} {l : LS} {k : K} (i : ListIs w b sh v mb l) (hk : k.Good) {j : Nat} (hf : findK k l.xs = some j) :
    (Instr.lookup 59 (.map (some mb)) k.v true).run Tryd.prog w = .ok (.tuple #[.int .i64 j, .bool true]) w := by
  have := i.map.look hk
  unfold placeF at this
  rw [hf] at this
  exact this
def GetPost (w : World) (x : Int × Bool) (e : Ending) (w' : World) : Prop := e = .returned (.tuple #[.int .i64 x.1, .bool x.2]) ∧ Below w.heap.size w w'

theorem getSN {w W : World} {b : Nat} {sh : Bool} {v : Value} {mb : Nat} {l : LS} {B : Nat} {k : K} (h : InList w W b sh v mb l B k) (hk : k.norm.Good) (hf : findK k.norm l.xs = none) :
    W.cell? ⟨b, 3, none⟩ = some (.map (some mb)) ∧ W.cell? ⟨B, 0, none⟩ = some (.bool k.b) ∧ W.cell? ⟨B, 1, none⟩ = some (.int .i64 k.n) ∧ W.cell? ⟨B, 2, none⟩ = some (.string k.t) ∧
    (Instr.lookup 59 (.map (some mb)) k.norm.v true).run Tryd.prog W = .ok (.tuple #[.int .i64 0, .bool false]) W ∧ InList w W b sh v mb l B k := by
  obtain ⟨x0, x1, x2⟩ := cells3 h.key
  exact ⟨(cells5 h.lst.blk).2.2.2.1, x0, x1, x2, look_none h.lst hk hf, h⟩
theorem getSN' {w W : World} {b : Nat} {sh : Bool} {v : Value} {mb : Nat} {l : LS} {B : Nat} {k : K} (h : W.cell? ⟨b, 3, none⟩ = some (.map (some mb)) ∧ W.cell? ⟨B, 0, none⟩ = some (.bool k.b) ∧ W.cell? ⟨B, 1, none⟩ = some (.int .i64 k.n) ∧ W.cell? ⟨B, 2, none⟩ = some (.string k.t) ∧
    (Instr.lookup 59 (.map (some mb)) k.norm.v true).run Tryd.prog W = .ok (.tuple #[.int .i64 0, .bool false]) W ∧ InList w W b sh v mb l B k) : InList w W b sh v mb l B k := h.2.2.2.2.2
theorem getSY {w W : World} {b : Nat} {sh : Bool} {v : Value} {mb : Nat} {l : LS} {B : Nat} {k : K} {j : Nat} (h : InList w W b sh v mb l B k) (hk : k.norm.Good) (hf : findK k.norm l.xs = some j) :
    W.cell? ⟨b, 3, none⟩ = some (.map (some mb)) ∧ W.cell? ⟨B, 0, none⟩ = some (.bool k.b) ∧ W.cell? ⟨B, 1, none⟩ = some (.int .i64 k.n) ∧ W.cell? ⟨B, 2, none⟩ = some (.string k.t) ∧
    (Instr.lookup 59 (.map (some mb)) k.norm.v true).run Tryd.prog W = .ok (.tuple #[.int .i64 j, .bool true]) W ∧ InList w W b sh v mb l B k := by
  obtain ⟨x0, x1, x2⟩ := cells3 h.key
  exact ⟨(cells5 h.lst.blk).2.2.2.1, x0, x1, x2, look_some h.lst hk hf, h⟩
theorem getSY' {w W : World} {b : Nat} {sh : Bool} {v : Value} {mb : Nat} {l : LS} {B : Nat} {k : K} {j : Nat} (h : W.cell? ⟨b, 3, none⟩ = some (.map (some mb)) ∧ W.cell? ⟨B, 0, none⟩ = some (.bool k.b) ∧ W.cell? ⟨B, 1, none⟩ = some (.int .i64 k.n) ∧ W.cell? ⟨B, 2, none⟩ = some (.string k.t) ∧
    (Instr.lookup 59 (.map (some mb)) k.norm.v true).run Tryd.prog W = .ok (.tuple #[.int .i64 j, .bool true]) W ∧ InList w W b sh v mb l B k) : InList w W b sh v mb l B k := h.2.2.2.2.2

set_option maxRecDepth 100000 in
set_option maxHeartbeats 3200000 in
theorem get_none {b : Nat} {sh : Bool} {v : Value} {mb : Nat} {l : LS} {k : K} (hk : k.Good) (hf : findK k.norm l.xs = none) (w : World) (ht : Tabs w) (i : ListIs w b sh v mb l) :
    Calls Tryd.prog 20 #[.pointer (some ⟨b, 0, none⟩), k.v] w (GetPost w (0, false)) := by
  have hN := (K.norm_is hk).toGood
  have HN : ∀ w, Tabs w → Calls Tryd.prog 15 #[.agg #[.bool k.b, .int .i64 k.n, .string k.t]] w fun e w' => e = .returned k.norm.v ∧ Below w.heap.size w w' := norm_any k hk
  have A0 : InList w (w.alloc (KB k.b k.n k.t)) b sh v mb l w.heap.size k := ⟨ht, i.below (below_alloc1 _ _), heap_alloc_new _ _, below_alloc1 _ _⟩
  obtain ⟨c0, c1, c2, c3, c4⟩ := cells5 A0.lst.blk
  have HF := Lib.hid (⟨hN, hf⟩ : _ ∧ _)
  clear i ht hk hN hf c1 c2 c3 c4
  unfold K.v
  go_enter Tryd.func20, Tryd.ntmps20
  go_wp2_with (go_at_call 51; refine (lok_any _ _ _ c0).mono ?_; rintro e w' ⟨rfl, rfl⟩)
  go_region_held3 (fun W => W.cell? ⟨b, 3, none⟩ = some (.map (some mb)) ∧ W.cell? ⟨w.heap.size, 0, none⟩ = some (.bool k.b) ∧ W.cell? ⟨w.heap.size, 1, none⟩ = some (.int .i64 k.n) ∧ W.cell? ⟨w.heap.size, 2, none⟩ = some (.string k.t) ∧
    (Instr.lookup 59 (.map (some mb)) k.norm.v true).run Tryd.prog W = .ok (.tuple #[.int .i64 0, .bool false]) W ∧ InList w W b sh v mb l w.heap.size k)
    (first
      | assumption
      | (refine getSN (InList.mono (getSN' ?_) hb) HF.out.1 HF.out.2; assumption)
      | (refine getSN (InList.drew ?_) HF.out.1 HF.out.2; assumption))
    (first
      | (go_at_call 15; refine (HN _ (InList.tabsW (w := w) (getSN' (b := b) (mb := mb) (B := w.heap.size) (k := k) (sh := sh) (v := v) (l := l) ?_))).mono ?_; assumption; rintro e wq ⟨rfl, hb⟩))
  have A2 : InList w _ b sh v mb l w.heap.size k := getSN' (by assumption)
  go_wp2_with fail
  go_ret2
  exact ⟨rfl, A2.below⟩

set_option maxRecDepth 100000 in
set_option maxHeartbeats 3200000 in
theorem get_some {b : Nat} {sh : Bool} {v : Value} {mb : Nat} {l : LS} {k : K} {j : Nat} (hk : k.Good) (hf : findK k.norm l.xs = some j) (hj : j < l.xs.length) (w : World) (ht : Tabs w) (i : ListIs w b sh v mb l) :
    Calls Tryd.prog 20 #[.pointer (some ⟨b, 0, none⟩), k.v] w (GetPost w (l.xs[j].2, true)) := by
  obtain ⟨x, hx⟩ : ∃ x, x = l.xs[j].2 := ⟨_, rfl⟩
  rw [← hx]
  have HX := Lib.hid hx
  clear hx
  have hN := (K.norm_is hk).toGood
  have HN : ∀ w, Tabs w → Calls Tryd.prog 15 #[.agg #[.bool k.b, .int .i64 k.n, .string k.t]] w fun e w' => e = .returned k.norm.v ∧ Below w.heap.size w w' := norm_any k hk
  have A0 : InList w (w.alloc (KB k.b k.n k.t)) b sh v mb l w.heap.size k := ⟨ht, i.below (below_alloc1 _ _), heap_alloc_new _ _, below_alloc1 _ _⟩
  obtain ⟨c0, c1, c2, c3, c4⟩ := cells5 A0.lst.blk
  have HF := Lib.hid (⟨hN, hf⟩ : _ ∧ _)
  clear i ht hk hN hf c1 c2 c3 c4
  unfold K.v
  go_enter Tryd.func20, Tryd.ntmps20
  go_wp2_with (go_at_call 51; refine (lok_any _ _ _ c0).mono ?_; rintro e w' ⟨rfl, rfl⟩)
  go_region_held3 (fun W => W.cell? ⟨b, 3, none⟩ = some (.map (some mb)) ∧ W.cell? ⟨w.heap.size, 0, none⟩ = some (.bool k.b) ∧ W.cell? ⟨w.heap.size, 1, none⟩ = some (.int .i64 k.n) ∧ W.cell? ⟨w.heap.size, 2, none⟩ = some (.string k.t) ∧
    (Instr.lookup 59 (.map (some mb)) k.norm.v true).run Tryd.prog W = .ok (.tuple #[.int .i64 j, .bool true]) W ∧ InList w W b sh v mb l w.heap.size k)
    (first
      | assumption
      | (refine getSY (InList.mono (getSY' (j := j) ?_) hb) HF.out.1 HF.out.2; assumption)
      | (refine getSY (InList.drew ?_) HF.out.1 HF.out.2; assumption))
    (first
      | (go_at_call 15; refine (HN _ (InList.tabsW (w := w) (getSY' (b := b) (mb := mb) (B := w.heap.size) (k := k) (sh := sh) (v := v) (l := l) (j := j) ?_))).mono ?_; assumption; rintro e wq ⟨rfl, hb⟩))
  have A2 : InList w _ b sh v mb l w.heap.size k := getSY' (j := j) (by assumption)
  obtain ⟨a0, a1, a2, a3, a4⟩ := cells5 A2.lst.blk
  obtain ⟨g, cap, hv, -, -, -, -, -, -, d3⟩ := A2.lst.item hj
  subst hv
  have hj' : (j : Int) < (l.xs.length : Int) := by omega
  rw [← HX.out] at d3
  have A3 := Lib.hid A2
  clear A2
  go_wp2_with fail
  go_ret2
  exact ⟨rfl, A3.out.below⟩
theorem get_any {b : Nat} {sh : Bool} {v : Value} {mb : Nat} {l : LS} {k : K} (hk : k.Good) (w : World) (ht : Tabs w) (i : ListIs w b sh v mb l) :
    Calls Tryd.prog 20 #[.pointer (some ⟨b, 0, none⟩), k.v] w (GetPost w (getP k l)) := by
  cases hf : findK k.norm l.xs with
  | none =>
    have e : getP k l = (0, false) := by unfold getP; rw [hf]
    rw [e]
    exact get_none hk hf w ht i
  | some j =>
    have hj := findK_lt hf
    have e : getP k l = (l.xs[j].2, true) := by unfold getP; rw [hf]; simp [hj]
    rw [e]
    exact get_some hk hf hj w ht i
theorem get_nil (k : K) (w : World) : Calls Tryd.prog 20 #[.pointer none, k.v] w (GetPost w (0, false)) := by
  unfold K.v
  go_enter Tryd.func20, Tryd.ntmps20
  go_wp2_with (go_at_call 51; refine (lok_nil _).mono ?_; rintro e w' ⟨rfl, rfl⟩)
  go_ret2
  exact ⟨rfl, below_alloc1 _ _⟩
end Go.Proofs.YtgpdhmgbmhfooaaDoor
