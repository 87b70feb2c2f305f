/-
  The walk of Get.
-/
import Derived.Test.YtnaefnojmiolbaaGreatDoorJp6
namespace Go.Proofs.YtnaefnojmiolbaaGreatDoor
open Go.RowKit

abbrev V0 : Obj := .cells #[.int .i64 0, .int .i64 0, .string ⟨#[]⟩, .slice none 0 0] 24
/-- Get is under way: its key stands in block B, its result behind. -/
structure InL (w W : World) (b : Nat) (v : Value) (mb : Nat) (l : LS) (ys : List It2) (B : Nat) (k : K) : Prop where
  tabs : Tabs w
  lst : LIs W b v mb l ys
  key : W.heap[B]? = some (KB k.b k.n k.t)
  res : W.heap[B + 1]? = some V0
  below : Below w.heap.size w W
section
variable {w W W' : World} {b : Nat} {v : Value} {mb : Nat} {l : LS} {ys : List It2} {B : Nat} {k : K}
theorem InL.tabsW (h : InL w W b v mb l ys B k) : Tabs W := h.tabs.mono h.below
theorem InL.mono (h : InL w W b v mb l ys B k) (hb : Below W.heap.size W W') : InL w W' b v mb l ys B k :=
  ⟨h.tabs, h.lst.under hb, (hb.block _ (lt_of_block h.key)).trans h.key, (hb.block _ (lt_of_block h.res)).trans h.res, h.below.trans (hb.mono h.below.size)⟩
def InS (b mb B : Nat) (k q : K) (n : Int) (f : Bool) (W : World) : Prop :=
  W.cell? ⟨b, 3, none⟩ = some (.map (some mb)) ∧ W.cell? ⟨B, 0, none⟩ = some (.bool k.b) ∧ W.cell? ⟨B, 1, none⟩ = some (.int .i64 k.n) ∧ W.cell? ⟨B, 2, none⟩ = some (.string k.t) ∧
    (Instr.lookup 158 (.map (some mb)) (.agg #[.bool q.b, .int .i64 q.n, .string q.t]) true).run Tryz.prog W = .ok (.tuple #[.int .i64 n, .bool f]) W
theorem InL.sn (h : InL w W b v mb l ys B k) {q : K} (hk : q.Good) (hf : findK q l.xs = none) : InS b mb B k q 0 false W := by
  obtain ⟨x0, x1, x2⟩ := cells3 h.key
  exact ⟨(cells5 h.lst.blk).2.2.2.1, x0, x1, x2, look_none h.lst hk hf⟩
theorem InL.sy (h : InL w W b v mb l ys B k) {q : K} (hk : q.Good) {j : Nat} (hf : findK q l.xs = some j) : InS b mb B k q j true W := by
  obtain ⟨x0, x1, x2⟩ := cells3 h.key
  exact ⟨(cells5 h.lst.blk).2.2.2.1, x0, x1, x2, look_some h.lst hk hf⟩
end
theorem vb4 {W : World} {B : Nat} {a b c d : Value} (h : W.heap[B]? = some (.cells #[a, b, c, d] 24 (0, 0))) : W.cell? ⟨B, 0, none⟩ = some a ∧ W.cell? ⟨B, 1, none⟩ = some b ∧ W.cell? ⟨B, 2, none⟩ = some c ∧ W.cell? ⟨B, 3, none⟩ = some d := ⟨cell_blk h 0, cell_blk h 1, cell_blk h 2, cell_blk h 3⟩
theorem set4 {W : World} {B : Nat} {a b c d : Value} (h : W.heap[B]? = some (.cells #[a, b, c, d] 24 (0, 0))) (a' b' c' d' : Value) :
    ((((W.setCell ⟨B, 0, none⟩ a').setCell ⟨B, 1, none⟩ b').setCell ⟨B, 2, none⟩ c').setCell ⟨B, 3, none⟩ d').heap[B]? = some (.cells #[a', b', c', d'] 24 (0, 0)) := by
  have := set_blk (set_blk (set_blk (set_blk h 0 a') 1 b') 2 c') 3 d'
  simpa using this
theorem set4_below {B0 : Nat} {w W : World} {B : Nat} (h : Below B0 w W) (hB : B0 ≤ B) (a b c d : Value) :
    Below B0 w ((((W.setCell ⟨B, 0, none⟩ a).setCell ⟨B, 1, none⟩ b).setCell ⟨B, 2, none⟩ c).setCell ⟨B, 3, none⟩ d) :=
  (((h.setCell hB _).setCell hB _).setCell hB _).setCell hB _
/-- What Get gives. -/
def GetPost (w : World) (f : Bool) (e : Ending) (w' : World) : Prop := ∃ x1 x2 x3 ao m cap, e = .returned (.tuple #[.agg #[.int .i64 x1, .int .i64 x2, .string x3, .slice ao m cap], .bool f]) ∧ Below w.heap.size w w'
set_option maxRecDepth 100000 in
set_option maxHeartbeats 3200000 in
theorem get_none {b : Nat} {v : Value} {mb : Nat} {l : LS} {ys : List It2} {k : K} (hk : k.Good) (hf : findK k.norm l.xs = none) (w : World) (ht : Tabs w) (i : LIs w b v mb l ys) :
    Calls Tryz.prog 145 #[.pointer (some ⟨b, 0, none⟩), k.v] w (GetPost w false) := by
  have hN := (K.norm_is hk).toGood
  obtain ⟨q, hq⟩ : ∃ q, q = k.norm := ⟨_, rfl⟩
  have HN : ∀ w, Tabs w → Calls Tryz.prog 80 #[.agg #[.bool k.b, .int .i64 k.n, .string k.t]] w fun e w' => e = .returned (.agg #[.bool q.b, .int .i64 q.n, .string q.t]) ∧ Below w.heap.size w w' := fun w h => by rw [hq]; exact norm_any k hk w h
  rw [← hq] at hN hf
  have A0 : InL w ((w.alloc (KB k.b k.n k.t)).alloc V0) b v mb l ys w.heap.size k := ⟨ht, i.under (at2_start w _ _).below, (at2_start w _ _).a, (at2_start w _ _).b, (at2_start w _ _).below⟩
  obtain ⟨c0, c1, c2, c3, c4⟩ := cells5 A0.lst.blk
  have HF := Lib.hid (⟨hN, hf⟩ : _ ∧ _)
  have A1 := Lib.hid (A0.mono (belowD (Below.refl _ _)))
  have HS0 := Lib.hid (A1.out.sn HF.out.1 HF.out.2)
  clear i ht hk hN hf hq c1 c2 c3 c4 A0
  unfold K.v
  go_enter Tryz.func145, Tryz.ntmps145
  go_wp2_with (go_at_call 128; refine (lok_any _ _ _ c0).mono ?_; rintro e w' ⟨rfl, rfl⟩)
  go_region_held3 (fun W => W.cell? ⟨b, 3, none⟩ = some (.map (some mb)) ∧ W.cell? ⟨w.heap.size, 0, none⟩ = some (.bool k.b) ∧ W.cell? ⟨w.heap.size, 1, none⟩ = some (.int .i64 k.n) ∧ W.cell? ⟨w.heap.size, 2, none⟩ = some (.string k.t) ∧ (Instr.lookup 158 (.map (some mb)) (.agg #[.bool q.b, .int .i64 q.n, .string q.t]) true).run Tryz.prog W = .ok (.tuple #[.int .i64 0, .bool false]) W)
    (first
      | exact HS0.out
      | exact HS1.out)
    (first
      | (go_at_call 80; refine (HN _ A1.out.tabsW).mono ?_; rintro e w1 ⟨rfl, hb⟩; have A2 := Lib.hid (A1.out.mono hb); have HS1 := Lib.hid (A2.out.sn HF.out.1 HF.out.2); clear hb))
  obtain ⟨x0, x1, x2, x3⟩ : w1.cell? ⟨w.heap.size + 1, 0, none⟩ = some (.int .i64 0) ∧ w1.cell? ⟨w.heap.size + 1, 1, none⟩ = some (.int .i64 0) ∧ w1.cell? ⟨w.heap.size + 1, 2, none⟩ = some (.string ⟨#[]⟩) ∧ w1.cell? ⟨w.heap.size + 1, 3, none⟩ = some (.slice none 0 0) := ⟨cell_blk A2.out.res 0, cell_blk A2.out.res 1, cell_blk A2.out.res 2, cell_blk A2.out.res 3⟩
  obtain ⟨y0, y1, y2, y3⟩ : w1.frozen? ⟨w.heap.size + 1, 0, none⟩ = false ∧ w1.frozen? ⟨w.heap.size + 1, 1, none⟩ = false ∧ w1.frozen? ⟨w.heap.size + 1, 2, none⟩ = false ∧ w1.frozen? ⟨w.heap.size + 1, 3, none⟩ = false := ⟨free_blk A2.out.res 0, free_blk A2.out.res 1, free_blk A2.out.res 2, free_blk A2.out.res 3⟩
  go_wp2_with fail
  obtain ⟨z0, z1, z2, z3⟩ := vb4 (set4 A2.out.res (.int .i64 0) (.int .i64 0) (.string ⟨#[]⟩) (.slice none 0 0))
  exact bodyPost_ret (v := .tuple #[.agg #[.int .i64 0, .int .i64 0, .string ⟨#[]⟩, .slice none 0 0], .bool false]) (by simp [results, Tryz.results145, go_sem, z0, z1, z2, z3]) rfl ⟨_, _, _, _, _, _, rfl, set4_below A2.out.below (by omega) _ _ _ _⟩
set_option maxRecDepth 100000 in
set_option maxHeartbeats 3200000 in
theorem get_some {b : Nat} {v : Value} {mb : Nat} {l : LS} {ys : List It2} {k : K} {j : Nat} (hk : k.Good) (hf : findK k.norm l.xs = some j) (w : World) (ht : Tabs w) (i : LIs w b v mb l ys) :
    Calls Tryz.prog 145 #[.pointer (some ⟨b, 0, none⟩), k.v] w (GetPost w true) := by
  have hN := (K.norm_is hk).toGood
  obtain ⟨q, hq⟩ : ∃ q, q = k.norm := ⟨_, rfl⟩
  have HN : ∀ w, Tabs w → Calls Tryz.prog 80 #[.agg #[.bool k.b, .int .i64 k.n, .string k.t]] w fun e w' => e = .returned (.agg #[.bool q.b, .int .i64 q.n, .string q.t]) ∧ Below w.heap.size w w' := fun w h => by rw [hq]; exact norm_any k hk w h
  rw [← hq] at hN hf
  have A0 : InL w ((w.alloc (KB k.b k.n k.t)).alloc V0) b v mb l ys w.heap.size k := ⟨ht, i.under (at2_start w _ _).below, (at2_start w _ _).a, (at2_start w _ _).b, (at2_start w _ _).below⟩
  obtain ⟨c0, c1, c2, c3, c4⟩ := cells5 A0.lst.blk
  have HF := Lib.hid (⟨hN, hf⟩ : _ ∧ _)
  have A1 := Lib.hid (A0.mono (belowD (Below.refl _ _)))
  have HS0 := Lib.hid (A1.out.sy HF.out.1 HF.out.2)
  clear i ht hk hN hf hq c1 c2 c3 c4 A0
  unfold K.v
  go_enter Tryz.func145, Tryz.ntmps145
  go_wp2_with (go_at_call 128; refine (lok_any _ _ _ c0).mono ?_; rintro e w' ⟨rfl, rfl⟩)
  go_region_held3 (fun W => W.cell? ⟨b, 3, none⟩ = some (.map (some mb)) ∧ W.cell? ⟨w.heap.size, 0, none⟩ = some (.bool k.b) ∧ W.cell? ⟨w.heap.size, 1, none⟩ = some (.int .i64 k.n) ∧ W.cell? ⟨w.heap.size, 2, none⟩ = some (.string k.t) ∧ (Instr.lookup 158 (.map (some mb)) (.agg #[.bool q.b, .int .i64 q.n, .string q.t]) true).run Tryz.prog W = .ok (.tuple #[.int .i64 j, .bool true]) W)
    (first
      | exact HS0.out
      | exact HS1.out)
    (first
      | (go_at_call 80; refine (HN _ A1.out.tabsW).mono ?_; rintro e w1 ⟨rfl, hb⟩; have A2 := Lib.hid (A1.out.mono hb); have HS1 := Lib.hid (A2.out.sy HF.out.1 HF.out.2); clear hb))
  obtain ⟨y0, y1, y2, y3⟩ : w1.frozen? ⟨w.heap.size + 1, 0, none⟩ = false ∧ w1.frozen? ⟨w.heap.size + 1, 1, none⟩ = false ∧ w1.frozen? ⟨w.heap.size + 1, 2, none⟩ = false ∧ w1.frozen? ⟨w.heap.size + 1, 3, none⟩ = false := ⟨free_blk A2.out.res 0, free_blk A2.out.res 1, free_blk A2.out.res 2, free_blk A2.out.res 3⟩
  have hjl : j < ys.length := by rw [A2.out.lst.len]; exact findK_lt HF.out.2
  obtain ⟨a0, a1, a2, a3, a4⟩ := cells5 A2.out.lst.blk
  obtain ⟨g, cap, hv, -, -, -, -, -, -, d3, d4, d5, d6⟩ := A2.out.lst.item hjl
  obtain ⟨co, cc, hco, -⟩ := (A2.out.lst.val ys[j] (List.getElem_mem hjl)).form
  rw [hco] at d6
  rw [hv] at a2
  have hj' : (j : Int) < (ys.length : Int) := by omega
  generalize ys[j].1.2.k = v1 at d3
  generalize ys[j].1.2.n = v2 at d4
  generalize ys[j].1.2.t = v3 at d5
  generalize ys[j].1.2.xs.length = v4 at d6 hco
  clear hco hjl
  obtain ⟨x0, x1, x2, x3⟩ := vb4 A2.out.res
  go_wp2_with fail
  obtain ⟨z0, z1, z2, z3⟩ := vb4 (set4 (set4 A2.out.res (.int .i64 v1) (.int .i64 v2) (.string v3) (.slice co v4 cc)) (.int .i64 v1) (.int .i64 v2) (.string v3) (.slice co v4 cc))
  exact bodyPost_ret (v := .tuple #[.agg #[.int .i64 v1, .int .i64 v2, .string v3, .slice co v4 cc], .bool true]) (by simp [results, Tryz.results145, go_sem, z0, z1, z2, z3]) rfl ⟨_, _, _, _, _, _, rfl, set4_below (set4_below A2.out.below (by omega) _ _ _ _) (by omega) _ _ _ _⟩
theorem get_any {b : Nat} {v : Value} {mb : Nat} {l : LS} {ys : List It2} {k : K} (hk : k.Good) (w : World) (ht : Tabs w) (i : LIs w b v mb l ys) :
    Calls Tryz.prog 145 #[.pointer (some ⟨b, 0, none⟩), k.v] w (GetPost w (findK k.norm l.xs).isSome) := by
  cases hf : findK k.norm l.xs with
  | none => exact get_none hk hf w ht i
  | some j => exact get_some hk hf w ht i
end Go.Proofs.YtnaefnojmiolbaaGreatDoor
