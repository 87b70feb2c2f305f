/-
  The walks of At, Copy, All; the calls on a list that nobody made.
-/
import Derived.Test.YtgpdhmgbmhfooaaDoorAlive07
namespace Go.Proofs.YtgpdhmgbmhfooaaDoor
open Go.RowKit

/-- A list that nobody made: nil, or a bare struct. -/
def Nobody (w : World) (p : Option Addr) : Prop := p = none ∨ ∃ b, p = some ⟨b, 0, none⟩ ∧ w.heap[b]? = some (.cells #[.bool false, .bool false, .slice none 0 0, .map none, .int .i64 0] 61 (0, 0))
theorem Nobody.below {w w' : World} {p : Option Addr} (h : Nobody w p) (hb : Below w.heap.size w w') : Nobody w' p := by
  rcases h with h | ⟨b, h, hc⟩
  · exact .inl h
  · exact .inr ⟨b, h, (hb.block _ (lt_of_block hc)).trans hc⟩
theorem lok_nobody {p : Option Addr} {w : World} (h : Nobody w p) : Calls Tryd.prog 51 #[.pointer p] w fun e w' => e = .returned (.bool false) ∧ w = w' := by
  rcases h with rfl | ⟨b, rfl, hc⟩
  · exact lok_nil w
  · exact lok_any b false w (cell_blk hc 0)
theorem nob_get {p : Option Addr} (k : K) (w : World) (h : Nobody w p) : Calls Tryd.prog 20 #[.pointer p, k.v] w (GetPost w (0, false)) := by
  have h1 := lok_nobody (h.below (below_alloc1 w (KB k.b k.n k.t)))
  clear h
  unfold K.v
  go_enter Tryd.func20, Tryd.ntmps20
  go_wp2_with (go_at_call 51; refine h1.mono ?_; rintro e w' ⟨rfl, rfl⟩)
  go_ret2
  exact ⟨rfl, below_alloc1 _ _⟩
theorem nob_set {p : Option Addr} (k : K) (x : Int) (w : World) (h : Nobody w p) : Calls Tryd.prog 19 #[.pointer p, k.v, .int .i64 x] w fun e w' => e = .returned (.int .i64 5) ∧ Below w.heap.size w w' := by
  have h1 := lok_nobody (h.below (below_alloc1 w (KB k.b k.n k.t)))
  clear h
  unfold K.v
  go_enter Tryd.func19, Tryd.ntmps19
  go_wp2_with (go_at_call 51; refine h1.mono ?_; rintro e w' ⟨rfl, rfl⟩)
  go_ret
  exact ⟨rfl, below_alloc1 _ _⟩
theorem nob_del {p : Option Addr} (k : K) (w : World) (h : Nobody w p) : Calls Tryd.prog 25 #[.pointer p, k.v] w (BoolPost w false) := by
  have h1 := lok_nobody (h.below (below_alloc1 w (KB k.b k.n k.t)))
  clear h
  unfold K.v
  go_enter Tryd.func25, Tryd.ntmps25
  go_wp2_with (go_at_call 51; refine h1.mono ?_; rintro e w' ⟨rfl, rfl⟩)
  go_ret
  exact ⟨rfl, below_alloc1 _ _⟩
theorem nob_append {p : Option Addr} (x : Int) (w : World) (h : Nobody w p) : Calls Tryd.prog 24 #[.pointer p, .int .i64 x] w fun e w' => e = .returned (.tuple #[K.v k0, .int .i64 5]) ∧ Below w.heap.size w w' := by
  have h1 := lok_nobody (h.below (below_alloc1 w (KB false 0 ⟨#[]⟩)))
  clear h
  go_enter Tryd.func24, Tryd.ntmps24
  go_wp2_with (go_at_call 51; refine h1.mono ?_; rintro e w' ⟨rfl, rfl⟩)
  exact bodyPost_ret (v := .tuple #[K.v k0, .int .i64 5]) (by simp [results, Tryd.results24, go_sem, K.v, k0]) rfl ⟨rfl, below_alloc1 _ _⟩
theorem nob_len {p : Option Addr} (w : World) (h : Nobody w p) : Calls Tryd.prog 21 #[.pointer p] w fun e w' => e = .returned (.int .i64 0) ∧ w = w' := by
  have h1 := lok_nobody h
  clear h
  go_enter Tryd.func21, Tryd.ntmps21
  go_wp2_with (go_at_call 51; refine h1.mono ?_; rintro e w' ⟨rfl, rfl⟩)
  go_ret
  exact ⟨rfl, rfl⟩
theorem nob_next {p : Option Addr} (w : World) (h : Nobody w p) : Calls Tryd.prog 23 #[.pointer p] w fun e w' => e = .returned (.int .i64 (-1)) ∧ w = w' := by
  have h1 := lok_nobody h
  clear h
  go_enter Tryd.func23, Tryd.ntmps23
  go_wp2_with (go_at_call 51; refine h1.mono ?_; rintro e w' ⟨rfl, rfl⟩)
  go_ret
  exact ⟨rfl, rfl⟩
theorem nob_copy {p : Option Addr} (w : World) (h : Nobody w p) : Calls Tryd.prog 28 #[.pointer p] w fun e w' => e = .returned (.pointer none) ∧ w = w' := by
  have h1 := lok_nobody h
  clear h
  go_enter Tryd.func28, Tryd.ntmps28
  go_wp2_with (go_at_call 51; refine h1.mono ?_; rintro e w' ⟨rfl, rfl⟩)
  go_ret
  exact ⟨rfl, rfl⟩
/-- What At answers. -/
def AtPost (w : World) (k : K) (x : Int) (ok : Bool) (e : Ending) (w' : World) : Prop := e = .returned (.tuple #[k.v, .int .i64 x, .bool ok]) ∧ Below w.heap.size w w'
/-- What All gives: the iterator over the list. -/
theorem all_fn (p : Option Addr) (w : World) : Calls Tryd.prog 22 #[.pointer p] w fun e w' => e = .returned (.func (.func 53) #[] #[.pointer (some ⟨w.heap.size, 0, none⟩)]) ∧ w' = w.alloc (.cells #[.pointer p] 25) := by
  go_enter Tryd.func22, Tryd.ntmps22
  go_wp2
  go_ret
  exact ⟨rfl, rfl⟩
theorem at_low {p : Option Addr} (n : Int) (hn : n < 0) (w : World) : Calls Tryd.prog 29 #[.pointer p, .int .i64 n] w (AtPost w k0 0 false) := by
  go_enter Tryd.func29, Tryd.ntmps29
  go_wp2_with fail
  exact bodyPost_ret (v := .tuple #[K.v k0, .int .i64 0, .bool false]) (by simp [results, Tryd.results29, go_sem, K.v, k0]) rfl ⟨rfl, below_alloc1 _ _⟩
theorem at_out {p : Option Addr} (n m : Int) (hn : ¬ n < 0) (hm : m ≤ n) (w : World) (h1 : Calls Tryd.prog 21 #[.pointer p] (w.alloc (KB false 0 ⟨#[]⟩)) fun e w' => e = .returned (.int .i64 m) ∧ w.alloc (KB false 0 ⟨#[]⟩) = w') : Calls Tryd.prog 29 #[.pointer p, .int .i64 n] w (AtPost w k0 0 false) := by
  go_enter Tryd.func29, Tryd.ntmps29
  go_wp2_with (go_at_call 21; refine h1.mono ?_; rintro e w' ⟨rfl, rfl⟩)
  exact bodyPost_ret (v := .tuple #[K.v k0, .int .i64 0, .bool false]) (by simp [results, Tryd.results29, go_sem, K.v, k0]) rfl ⟨rfl, below_alloc1 _ _⟩
theorem nob_at {p : Option Addr} (n : Int) (w : World) (h : Nobody w p) : Calls Tryd.prog 29 #[.pointer p, .int .i64 n] w (AtPost w k0 0 false) := by
  by_cases hn : n < 0
  · exact at_low n hn w
  · exact at_out n 0 hn (by omega) w (nob_len _ (h.below (below_alloc1 _ _)))
end Go.Proofs.YtgpdhmgbmhfooaaDoor
