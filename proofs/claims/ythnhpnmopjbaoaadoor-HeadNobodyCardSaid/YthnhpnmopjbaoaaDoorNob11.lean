/-
  Heads that nobody made have nothing, and take nothing: the walks.
-/
import Derived.Test.YthnhpnmopjbaoaaDoorHead11
namespace Go.Proofs.YthnhpnmopjbaoaaDoor
open Go.RowKit

/-- No heads: nil, or ones that nobody made. -/
def NobodyH (w : World) (p : Option Addr) : Prop := p = none ∨ ∃ h, p = some ⟨h, 0, none⟩ ∧ w.heap[h]? = some (.cells #[.bool false, .bool false, .int .i64 0, .slice none 0 0] 71 (0, 0))
theorem NobodyH.mono {w w' : World} {p : Option Addr} (h : NobodyH w p) (hb : Below w.heap.size w w') : NobodyH w' p := by
  rcases h with h | ⟨d, h, k⟩
  · exact .inl h
  · exact .inr ⟨d, h, (hb.block _ (lt_of_block k)).trans k⟩
section
variable {w : World} {p : Option Addr}
theorem closed_nob (h : NobodyH w p) : Calls Tryd.prog 46 #[.pointer p] w fun e w' => e = .returned (.int .i64 5) ∧ w = w' := by
  rcases h with rfl | ⟨d, rfl, hd⟩
  · go_enter Tryd.func46, Tryd.ntmps46
    go_wp2_with fail
    go_ret
    exact ⟨rfl, rfl⟩
  · have x0 := cell_blk hd 0
    clear hd
    go_enter Tryd.func46, Tryd.ntmps46
    go_wp2_with fail
    go_ret
    exact ⟨rfl, rfl⟩
theorem line_nob (h : NobodyH w p) (s : ByteArray) (b : Bool) (n : Int) : Calls Tryd.prog 30 #[.pointer p, .string s, .bool b, .int .i64 n] w fun e w' => e = .returned (.int .i64 5) ∧ w = w' := by
  have HC := closed_nob h
  clear h
  go_enter Tryd.func30, Tryd.ntmps30
  go_wp2_with fail
  refine HC.mono ?_
  rintro e w1 ⟨rfl, rfl⟩
  clear HC
  go_wp2_with fail
  go_ret
  exact ⟨rfl, rfl⟩
theorem status_nob (h : NobodyH w p) (n : Int) : Calls Tryd.prog 33 #[.pointer p, .int .i64 n] w fun e w' => e = .returned (.int .i64 5) ∧ w = w' := by
  have HC := closed_nob h
  clear h
  go_enter Tryd.func33, Tryd.ntmps33
  go_wp2_with fail
  refine HC.mono ?_
  rintro e w1 ⟨rfl, rfl⟩
  clear HC
  go_wp2_with fail
  go_ret
  exact ⟨rfl, rfl⟩
theorem remove_nob (h : NobodyH w p) (s : ByteArray) : Calls Tryd.prog 32 #[.pointer p, .string s] w fun e w' => e = .returned (.int .i64 5) ∧ w = w' := by
  have HC := closed_nob h
  clear h
  go_enter Tryd.func32, Tryd.ntmps32
  go_wp2_with fail
  refine HC.mono ?_
  rintro e w1 ⟨rfl, rfl⟩
  clear HC
  go_wp2_with fail
  go_ret
  exact ⟨rfl, rfl⟩
theorem cookie_nob (h : NobodyH w p) (s t u : ByteArray) (n : Int) : Calls Tryd.prog 34 #[.pointer p, .string s, .string t, .string u, .int .i64 n] w fun e w' => e = .returned (.int .i64 5) ∧ w = w' := by
  have HC := closed_nob h
  clear h
  go_enter Tryd.func34, Tryd.ntmps34
  go_wp2_with fail
  refine HC.mono ?_
  rintro e w1 ⟨rfl, rfl⟩
  clear HC
  go_wp2_with fail
  go_ret
  exact ⟨rfl, rfl⟩
theorem send_nob (h : NobodyH w p) : Calls Tryd.prog 25 #[.pointer p] w fun e w' => e = .returned (.bool false) ∧ w = w' := by
  have HC := closed_nob h
  clear h
  go_enter Tryd.func25, Tryd.ntmps25
  go_wp2_with fail
  refine HC.mono ?_
  rintro e w1 ⟨rfl, rfl⟩
  clear HC
  go_wp2_with fail
  go_ret
  exact ⟨rfl, rfl⟩
theorem sent_nob (h : NobodyH w p) : Calls Tryd.prog 29 #[.pointer p] w fun e w' => e = .returned (.bool false) ∧ w = w' := by
  have HC := closed_nob h
  clear h
  go_enter Tryd.func29, Tryd.ntmps29
  go_wp2_with fail
  refine HC.mono ?_
  rintro e w1 ⟨rfl, rfl⟩
  clear HC
  go_wp2_with fail
  go_ret
  exact ⟨rfl, rfl⟩
theorem code_nob (h : NobodyH w p) : Calls Tryd.prog 26 #[.pointer p] w fun e w' => e = .returned (.int .i64 0) ∧ w = w' := by
  rcases h with rfl | ⟨d, rfl, hd⟩
  · go_enter Tryd.func26, Tryd.ntmps26
    go_wp2_with fail
    go_ret
    exact ⟨rfl, rfl⟩
  · have x2 := cell_blk hd 2
    clear hd
    go_enter Tryd.func26, Tryd.ntmps26
    go_wp2_with fail
    go_ret
    exact ⟨rfl, rfl⟩
theorem lines_nob (h : NobodyH w p) : Calls Tryd.prog 27 #[.pointer p] w fun e w' => e = .returned (.slice none 0 0) ∧ w = w' := by
  have HC := clone_nil w
  rcases h with rfl | ⟨d, rfl, hd⟩
  · clear HC
    go_enter Tryd.func27, Tryd.ntmps27
    go_wp2_with fail
    go_ret
    exact ⟨rfl, rfl⟩
  · have x3 := cell_blk hd 3
    clear hd
    go_enter Tryd.func27, Tryd.ntmps27
    go_wp2_with fail
    refine HC.mono ?_
    rintro e w1 ⟨rfl, rfl⟩
    clear HC
    go_wp2_with fail
    go_ret
    exact ⟨rfl, rfl⟩
end
end Go.Proofs.YthnhpnmopjbaoaaDoor
