/-
  What the row's cell 'laid' gives the walks of chapter 07.
-/
import Derived.Test.YtgpdhmgbmhfooaaDoorKeys07
import Derived.Stop.LaidErr
import Derived.Lib.LaidTab
import Derived.LaidMore
import Derived.Lay
namespace Go.Proofs.YtgpdhmgbmhfooaaDoor
open Go.RowKit Go.Shelf

abbrev laidL7 : List (String × DataW Unit) := [("math/bits.deBruijn32tab", Rows.laid_math_bits_deBruijn32tab), ("math/bits.deBruijn64tab", Rows.laid_math_bits_deBruijn64tab), ("internal/strconv.uint64pow10", Rows.laid_internal_strconv_uint64pow10), ("strconv.ErrRange", Rows.laid_strconv_ErrRange), ("strconv.ErrSyntax", Rows.laid_strconv_ErrSyntax)]
theorem gSyn : Tryd.prog.globalNamed "strconv.ErrSyntax" = some 1 := by kernel_rfl
theorem gRng : Tryd.prog.globalNamed "strconv.ErrRange" = some 2 := by kernel_rfl
theorem gPow : Tryd.prog.globalNamed "internal/strconv.uint64pow10" = some 3 := by kernel_rfl
theorem tSyn : (Tryd.prog.globals[1]?).map (·.type) = some 84 := by kernel_rfl
theorem tRng : (Tryd.prog.globals[2]?).map (·.type) = some 84 := by kernel_rfl
theorem tPow : (Tryd.prog.globals[3]?).map (·.type) = some 149 := by kernel_rfl
theorem starE : "*" ++ "errors.errorString" = "*errors.errorString" := by decide
theorem row144 (u : TypeId) (h : Tryd.prog.typeName? 3 u = some "*errors.errorString") : u = 144 :=
  typeName_ptr_named (nm := "errors.errorString") (by rw [starE]; kernel_rfl) (by kernel_rfl) (by decide) u (by rw [starE]; exact h)
theorem pow_data : (Rows.laid_internal_strconv_uint64pow10 : DataW Unit) = Lib.tabData .u64 Lib.pow10Tab := by kernel_rfl
theorem tabs_of_laid7 {W : World} (hL0 : laidMetH Tryd.prog laidL7 W) : Tabs W := by
  rw [MakeChecks.laidMetH_plain _ _ _ (by kernel_rfl)] at hL0
  have h1 := hL0.tail.tail
  have hp : Lib.TabIs Tryd.prog W "internal/strconv.uint64pow10" .u64 Lib.pow10Tab := by
    rw [pow_data] at h1
    exact Lib.tabIs_of_head gPow tPow Tryd.underlying149 Tryd.underlying126 (by kernel_rfl) (by kernel_rfl) h1
  have h2 := h1.tail
  obtain ⟨a0, s0, hv0, -, -, -⟩ := laid_sentinel h2 gRng tRng Tryd.underlying84 row144 Tryd.underlying144 Tryd.underlying146 rfl rfl Tryd.underlying9 (by kernel_rfl) (by kernel_rfl)
  obtain ⟨a1, s1, hv1, -, -, -⟩ := laid_sentinel h2.tail gSyn tSyn Tryd.underlying84 row144 Tryd.underlying144 Tryd.underlying146 rfl rfl Tryd.underlying9 (by kernel_rfl) (by kernel_rfl)
  exact ⟨hp, ⟨_, _, hv0⟩, ⟨_, _, hv1⟩⟩
end Go.Proofs.YtgpdhmgbmhfooaaDoor
