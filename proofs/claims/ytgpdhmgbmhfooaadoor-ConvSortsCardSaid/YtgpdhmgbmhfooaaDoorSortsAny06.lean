/-
  ConvSorts at any three numbers.
-/
import Derived.Test.YtgpdhmgbmhfooaaDoorSortsLaw06
import Derived.Test.YtgpdhmgbmhfooaaDoorOrder06
namespace Go.Proofs.YtgpdhmgbmhfooaaDoor
open Go.RowKit

theorem sorts_any (a b c : Int) (ha : -9223372036854775808 ≤ a ∧ a ≤ 9223372036854775807) (hb : -9223372036854775808 ≤ b ∧ b ≤ 9223372036854775807) (hc : -9223372036854775808 ≤ c ∧ c ≤ 9223372036854775807) (w : World) (ht : Tabs w) :
    Calls Tryd.prog 11 #[.int .i64 a, .int .i64 b, .int .i64 c] w (BoolPost w true) := by
  have z : -9223372036854775808 ≤ (0 : Int) ∧ (0 : Int) ≤ 9223372036854775807 := by omega
  have sb := itoa_short hb.1 hb.2
  have sc := itoa_short hc.1 hc.2
  have hb32 : ∀ x ∈ ([32] : Bs), isBlank x = true := by simp [isBlank]
  have h1 : numP 3 0 (str (Lib.itoa b)).toList = (b, true) := by rw [str_toList]; exact sorts_text hb.1 hb.2 [] (by simp) 0
  have h2 : numP 3 0 (str (32 :: Lib.itoa c)).toList = (c, true) := by rw [str_toList]; exact sorts_text hc.1 hc.2 [32] hb32 0
  have h0 : numP 2 a (⟨#[]⟩ : ByteArray).toList = (a, true) := rfl
  have e0 : (⟨#[]⟩ : ByteArray).size ≤ 140737488351232 := by decide
  have e1 : (str (Lib.itoa b)).size ≤ 140737488351232 := by rw [str_size]; omega
  have e2 : (str (32 :: Lib.itoa c)).size ≤ 140737488351232 := by rw [str_size, List.length_cons]; omega
  refine sorts_of a b c (str (Lib.itoa b)) (str (32 :: Lib.itoa c)) (Lib.compareInt a b) (Lib.compareInt b c) (Lib.compareInt a c) (ring_ok a b c) (cmp_cases a b) (cmp_cases b c) (cmp_cases a c) w ht (str (Lib.itoa c))
    (by rw [show (⟨#[32]⟩ : ByteArray) = str [32] from rfl, str_append]; rfl) (by rw [str_size]; exact sc)
    (fun w h => digits_any b hb.1 hb.2 w h) (fun w h => digits_any c hc.1 hc.2 w h) (fun w h => ?_) (fun w h => ?_) (fun w h => ?_)
  · have := order_any 2 a ⟨#[]⟩ none 0 0 3 0 (str (Lib.itoa b)) none 0 0 ha z e0 e1 w h
    rw [order_nums (.inl rfl) (.inr rfl) h0 h1] at this
    exact this
  · have := order_any 3 0 (str (Lib.itoa b)) none 0 0 3 0 (str (32 :: Lib.itoa c)) none 0 0 z z e1 e2 w h
    rw [order_nums (.inr rfl) (.inr rfl) h1 h2] at this
    exact this
  · have := order_any 2 a ⟨#[]⟩ none 0 0 3 0 (str (32 :: Lib.itoa c)) none 0 0 ha z e0 e2 w h
    rw [order_nums (.inl rfl) (.inr rfl) h0 h2] at this
    exact this
end Go.Proofs.YtgpdhmgbmhfooaaDoor
