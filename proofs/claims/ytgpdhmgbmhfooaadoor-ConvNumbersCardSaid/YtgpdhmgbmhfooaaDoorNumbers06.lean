/-
  The walk of ConvNumbers.
-/
import Derived.Test.YtgpdhmgbmhfooaaDoorAlive06
namespace Go.Proofs.YtgpdhmgbmhfooaaDoor
open Go.RowKit
set_option maxHeartbeats 3200000 in
theorem numbers_any (s : ByteArray) (hs : s.size ≤ 140737488351232) (w : World) (ht : Tabs w) : Calls Tryd.prog 9 #[.string s] w (BoolPost w true) := by
  have HN : ∀ w, Tabs w → Calls Tryd.prog 30 #[.string s] w (PairPost w (numericP s.toList)) := numeric_any s hs
  have HR : ∀ w, Calls Tryd.prog 31 #[.string s] w fun e w' => e = .returned (.tuple #[.int .i64 (numericP s.toList).1, .bool (numericP s.toList).2]) ∧ w = w' := rnumeric_any s hs
  have HB : ∀ w, Tabs w → Calls Tryd.prog 32 #[.string s] w (IntPost w (beginsP s.toList)) := begins_any s hs
  have HC : ∀ w, Calls Tryd.prog 33 #[.string s] w fun e w' => e = .returned (.int .i64 (beginsP s.toList)) ∧ w = w' := rbegins_any s hs
  have HA := alive_any
  generalize numericP s.toList = x at HN HR
  obtain ⟨n, b⟩ := x
  generalize beginsP s.toList = y at HB HC
  have HTS := Lib.hid ht
  clear ht hs
  go_enter Tryd.func9, Tryd.ntmps9
  go_wp2_with fail
  refine (HN _ HTS.out).mono ?_; rintro e w1 ⟨rfl, hb⟩; have B1 := Lib.hid hb; clear hb HN
  go_wp2_with fail
  refine (HR _).mono ?_; rintro e w1' ⟨rfl, rfl⟩; clear HR
  go_wp2_with fail
  refine (HB _ (HTS.out.mono B1.out)).mono ?_; rintro e w2 ⟨rfl, hb⟩; have B2 := Lib.hid (B1.out.trans (hb.mono B1.out.size)); clear B1 hb HB
  go_wp2_with fail
  refine (HC _).mono ?_; rintro e w2' ⟨rfl, rfl⟩; clear HC
  go_wp2_with fail
  refine (HA _ (HTS.out.mono B2.out)).mono ?_; rintro e w3 ⟨rfl, hb⟩; have B3 := Lib.hid (B2.out.trans (hb.mono B2.out.size)); clear B2 hb HA
  go_wp2_with fail
  go_ret
  exact ⟨rfl, B3.out⟩
end Go.Proofs.YtgpdhmgbmhfooaaDoor
