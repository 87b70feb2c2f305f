/-
  The walk of PackNames.
-/
import Derived.Test.YtnaefnojmiolbaaGreatDoorAliveZ
import Derived.Test.YtnaefnojmiolbaaGreatDoorNameZ
namespace Go.Proofs.YtnaefnojmiolbaaGreatDoor
open Go.RowKit

attribute [local go_sem] yld_undef
set_option maxHeartbeats 3200000 in
set_option maxRecDepth 100000 in
theorem names_any (s : ByteArray) (hs : s.size ≤ 140737488351232) (w : World) (ht : Tabs w) : Calls Tryz.prog 6 #[.string s] w (BoolPost w true) := by
  have H1 := name_any s w ht
  have H2 : ∀ W, Calls Tryz.prog 15 #[.string s] W (BoolPost W (nameP s.toList)) := fun W => (rname_any s hs W).mono fun e w' h => ⟨h.1, h.2 ▸ Below.refl _ _⟩
  have HT := Lib.hid ht
  generalize nameP s.toList = b at H1 H2
  clear ht
  go_enter Tryz.func6, Tryz.ntmps6
  go_wp2_with fail
  refine H1.mono ?_
  rintro e w1 ⟨rfl, hb1⟩
  have H3 := H2 w1
  have HB1 := Lib.hid hb1
  clear hb1
  go_wp2_with fail
  refine H3.mono ?_
  rintro e w2 ⟨rfl, hb2⟩
  have HB2 := Lib.hid (HB1.out.trans (hb2.mono HB1.out.size))
  have HA := alive_any w2 (HT.out.mono HB2.out)
  have hbb : (b == b) = true := by simp
  clear hb2
  go_wp2_with fail
  refine HA.mono ?_
  rintro e w3 ⟨rfl, hb3⟩
  go_wp2_with fail
  go_ret
  exact ⟨rfl, HB2.out.trans (hb3.mono HB2.out.size)⟩
end Go.Proofs.YtnaefnojmiolbaaGreatDoor
