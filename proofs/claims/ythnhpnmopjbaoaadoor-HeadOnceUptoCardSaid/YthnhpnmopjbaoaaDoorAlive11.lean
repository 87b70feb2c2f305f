/-
  The walk of the laws' alive of heads.
-/
import Derived.Test.YthnhpnmopjbaoaaDoorCookie11
namespace Go.Proofs.YthnhpnmopjbaoaaDoor
open Go.RowKit

set_option maxHeartbeats 3200000 in
set_option maxRecDepth 100000 in
theorem halive_any (w : World) (ht : Tabs w) : Calls Tryd.prog 22 #[] w (BoolPost w true) := by
  have HTS := Lib.hid ht
  have HD := hnew_any w
  clear ht
  go_enter Tryd.func22, Tryd.ntmps22
  go_wp2_with fail
  refine HD.mono ?_
  rintro e w1 ⟨rfl, i1, hb⟩
  have B1 := Lib.hid hb
  have HL := line_loc i1
  clear i1 hb HD
  go_wp2_with fail
  refine HL.mono ?_
  rintro e w2 ⟨rfl, v2, i2, m2, n2⟩
  have B2 : Hid (Below w.heap.size w w2) := Lib.hid (B1.out.trans (m2.belowB (fun k hk e => by have e' : k = w.heap.size := e; omega) B1.out.size))
  have HC := cookie_a i2 (HTS.out.mono B2.out)
  clear i2 m2 n2 HL B1
  go_wp2_with fail
  refine HC.mono ?_
  rintro e w3 ⟨rfl, v3, i3, m3, n3⟩
  have B3 : Hid (Below w.heap.size w w3) := Lib.hid (B2.out.trans (m3.belowB (fun k hk e => by have e' : k = w.heap.size := e; omega) B2.out.size))
  have I3 := Lib.hid i3
  have HLi := lines_any i3
  clear i3 m3 n3 HC B2
  go_wp2_with fail
  refine HLi.mono ?_
  rintro e w4 ⟨v4, rfl, o4, hb, n4⟩
  have I4 := Lib.hid (I3.out.below hb)
  have B4 := Lib.hid (B3.out.trans (hb.mono B3.out.size))
  obtain ⟨ao, cap, hv, h1, h2, h3, _, h5⟩ := o4.any
  simp at hv
  subst hv
  obtain ⟨g, off, rfl, hg, -, hcl⟩ := h3 1 (sR ckT) rfl
  obtain ⟨rfl, _⟩ := h5 g off rfl
  have d0 := hcl 0 _ rfl
  simp at d0
  have HCo := hcode_any I4.out
  have HSt := sent_any I4.out
  have HSe := send_any I4.out
  clear o4 hb n4 HLi I3 B3 h1 h2 h3 h5 hcl
  go_wp2_with fail
  refine HCo.mono ?_
  rintro e w5 ⟨rfl, rfl⟩
  clear HCo
  go_wp2_with fail
  refine HSt.mono ?_
  rintro e w5 ⟨rfl, rfl⟩
  clear HSt
  go_wp2_with fail
  refine HSe.mono ?_
  rintro e w6 ⟨rfl, i6, m6⟩
  have HS2 := sent_any i6
  have B6 : Hid (Below w.heap.size w w6) := Lib.hid (B4.out.trans (m6.belowB (fun k hk e => by have e' : k = w.heap.size := e; omega) B4.out.size))
  clear HSe i6 m6
  go_wp2_with fail
  refine HS2.mono ?_
  rintro e w7 ⟨rfl, rfl⟩
  clear HS2
  go_wp2_with fail
  go_ret
  exact ⟨rfl, B6.out⟩
end Go.Proofs.YthnhpnmopjbaoaaDoor
