/-
  The walk of may at values that are no lists; the plain law of may.
-/
import Derived.Test.YtnaefnojmiolbaaGreatDoorLeftZ
import Derived.Test.YtnaefnojmiolbaaGreatDoorNormZ
namespace Go.Proofs.YtnaefnojmiolbaaGreatDoor
open Go.RowKit

def emptyT (t : ByteArray) : Bool := t.toList.isEmpty
mutual
/-- May a value be, within so many lists? -/
def mayV : VT → Int → Bool
  | .mk k n t l, d =>
    if k = 0 then decide (l = []) && (decide (n = 0) && emptyT t)
    else if k = 1 then decide (l = []) && (decide (n = 0 ∨ n = 1) && emptyT t)
    else if k = 2 then decide (l = []) && emptyT t
    else if k = 3 then decide (l = []) && (decide (n = 0) && decide (t.size ≤ 65536))
    else if k = 5 then decide (l = []) && (decide (0 < n) && emptyT t)
    else if k = 4 then (emptyT t && decide (-1 ≤ n) && decide (l.length ≤ 2048) && decide (d < 64)) && itemsL n d [] l
    else false
/-- May the items be, behind keys that were met? -/
def itemsL : Int → Int → List K → List (K × VT) → Bool
  | _, _, _, [] => true
  | n, d, met, (q, v) :: r => (K.same q.norm q && !(decide (q ∈ met)) && mayV v (d + 1)) && (!(!q.b && decide (0 ≤ n) && decide (n ≤ q.n)) && itemsL n d (q :: met) r)
end
theorem nil_len {α : Type} (l : List α) : decide (l = []) = ((l.length : Int) == 0) := by
  cases l with
  | nil => rfl
  | cons x r => simp; omega
set_option maxHeartbeats 1600000 in
set_option maxRecDepth 100000 in
theorem may_0 (n : Int) (t : ByteArray) (ao : Option Addr) (m cap : Nat) (d : Int) (w : World) (e1 e2 e3 : Bool) (h1 : ((m : Int) == 0) = e1) (h2 : (n == 0) = e2) (h3 : t.toList.isEmpty = e3) :
    Calls Tryz.prog 52 #[.agg #[.int .i64 0, .int .i64 n, .string t, .slice ao m cap], .int .i64 d] w (BoolPost w (e1 && (e2 && e3))) := by
  have HB := Lib.hid (below_alloc1 w (.cells #[.int .i64 0, .int .i64 n, .string t, .slice ao m cap] 24))
  cases e1 <;> cases e2 <;> cases e3 <;> (go_enter Tryz.func52, Tryz.ntmps52; go_wp2_with fail; go_ret; exact ⟨rfl, HB.out⟩)
set_option maxHeartbeats 1600000 in
set_option maxRecDepth 100000 in
theorem may_1 (n : Int) (t : ByteArray) (ao : Option Addr) (m cap : Nat) (d : Int) (w : World) (e1 e2 e3 : Bool) (h1 : ((m : Int) == 0) = e1) (h2 : ((n / 2) == 0) = e2) (h3 : t.toList.isEmpty = e3) :
    Calls Tryz.prog 52 #[.agg #[.int .i64 1, .int .i64 n, .string t, .slice ao m cap], .int .i64 d] w (BoolPost w (e1 && (e2 && e3))) := by
  have HB := Lib.hid (below_alloc1 w (.cells #[.int .i64 1, .int .i64 n, .string t, .slice ao m cap] 24))
  cases e1 <;> cases e2 <;> cases e3 <;> (go_enter Tryz.func52, Tryz.ntmps52; go_wp2_with fail; go_ret; exact ⟨rfl, HB.out⟩)
set_option maxHeartbeats 1600000 in
set_option maxRecDepth 100000 in
theorem may_2 (n : Int) (t : ByteArray) (ao : Option Addr) (m cap : Nat) (d : Int) (w : World) (e1 e3 : Bool) (h1 : ((m : Int) == 0) = e1) (h3 : t.toList.isEmpty = e3) :
    Calls Tryz.prog 52 #[.agg #[.int .i64 2, .int .i64 n, .string t, .slice ao m cap], .int .i64 d] w (BoolPost w (e1 && e3)) := by
  have HB := Lib.hid (below_alloc1 w (.cells #[.int .i64 2, .int .i64 n, .string t, .slice ao m cap] 24))
  cases e1 <;> cases e3 <;> (go_enter Tryz.func52, Tryz.ntmps52; go_wp2_with fail; go_ret; exact ⟨rfl, HB.out⟩)
set_option maxHeartbeats 1600000 in
set_option maxRecDepth 100000 in
theorem may_3 (n : Int) (t : ByteArray) (ao : Option Addr) (m cap : Nat) (d : Int) (w : World) (e1 e2 e3 : Bool) (h1 : ((m : Int) == 0) = e1) (h2 : (n == 0) = e2) (h3 : decide ((t.size : Int) ≤ 65536) = e3) :
    Calls Tryz.prog 52 #[.agg #[.int .i64 3, .int .i64 n, .string t, .slice ao m cap], .int .i64 d] w (BoolPost w (e1 && (e2 && e3))) := by
  have HB := Lib.hid (below_alloc1 w (.cells #[.int .i64 3, .int .i64 n, .string t, .slice ao m cap] 24))
  cases e1 <;> cases e2 <;> cases e3 <;> (go_enter Tryz.func52, Tryz.ntmps52; go_wp2_with fail; go_ret; exact ⟨rfl, HB.out⟩)
set_option maxHeartbeats 1600000 in
set_option maxRecDepth 100000 in
theorem may_5 (n : Int) (t : ByteArray) (ao : Option Addr) (m cap : Nat) (d : Int) (w : World) (e1 e2 e3 : Bool) (h1 : ((m : Int) == 0) = e1) (h2 : decide (0 < n) = e2) (h3 : t.toList.isEmpty = e3) :
    Calls Tryz.prog 52 #[.agg #[.int .i64 5, .int .i64 n, .string t, .slice ao m cap], .int .i64 d] w (BoolPost w (e1 && (e2 && e3))) := by
  have HB := Lib.hid (below_alloc1 w (.cells #[.int .i64 5, .int .i64 n, .string t, .slice ao m cap] 24))
  cases e1 <;> cases e2 <;> cases e3 <;> (go_enter Tryz.func52, Tryz.ntmps52; go_wp2_with fail; go_ret; exact ⟨rfl, HB.out⟩)
set_option maxHeartbeats 1600000 in
set_option maxRecDepth 100000 in
theorem may_other (k n : Int) (t : ByteArray) (ao : Option Addr) (m cap : Nat) (d : Int) (w : World) (h0 : (k == 0) = false) (h1 : (k == 1) = false) (h2 : (k == 2) = false) (h3 : (k == 3) = false) (h4 : (k == 4) = false) (h5 : (k == 5) = false) :
    Calls Tryz.prog 52 #[.agg #[.int .i64 k, .int .i64 n, .string t, .slice ao m cap], .int .i64 d] w (BoolPost w false) := by
  have HB := Lib.hid (below_alloc1 w (.cells #[.int .i64 k, .int .i64 n, .string t, .slice ao m cap] 24))
  go_enter Tryz.func52, Tryz.ntmps52
  go_wp2_with fail
  go_ret
  exact ⟨rfl, HB.out⟩
set_option maxHeartbeats 1600000 in
set_option maxRecDepth 100000 in
theorem may_4 (n : Int) (t : ByteArray) (ao : Option Addr) (m cap : Nat) (d : Int) (w : World) (r : Bool) (HC : ∀ w1, Below w.heap.size w w1 → Calls Tryz.prog 86 #[.agg #[.int .i64 4, .int .i64 n, .string t, .slice ao m cap], .int .i64 d] w1 (BoolPost w1 r)) :
    Calls Tryz.prog 52 #[.agg #[.int .i64 4, .int .i64 n, .string t, .slice ao m cap], .int .i64 d] w (BoolPost w r) := by
  have HB := Lib.hid (below_alloc1 w (.cells #[.int .i64 4, .int .i64 n, .string t, .slice ao m cap] 24))
  have HD := HC _ HB.out
  clear HC
  go_enter Tryz.func52, Tryz.ntmps52
  go_wp2_with fail
  refine HD.mono ?_
  rintro e w1 ⟨rfl, hb⟩
  have B1 := Lib.hid (HB.out.trans (hb.mono HB.out.size))
  clear hb HD HB
  go_wp2_with fail
  go_ret
  exact ⟨rfl, B1.out⟩
end Go.Proofs.YtnaefnojmiolbaaGreatDoor
