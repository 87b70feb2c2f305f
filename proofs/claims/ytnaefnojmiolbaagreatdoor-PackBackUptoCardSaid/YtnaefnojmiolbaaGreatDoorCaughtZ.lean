/-
  The walk of what catches a giving up.
-/
import Derived.Test.YtnaefnojmiolbaaGreatDoorRdZ
import Derived.Defers
import Derived.Recover
namespace Go.Proofs.YtnaefnojmiolbaaGreatDoor
open Go.RowKit

attribute [local go_sem] yld_undef
set_option maxHeartbeats 3200000 in
set_option maxRecDepth 100000 in
theorem caught_panicking (B : Nat) (c : Int) (a : Int) (x y : Int) (w : World) (hB : w.heap[B]? = some (.cells #[.int .i64 x, .int .i64 y] 33 (0, 0))) :
    CallsD Tryz.prog 81 #[.pointer (some ⟨B, 0, none⟩)] (.panicking [{ v := .iface 141 (.agg #[.int .i64 c, .int .i64 a]), recovered := false }]) w fun e u' w' =>
      e = .returned (.tuple #[]) ∧ u' = .panicking [{ v := .iface 141 (.agg #[.int .i64 c, .int .i64 a]), recovered := true }] ∧ w' = ((w.alloc (.cells #[.int .i64 c, .int .i64 a] 141)).setCell ⟨B, 0, none⟩ (.int .i64 c)).setCell ⟨B, 1, none⟩ (.int .i64 a) := by
  have HA := alloc_blk hB (.cells #[.int .i64 c, .int .i64 a] 141)
  have h0 := cell_blk HA 0; have h1 := cell_blk HA 1; have z0 := free_blk HA 0; have z1 := free_blk HA 1
  simp at h0 h1
  clear hB HA
  have hta : ∀ w, (Instr.typeAssert (.iface 141 (.agg #[.int .i64 c, .int .i64 a])) 20 141 true).run Tryz.prog w = .ok (.tuple #[.agg #[.int .i64 c, .int .i64 a], .bool true]) w := fun w => by rfl
  refine callsD_of_wpS Tryz.func81 rfl fun c₀ cs hu => ?_
  apply wpS_seq
  apply wpS_region
  simp [wpOpsS, go_sem, recoverD, hu, Tryz.ntmps81, Exit.thenS, Array.replicate, List.replicate, List.set]
  refine wpS_of_wp ?_
  go_wp2_with fail
  cases c₀
  simp_all [bodyPostS, results, Tryz.results81]
set_option maxHeartbeats 3200000 in
set_option maxRecDepth 100000 in
theorem caught_idle (B : Nat) (w : World) :
    CallsD Tryz.prog 81 #[.pointer (some ⟨B, 0, none⟩)] .returning w fun e u' w' => e = .returned (.tuple #[]) ∧ u' = .returning ∧ w' = w.alloc (.cells #[.int .i64 0, .int .i64 0] 141) := by
  have hta : ∀ w, (Instr.typeAssert .nilIface 20 141 true).run Tryz.prog w = .ok (.tuple #[.agg #[.int .i64 0, .int .i64 0], .bool false]) w := fun w => by kernel_rfl
  refine callsD_of_wpS Tryz.func81 rfl fun c₀ cs hu => ?_
  apply wpS_seq
  apply wpS_region
  simp [wpOpsS, go_sem, recoverD, hu, Tryz.ntmps81, Exit.thenS, Array.replicate, List.replicate, List.set]
  refine wpS_of_wp ?_
  go_wp2_with fail
  cases c₀
  simp_all [bodyPostS, results, Tryz.results81]
end Go.Proofs.YtnaefnojmiolbaaGreatDoor
