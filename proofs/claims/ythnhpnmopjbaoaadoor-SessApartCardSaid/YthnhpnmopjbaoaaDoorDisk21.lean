/-
  A disk in memory; the walks of New, wrong, Write, Read at a record's path.
-/
import Derived.Test.YthnhpnmopjbaoaaDoorPath21
import Derived.Test.YthnhpnmopjbaoaaDoorMap21
import Derived.Deep.DeepCutAuto
import Derived.Deep.RegionLaw
import Derived.StillTailTactics
import Derived.BigQuiet
import Derived.LoopN
namespace Go.Proofs.YthnhpnmopjbaoaaDoor
open Go.RowKit

structure DiskIs (w : World) (d fb gb : Nat) (F : ByteArray → Option Fl) (n : Nat) (wr rd : Int) : Prop where
  blk : w.heap[d]? = some (.cells #[.map (some fb), .map (some gb), .int .i64 wr, .int .i64 rd] 38 (0, 0))
  files : FilesIs w fb F n
  faults : NoFaults w gb
  ne1 : fb ≠ d
  ne2 : gb ≠ d
  ne3 : gb ≠ fb
section
variable {w w' : World} {d fb gb : Nat} {F : ByteArray → Option Fl} {n : Nat} {wr rd : Int}
theorem DiskIs.mod {Z : Nat → Prop} (h : DiskIs w d fb gb F n wr rd) (m : Mod Z w w') (h1 : ¬ Z d) (h2 : ¬ Z fb) (h3 : ¬ Z gb) : DiskIs w' d fb gb F n wr rd :=
  ⟨m.blk h.blk h1, h.files.mod m h2, h.faults.mod m h3, h.ne1, h.ne2, h.ne3⟩
theorem DiskIs.below (h : DiskIs w d fb gb F n wr rd) (hb : Below w.heap.size w w') : DiskIs w' d fb gb F n wr rd :=
  h.mod (Mod.of_below (F := fun _ => False) hb) (fun x => x) (fun x => x) (fun x => x)
theorem DiskIs.cells (h : DiskIs w d fb gb F n wr rd) : w.cell? ⟨d, 0, none⟩ = some (.map (some fb)) ∧ w.cell? ⟨d, 1, none⟩ = some (.map (some gb)) ∧ w.cell? ⟨d, 2, none⟩ = some (.int .i64 wr) ∧ w.cell? ⟨d, 3, none⟩ = some (.int .i64 rd) :=
  ⟨cell_blk h.blk 0, cell_blk h.blk 1, cell_blk h.blk 2, cell_blk h.blk 3⟩
theorem DiskIs.wrote (h : DiskIs w d fb gb F n wr rd) (y : Int) : DiskIs (w.setCell ⟨d, 2, none⟩ (.int .i64 y)) d fb gb F n y rd := by
  have m : Mod (fun k => k = d) w (w.setCell ⟨d, 2, none⟩ (.int .i64 y)) := (Mod.refl _ _).setCell _ _ (fun _ => rfl)
  refine ⟨?_, h.files.mod m h.ne1, h.faults.mod m h.ne2, h.ne1, h.ne2, h.ne3⟩
  have := set_blk h.blk 2 (.int .i64 y)
  simpa using this
theorem DiskIs.didRead (h : DiskIs w d fb gb F n wr rd) (y : Int) : DiskIs (w.setCell ⟨d, 3, none⟩ (.int .i64 y)) d fb gb F n wr y := by
  have m : Mod (fun k => k = d) w (w.setCell ⟨d, 3, none⟩ (.int .i64 y)) := (Mod.refl _ _).setCell _ _ (fun _ => rfl)
  refine ⟨?_, h.files.mod m h.ne1, h.faults.mod m h.ne2, h.ne1, h.ne2, h.ne3⟩
  have := set_blk h.blk 3 (.int .i64 y)
  simpa using this
theorem DiskIs.put (h : DiskIs w d fb gb F n wr rd) {G : ByteArray → Option Fl} {n' : Nat} (hf : FilesIs w' fb G n') (hg : w.grownBy w' (some fb)) : DiskIs w' d fb gb G n' wr rd := by
  have m : Mod (fun k => k = fb) w w' := (Mod.refl _ w).grown hg (fun k e _ => by cases e; rfl)
  exact ⟨m.blk h.blk (fun e => h.ne1 e.symm), hf, h.faults.mod m h.ne3, h.ne1, h.ne2, h.ne3⟩
end
theorem path_short {s : ByteArray} (h : Right s) : (str (pathB s.toList)).size ≤ maxLen := by
  have := h.hi
  rw [str_size]; unfold maxLen; simp [pathB, size_toList]; omega
theorem map_nil (fb : Nat) (w : World) : (binOp .eql 35 (.map (some fb)) (.map none)).run Tryd.prog w = .ok (.bool false) w := by kernel_rfl
set_option maxRecDepth 100000 in
theorem wrong_any {w : World} {d fb gb : Nat} {F : ByteArray → Option Fl} {n : Nat} {wr rd : Int} (h : DiskIs w d fb gb F n wr rd) {s : ByteArray} (hs : Right s) (ht : Tabs w) :
    Calls Tryd.prog 59 #[.pointer (some ⟨d, 0, none⟩), .string (str (pathB s.toList))] w fun e w' => e = .returned (.int .i64 0) ∧ Below w.heap.size w w' := by
  obtain ⟨x0, x1, x2, x3⟩ := h.cells
  have HP := path_ok hs w ht
  have hm := map_nil fb w
  clear h hs ht
  generalize str (pathB s.toList) = p at HP ⊢
  go_enter Tryd.func59, Tryd.ntmps59
  go_wp2_with fail
  refine HP.mono ?_
  rintro e w1 ⟨rfl, hb⟩
  have HB := Lib.hid hb
  clear hb HP x0 x1 x2 x3
  go_wp2_with fail
  go_ret
  exact ⟨rfl, HB.out⟩
/-- A call of Write: what it answers, and what it leaves. -/
def WrotePost (w : World) (d fb gb : Nat) (F : ByteArray → Option Fl) (n : Nat) (wr rd : Int) (p t : ByteArray) (e : Ending) (w' : World) : Prop :=
  (65536 < t.size ∧ e = .returned (.int .i64 2) ∧ Below w.heap.size w w') ∨
  (t.size ≤ 65536 ∧ e = .returned (.int .i64 0) ∧ Mod (fun k => k = d ∨ k = fb) w w' ∧ DiskIs w' d fb gb (fun x => if x = p then some ⟨t, wr + 1⟩ else F x) (if (F p).isSome then n else n + 1) (wr + 1) rd)
set_option maxHeartbeats 3200000 in
set_option maxRecDepth 100000 in
theorem write_any {w : World} {d fb gb : Nat} {F : ByteArray → Option Fl} {n : Nat} {wr rd : Int} (h : DiskIs w d fb gb F n wr rd) (hn : n < 256) (h0 : 0 ≤ wr) (h1 : wr ≤ 1000) {s : ByteArray} (hs : Right s) (ht : Tabs w) (t : ByteArray) (hz : t.size ≤ 140737488351232) :
    Calls Tryd.prog 38 #[.pointer (some ⟨d, 0, none⟩), .string (str (pathB s.toList)), .string t] w (WrotePost w d fb gb F n wr rd (str (pathB s.toList)) t) := by
  have HW := wrong_any h hs ht
  have hps := path_short hs
  have H := Lib.hid h
  clear h hs ht
  generalize str (pathB s.toList) = p at HW hps ⊢
  have HPS := Lib.hid hps
  clear hps
  go_enter Tryd.func38, Tryd.ntmps38
  go_wp2_with fail
  refine HW.mono ?_
  rintro e w1 ⟨rfl, hb⟩
  have H1 := Lib.hid (H.out.below hb)
  have HB := Lib.hid hb
  clear hb HW H
  obtain ⟨x0, x1, x2, x3⟩ := H1.out.cells
  have hlook := H1.out.files.look HPS.out
  have hlen : ∀ ty, (Builtin.len_ #[35] ty #[.map (some fb)]).run Tryd.prog (w1.alloc (.cells #[.string ((F p).getD f0).t, .int .i64 ((F p).getD f0).n] 97)) = .ok (.int .i64 n) _ := fun ty => (H1.out.below (below_alloc1 w1 (.cells #[.string ((F p).getD f0).t, .int .i64 ((F p).getD f0).n] 97))).files.lenIs ty
  unfold Fl.v at hlook
  have H2 := Lib.hid (H1.out.below (below_alloc1 w1 (.cells #[.string ((F p).getD f0).t, .int .i64 ((F p).getD f0).n] 97)))
  generalize (F p).getD f0 = f at hlook hlen H2
  obtain ⟨bb, hbb⟩ : ∃ bb, (F p).isSome = bb := ⟨_, rfl⟩
  rw [hbb] at hlook
  have HBB := Lib.hid hbb
  clear hbb
  by_cases hbig : 65536 < t.size
  · have g1 : decide (65536 < (t.size : Int)) = true := by simp; omega
    have HG := Lib.hid hbig
    clear hbig
    go_wp2_with fail
    go_ret
    exact .inl ⟨HG.out, rfl, HB.out.alloc HB.out.size _⟩
  · have g1 : decide (65536 < (t.size : Int)) = false := by simp; omega
    have g2 : decide (256 ≤ (n : Int)) = false := by simp; omega
    have HG := Lib.hid hbig
    clear hbig
    obtain ⟨y0, y1, y2, y3⟩ := H2.out.cells
    have z2 := free_blk H2.out.blk 2
    have hw : IntKind.i64.wrap (wr + 1) = wr + 1 := by rw [IntKind.wrap_i64]; omega
    have hw' : wrap64 (wr + 1) = wr + 1 := wr64 (by omega) (by omega)
    cases bb
    all_goals
      go_upto_region 10 with fail
      have H3 := Lib.hid (H2.out.wrote (wr + 1))
      have M3 : Hid (Mod (fun k => k = d ∨ k = fb) w ((w1.alloc (.cells #[.string f.t, .int .i64 f.n] 97)).setCell ⟨d, 2, none⟩ (.int .i64 (wr + 1)))) := Lib.hid (((Mod.of_below HB.out).alloc _).setCell _ _ (fun _ => .inl rfl))
      generalize World.setCell _ _ _ = W3 at H3 M3 ⊢
      clear y0 y1 y2 y3 z2 x0 x1 x2 x3 hlook hlen g1 g2 H2 H1
      obtain ⟨u0, u1, u2, u3⟩ := H3.out.cells
      go_still_tail 11, (by kernel_rfl)
      change wpList _ _ _ _ _ W3.drew
      have H4 := Lib.hid (H3.out.below (Below.refl _ _).drew)
      have M4 : Hid (Mod (fun k => k = d ∨ k = fb) w W3.drew) := Lib.hid M3.out.drew
      clear u0 u1 u2 u3 H3 M3
      generalize W3.drew = W4 at H4 M4 ⊢
      obtain ⟨w5, hrun, hf5, hg5⟩ := H4.out.files.put (by unfold maxLen; omega) HPS.out ⟨t, wr + 1⟩
      have hrun' : (Instr.mapUpdate 35 (.map (some fb)) (.string p) (.agg #[.string t, .int .i64 (wr + 1)])).run Tryd.prog W4 = .ok () w5 := hrun
      have H5 := Lib.hid (H4.out.put hf5 hg5)
      have M5 : Hid (Mod (fun k => k = d ∨ k = fb) w w5) := Lib.hid (M4.out.grown hg5 (fun k e _ => by cases e; exact .inr rfl))
      clear hf5 hg5 hrun H4 M4
      go_wp2_with fail
      go_ret
      refine .inr ⟨by have := HG.out; omega, rfl, M5.out, ?_⟩
      exact H5.out
theorem belowN {B : Nat} {a w : World} (h : Below B a w) (n : Nat) : Below B a (w.drewN n) := ⟨h.os, h.tape, h.output, h.size, h.block⟩
def readV (o : Option Fl) : Value := match o with
  | some f => .tuple #[.string f.t, .int .i64 f.n, .int .i64 0]
  | none => .tuple #[.string ⟨#[]⟩, .int .i64 0, .int .i64 6]
/-- A call of Read. -/
def ReadPost (w : World) (d fb gb : Nat) (F : ByteArray → Option Fl) (n : Nat) (wr rd : Int) (p : ByteArray) (e : Ending) (w' : World) : Prop :=
  e = .returned (readV (F p)) ∧ Mod (fun k => k = d) w w' ∧ DiskIs w' d fb gb F n wr (rd + 1)
set_option maxHeartbeats 3200000 in
set_option maxRecDepth 100000 in
theorem read_any {w : World} {d fb gb : Nat} {F : ByteArray → Option Fl} {n : Nat} {wr rd : Int} (h : DiskIs w d fb gb F n wr rd) (h0 : 0 ≤ rd) (h1 : rd ≤ 1000) {s : ByteArray} (hs : Right s) (ht : Tabs w) :
    Calls Tryd.prog 40 #[.pointer (some ⟨d, 0, none⟩), .string (str (pathB s.toList))] w (ReadPost w d fb gb F n wr rd (str (pathB s.toList))) := by
  have HW := wrong_any h hs ht
  have hps := path_short hs
  have H := Lib.hid h
  clear h hs ht
  generalize str (pathB s.toList) = p at HW hps ⊢
  have HPS := Lib.hid hps
  clear hps
  go_enter Tryd.func40, Tryd.ntmps40
  go_wp2_with fail
  refine HW.mono ?_
  rintro e w1 ⟨rfl, hb⟩
  have H1 := Lib.hid (H.out.below hb)
  have HB := Lib.hid hb
  clear hb HW H
  obtain ⟨x0, x1, x2, x3⟩ := H1.out.cells
  have z3 := free_blk H1.out.blk 3
  have hw : IntKind.i64.wrap (rd + 1) = rd + 1 := by rw [IntKind.wrap_i64]; omega
  have hw' : wrap64 (rd + 1) = rd + 1 := wr64 (by omega) (by omega)
  go_upto_region 5 with fail
  have H3 := Lib.hid (H1.out.didRead (rd + 1))
  have M3 : Hid (Mod (fun k => k = d) w (w1.setCell ⟨d, 3, none⟩ (.int .i64 (rd + 1)))) := Lib.hid ((Mod.of_below HB.out).setCell _ _ (fun _ => rfl))
  generalize World.setCell _ _ _ = W3 at H3 M3 ⊢
  clear x0 x1 x2 x3 z3 hw hw' H1
  obtain ⟨u0, u1, u2, u3⟩ := H3.out.cells
  have hf := H3.out.faults.look HPS.out
  have hl := H3.out.files.look HPS.out
  unfold Fl.v at hl
  unfold ReadPost
  cases hF : F p with
  | none =>
    rw [hF] at hl
    have hl' : (Instr.lookup 35 (.map (some fb)) (.string p) true).run Tryd.prog W3 = .ok (.tuple #[.agg #[.string ⟨#[]⟩, .int .i64 0], .bool false]) W3 := hl
    have HF := Lib.hid hF
    clear hl hF
    go_wp2_with fail
    go_ret3
    exact ⟨by rw [HF.out]; rfl, M3.out.alloc _, H3.out.below (below_alloc1 _ _)⟩
  | some f =>
    rw [hF] at hl
    have hl' : (Instr.lookup 35 (.map (some fb)) (.string p) true).run Tryd.prog W3 = .ok (.tuple #[.agg #[.string f.t, .int .i64 f.n], .bool true]) W3 := hl
    have HF := Lib.hid hF
    clear hl hF
    go_wp2_with fail
    go_quiet (fail)
    go_wp2_with fail
    go_ret3
    exact ⟨by rw [HF.out]; rfl, (M3.out.alloc _).drewN _, (H3.out.below (below_alloc1 _ _)).below (belowN (Below.refl _ _) _)⟩
/-- A disk is made. -/
def MadePost (w : World) (e : Ending) (w' : World) : Prop :=
  ∃ d fb gb, e = .returned (.tuple #[.pointer (some ⟨d, 0, none⟩), .int .i64 0]) ∧ DiskIs w' d fb gb (fun _ => none) 0 0 0 ∧ w.heap.size ≤ d ∧ w.heap.size ≤ fb ∧ w.heap.size ≤ gb ∧ Below w.heap.size w w'
set_option maxHeartbeats 3200000 in
set_option maxRecDepth 100000 in
theorem dnew_any (w : World) : Calls Tryd.prog 17 #[.slice none 0 0] w (MadePost w) := by
  have hm1 : ∀ w, (Instr.makeMap 35 none).run Tryd.prog w = .ok (.map (some w.heap.size)) (w.alloc (.map #[] 0)) := fun w => by
    simp [Instr.makeMap, go_sem]
  have hm2 : ∀ w, (Instr.makeMap 36 none).run Tryd.prog w = .ok (.map (some w.heap.size)) (w.alloc (.map #[] 0)) := fun w => by
    simp [Instr.makeMap, go_sem]
  go_enter Tryd.func17, Tryd.ntmps17
  go_wp2_with fail
  refine wp_loop_rounds 1 ?_
  rw [rounds_succ]
  go_wp2_with fail
  go_ret2
  refine ⟨w.heap.size + 1 + 1, w.heap.size, w.heap.size + 1, ?_, ⟨?_, ?_, ?_, by omega, by omega, by omega⟩, by omega, by omega, by omega, ?_⟩
  · rfl
  · have h := heap_alloc_new ((w.alloc (.map #[] 0)).alloc (.map #[] 0)) (.cells #[.map (some w.heap.size), .map (some (w.heap.size + 1)), .int .i64 0, .int .i64 0] 38)
    simpa using h
  · exact ((filesIs_made w).mod (Mod.of_below (F := fun _ => False) (below_alloc1 _ _)) (fun x => x)).mod (Mod.of_below (F := fun _ => False) (below_alloc1 _ _)) (fun x => x)
  · have h := (noFaults_made (w.alloc (.map #[] 0))).mod (Mod.of_below (F := fun _ => False) (below_alloc1 _ (.cells #[.map (some w.heap.size), .map (some (w.heap.size + 1)), .int .i64 0, .int .i64 0] 38))) (fun x => x)
    simpa using h
  · exact (((Below.refl _ w).alloc (Nat.le_refl _) _).alloc (by simp) _).alloc (by simp; omega) _
end Go.Proofs.YthnhpnmopjbaoaaDoor
