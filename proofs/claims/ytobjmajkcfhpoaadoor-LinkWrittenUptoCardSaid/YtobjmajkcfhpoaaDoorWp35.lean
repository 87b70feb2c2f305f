/-
  What the second form's bound gives (the kit's template UptoLemmas, filled in).
  Classes that came in, opened under the bound of the second form (printed by genOpen17.py).
  Classes that came in, with their slices' caps and the sizes within their rules (printed by genOpenW17.py).
  A class that came in by itself, opened under the bound of the second form.
-/
import Derived.Test.YtobjmajkcfhpoaaDoorRows
import Derived.Test.YtobjmajkcfhpoaaDoorWp1
import Derived.Test.YtobjmajkcfhpoaaDoorWp17
import Derived.Stop.LaidErr
import Derived.Lib.LaidTab
import Derived.LaidMore
import Derived.Lay
import Derived.Handed
import Derived.HandedShaped
import Derived.Shelf.Vars
import Derived.OpenShut
import Derived.SevenTiedAt
import Derived.Stop.Joined
import Derived.Deep.DeepHandedRow
import Derived.Test.YtobjmajkcfhpoaaDoorWp29
namespace Go.Proofs.YtobjmajkcfhpoaaDoor.bulks
theorem one_le {H : Type} (d : DataW H) : 1 ≤ Rows.uptoBulk d := by
 cases d with
 | lit l => cases l <;> simp [Rows.uptoBulk]
 | nil => simp [Rows.uptoBulk]
 | ptr d => simp [Rows.uptoBulk]
 | slice elems spare => simp [Rows.uptoBulk]
 | agg parts => simp [Rows.uptoBulk]
 | iface t d => simp [Rows.uptoBulk]
 | map entries => simp [Rows.uptoBulk]
 | held h => simp [Rows.uptoBulk]
theorem part_le {H : Type} {d : DataW H} {l : List (DataW H)} (h : d ∈ l) : Rows.uptoBulk d ≤ Rows.uptoBulkAll l := by
 induction l with
 | nil => cases h
 | cons x r ih =>
  simp only [Rows.uptoBulkAll]; cases List.mem_cons.1 h with
  | inl e => subst e; omega
  | inr e => have := ih e; omega
theorem append {H : Type} (l r : List (DataW H)) : Rows.uptoBulkAll (l ++ r) = Rows.uptoBulkAll l + Rows.uptoBulkAll r := by
 induction l with
 | nil => simp [Rows.uptoBulkAll]
 | cons x l ih => simp only [List.cons_append, Rows.uptoBulkAll, ih]; omega
theorem length_le {H : Type} (l : List (DataW H)) : l.length ≤ Rows.uptoBulkAll l := by
 induction l with
 | nil => simp [Rows.uptoBulkAll]
 | cons x r ih => have := one_le x; simp only [Rows.uptoBulkAll, List.length_cons]; omega
theorem slice_le {H : Type} (elems spare : List (DataW H)) : elems.length + spare.length + 1 ≤ Rows.uptoBulk (.slice elems spare) := by
 have h1 := length_le elems; have h2 := length_le spare; simp only [Rows.uptoBulk]; omega
theorem slice_elems {H : Type} (elems spare : List (DataW H)) : Rows.uptoBulkAll elems + 1 ≤ Rows.uptoBulk (.slice elems spare) := by
 simp only [Rows.uptoBulk]; omega
theorem string_eq {H : Type} (bytes : List UInt8) : Rows.uptoBulk (DataW.lit (H := H) (.string bytes)) = bytes.length + 1 := by
 simp [Rows.uptoBulk]
theorem bound {H : Type} {l : List (DataW H)} (hk : Rows.uptoSmall H l = true) : Rows.uptoBulkAll l ≤ 1048576 := by
 simpa [Rows.uptoSmall] using hk
end Go.Proofs.YtobjmajkcfhpoaaDoor.bulks

namespace Go.Proofs.YtobjmajkcfhpoaaDoor
open Go.RowKit Go.ChangeShapes Go.WideShapes Go.ChangeAt
section
variable {H : Type} {enc : TypeId × Value → H}
theorem bulk_text {a : ByteArray} {d : DataW H} {N : Nat} (hb : Rows.uptoBulk d ≤ N) (hx : d = .lit (.string a.data.toList)) : a.size ≤ N := by
 subst hx; rw [bulks.string_eq] at hb; have e2 : a.data.toList.length = a.size := Array.length_toList; omega
theorem witness_row_shaped {C : Checked} {os : Os} {f : FuncId} {fn : Func} {s : OpenSpec} {conds : List PathCond} {apart : Bool} {laid : List (String × DataW Unit)} (modest : Bool) (w0 : World) (args : Array Value) (hos : w0.os = os)
  (hsh : (w0.forCall (fun _ _ => 0) ⟨#[], args, []⟩).Shaped C.prog)
  (hok : Input.okWideB C.prog (w0.forCall (fun _ _ => 0) ⟨#[], args, []⟩) f ⟨#[], args, []⟩ = true)
  (hrow : s.preRow enc C.prog fn conds apart laid (w0.forCall (fun _ _ => 0) ⟨#[], args, []⟩).memory args) :
  ∃ (w : World) (tape : Tape) (i : Input), w.os = os ∧ (w.forCall tape i).Shaped C.prog ∧ i.vars = [] ∧ Input.okWide C.prog (w.forCall tape i) .any w.heap.size f i ∧
   s.preRow enc C.prog fn conds apart laid (w.forCall tape i).memory i.args ∧ ({ modest := modest } : Assume).holds C.prog (lone (Frame.enter C.prog f i.args .normal) [] (w.forCall tape i)) :=
 ⟨w0, fun _ _ => 0, ⟨#[], args, []⟩, hos, hsh, (Input.okWide_of_okWideB (base := 0) hok).1, (Input.okWide_of_okWideB hok).2, hrow, by
  simp only [Assume.holds]
  exact ⟨by simp, by simp, fun _ => Modest.zero, by simp, by simp⟩⟩
theorem cells03 : Tryd.prog.cellsOf 3 = 1 := by kernel_rfl
theorem cells04 : Tryd.prog.cellsOf 4 = 1 := by kernel_rfl
theorem cells09 : Tryd.prog.cellsOf 9 = 1 := by kernel_rfl
theorem cells23 : Tryd.prog.cellsOf 23 = 1 := by kernel_rfl
theorem cells24 : Tryd.prog.cellsOf 24 = 1 := by kernel_rfl
theorem cells25 : Tryd.prog.cellsOf 25 = 1 := by kernel_rfl
theorem cells26 : Tryd.prog.cellsOf 26 = 1 := by kernel_rfl
theorem cells27 : Tryd.prog.cellsOf 27 = 1 := by kernel_rfl
theorem cells29 : Tryd.prog.cellsOf 29 = 11 := by kernel_rfl
theorem cells34 : Tryd.prog.cellsOf 34 = 6 := by kernel_rfl
theorem cells45 : Tryd.prog.cellsOf 45 = 4 := by kernel_rfl
theorem cells54 : Tryd.prog.cellsOf 54 = 4 := by kernel_rfl
theorem cells66 : Tryd.prog.cellsOf 66 = 3 := by kernel_rfl
theorem open_s {W : World} (N : Nat) (n : Nat) (cs : List Value) (x : DataW H × List MemPlace) (_hcs : cs.length = 1) (hb : Rows.uptoBulk x.1 ≤ N) (h : DataW.trod enc Tryd.prog W 0 (fun _ => true) true n 9 cs = some x) : ∃ a : ByteArray, cs = sR a ∧ a.size ≤ N ∧ (fun _ => 1) a ≤ Rows.uptoBulk x.1 := by
 obtain ⟨a, e, hx, _⟩ := DataW.trod_string Tryd.underlying9 h; exact ⟨a, e, bulk_text (N := N) (d := x.1) hb (by rw [hx]), bulks.one_le _⟩
set_option maxRecDepth 100000 in
theorem open_co {W : World} (N : Nat) (n : Nat) (cs : List Value) (x : DataW H × List MemPlace) (hcs : cs.length = 3) (hb : Rows.uptoBulk x.1 ≤ N) (h : DataW.trod enc Tryd.prog W 0 (fun _ => true) true n 66 cs = some x) : ∃ a : CoP, cs = CoP.row a ∧ (a.nm.size ≤ N) ∧ 1 ≤ Rows.uptoBulk x.1 := by
 obtain ⟨xs, f, _, hd, _, hxl, hg⟩ := DataW.trod_struct Tryd.underlying66 h; match cs, hcs with
 | [v0, v1, v2], _ =>
  have g0 := hg 0 _ rfl; have g1 := hg 1 _ rfl; have g2 := hg 2 _ rfl; simp [cells03, cells09] at g0 g1 g2; match xs, hxl with
  | [y0, y1, y2], _ =>
   simp at g0 g1 g2; have hd' : x.1 = .agg [y0.1, y1.1, y2.1] := by rw [hd]; rfl
   rw [hd'] at hb ⊢; simp only [Rows.uptoBulk] at hb ⊢; simp only [Rows.uptoBulkAll] at hb ⊢; obtain ⟨a0, e0, x0, _⟩ := DataW.trod_string Tryd.underlying9 g0; have z0 := bulk_text (N := N) (d := y0.1) (by omega) (by rw [x0]); obtain ⟨a1, e1, x1, _⟩ := DataW.trod_string Tryd.underlying9 g1; have z1 := bulk_text (N := N) (d := y1.1) (by omega) (by rw [x1]); obtain ⟨a2, e2, _⟩ := DataW.trod_int Tryd.underlying3 g2; cases e0; cases e1; cases e2; exact ⟨⟨a0, a1, a2⟩, rfl, z0, by omega⟩
set_option maxRecDepth 100000 in
theorem open_pr {W : World} (N : Nat) (n : Nat) (cs : List Value) (x : DataW H × List MemPlace) (hcs : cs.length = 4) (hb : Rows.uptoBulk x.1 ≤ N) (h : DataW.trod enc Tryd.prog W 0 (fun _ => true) true n 45 cs = some x) : ∃ a : PrP, cs = PrP.row a ∧ (a.nm.size ≤ N) ∧ 1 ≤ Rows.uptoBulk x.1 := by
 obtain ⟨xs, f, _, hd, _, hxl, hg⟩ := DataW.trod_struct Tryd.underlying45 h; match cs, hcs with
 | [v0, v1, v2, v3], _ =>
  have g0 := hg 0 _ rfl; have g1 := hg 1 _ rfl; have g2 := hg 2 _ rfl; have g3 := hg 3 _ rfl; simp [cells03, cells04, cells09] at g0 g1 g2 g3; match xs, hxl with
  | [y0, y1, y2, y3], _ =>
   simp at g0 g1 g2 g3; have hd' : x.1 = .agg [y0.1, y1.1, y2.1, y3.1] := by rw [hd]; rfl
   rw [hd'] at hb ⊢; simp only [Rows.uptoBulk] at hb ⊢; simp only [Rows.uptoBulkAll] at hb ⊢; obtain ⟨a0, e0, x0, _⟩ := DataW.trod_string Tryd.underlying9 g0; have z0 := bulk_text (N := N) (d := y0.1) (by omega) (by rw [x0]); obtain ⟨a1, e1, _⟩ := DataW.trod_bool Tryd.underlying4 g1; obtain ⟨a2, e2, x2, _⟩ := DataW.trod_string Tryd.underlying9 g2; have z2 := bulk_text (N := N) (d := y2.1) (by omega) (by rw [x2]); obtain ⟨a3, e3, _⟩ := DataW.trod_int Tryd.underlying3 g3; cases e0; cases e1; cases e2; cases e3; exact ⟨⟨a0, a1, a2, a3⟩, rfl, z0, by omega⟩
set_option maxRecDepth 100000 in
theorem open_mt {W : World} (N : Nat) (n : Nat) (cs : List Value) (x : DataW H × List MemPlace) (hcs : cs.length = 6) (hb : Rows.uptoBulk x.1 ≤ N) (h : DataW.trod enc Tryd.prog W 0 (fun _ => true) true n 34 cs = some x) : ∃ a : MtP, cs = MtP.row a ∧ (a.nm.size ≤ N) ∧ 1 ≤ Rows.uptoBulk x.1 := by
 obtain ⟨xs, f, _, hd, _, hxl, hg⟩ := DataW.trod_struct Tryd.underlying34 h; match cs, hcs with
 | [v0, v1, v2, v3, v4, v5], _ =>
  have g0 := hg 0 _ rfl; have g1 := hg 1 _ rfl; have g2 := hg 2 _ rfl; have g3 := hg 3 _ rfl; have g4 := hg 4 _ rfl; have g5 := hg 5 _ rfl; simp [cells03, cells04, cells09] at g0 g1 g2 g3 g4 g5; match xs, hxl with
  | [y0, y1, y2, y3, y4, y5], _ =>
   simp at g0 g1 g2 g3 g4 g5; have hd' : x.1 = .agg [y0.1, y1.1, y2.1, y3.1, y4.1, y5.1] := by rw [hd]; rfl
   rw [hd'] at hb ⊢; simp only [Rows.uptoBulk] at hb ⊢; simp only [Rows.uptoBulkAll] at hb ⊢; obtain ⟨a0, e0, x0, _⟩ := DataW.trod_string Tryd.underlying9 g0; have z0 := bulk_text (N := N) (d := y0.1) (by omega) (by rw [x0]); obtain ⟨a1, e1, _⟩ := DataW.trod_bool Tryd.underlying4 g1; obtain ⟨a2, e2, _⟩ := DataW.trod_bool Tryd.underlying4 g2; obtain ⟨a3, e3, _⟩ := DataW.trod_bool Tryd.underlying4 g3; obtain ⟨a4, e4, x4, _⟩ := DataW.trod_string Tryd.underlying9 g4; have z4 := bulk_text (N := N) (d := y4.1) (by omega) (by rw [x4]); obtain ⟨a5, e5, _⟩ := DataW.trod_int Tryd.underlying3 g5; cases e0; cases e1; cases e2; cases e3; cases e4; cases e5; exact ⟨⟨a0, a1, a2, a3, a4, a5⟩, rfl, z0, by omega⟩
def nmN (c : ClP) : Nat := c.fs.length + c.ad.length + c.cs.length + c.ps.length + c.ms.length
structure ClOk (W : World) (N : Nat) (x : KC) : Prop where
 inn : ClIn AnyB W x.1 x.2
 nz : x.1.nm.size ≤ N
 qz : x.1.pa.size ≤ N
 fz : ∀ s ∈ x.1.fs, s.size ≤ N
 tz : ∀ s ∈ x.1.ts, s.size ≤ N
 oz : ∀ a ∈ x.1.ad, a.ot.length ≤ N ∧ a.sa.size ≤ N
 cz : ∀ a ∈ x.1.cs, a.nm.size ≤ N
 pz : ∀ a ∈ x.1.ps, a.nm.size ≤ N
 mz : ∀ a ∈ x.1.ms, a.nm.size ≤ N
 fl : x.1.fs.length ≤ N
 tl : x.1.ts.length ≤ N
 al : x.1.ad.length ≤ N
 cl : x.1.cs.length ≤ N
 pl : x.1.ps.length ≤ N
 ml : x.1.ms.length ≤ N
end
theorem ClOk.sm {W : World} {x : KC} (h : ClOk W 1048576 x) : SmC x.1 := ⟨h.fl, h.tl, h.al, h.cl, h.pl, h.ml, h.nz, h.qz, h.fz, h.tz, h.cz, h.pz, h.mz, h.oz⟩
def nms (c : ClP) : List ByteArray := c.fs ++ (c.ad.map AdP.sa ++ (c.cs.map CoP.nm ++ (c.ps.map PrP.nm ++ c.ms.map MtP.nm)))
theorem nms_len (c : ClP) : (nms c).length = nmN c := by
 unfold nms nmN; simp only [List.length_append, List.length_map]; omega
def uniP (xs : List KC) : List ByteArray := xs.flatMap fun x => nms x.1
theorem uniP_len : ∀ (xs : List KC), (uniP xs).length = (xs.map fun x => nmN x.1).sum
 | [] => rfl
 | x :: xs => by
  have e : uniP (x :: xs) = nms x.1 ++ uniP xs := rfl
  rw [e, List.length_append, nms_len, uniP_len xs]
  simp
theorem nms_de {W : World} {x : KC} (h : ClOk W 1048576 x) {U : List ByteArray} (hU : ∀ n ∈ nms x.1, n ∈ U) : DeU U x.1 := by
 refine ⟨fun s hs => hU _ ?_, fun c hc => hU _ ?_, fun p hp => hU _ ?_, fun m hm => hU _ ?_, fun a ha => hU _ ?_, h.sm⟩
 ·exact List.mem_append_left _ hs
 ·exact List.mem_append_right _ (List.mem_append_right _ (List.mem_append_left _ (List.mem_map_of_mem hc)))
 ·exact List.mem_append_right _ (List.mem_append_right _ (List.mem_append_right _ (List.mem_append_left _ (List.mem_map_of_mem hp))))
 ·exact List.mem_append_right _ (List.mem_append_right _ (List.mem_append_right _ (List.mem_append_right _ (List.mem_map_of_mem hm))))
 ·exact List.mem_append_right _ (List.mem_append_left _ (List.mem_map_of_mem ha))
theorem nms_size {W : World} {x : KC} (h : ClOk W 1048576 x) : ∀ n ∈ nms x.1, n.size ≤ 1048576 := by
 intro n hn; unfold nms at hn; rcases List.mem_append.1 hn with hn | hn
 ·exact h.fz n hn
 ·rcases List.mem_append.1 hn with hn | hn
  ·obtain ⟨a, ha, rfl⟩ := List.mem_map.1 hn; exact (h.oz a ha).2
  ·rcases List.mem_append.1 hn with hn | hn
   ·obtain ⟨a, ha, rfl⟩ := List.mem_map.1 hn; exact h.cz a ha
   ·rcases List.mem_append.1 hn with hn | hn
    ·obtain ⟨a, ha, rfl⟩ := List.mem_map.1 hn; exact h.pz a ha
    ·obtain ⟨a, ha, rfl⟩ := List.mem_map.1 hn; exact h.mz a ha
theorem uni_sm {W : World} {xs : List KC} (h : ∀ x ∈ xs, ClOk W 1048576 x) (hn : (xs.map fun x => nmN x.1).sum ≤ 1048576) : SmU (uniP xs) ∧ ∀ x ∈ xs, DeU (uniP xs) x.1 := by
 refine ⟨⟨by rw [uniP_len]; exact hn, fun u hu => ?_⟩, fun x hx => nms_de (h x hx) (fun n hn => List.mem_flatMap.2 ⟨x, hx, hn⟩)⟩; obtain ⟨x, hx, hu⟩ := List.mem_flatMap.1 hu; exact nms_size (h x hx) u hu
section
variable {H : Type} {enc : TypeId × Value → H}
end
abbrev laidL17 : List (String × DataW Unit) := [("unicode/utf8.acceptRanges", Rows.laid_unicode_utf8_acceptRanges), ("unicode/utf8.first", Rows.laid_unicode_utf8_first)]
theorem tabs_of_shape {W : World} (h : W.ShapedOpen Tryd.prog) : Tabs W :=
 ⟨cell_of_shapedOpen_int (t := 3) (zero := #[.int .i64 0]) h (of_decide_eq_true (by kernel_rfl)) (by kernel_rfl) rfl (by kernel_rfl) (by kernel_rfl) Tryd.underlying3⟩
theorem own17 : ownKnob Tryd.prog.godebug = none := by kernel_rfl
theorem laidOut17 : laidOutB Tryd.prog = true := by kernel_rfl
end Go.Proofs.YtobjmajkcfhpoaaDoor

namespace Go.Proofs.YtobjmajkcfhpoaaDoor
open Go.RowKit Go.ChangeShapes Go.WideShapes Go.ChangeAt
structure CapOk (W : World) (N : Nat) (x : KC) : Prop where
 fc : x.1.fs.length ≤ x.2.f.c
 tc : x.1.ts.length ≤ x.2.t.c
 ad : ∃ xs : List (AdP × SV), xs.map (·.1) = x.1.ad ∧ RIn AnyB W 4 (.slice x.2.a.o x.2.a.n x.2.a.c) (xs.map AdP.row) ∧ ∀ a ∈ xs, RIn AnyB W 1 (.slice a.2.o a.2.n a.2.c) (a.1.ot.map sR) ∧ a.1.ot.length ≤ a.2.c
 az : ∀ a ∈ x.1.ad, a.nm.size ≤ N ∧ a.tr.size ≤ N ∧ ∀ s ∈ a.ot, s.size ≤ N
theorem CapOk.cap {W : World} {x : KC} (h : CapOk W 1048576 x) : CapIn AnyB W x := ⟨h.fc, h.tc, h.ad, h.az⟩
section
variable {H : Type} {enc : TypeId × Value → H}
theorem open_rows_c {P : Program} {α : Type} {mu : α → Nat} {W : World} {t e : TypeId} {size N : Nat} {cells : α → List Value} {good : α → Prop} {fuel : Nat} {cs : List Value} {x : DataW H × List MemPlace}
  (ht : P.underlying t = some (.slice e)) (hsz : P.cellsOf e = size) (hpos : 0 < size)
  (hel : ∀ (n : Nat) (cs : List Value) (x : DataW H × List MemPlace), cs.length = size → Rows.uptoBulk x.1 ≤ N → DataW.trod enc P W 0 (fun _ => true) true n e cs = some x → ∃ a, cs = cells a ∧ good a ∧ mu a ≤ Rows.uptoBulk x.1)
  (hb : Rows.uptoBulk x.1 ≤ N) (h : DataW.trod enc P W 0 (fun _ => true) true fuel t cs = some x) :
  ∃ ao cap, ∃ xs : List α, cs = [.slice ao xs.length cap] ∧ RIn AnyB W size (.slice ao xs.length cap) (xs.map cells) ∧ (∀ a ∈ xs, good a) ∧ xs.length ≤ N ∧ (xs.map mu).sum ≤ N ∧ xs.length ≤ cap := by
 rcases Deep.open_slice ht h with ⟨rfl, rfl⟩ | ⟨a, len, cap, m, n, D, Pl, rfl, _, hl, hm, hmm, rfl, hx⟩
 ·exact ⟨none, 0, [], rfl, RIn.nil, by simp, Nat.zero_le _, Nat.zero_le _, Nat.zero_le _⟩
 ·obtain rfl : m = cap := by simpa using hmm
  have key : ∀ i, i < len → ∃ r : α, (good r ∧ mu r ≤ Rows.uptoBulk (D i)) ∧ (W.cells? 0 (a.add (i * size)) size = some (cells r)) := by
   intro i hi; obtain ⟨cs', h1, h2⟩ := hx i (by omega); rw [hsz] at h1; obtain ⟨_, hlen, _⟩ := World.cells?_some h1; obtain ⟨r, rfl, hg, hmu⟩ := hel n cs' _ hlen (Nat.le_trans (bulks.part_le (List.mem_map.2 ⟨i, by simpa using hi, rfl⟩)) (Nat.le_trans (Nat.le_of_succ_le (bulks.slice_elems _ _)) hb)) h2; exact ⟨r, ⟨hg, hmu⟩, h1⟩
  have lst : ∀ k, k ≤ len → ∃ xs : List α, xs.length = k ∧ ((∀ r ∈ xs, good r) ∧ (xs.map mu).sum ≤ Rows.uptoBulkAll ((List.range k).map D)) ∧ ∀ i r, xs[i]? = some r → W.cells? 0 (a.add (i * size)) size = some (cells r) := by
   intro k; induction k with
   | zero => exact fun _ => ⟨[], rfl, ⟨by simp, by simp⟩, by simp⟩
   | succ k ih =>
    intro hk; obtain ⟨xs, h1, ⟨h2, h4⟩, h3⟩ := ih (by omega); obtain ⟨r, ⟨hg, hmu⟩, hr⟩ := key k (by omega); refine ⟨xs ++ [r], by simp [h1], ⟨?_, ?_⟩, ?_⟩
    ·intro y hy; rcases List.mem_append.1 hy with hy | hy
     ·exact h2 y hy
     ·simp at hy; subst hy; exact hg
    ·rw [List.range_succ, List.map_append, List.map_append, bulks.append, List.sum_append]; simp only [List.map_cons, List.map_nil, List.sum_cons, List.sum_nil, Rows.uptoBulkAll]; omega
    ·intro i y hy; by_cases hi : i < k
     ·rw [List.getElem?_append_left (by omega)] at hy; exact h3 i y hy
     ·have hlt := (List.getElem?_eq_some_iff.1 hy).1; simp [h1] at hlt; obtain rfl : i = k := by omega
      rw [List.getElem?_append_right (by omega), h1] at hy; simp at hy; subst hy; exact hr
  obtain ⟨xs, hlen, ⟨hg, hsum⟩, hc⟩ := lst len (Nat.le_refl _); have hN : len ≤ N := by
   have h1 := Nat.le_trans (bulks.slice_le _ _) hb; simp at h1; omega
  have hsN : (xs.map mu).sum ≤ N := Nat.le_trans hsum (Nat.le_trans (Nat.le_of_succ_le (bulks.slice_elems _ _)) hb); refine ⟨some a, m, xs, by rw [hlen], ⟨_, _, by rw [List.length_map], ?_, fun _ _ _ _ => trivial, fun e => by cases e⟩, hg, by omega, hsN, by omega⟩; intro i r hi; rw [List.getElem?_map] at hi; cases hxi : xs[i]? with
  | none => rw [hxi] at hi; cases hi
  | some y =>
   rw [hxi] at hi; cases hi; obtain ⟨_, hl', hcell⟩ := World.cells?_some (hc i y hxi); have hlt : i < xs.length := (List.getElem?_eq_some_iff.1 hxi).1; obtain ⟨_, hl0, hcell0⟩ := World.cells?_some (hc 0 _ (List.getElem?_eq_getElem (by omega))); have h00 := hcell0 0 hpos; have h0 := hcell 0 hpos; have hspot : a.spot = none := by
    rw [Nat.zero_mul, show (a.add 0).add 0 = a from rfl] at h00; cases hsp : a.spot with
    | none => rfl
    | some s =>
     exfalso; unfold World.cell? at h00; rw [List.getElem?_eq_getElem (by omega)] at h00; split at h00
     ·rw [hsp] at h00; simp at h00
     ·cases h00
   obtain ⟨g, off, spot⟩ := a; simp at hspot; subst hspot; refine ⟨g, off, rfl, ?_, hl', fun j u hj => ?_⟩
   ·rw [Addr.add_lit, Addr.add_lit] at h0; have h0' : W.cell? ⟨g, off + i * size + 0, none⟩ = some ((cells y)[0]'(by omega)) := by rw [h0]; simp [hl', hpos]
    exact World.block_lt_of_cell? W _ h0'
   ·have hj' : j < size := by rw [← hl']; exact (List.getElem?_eq_some_iff.1 hj).1
    have hcj := hcell j hj'; rw [Addr.add_lit, Addr.add_lit] at hcj; rw [hcj, hj]
set_option maxRecDepth 100000 in
theorem open_adc {W : World} (N : Nat) (n : Nat) (cs : List Value) (x : DataW H × List MemPlace) (hcs : cs.length = 4) (hb : Rows.uptoBulk x.1 ≤ N) (h : DataW.trod enc Tryd.prog W 0 (fun _ => true) true n 54 cs = some x) : ∃ a : AdP × SV, cs = AdP.row a ∧ ((RIn AnyB W 1 (.slice a.2.o a.2.n a.2.c) (a.1.ot.map sR) ∧ a.1.ot.length ≤ N ∧ a.1.sa.size ≤ N) ∧ a.1.ot.length ≤ a.2.c ∧ a.1.nm.size ≤ N ∧ a.1.tr.size ≤ N ∧ ∀ s ∈ a.1.ot, s.size ≤ N) ∧ 1 ≤ Rows.uptoBulk x.1 := by
 obtain ⟨xs, f, _, hd, _, hxl, hg⟩ := DataW.trod_struct Tryd.underlying54 h; match cs, hcs with
 | [v0, v1, v2, v3], _ =>
  have g0 := hg 0 _ rfl; have g1 := hg 1 _ rfl; have g2 := hg 2 _ rfl; have g3 := hg 3 _ rfl; simp [cells09, cells23] at g0 g1 g2 g3; match xs, hxl with
  | [y0, y1, y2, y3], _ =>
   simp at g0 g1 g2 g3; have hd' : x.1 = .agg [y0.1, y1.1, y2.1, y3.1] := by rw [hd]; rfl
   rw [hd'] at hb ⊢; simp only [Rows.uptoBulk] at hb ⊢; simp only [Rows.uptoBulkAll] at hb ⊢; obtain ⟨a0, e0, x0, _⟩ := DataW.trod_string Tryd.underlying9 g0; have z0 := bulk_text (N := N) (d := y0.1) (by omega) (by rw [x0]); obtain ⟨a1, e1, x1, _⟩ := DataW.trod_string Tryd.underlying9 g1; have z1 := bulk_text (N := N) (d := y1.1) (by omega) (by rw [x1]); obtain ⟨o2, c2, l2, e2, r2, q2, m2, s2, k2⟩ := open_rows_c (N := Rows.uptoBulk y2.1) (α := ByteArray) (mu := fun _ => 1) (cells := sR) (good := fun s : ByteArray => s.size ≤ N) Tryd.underlying23 cells09 (by decide) (fun n cs x h1 h2 h3 => by obtain ⟨a, e, hz, hm⟩ := open_s (Rows.uptoBulk y2.1) n cs x h1 h2 h3; exact ⟨a, e, by have : a.size ≤ Rows.uptoBulk y2.1 := hz; show a.size ≤ N; omega, hm⟩) (Nat.le_refl _) g2; obtain ⟨a3, e3, x3, _⟩ := DataW.trod_string Tryd.underlying9 g3; have z3 := bulk_text (N := N) (d := y3.1) (by omega) (by rw [x3]); cases e0; cases e1; cases e2; cases e3; exact ⟨(⟨a0, a1, l2, a3⟩, ⟨o2, l2.length, c2⟩), rfl, ⟨⟨r2, by show l2.length ≤ N; omega, z3⟩, k2, z1, z0, q2⟩, by omega⟩
set_option maxRecDepth 100000 in
theorem open_clc {W : World} (N : Nat) (n : Nat) (cs : List Value) (x : DataW H × List MemPlace) (hcs : cs.length = 11) (hb : Rows.uptoBulk x.1 ≤ N) (h : DataW.trod enc Tryd.prog W 0 (fun _ => true) true n 29 cs = some x) : ∃ a : KC, cs = KC.row a ∧ (ClOk W N a ∧ CapOk W N a) ∧ nmN a.1 ≤ Rows.uptoBulk x.1 := by
 obtain ⟨xs, f, _, hd, _, hxl, hg⟩ := DataW.trod_struct Tryd.underlying29 h; match cs, hcs with
 | [v0, v1, v2, v3, v4, v5, v6, v7, v8, v9, v10], _ =>
  have g0 := hg 0 _ rfl; have g1 := hg 1 _ rfl; have g2 := hg 2 _ rfl; have g3 := hg 3 _ rfl; have g4 := hg 4 _ rfl; have g5 := hg 5 _ rfl; have g6 := hg 6 _ rfl; have g7 := hg 7 _ rfl; have g8 := hg 8 _ rfl; have g9 := hg 9 _ rfl; have g10 := hg 10 _ rfl; simp [cells03, cells04, cells09, cells23, cells24, cells25, cells26, cells27] at g0 g1 g2 g3 g4 g5 g6 g7 g8 g9 g10; match xs, hxl with
  | [y0, y1, y2, y3, y4, y5, y6, y7, y8, y9, y10], _ =>
   simp at g0 g1 g2 g3 g4 g5 g6 g7 g8 g9 g10; have hd' : x.1 = .agg [y0.1, y1.1, y2.1, y3.1, y4.1, y5.1, y6.1, y7.1, y8.1, y9.1, y10.1] := by rw [hd]; rfl
   rw [hd'] at hb ⊢; simp only [Rows.uptoBulk] at hb ⊢; simp only [Rows.uptoBulkAll] at hb ⊢; obtain ⟨a0, e0, x0, _⟩ := DataW.trod_string Tryd.underlying9 g0; have z0 := bulk_text (N := N) (d := y0.1) (by omega) (by rw [x0]); obtain ⟨a1, e1, _⟩ := DataW.trod_int Tryd.underlying3 g1; obtain ⟨a2, e2, _⟩ := DataW.trod_bool Tryd.underlying4 g2; obtain ⟨a3, e3, _⟩ := DataW.trod_bool Tryd.underlying4 g3; obtain ⟨a4, e4, x4, _⟩ := DataW.trod_string Tryd.underlying9 g4; have z4 := bulk_text (N := N) (d := y4.1) (by omega) (by rw [x4]); obtain ⟨o5, c5, l5, e5, r5, q5, m5, s5, k5⟩ := open_rows_c (N := Rows.uptoBulk y5.1) (α := ByteArray) (mu := fun _ => 1) (cells := sR) (good := fun s : ByteArray => s.size ≤ N) Tryd.underlying23 cells09 (by decide) (fun n cs x h1 h2 h3 => by obtain ⟨a, e, hz, hm⟩ := open_s (Rows.uptoBulk y5.1) n cs x h1 h2 h3; exact ⟨a, e, by have : a.size ≤ Rows.uptoBulk y5.1 := hz; show a.size ≤ N; omega, hm⟩) (Nat.le_refl _) g5; obtain ⟨o6, c6, l6, e6, r6, q6, m6, s6, k6⟩ := open_rows_c (N := Rows.uptoBulk y6.1) (α := ByteArray) (mu := fun _ => 1) (cells := sR) (good := fun s : ByteArray => s.size ≤ N) Tryd.underlying23 cells09 (by decide) (fun n cs x h1 h2 h3 => by obtain ⟨a, e, hz, hm⟩ := open_s (Rows.uptoBulk y6.1) n cs x h1 h2 h3; exact ⟨a, e, by have : a.size ≤ Rows.uptoBulk y6.1 := hz; show a.size ≤ N; omega, hm⟩) (Nat.le_refl _) g6; obtain ⟨o7, c7, l7, e7, r7, q7, m7, s7, k7⟩ := open_rows_c (N := Rows.uptoBulk y7.1) (α := AdP × SV) (mu := fun _ => 1) (cells := AdP.row) (good := fun a : AdP × SV => (RIn AnyB W 1 (.slice a.2.o a.2.n a.2.c) (a.1.ot.map sR) ∧ a.1.ot.length ≤ N ∧ a.1.sa.size ≤ N) ∧ a.1.ot.length ≤ a.2.c ∧ a.1.nm.size ≤ N ∧ a.1.tr.size ≤ N ∧ ∀ s ∈ a.1.ot, s.size ≤ N) Tryd.underlying24 cells54 (by decide) (fun n cs x h1 h2 h3 => by obtain ⟨a, e, hz, hm⟩ := open_adc N n cs x h1 (by omega) h3; exact ⟨a, e, hz, hm⟩) (Nat.le_refl _) g7
   obtain ⟨o8, c8, l8, e8, r8, q8, m8, s8, k8⟩ := open_rows_c (N := Rows.uptoBulk y8.1) (α := CoP) (mu := fun _ => 1) (cells := CoP.row) (good := fun a : CoP => a.nm.size ≤ N) Tryd.underlying25 cells66 (by decide) (fun n cs x h1 h2 h3 => by obtain ⟨a, e, hz, hm⟩ := open_co N n cs x h1 (by omega) h3; exact ⟨a, e, hz, hm⟩) (Nat.le_refl _) g8; obtain ⟨o9, c9, l9, e9, r9, q9, m9, s9, k9⟩ := open_rows_c (N := Rows.uptoBulk y9.1) (α := PrP) (mu := fun _ => 1) (cells := PrP.row) (good := fun a : PrP => a.nm.size ≤ N) Tryd.underlying26 cells45 (by decide) (fun n cs x h1 h2 h3 => by obtain ⟨a, e, hz, hm⟩ := open_pr N n cs x h1 (by omega) h3; exact ⟨a, e, hz, hm⟩) (Nat.le_refl _) g9; obtain ⟨o10, c10, l10, e10, r10, q10, m10, s10, k10⟩ := open_rows_c (N := Rows.uptoBulk y10.1) (α := MtP) (mu := fun _ => 1) (cells := MtP.row) (good := fun a : MtP => a.nm.size ≤ N) Tryd.underlying27 cells34 (by decide) (fun n cs x h1 h2 h3 => by obtain ⟨a, e, hz, hm⟩ := open_mt N n cs x h1 (by omega) h3; exact ⟨a, e, hz, hm⟩) (Nat.le_refl _) g10; cases e0; cases e1; cases e2; cases e3; cases e4; cases e5; cases e6; cases e7; cases e8; cases e9; cases e10; exact ⟨(⟨a0, a1, a2, a3, a4, l5, l6, l7.map (·.1), l8, l9, l10⟩, ⟨⟨o5, l5.length, c5⟩, ⟨o6, l6.length, c6⟩, ⟨o7, l7.length, c7⟩, ⟨o8, l8.length, c8⟩, ⟨o9, l9.length, c9⟩, ⟨o10, l10.length, c10⟩⟩), rfl, ⟨⟨⟨r5, r6, ⟨l7, rfl, r7, fun a ha => (q7 a ha).1.1⟩, r8, r9, r10⟩, z0, z4, q5, q6, fun a ha => by obtain ⟨b, hb, rfl⟩ := List.mem_map.1 ha; exact (q7 b hb).1.2, q8, q9, q10, by show l5.length ≤ N; omega, by show l6.length ≤ N; omega, by show (l7.map (·.1)).length ≤ N; rw [List.length_map]; omega, by show l8.length ≤ N; omega, by show l9.length ≤ N; omega, by show l10.length ≤ N; omega⟩, ⟨k5, k6, ⟨l7, rfl, r7, fun a ha => ⟨(q7 a ha).1.1, (q7 a ha).2.1⟩⟩, fun a ha => by obtain ⟨b, hb, rfl⟩ := List.mem_map.1 ha; exact (q7 b hb).2.2⟩⟩, by unfold nmN; show l5.length + (l7.map (·.1)).length + l8.length + l9.length + l10.length ≤ _; rw [List.length_map]; omega⟩
set_option maxRecDepth 100000 in
theorem open_classes_c {W : World} {base : Nat} {v : Value} {d : DataW H} {p : List MemPlace} (hv : Value.okWide Tryd.prog W .any base 22 v) (hb : Rows.uptoBulk d ≤ 1048576) (h : DataW.Trod enc Tryd.prog W 0 (fun _ => true) true 22 v d p) :
  ∃ ao cap, ∃ xs : List KC, v = .slice ao xs.length cap ∧ KnIn AnyB AnyB W (.slice ao xs.length cap) xs ∧ (∀ x ∈ xs, ClOk W 1048576 x ∧ CapOk W 1048576 x) ∧ xs.length ≤ 1048576 ∧ (xs.map fun x => nmN x.1).sum ≤ Rows.uptoBulk d := by
 obtain ⟨a0, len, cap, rfl⟩ := okWide_slice Tryd.underlying22 hv; obtain ⟨fuel, hf⟩ := h; obtain ⟨ao, cap', xs, hcs, hl, hg, hn, hs, -⟩ := open_rows_c (α := KC) (mu := fun x => nmN x.1) (cells := KC.row) (good := fun x => ClOk W 1048576 x ∧ CapOk W 1048576 x) (N := Rows.uptoBulk d) Tryd.underlying22 cells29 (by decide) (fun n cs x h1 h2 h3 => open_clc 1048576 n cs x h1 (Nat.le_trans h2 hb) h3) (Nat.le_refl _) hf; simp only [Value.cells] at hcs; obtain ⟨rfl, rfl, rfl⟩ : a0 = ao ∧ len = xs.length ∧ cap = cap' := by simpa using hcs
 exact ⟨a0, cap, xs, rfl, ⟨hl, fun x hx => (hg x hx).1.inn⟩, hg, Nat.le_trans hn hb, hs⟩
end
end Go.Proofs.YtobjmajkcfhpoaaDoor

namespace Go.Proofs.YtobjmajkcfhpoaaDoor
open Go.RowKit Go.ChangeShapes Go.WideShapes Go.ChangeAt
section
variable {H : Type} {enc : TypeId × Value → H}
set_option maxRecDepth 100000 in
theorem open_class_c {W : World} {base : Nat} {v : Value} {d : DataW H} {p : List MemPlace} (hv : Value.okWide Tryd.prog W .any base 29 v) (hb : Rows.uptoBulk d ≤ 1048576) (h : DataW.Trod enc Tryd.prog W 0 (fun _ => true) true 29 v d p) :
  ∃ x : KC, v = KC.v x ∧ ClOk W 1048576 x ∧ CapOk W 1048576 x ∧ nmN x.1 ≤ Rows.uptoBulk d := by
 obtain ⟨cs, rfl, hcs⟩ := okWide_struct Tryd.underlying29 hv; obtain ⟨fuel, hf⟩ := h; rw [cells29] at hcs; obtain ⟨x, e, ⟨h1, h2⟩, h3⟩ := open_clc 1048576 fuel _ _ (by simpa [Value.cells] using hcs) hb hf; obtain ⟨l⟩ := cs; have e : l = KC.row x := by simpa [Value.cells] using e
 subst e; exact ⟨x, rfl, h1, h2, h3⟩
theorem uni_two {W : World} {xs : List KC} {d : KC} (hok : ∀ x ∈ xs, ClOk W 1048576 x ∧ CapOk W 1048576 x) (hd : ClOk W 1048576 d) (hn : nmN d.1 + (xs.map fun x => nmN x.1).sum ≤ 1048576) : SmU (uniP (d :: xs)) ∧ DeU (uniP (d :: xs)) d.1 ∧ ∀ x ∈ xs, DeU (uniP (d :: xs)) x.1 := by
 obtain ⟨h1, h2⟩ := uni_sm (xs := d :: xs) (fun x hx => by
  rcases List.mem_cons.1 hx with rfl | hx
  ·exact hd
  ·exact (hok x hx).1) (by simpa using hn)
 exact ⟨h1, h2 d (by simp), fun x hx => h2 x (by simp [hx])⟩
end
end Go.Proofs.YtobjmajkcfhpoaaDoor
