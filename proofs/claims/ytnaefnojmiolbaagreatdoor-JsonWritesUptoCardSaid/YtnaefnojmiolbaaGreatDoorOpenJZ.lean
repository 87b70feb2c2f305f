/-
  What the second form's bound gives (the kit's template UptoLemmas, filled in).
  A value that came in, opened under the bound of the second form.
-/
import Derived.Test.YtnaefnojmiolbaaGreatDoorRows
import Derived.Test.YtnaefnojmiolbaaGreatDoorJw3
import Derived.Test.YtnaefnojmiolbaaGreatDoorJw32
import Derived.Test.YtnaefnojmiolbaaGreatDoorJw22
import Derived.Test.YtnaefnojmiolbaaGreatDoorJw8
import Derived.Test.YtnaefnojmiolbaaGreatDoorJw11
import Derived.OpenShut
import Derived.SevenTiedAt
import Derived.Stop.Joined
import Derived.Deep.DeepHandedRow
namespace Go.Proofs.YtnaefnojmiolbaaGreatDoor.bulks

theorem one_le {H : Type} (d : DataW H) : 1 ≤ Rows.uptoBulk d := by
  cases d with
  | lit l => cases l <;> simp [Rows.uptoBulk]
  | nil => simp [Rows.uptoBulk]
  | ptr d => simp [Rows.uptoBulk]
  | slice elems spare => simp [Rows.uptoBulk]
  | agg parts => simp [Rows.uptoBulk]
  | iface t d => simp [Rows.uptoBulk]
  | map entries => simp [Rows.uptoBulk]
  | held h => simp [Rows.uptoBulk]

/-- a part's bulk is at most the whole's -/
theorem part_le {H : Type} {d : DataW H} {l : List (DataW H)} (h : d ∈ l) : Rows.uptoBulk d ≤ Rows.uptoBulkAll l := by
  induction l with
  | nil => cases h
  | cons x r ih =>
    simp only [Rows.uptoBulkAll]
    cases List.mem_cons.1 h with
    | inl e => subst e; omega
    | inr e => have := ih e; omega

theorem append {H : Type} (l r : List (DataW H)) : Rows.uptoBulkAll (l ++ r) = Rows.uptoBulkAll l + Rows.uptoBulkAll r := by
  induction l with
  | nil => simp [Rows.uptoBulkAll]
  | cons x l ih => simp only [List.cons_append, Rows.uptoBulkAll, ih]; omega

/-- so many values at the most -/
theorem length_le {H : Type} (l : List (DataW H)) : l.length ≤ Rows.uptoBulkAll l := by
  induction l with
  | nil => simp [Rows.uptoBulkAll]
  | cons x r ih => have := one_le x; simp only [Rows.uptoBulkAll, List.length_cons]; omega

/-- a slice's places, and what they hold -/
theorem slice_le {H : Type} (elems spare : List (DataW H)) : elems.length + spare.length + 1 ≤ Rows.uptoBulk (.slice elems spare) := by
  have h1 := length_le elems
  have h2 := length_le spare
  simp only [Rows.uptoBulk]
  omega
theorem slice_elems {H : Type} (elems spare : List (DataW H)) : Rows.uptoBulkAll elems + 1 ≤ Rows.uptoBulk (.slice elems spare) := by
  simp only [Rows.uptoBulk]
  omega

/-- a string's letters -/
theorem string_eq {H : Type} (bytes : List UInt8) : Rows.uptoBulk (DataW.lit (H := H) (.string bytes)) = bytes.length + 1 := by
  simp [Rows.uptoBulk]

/-- THE BOUND, as the builder hands it over ('hk') -/
theorem bound {H : Type} {l : List (DataW H)} (hk : Rows.uptoSmall H l = true) : Rows.uptoBulkAll l ≤ 1048576 := by
  simpa [Rows.uptoSmall] using hk

end Go.Proofs.YtnaefnojmiolbaaGreatDoor.bulks

namespace Go.Proofs.YtnaefnojmiolbaaGreatDoor
open Go.RowKit Go.ChangeShapes Go.WideShapes Go.ChangeAt

section
variable {H : Type} {enc : TypeId × Value → H}
/-- Rows of a slice that came in, each opened by its element's law, under the bound. -/
theorem open_rows_n {P : Program} {α : Type} {W : World} {t e : TypeId} {size N : Nat} {cells : α → List Value} {good : α → Prop} {fuel : Nat} {cs : List Value} {x : DataW H × List MemPlace}
    (ht : P.underlying t = some (.slice e)) (hsz : P.cellsOf e = size) (hpos : 0 < size)
    (hel : ∀ (n : Nat) (cs : List Value) (x : DataW H × List MemPlace), cs.length = size → Rows.uptoBulk x.1 + 1 ≤ N → DataW.trod enc P W 0 (fun _ => true) true n e cs = some x → ∃ a, cs = cells a ∧ good a)
    (hb : Rows.uptoBulk x.1 ≤ N) (h : DataW.trod enc P W 0 (fun _ => true) true fuel t cs = some x) :
    ∃ ao cap, ∃ xs : List α, cs = [.slice ao xs.length cap] ∧ Lies W size ao (xs.map cells) ∧ (∀ a ∈ xs, good a) ∧ xs.length ≤ N ∧ xs.length ≤ cap := by
  rcases Deep.open_slice ht h with ⟨rfl, rfl⟩ | ⟨a, len, cap, m, n, D, Pl, rfl, _, hl, hm, hmm, rfl, hx⟩
  · exact ⟨none, 0, [], rfl, Lies.nil _ _ _, by simp, Nat.zero_le _, Nat.le_refl _⟩
  · obtain rfl : m = cap := by simpa using hmm
    have key : ∀ i, i < len → ∃ r : α, good r ∧ (W.cells? 0 (a.add (i * size)) size = some (cells r)) := by
      intro i hi
      obtain ⟨cs', h1, h2⟩ := hx i (by omega)
      rw [hsz] at h1
      obtain ⟨_, hlen, _⟩ := World.cells?_some h1
      obtain ⟨r, rfl, hg⟩ := hel n cs' _ hlen (Nat.le_trans (Nat.succ_le_succ (bulks.part_le (List.mem_map.2 ⟨i, by simpa using hi, rfl⟩))) (Nat.le_trans (bulks.slice_elems _ _) hb)) h2
      exact ⟨r, hg, h1⟩
    have lst : ∀ k, k ≤ len → ∃ xs : List α, xs.length = k ∧ (∀ r ∈ xs, good r) ∧ ∀ i r, xs[i]? = some r → W.cells? 0 (a.add (i * size)) size = some (cells r) := by
      intro k
      induction k with
      | zero => exact fun _ => ⟨[], rfl, by simp, by simp⟩
      | succ k ih =>
        intro hk
        obtain ⟨xs, h1, h2, h3⟩ := ih (by omega)
        obtain ⟨r, hg, hr⟩ := key k (by omega)
        refine ⟨xs ++ [r], by simp [h1], ?_, ?_⟩
        · intro y hy
          rcases List.mem_append.1 hy with hy | hy
          · exact h2 y hy
          · simp at hy; subst hy; exact hg
        · intro i y hy
          by_cases hi : i < k
          · rw [List.getElem?_append_left (by omega)] at hy; exact h3 i y hy
          · have hlt := (List.getElem?_eq_some_iff.1 hy).1
            simp [h1] at hlt
            obtain rfl : i = k := by omega
            rw [List.getElem?_append_right (by omega), h1] at hy
            simp at hy; subst hy; exact hr
    obtain ⟨xs, hlen, hg, hc⟩ := lst len (Nat.le_refl _)
    have hN : len ≤ N := by
      have h1 := Nat.le_trans (bulks.slice_le _ _) hb
      simp at h1
      omega
    refine ⟨some a, m, xs, by rw [hlen], ?_, hg, by omega, by omega⟩
    intro i r hi
    rw [List.getElem?_map] at hi
    cases hxi : xs[i]? with
    | none => rw [hxi] at hi; cases hi
    | some y =>
      rw [hxi] at hi
      cases hi
      obtain ⟨_, hl', hcell⟩ := World.cells?_some (hc i y hxi)
      have hlt : i < xs.length := (List.getElem?_eq_some_iff.1 hxi).1
      obtain ⟨_, hl0, hcell0⟩ := World.cells?_some (hc 0 _ (List.getElem?_eq_getElem (by omega)))
      have h00 := hcell0 0 hpos
      have h0 := hcell 0 hpos
      have hspot : a.spot = none := by
        rw [Nat.zero_mul, show (a.add 0).add 0 = a from rfl] at h00
        cases hsp : a.spot with
        | none => rfl
        | some s =>
          exfalso
          unfold World.cell? at h00
          rw [List.getElem?_eq_getElem (by omega)] at h00
          split at h00
          · rw [hsp] at h00; simp at h00
          · cases h00
      obtain ⟨g, off, spot⟩ := a
      simp at hspot
      subst hspot
      refine ⟨g, off, rfl, ?_, hl', fun j u hj => ?_⟩
      · rw [Addr.add_lit, Addr.add_lit] at h0
        have h0' : W.cell? ⟨g, off + i * size + 0, none⟩ = some ((cells y)[0]'(by omega)) := by rw [h0]; simp [hl', hpos]
        exact World.block_lt_of_cell? W _ h0'
      · have hj' : j < size := by rw [← hl']; exact (List.getElem?_eq_some_iff.1 hj).1
        have hcj := hcell j hj'
        rw [Addr.add_lit, Addr.add_lit] at hcj
        rw [hcj, hj]
theorem bulk_text {a : ByteArray} {d : DataW H} {N : Nat} (hb : Rows.uptoBulk d ≤ N) (hx : d = .lit (.string a.data.toList)) : a.size ≤ N := by
  subst hx
  rw [bulks.string_eq] at hb
  have e2 : a.data.toList.length = a.size := Array.length_toList
  omega
theorem wf_bounds {n : Int} (h : (Lit.int .i64 n).wf = true) : -9223372036854775808 ≤ n ∧ n ≤ 9223372036854775807 := by
  have e1 : IntKind.i64.min = -9223372036854775808 := rfl
  have e2 : IntKind.i64.max = 9223372036854775807 := rfl
  simp [Lit.wf, e1, e2] at h
  omega
def KG (k : K) : Prop := k.Good ∧ k.t.size ≤ 1073741824
theorem cells03 : Tryz.prog.cellsOf 3 = 1 := by kernel_rfl
theorem cells04 : Tryz.prog.cellsOf 4 = 1 := by kernel_rfl
theorem cells09 : Tryz.prog.cellsOf 9 = 1 := by kernel_rfl
theorem cells22 : Tryz.prog.cellsOf 22 = 1 := by kernel_rfl
theorem cells24 : Tryz.prog.cellsOf 24 = 4 := by kernel_rfl
theorem cellsO62 : Tryz.prog.cellsOf 62 = 3 := by kernel_rfl
theorem cells64 : Tryz.prog.cellsOf 64 = 7 := by kernel_rfl
set_option maxRecDepth 100000 in
theorem open_key {W : World} (n : Nat) (cs : List Value) (x : DataW H × List MemPlace) (hcs : cs.length = 3) (hb : Rows.uptoBulk x.1 ≤ 1048576) (h : DataW.trod enc Tryz.prog W 0 (fun _ => true) true n 62 cs = some x) :
    ∃ k : K, cs = k.cells ∧ KG k := by
  obtain ⟨xs, f, _, hd, _, hxl, hg⟩ := DataW.trod_struct Tryz.underlying62 h
  match cs, hcs with
  | [v0, v1, v2], _ =>
    have g0 := hg 0 _ rfl
    have g1 := hg 1 _ rfl
    have g2 := hg 2 _ rfl
    simp [cells03, cells04, cells09] at g0 g1 g2
    match xs, hxl with
    | [y0, y1, y2], _ =>
      simp at g0 g1 g2
      obtain ⟨a0, e0, _⟩ := DataW.trod_bool Tryz.underlying4 g0
      obtain ⟨a1, e1, x1, hw⟩ := DataW.trod_int Tryz.underlying3 g1
      obtain ⟨a2, e2, x2, _⟩ := DataW.trod_string Tryz.underlying9 g2
      have hd' : x.1 = .agg [y0.1, y1.1, y2.1] := by rw [hd]; rfl
      rw [hd'] at hb
      simp only [Rows.uptoBulk] at hb
      have b2 := bulks.part_le (d := y2.1) (l := [y0.1, y1.1, y2.1]) (by simp)
      have hwb := wf_bounds hw
      have ht := bulk_text (N := 1048576) (a := a2) (d := y2.1) (by omega) (by rw [x2])
      cases e0; cases e1; cases e2
      exact ⟨⟨a0, a1, a2⟩, rfl, ⟨hwb.1, hwb.2, by show a2.size ≤ _; omega⟩, by show a2.size ≤ _; omega⟩
/-- A value that came in. -/
def VOpen (W : World) (v : VT) (c : Value) : Prop := GoodS v ∧ VCap W c v.xs
/-- Items behind a slice value that came in. -/
def LOpen (W : World) (c : Value) (l : List It) : Prop := VCap W c l ∧ ∀ x ∈ l, KG x.1 ∧ GoodS x.2
set_option maxRecDepth 100000 in
theorem open_items_of {W : World} {N : Nat} (hN : N + 1 ≤ 1048576)
    (hv : ∀ (n : Nat) (cs : List Value) (x : DataW H × List MemPlace), cs.length = 4 → Rows.uptoBulk x.1 ≤ N → DataW.trod enc Tryz.prog W 0 (fun _ => true) true n 24 cs = some x → ∃ v c, cs = v.cells c ∧ VOpen W v c)
    (n : Nat) (cs : List Value) (x : DataW H × List MemPlace) (hb : Rows.uptoBulk x.1 ≤ N + 1) (h : DataW.trod enc Tryz.prog W 0 (fun _ => true) true n 22 cs = some x) :
    ∃ c l, cs = [c] ∧ LOpen W c l := by
  obtain ⟨ao, cap, ys, hcs, hl, hg, hn, hc⟩ := open_rows_n (α := It2) (cells := fun y => itCells y.1 y.2) (good := fun y => KG y.1.1 ∧ VOpen W y.1.2 y.2) Tryz.underlying22 cells64 (by decide) (fun n cs x hcs hb h => by
    obtain ⟨xs, f, _, hd, _, hxl, hg⟩ := DataW.trod_struct Tryz.underlying64 h
    match cs, hcs with
    | [v0, v1, v2, v3, v4, v5, v6], _ =>
      have g0 := hg 0 _ rfl
      have g1 := hg 1 _ rfl
      simp [cellsO62, cells24] at g0 g1
      match xs, hxl with
      | [y0, y1], _ =>
        simp at g0 g1
        have hd' : x.1 = .agg [y0.1, y1.1] := by rw [hd]; rfl
        rw [hd'] at hb
        simp only [Rows.uptoBulk] at hb
        have b0 := bulks.part_le (d := y0.1) (l := [y0.1, y1.1]) (by simp)
        have b1 := bulks.part_le (d := y1.1) (l := [y0.1, y1.1]) (by simp)
        obtain ⟨k, e0, hk⟩ := open_key _ _ _ rfl (by omega) g0
        obtain ⟨v, c, e1, hvo⟩ := hv _ _ _ rfl (by omega) g1
        refine ⟨((k, v), c), ?_, hk, hvo⟩
        simp only [K.cells, List.cons.injEq, and_true] at e0
        simp only [VT.cells, List.cons.injEq, and_true] at e1
        obtain ⟨rfl, rfl, rfl⟩ := e0
        obtain ⟨rfl, rfl, rfl, rfl⟩ := e1
        rfl) hb h
  refine ⟨_, ys.map (·.1), hcs, ?_, fun x hx => ?_⟩
  · rw [← List.length_map (f := (·.1))]
    refine .mk ao cap (ys.map (·.1)) (fun j => (itAt ys j).2) ?_ (by rw [List.length_map]; omega) (by rw [List.length_map]; exact hc) (fun j hj => ?_)
    · have e : rowsV (ys.map (·.1)) (fun j => (itAt ys j).2) = ys.map (fun y => itCells y.1 y.2) := by
        unfold rowsV
        apply List.ext_getElem
        · simp
        · intro i h1 h2
          simp at h1 h2
          simp [itAt_lt (ys := ys) (j := i) (by omega)]
      rw [e]
      exact hl
    · have hj' : j < ys.length := by simpa using hj
      rw [itAt_lt hj']
      simpa using (hg ys[j] (List.getElem_mem hj')).2.2
  · obtain ⟨y, hy, rfl⟩ := List.mem_map.1 hx
    exact ⟨(hg y hy).1, (hg y hy).2.1⟩
set_option maxRecDepth 100000 in
theorem open_vt {W : World} : ∀ (N : Nat), N ≤ 1048576 → ∀ (n : Nat) (cs : List Value) (x : DataW H × List MemPlace), cs.length = 4 → Rows.uptoBulk x.1 ≤ N → DataW.trod enc Tryz.prog W 0 (fun _ => true) true n 24 cs = some x → ∃ v c, cs = v.cells c ∧ VOpen W v c
  | 0, _, n, cs, x, _, hb, _ => by have := bulks.one_le x.1; omega
  | N + 1, hN, n, cs, x, hcs, hb, h => by
    obtain ⟨xs, f, _, hd, _, hxl, hg⟩ := DataW.trod_struct Tryz.underlying24 h
    match cs, hcs with
    | [v0, v1, v2, v3], _ =>
      have g0 := hg 0 _ rfl
      have g1 := hg 1 _ rfl
      have g2 := hg 2 _ rfl
      have g3 := hg 3 _ rfl
      simp [cells03, cells09, cells22] at g0 g1 g2 g3
      match xs, hxl with
      | [y0, y1, y2, y3], _ =>
        simp at g0 g1 g2 g3
        obtain ⟨a0, e0, _, hw0⟩ := DataW.trod_int Tryz.underlying3 g0
        obtain ⟨a1, e1, _, hw1⟩ := DataW.trod_int Tryz.underlying3 g1
        obtain ⟨a2, e2, x2, _⟩ := DataW.trod_string Tryz.underlying9 g2
        have hd' : x.1 = .agg [y0.1, y1.1, y2.1, y3.1] := by rw [hd]; rfl
        rw [hd'] at hb
        simp only [Rows.uptoBulk] at hb
        have b2 := bulks.part_le (d := y2.1) (l := [y0.1, y1.1, y2.1, y3.1]) (by simp)
        have b3 := bulks.part_le (d := y3.1) (l := [y0.1, y1.1, y2.1, y3.1]) (by simp)
        have ht := bulk_text (N := 1048576) (a := a2) (d := y2.1) (by omega) (by rw [x2])
        obtain ⟨c, l, e3, ho⟩ := open_items_of hN (fun n cs x h1 h2 h3 => open_vt N (by omega) n cs x h1 h2 h3) _ _ _ (by omega) g3
        cases e0; cases e1; cases e2; cases e3
        exact ⟨.mk a0 a1 a2 l, v3, rfl, ⟨VT.good_mk (wf_bounds hw0) (wf_bounds hw1) (by omega) (fun x hx => ⟨(ho.2 x hx).1.1, (ho.2 x hx).2.1⟩), .mk _ _ _ _ (fun x hx => (ho.2 x hx).1.2) (fun x hx => (ho.2 x hx).2.2)⟩, ho.1⟩
set_option maxRecDepth 100000 in
theorem open_graph {W : World} {base : Nat} {v : Value} {d : DataW H} {p : List MemPlace} (hv : Value.okWide Tryz.prog W .any base 24 v) (hb : Rows.uptoBulk d ≤ 1048576) (h : DataW.Trod enc Tryz.prog W 0 (fun _ => true) true 24 v d p) :
    ∃ (y : VT) (c : Value), v = y.v c ∧ GoodS y ∧ VCap W c y.xs := by
  obtain ⟨cs, rfl, hcs⟩ := okWide_struct Tryz.underlying24 hv
  obtain ⟨fuel, hf⟩ := h
  rw [cells24] at hcs
  obtain ⟨y, c, e, h1, h2⟩ := open_vt 1048576 (Nat.le_refl _) fuel _ _ (by simpa [Value.cells] using hcs) hb hf
  obtain ⟨l⟩ := cs
  have e : l = y.cells c := by simpa [Value.cells] using e
  subst e
  exact ⟨y, c, rfl, h1, h2⟩
theorem ownOZ : ownKnob Tryz.prog.godebug = none := by kernel_rfl
theorem laidOutOZ : laidOutB Tryz.prog = true := by kernel_rfl
/-- There is an input that fits. -/
theorem witness_row_shaped {C : Checked} {os : Os} {f : FuncId} {fn : Func} {s : OpenSpec} {conds : List PathCond} {apart : Bool} {laid : List (String × DataW Unit)} (modest : Bool) (w0 : World) (args : Array Value) (hos : w0.os = os)
    (hsh : (w0.forCall (fun _ _ => 0) ⟨#[], args, []⟩).Shaped C.prog)
    (hok : Input.okWideB C.prog (w0.forCall (fun _ _ => 0) ⟨#[], args, []⟩) f ⟨#[], args, []⟩ = true)
    (hrow : s.preRow enc C.prog fn conds apart laid (w0.forCall (fun _ _ => 0) ⟨#[], args, []⟩).memory args) :
    ∃ (w : World) (tape : Tape) (i : Input), w.os = os ∧ (w.forCall tape i).Shaped C.prog ∧ i.vars = [] ∧ Input.okWide C.prog (w.forCall tape i) .any w.heap.size f i ∧
      s.preRow enc C.prog fn conds apart laid (w.forCall tape i).memory i.args ∧ ({ modest := modest } : Assume).holds C.prog (lone (Frame.enter C.prog f i.args .normal) [] (w.forCall tape i)) :=
  ⟨w0, fun _ _ => 0, ⟨#[], args, []⟩, hos, hsh, (Input.okWide_of_okWideB (base := 0) hok).1, (Input.okWide_of_okWideB hok).2, hrow, by
    simp only [Assume.holds]
    exact ⟨by simp, by simp, fun _ => Modest.zero, by simp, by simp⟩⟩
end
end Go.Proofs.YtnaefnojmiolbaaGreatDoor
