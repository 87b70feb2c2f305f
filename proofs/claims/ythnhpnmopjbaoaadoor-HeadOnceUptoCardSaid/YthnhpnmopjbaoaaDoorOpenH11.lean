/-
  Scripts of calls on heads that came in, opened under the bound of the second form.
-/
import Derived.Test.YthnhpnmopjbaoaaDoorBulk
import Derived.Test.YthnhpnmopjbaoaaDoorLaw
import Derived.Test.YthnhpnmopjbaoaaDoorHLive11
import Derived.Test.YthnhpnmopjbaoaaDoorLaid21
import Derived.OpenShut
import Derived.SevenTiedAt
import Derived.Stop.Joined
import Derived.Deep.DeepHandedRow
namespace Go.Proofs.YthnhpnmopjbaoaaDoor
open Go.RowKit Go.ChangeShapes Go.WideShapes Go.ChangeAt

section
variable {H : Type} {enc : TypeId × Value → H}
/-- Rows of a slice that came in, each opened by its element's law, under the bound. -/
theorem open_rows_b {P : Program} {α : Type} {W : World} {t e : TypeId} {size N : Nat} {cells : α → List Value} {good : α → Prop} {fuel : Nat} {cs : List Value} {x : DataW H × List MemPlace}
    (ht : P.underlying t = some (.slice e)) (hsz : P.cellsOf e = size) (hpos : 0 < size)
    (hel : ∀ (n : Nat) (cs : List Value) (x : DataW H × List MemPlace), cs.length = size → Rows.uptoBulk x.1 ≤ N → DataW.trod enc P W 0 (fun _ => true) true n e cs = some x → ∃ a, cs = cells a ∧ good a)
    (hb : Rows.uptoBulk x.1 ≤ N) (h : DataW.trod enc P W 0 (fun _ => true) true fuel t cs = some x) :
    ∃ ao cap, ∃ xs : List α, cs = [.slice ao xs.length cap] ∧ Lies W size ao (xs.map cells) ∧ (∀ a ∈ xs, good a) ∧ xs.length ≤ N := by
  rcases Deep.open_slice ht h with ⟨rfl, rfl⟩ | ⟨a, len, cap, m, n, D, Pl, rfl, _, hl, hm, hmm, rfl, hx⟩
  · exact ⟨none, 0, [], rfl, Lies.nil _ _ _, by simp, Nat.zero_le _⟩
  · obtain rfl : m = cap := by simpa using hmm
    have key : ∀ i, i < len → ∃ r : α, good r ∧ (W.cells? 0 (a.add (i * size)) size = some (cells r)) := by
      intro i hi
      obtain ⟨cs', h1, h2⟩ := hx i (by omega)
      rw [hsz] at h1
      obtain ⟨_, hlen, _⟩ := World.cells?_some h1
      obtain ⟨r, rfl, hg⟩ := hel n cs' _ hlen (Nat.le_trans (bulks.part_le (List.mem_map.2 ⟨i, by simpa using hi, rfl⟩)) (Nat.le_trans (Nat.le_of_succ_le (bulks.slice_elems _ _)) hb)) h2
      exact ⟨r, hg, h1⟩
    have lst : ∀ k, k ≤ len → ∃ xs : List α, xs.length = k ∧ (∀ r ∈ xs, good r) ∧ ∀ i r, xs[i]? = some r → W.cells? 0 (a.add (i * size)) size = some (cells r) := by
      intro k
      induction k with
      | zero => exact fun _ => ⟨[], rfl, by simp, by simp⟩
      | succ k ih =>
        intro hk
        obtain ⟨xs, h1, h2, h3⟩ := ih (by omega)
        obtain ⟨r, hg, hr⟩ := key k (by omega)
        refine ⟨xs ++ [r], by simp [h1], ?_, ?_⟩
        · intro y hy
          rcases List.mem_append.1 hy with hy | hy
          · exact h2 y hy
          · simp at hy; subst hy; exact hg
        · intro i y hy
          by_cases hi : i < k
          · rw [List.getElem?_append_left (by omega)] at hy; exact h3 i y hy
          · have hlt := (List.getElem?_eq_some_iff.1 hy).1
            simp [h1] at hlt
            obtain rfl : i = k := by omega
            rw [List.getElem?_append_right (by omega), h1] at hy
            simp at hy; subst hy; exact hr
    obtain ⟨xs, hlen, hg, hc⟩ := lst len (Nat.le_refl _)
    have hN : len ≤ N := by
      have h1 := Nat.le_trans (bulks.slice_le _ _) hb
      simp at h1
      omega
    refine ⟨some a, m, xs, by rw [hlen], ?_, hg, by omega⟩
    intro i r hi
    rw [List.getElem?_map] at hi
    cases hxi : xs[i]? with
    | none => rw [hxi] at hi; cases hi
    | some y =>
      rw [hxi] at hi
      cases hi
      obtain ⟨_, hl', hcell⟩ := World.cells?_some (hc i y hxi)
      have hlt : i < xs.length := (List.getElem?_eq_some_iff.1 hxi).1
      obtain ⟨_, hl0, hcell0⟩ := World.cells?_some (hc 0 _ (List.getElem?_eq_getElem (by omega)))
      have h00 := hcell0 0 hpos
      have h0 := hcell 0 hpos
      have hspot : a.spot = none := by
        rw [Nat.zero_mul, show (a.add 0).add 0 = a from rfl] at h00
        cases hsp : a.spot with
        | none => rfl
        | some s =>
          exfalso
          unfold World.cell? at h00
          rw [List.getElem?_eq_getElem (by omega)] at h00
          split at h00
          · rw [hsp] at h00; simp at h00
          · cases h00
      obtain ⟨g, off, spot⟩ := a
      simp at hspot
      subst hspot
      refine ⟨g, off, rfl, ?_, hl', fun j u hj => ?_⟩
      · rw [Addr.add_lit, Addr.add_lit] at h0
        have h0' : W.cell? ⟨g, off + i * size + 0, none⟩ = some ((cells y)[0]'(by omega)) := by rw [h0]; simp [hl', hpos]
        exact World.block_lt_of_cell? W _ h0'
      · have hj' : j < size := by rw [← hl']; exact (List.getElem?_eq_some_iff.1 hj).1
        have hcj := hcell j hj'
        rw [Addr.add_lit, Addr.add_lit] at hcj
        rw [hcj, hj]
theorem bulk_text {a : ByteArray} {d : DataW H} {N : Nat} (hb : Rows.uptoBulk d ≤ N) (hx : d = .lit (.string a.data.toList)) : a.size ≤ N := by
  subst hx
  rw [bulks.string_eq] at hb
  have e2 : a.data.toList.length = a.size := Array.length_toList
  omega
theorem wf_bounds {n : Int} (h : (Lit.int .i64 n).wf = true) : -9223372036854775808 ≤ n ∧ n ≤ 9223372036854775807 := by
  have e1 : IntKind.i64.min = -9223372036854775808 := rfl
  have e2 : IntKind.i64.max = 9223372036854775807 := rfl
  simp [Lit.wf, e1, e2] at h
  omega
theorem cells55 : Tryd.prog.cellsOf 55 = 6 := by kernel_rfl
theorem cells03 : Tryd.prog.cellsOf 3 = 1 := by kernel_rfl
theorem cells04 : Tryd.prog.cellsOf 4 = 1 := by kernel_rfl
theorem cells09 : Tryd.prog.cellsOf 9 = 1 := by kernel_rfl
set_option maxRecDepth 100000 in
theorem open_ha {W : World} (n : Nat) (cs : List Value) (x : DataW H × List MemPlace) (hcs : cs.length = 6) (hb : Rows.uptoBulk x.1 ≤ 1048576) (h : DataW.trod enc Tryd.prog W 0 (fun _ => true) true n 55 cs = some x) :
    ∃ a : HA, cs = a.cells ∧ a.Ok := by
  obtain ⟨xs, f, _, hd, _, hxl, hg⟩ := DataW.trod_struct Tryd.underlying55 h
  match cs, hcs with
  | [v0, v1, v2, v3, v4, v5], _ =>
    have g0 := hg 0 _ rfl
    have g1 := hg 1 _ rfl
    have g2 := hg 2 _ rfl
    have g3 := hg 3 _ rfl
    have g4 := hg 4 _ rfl
    have g5 := hg 5 _ rfl
    simp [cells03, cells04, cells09] at g0 g1 g2 g3 g4 g5
    match xs, hxl with
    | [y0, y1, y2, y3, y4, y5], _ =>
      simp at g0 g1 g2 g3 g4 g5
      obtain ⟨a0, e0, _⟩ := DataW.trod_int Tryd.underlying3 g0
      obtain ⟨a1, e1, x1, _⟩ := DataW.trod_string Tryd.underlying9 g1
      obtain ⟨a2, e2, x2, _⟩ := DataW.trod_string Tryd.underlying9 g2
      obtain ⟨a3, e3, x3, _⟩ := DataW.trod_string Tryd.underlying9 g3
      obtain ⟨a4, e4, _⟩ := DataW.trod_bool Tryd.underlying4 g4
      obtain ⟨a5, e5, x5, hw⟩ := DataW.trod_int Tryd.underlying3 g5
      have hd' : x.1 = .agg [y0.1, y1.1, y2.1, y3.1, y4.1, y5.1] := by rw [hd]; rfl
      rw [hd'] at hb
      simp only [Rows.uptoBulk] at hb
      have b1 := bulks.part_le (d := y1.1) (l := [y0.1, y1.1, y2.1, y3.1, y4.1, y5.1]) (by simp)
      have b2 := bulks.part_le (d := y2.1) (l := [y0.1, y1.1, y2.1, y3.1, y4.1, y5.1]) (by simp)
      have b3 := bulks.part_le (d := y3.1) (l := [y0.1, y1.1, y2.1, y3.1, y4.1, y5.1]) (by simp)
      have hwb := wf_bounds hw
      cases e0; cases e1; cases e2; cases e3; cases e4; cases e5
      exact ⟨⟨a0, a5, a1, a2, a3, a4⟩, rfl, ⟨bulk_text (N := 1048576) (d := y1.1) (by omega) (by rw [x1]), bulk_text (N := 1048576) (d := y2.1) (by omega) (by rw [x2]), bulk_text (N := 1048576) (d := y3.1) (by omega) (by rw [x3]), hwb.1, hwb.2⟩⟩
set_option maxRecDepth 100000 in
/-- A script. -/
theorem open_script {W : World} {base : Nat} {v : Value} {d : DataW H} {p : List MemPlace} (hv : Value.okWide Tryd.prog W .any base 47 v) (hb : Rows.uptoBulk d ≤ 1048576) (h : DataW.Trod enc Tryd.prog W 0 (fun _ => true) true 47 v d p) :
    ∃ ao cap, ∃ acts : List HA, v = .slice ao acts.length cap ∧ Lies W 6 ao (acts.map HA.cells) ∧ (∀ a ∈ acts, a.Ok) ∧ acts.length ≤ 1048576 := by
  obtain ⟨a0, len, cap, rfl⟩ := okWide_slice Tryd.underlying47 hv
  obtain ⟨fuel, hf⟩ := h
  obtain ⟨ao, cap', acts, hcs, hl, hg, hn⟩ := open_rows_b (α := HA) (cells := HA.cells) (good := HA.Ok) Tryd.underlying47 cells55 (by decide) open_ha hb hf
  simp only [Value.cells] at hcs
  obtain ⟨rfl, rfl, rfl⟩ : a0 = ao ∧ len = acts.length ∧ cap = cap' := by simpa using hcs
  exact ⟨a0, cap, acts, rfl, hl, hg, hn⟩
/-- There is an input that fits. -/
theorem witness_row_shaped {C : Checked} {os : Os} {f : FuncId} {fn : Func} {s : OpenSpec} {conds : List PathCond} {apart : Bool} {laid : List (String × DataW Unit)} (modest : Bool) (w0 : World) (args : Array Value) (hos : w0.os = os)
    (hsh : (w0.forCall (fun _ _ => 0) ⟨#[], args, []⟩).Shaped C.prog)
    (hok : Input.okWideB C.prog (w0.forCall (fun _ _ => 0) ⟨#[], args, []⟩) f ⟨#[], args, []⟩ = true)
    (hrow : s.preRow enc C.prog fn conds apart laid (w0.forCall (fun _ _ => 0) ⟨#[], args, []⟩).memory args) :
    ∃ (w : World) (tape : Tape) (i : Input), w.os = os ∧ (w.forCall tape i).Shaped C.prog ∧ i.vars = [] ∧ Input.okWide C.prog (w.forCall tape i) .any w.heap.size f i ∧
      s.preRow enc C.prog fn conds apart laid (w.forCall tape i).memory i.args ∧ ({ modest := modest } : Assume).holds C.prog (lone (Frame.enter C.prog f i.args .normal) [] (w.forCall tape i)) :=
  ⟨w0, fun _ _ => 0, ⟨#[], args, []⟩, hos, hsh, (Input.okWide_of_okWideB (base := 0) hok).1, (Input.okWide_of_okWideB hok).2, hrow, by
    simp only [Assume.holds]
    exact ⟨by simp, by simp, fun _ => Modest.zero, by simp, by simp⟩⟩
end
abbrev laidL5 : List (String × DataW Unit) := [("math/bits.deBruijn32tab", Rows.laid_math_bits_deBruijn32tab), ("math/bits.deBruijn64tab", Rows.laid_math_bits_deBruijn64tab), ("internal/strconv.uint64pow10", Rows.laid_internal_strconv_uint64pow10), ("strconv.ErrRange", Rows.laid_strconv_ErrRange), ("strconv.ErrSyntax", Rows.laid_strconv_ErrSyntax)]
theorem gRng : Tryd.prog.globalNamed "strconv.ErrRange" = some 3 := by kernel_rfl
theorem tRng : (Tryd.prog.globals[3]?).map (·.type) = some 106 := by kernel_rfl
theorem tabsR_of_laid5 {W : World} (hL0 : laidMetH Tryd.prog laidL5 W) (hS : W.ShapedOpen Tryd.prog) : TabsR W := by
  rw [MakeChecks.laidMetH_plain _ _ _ (by kernel_rfl)] at hL0
  have h1 := hL0.tail.tail
  have hp : Lib.TabIs Tryd.prog W "internal/strconv.uint64pow10" .u64 Lib.pow10Tab := by
    rw [pow_data] at h1
    exact Lib.tabIs_of_head gPow tPow Tryd.underlying143 Tryd.underlying125 (by kernel_rfl) (by kernel_rfl) h1
  have h2 := h1.tail
  obtain ⟨a0, s0, hv0, -, -, -⟩ := laid_sentinel h2 gRng tRng Tryd.underlying106 rowE Tryd.underlying157 Tryd.underlying159 rfl rfl Tryd.underlying9 (by kernel_rfl) (by kernel_rfl)
  obtain ⟨a1, s1, hv1, -, -, -⟩ := laid_sentinel h2.tail gSyn tSyn Tryd.underlying106 rowE Tryd.underlying157 Tryd.underlying159 rfl rfl Tryd.underlying9 (by kernel_rfl) (by kernel_rfl)
  exact ⟨⟨hp, ⟨_, _, hv1⟩, mlen_of_shape hS⟩, ⟨_, _, hv0⟩⟩
theorem own11 : ownKnob Tryd.prog.godebug = none := by kernel_rfl
theorem laidOut11 : laidOutB Tryd.prog = true := by kernel_rfl
end Go.Proofs.YthnhpnmopjbaoaaDoor
