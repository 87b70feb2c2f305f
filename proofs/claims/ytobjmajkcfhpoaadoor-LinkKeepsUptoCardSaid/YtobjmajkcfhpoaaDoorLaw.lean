/-
  From a walk that answers true and turns nothing that was there to the statement's own form; and arguments opened by their types.
-/
import Derived.Test.YtobjmajkcfhpoaaDoorRows
import Derived.Test.YtobjmajkcfhpoaaDoorBase
import Derived.ProofKit
import Derived.OpenShut
import Derived.SizedLaws
import Derived.Deep.CondSized
import Derived.Deep.Slices
namespace Go.Proofs.YtobjmajkcfhpoaaDoor
open Go.RowKit Go.ChangeShapes Go.WideShapes Go.ChangeAt

section
variable {H : Type} {enc : TypeId × Value → H} {P : Program}

/-- All arguments read behind the call as they did. -/
theorem trodAll_below (hl : laidOutB P = true) {W W' : World} (hb : Below W.heap.size W W') : ∀ (ts : List TypeId) (vs : List Value) (ds : List (DataW H)) (ps : List MemPlace),
    (∀ t ∈ ts, P.readableRec t = true ∧ t < P.types.size) → DataW.TrodAll enc P W 0 (fun _ => true) true ts vs ds ps → (∀ x ∈ ps, x.block < W.heap.size) →
    DataW.TrodAll enc P W' 0 (fun b => decide (b < W.heap.size)) true ts vs ds ps
  | [], vs, ds, ps, _, h, _ => by
    obtain ⟨rfl, rfl, rfl⟩ := trodAll_nil h
    exact trodAll_mk0
  | t :: ts, vs, ds, ps, hr, h, hlt => by
    obtain ⟨v, vs', d, ds', p, q, rfl, rfl, rfl, h1, h2⟩ := trodAll_cons h
    exact trodAll_cons_mk (Below.trod hl (hr t (by simp)).1 (hr t (by simp)).2 h1 hb (fun x hx => hlt x (by simp [hx]))) (trodAll_below hl hb ts vs' ds' q (fun t ht => hr t (by simp [ht])) h2 (fun x hx => hlt x (by simp [hx])))

theorem law_post {f : Func} {s : ChangeSpec} {tb : TypeId} {W W' : World} {args : Array Value} {ds gs : List (DataW H)} {before : List MemPlace}
    (hl : laidOutB P = true) (hr : f.params.toList.all (fun t => P.readableRec t && decide (t < P.types.size)) = true) (hres : f.resultTypes = #[tb]) (htb : P.underlying tb = some .bool) (hv : s.vars = [])
    (hs : s.fn H (ds ++ gs) = { results := [.lit (.bool true)], args := ds })
    (hW : DataW.Whole enc P f.params.toList s.vars false W args.toList ds gs before) (hb : Below W.heap.size W W') :
    s.post enc P f false true false false W args (.bool true) W' := by
  have hW' := hW
  obtain ⟨p, q, hA, hV, rfl, _, _⟩ := hW
  have hq : q = [] := by rw [hv] at hV; exact (trodVars_none hV).2
  subst hq
  have hlt : ∀ x ∈ p, x.block < W.heap.size := fun x hx => hW'.lt x (by simp [hx])
  refine ⟨ds, gs, p ++ [], [], p, [], hW', ?_, ?_, ?_, hb.frame _, fun h => by cases h⟩
  · rw [hres, hs]
    exact trodAll_mk1 (shut_bool htb true)
  · rw [hs]
    refine trodAll_below hl hb _ _ _ _ (fun t ht => ?_) hA hlt
    have := List.all_eq_true.1 hr t ht
    simpa using this
  · rw [hs, hv]
    rfl

/-- Rows of a slice that came in, each opened by its element's law. -/
theorem open_rows {α : Type} {W : World} {t e : TypeId} {size : Nat} {cells : α → List Value} {good : α → Prop} {fuel : Nat} {cs : List Value} {x : DataW H × List MemPlace}
    (ht : P.underlying t = some (.slice e)) (hsz : P.cellsOf e = size) (hpos : 0 < size)
    (hel : ∀ (n : Nat) (cs : List Value) (x : DataW H × List MemPlace), cs.length = size → DataW.trod enc P W 0 (fun _ => true) true n e cs = some x → ∃ a, cs = cells a ∧ good a)
    (h : DataW.trod enc P W 0 (fun _ => true) true fuel t cs = some x) :
    ∃ ao cap, ∃ xs : List α, cs = [.slice ao xs.length cap] ∧ xs.length ≤ cap ∧ cap ≤ maxLen ∧ Lies W size ao (xs.map cells) ∧ (∀ a ∈ xs, good a) ∧ (ao = none → xs = [] ∧ cap = 0) ∧
      (∀ ds ps, x = (ds, ps) → (ds = .nil ∧ xs = []) ∨ ∃ el sp, ds = .slice el sp ∧ el.length = xs.length ∧ sp.length = cap - xs.length) := by
  rcases Deep.open_slice ht h with ⟨rfl, rfl⟩ | ⟨a, len, cap, m, n, D, Pl, rfl, _, hl, hm, hmm, rfl, hx⟩
  · exact ⟨none, 0, [], rfl, by simp, by simp, Lies.nil _ _ _, by simp, fun _ => ⟨rfl, rfl⟩, fun ds ps e => .inl (by cases e; exact ⟨rfl, rfl⟩)⟩
  · obtain rfl : m = cap := by simpa using hmm
    have key : ∀ i, i < len → ∃ r : α, good r ∧ (W.cells? 0 (a.add (i * size)) size = some (cells r)) := by
      intro i hi
      obtain ⟨cs', h1, h2⟩ := hx i (by omega)
      rw [hsz] at h1
      obtain ⟨_, hlen, _⟩ := World.cells?_some h1
      obtain ⟨r, rfl, hg⟩ := hel n cs' _ hlen h2
      exact ⟨r, hg, h1⟩
    have lst : ∀ k, k ≤ len → ∃ xs : List α, xs.length = k ∧ (∀ r ∈ xs, good r) ∧ ∀ i r, xs[i]? = some r → W.cells? 0 (a.add (i * size)) size = some (cells r) := by
      intro k
      induction k with
      | zero => exact fun _ => ⟨[], rfl, by simp, by simp⟩
      | succ k ih =>
        intro hk
        obtain ⟨xs, h1, h2, h3⟩ := ih (by omega)
        obtain ⟨r, hg, hr⟩ := key k (by omega)
        refine ⟨xs ++ [r], by simp [h1], ?_, ?_⟩
        · intro y hy
          rcases List.mem_append.1 hy with hy | hy
          · exact h2 y hy
          · simp at hy; subst hy; exact hg
        · intro i y hy
          by_cases hi : i < k
          · rw [List.getElem?_append_left (by omega)] at hy; exact h3 i y hy
          · have hlt := (List.getElem?_eq_some_iff.1 hy).1
            simp [h1] at hlt
            obtain rfl : i = k := by omega
            rw [List.getElem?_append_right (by omega), h1] at hy
            simp at hy; subst hy; exact hr
    obtain ⟨xs, hlen, hg, hc⟩ := lst len (Nat.le_refl _)
    refine ⟨some a, m, xs, by rw [hlen], by omega, hm, ?_, hg, (fun e => by cases e), fun ds ps e => .inr ?_⟩
    · intro i r hi
      rw [List.getElem?_map] at hi
      cases hxi : xs[i]? with
      | none => rw [hxi] at hi; cases hi
      | some y =>
        rw [hxi] at hi
        cases hi
        obtain ⟨_, hl', hcell⟩ := World.cells?_some (hc i y hxi)
        have hlt : i < xs.length := (List.getElem?_eq_some_iff.1 hxi).1
        obtain ⟨_, hl0, hcell0⟩ := World.cells?_some (hc 0 _ (List.getElem?_eq_getElem (by omega)))
        have h00 := hcell0 0 hpos
        have h0 := hcell 0 hpos
        have hspot : a.spot = none := by
          rw [Nat.zero_mul, show (a.add 0).add 0 = a from rfl] at h00
          cases hsp : a.spot with
          | none => rfl
          | some s =>
            exfalso
            unfold World.cell? at h00
            rw [List.getElem?_eq_getElem (by omega)] at h00
            split at h00
            · rw [hsp] at h00; simp at h00
            · cases h00
        obtain ⟨g, off, spot⟩ := a
        simp at hspot
        subst hspot
        refine ⟨g, off, rfl, ?_, hl', fun j u hj => ?_⟩
        · rw [Addr.add_lit, Addr.add_lit] at h0
          have h0' : W.cell? ⟨g, off + i * size + 0, none⟩ = some ((cells y)[0]'(by omega)) := by rw [h0]; simp [hl', hpos]
          exact World.block_lt_of_cell? W _ h0'
        · have hj' : j < size := by rw [← hl']; exact (List.getElem?_eq_some_iff.1 hj).1
          have hcj := hcell j hj'
          rw [Addr.add_lit, Addr.add_lit] at hcj
          rw [hcj, hj]
    · cases e
      exact ⟨_, _, rfl, by simp [hlen], by simp [hlen]⟩
end
end Go.Proofs.YtobjmajkcfhpoaaDoor
