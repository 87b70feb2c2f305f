/-
  Rows of a slice that came in, each opened by its element's law, with what the reach says of each element.
-/
import Derived.Test.YthnhpnmopjbaoaaDoorLaw
namespace Go.Proofs.YthnhpnmopjbaoaaDoor
open Go.RowKit Go.ChangeShapes Go.WideShapes Go.ChangeAt

section
variable {H : Type} {enc : TypeId × Value → H} {P : Program}

/-- Within the reach, by its type. -/
def InReach (P : Program) (t : TypeId) (d : DataW H) : Prop := ∀ n ∈ d.weights P t, n ≤ reachBytes
theorem reach_arg {ts : List TypeId} {ds : List (DataW H)} (h : (DataW.weightsEach P ts ds).all (· ≤ reachBytes) = true) {j : Nat} {t : TypeId} {d : DataW H} (ht : ts[j]? = some t) (hd : ds[j]? = some d) : InReach P t d := by
  intro n hn
  have := List.all_eq_true.1 h n (DataW.weights_mem_each ht hd n hn)
  simpa using this
theorem weightsAll_mem {e : TypeId} : ∀ {ds : List (DataW H)} {d : DataW H}, d ∈ ds → ∀ n ∈ d.weights P e, n ∈ DataW.weightsAll P e ds
  | [], d, h, _, _ => by cases h
  | x :: r, d, h, n, hn => by
    simp only [DataW.weightsAll, List.mem_append]
    rcases List.mem_cons.1 h with h | h
    · subst h; exact .inl hn
    · exact .inr (weightsAll_mem h n hn)
theorem reach_elem {t e : TypeId} {el sp : List (DataW H)} (hu : P.underlying t = some (.slice e)) (h : InReach P t (.slice el sp)) {d : DataW H} (hd : d ∈ el) : InReach P e d := by
  intro n hn
  refine h n ?_
  simp only [DataW.weights, hu, List.mem_cons, List.mem_append]
  exact .inr (.inl (weightsAll_mem hd n hn))
theorem reach_len {t e : TypeId} {el sp : List (DataW H)} (hu : P.underlying t = some (.slice e)) (h : InReach P t (.slice el sp)) : (el.length + sp.length) * P.bytesOf e ≤ reachBytes := by
  refine h _ ?_
  simp only [DataW.weights, hu, List.mem_cons]
  exact .inl trivial
theorem reach_part {t : TypeId} {fs : Array Field} {parts : List (DataW H)} (hu : P.underlying t = some (.struct fs)) (h : InReach P t (.agg parts)) {j : Nat} {e : TypeId} {d : DataW H} (ht : (fs.toList.map (·.type))[j]? = some e) (hd : parts[j]? = some d) : InReach P e d := by
  intro n hn
  refine h n ?_
  simp only [DataW.weights, hu]
  exact DataW.weights_mem_each ht hd n hn
theorem reach_text {t : TypeId} {b : List UInt8} (h : InReach (H := H) P t (.lit (.string b))) : b.length ≤ reachBytes := h _ (by simp [DataW.weights])

theorem open_rows_w {α : Type} {W : World} {t e : TypeId} {size : Nat} {cells : α → List Value} {good : α → Prop} {fuel : Nat} {cs : List Value} {x : DataW H × List MemPlace}
    (ht : P.underlying t = some (.slice e)) (hsz : P.cellsOf e = size) (hpos : 0 < size)
    (hel : ∀ (n : Nat) (cs : List Value) (x : DataW H × List MemPlace), cs.length = size → InReach P e x.1 → DataW.trod enc P W 0 (fun _ => true) true n e cs = some x → ∃ a, cs = cells a ∧ good a)
    (hr : InReach P t x.1) (h : DataW.trod enc P W 0 (fun _ => true) true fuel t cs = some x) :
    ∃ ao cap, ∃ xs : List α, cs = [.slice ao xs.length cap] ∧ xs.length ≤ cap ∧ cap ≤ maxLen ∧ Lies W size ao (xs.map cells) ∧ (∀ a ∈ xs, good a) ∧ (ao = none → xs = [] ∧ cap = 0) ∧ cap * P.bytesOf e ≤ reachBytes := by
  rcases Deep.open_slice ht h with ⟨rfl, rfl⟩ | ⟨a, len, cap, m, n, D, Pl, rfl, _, hl, hm, hmm, rfl, hx⟩
  · exact ⟨none, 0, [], rfl, by simp, by simp, Lies.nil _ _ _, by simp, fun _ => ⟨rfl, rfl⟩, by rw [Nat.zero_mul]; exact Nat.zero_le _⟩
  · obtain rfl : m = cap := by simpa using hmm
    have key : ∀ i, i < len → ∃ r : α, good r ∧ (W.cells? 0 (a.add (i * size)) size = some (cells r)) := by
      intro i hi
      obtain ⟨cs', h1, h2⟩ := hx i (by omega)
      rw [hsz] at h1
      obtain ⟨_, hlen, _⟩ := World.cells?_some h1
      obtain ⟨r, rfl, hg⟩ := hel n cs' _ hlen (reach_elem ht hr (List.mem_map.2 ⟨i, by simpa using hi, rfl⟩)) h2
      exact ⟨r, hg, h1⟩
    have lst : ∀ k, k ≤ len → ∃ xs : List α, xs.length = k ∧ (∀ r ∈ xs, good r) ∧ ∀ i r, xs[i]? = some r → W.cells? 0 (a.add (i * size)) size = some (cells r) := by
      intro k
      induction k with
      | zero => exact fun _ => ⟨[], rfl, by simp, by simp⟩
      | succ k ih =>
        intro hk
        obtain ⟨xs, h1, h2, h3⟩ := ih (by omega)
        obtain ⟨r, hg, hr⟩ := key k (by omega)
        refine ⟨xs ++ [r], by simp [h1], ?_, ?_⟩
        · intro y hy
          rcases List.mem_append.1 hy with hy | hy
          · exact h2 y hy
          · simp at hy; subst hy; exact hg
        · intro i y hy
          by_cases hi : i < k
          · rw [List.getElem?_append_left (by omega)] at hy; exact h3 i y hy
          · have hlt := (List.getElem?_eq_some_iff.1 hy).1
            simp [h1] at hlt
            obtain rfl : i = k := by omega
            rw [List.getElem?_append_right (by omega), h1] at hy
            simp at hy; subst hy; exact hr
    obtain ⟨xs, hlen, hg, hc⟩ := lst len (Nat.le_refl _)
    refine ⟨some a, m, xs, by rw [hlen], by omega, hm, ?_, hg, (fun e => by cases e), ?_⟩
    · intro i r hi
      rw [List.getElem?_map] at hi
      cases hxi : xs[i]? with
      | none => rw [hxi] at hi; cases hi
      | some y =>
        rw [hxi] at hi
        cases hi
        obtain ⟨_, hl', hcell⟩ := World.cells?_some (hc i y hxi)
        have hlt : i < xs.length := (List.getElem?_eq_some_iff.1 hxi).1
        obtain ⟨_, hl0, hcell0⟩ := World.cells?_some (hc 0 _ (List.getElem?_eq_getElem (by omega)))
        have h00 := hcell0 0 hpos
        have h0 := hcell 0 hpos
        have hspot : a.spot = none := by
          rw [Nat.zero_mul, show (a.add 0).add 0 = a from rfl] at h00
          cases hsp : a.spot with
          | none => rfl
          | some s =>
            exfalso
            unfold World.cell? at h00
            rw [List.getElem?_eq_getElem (by omega)] at h00
            split at h00
            · rw [hsp] at h00; simp at h00
            · cases h00
        obtain ⟨g, off, spot⟩ := a
        simp at hspot
        subst hspot
        refine ⟨g, off, rfl, ?_, hl', fun j u hj => ?_⟩
        · rw [Addr.add_lit, Addr.add_lit] at h0
          have h0' : W.cell? ⟨g, off + i * size + 0, none⟩ = some ((cells y)[0]'(by omega)) := by rw [h0]; simp [hl', hpos]
          exact World.block_lt_of_cell? W _ h0'
        · have hj' : j < size := by rw [← hl']; exact (List.getElem?_eq_some_iff.1 hj).1
          have hcj := hcell j hj'
          rw [Addr.add_lit, Addr.add_lit] at hcj
          rw [hcj, hj]
    · have := reach_len ht hr
      simp at this
      rw [show len + (m - len) = m by omega] at this
      exact this
end
end Go.Proofs.YthnhpnmopjbaoaaDoor
