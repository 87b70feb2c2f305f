/-
  Slices of bytes that a call owns: appended strings, and back to a string. Of no program.
-/
import Derived.Test.YtobjmajkcfhpoaaDoorBase
import Derived.Deep.AppendSrc
import Derived.Laws.IdiomStrings
import Derived.Lib.ConvBytes
namespace Go.Proofs.YtobjmajkcfhpoaaDoor
open Go.RowKit

abbrev Bs := List UInt8
/-- A text as a string's value. -/
def str (l : Bs) : ByteArray := ⟨l.toArray⟩
theorem str_toList (l : Bs) : (str l).toList = l := ByteArray.toList_mk l
theorem str_size (l : Bs) : (str l).size = l.length := by simp [str, ByteArray.size]
theorem str_data (s : ByteArray) : str s.data.toList = s := by cases s; simp [str]
theorem str_of (s : ByteArray) : str s.toList = s := by rw [ByteArray.toList_eq]; exact str_data s
theorem str_append (a b : Bs) : str a ++ str b = str (a ++ b) := ByteArray.mk_append_mk a b
theorem size_toList (s : ByteArray) : s.toList.length = s.size := by rw [ByteArray.toList_eq, Array.length_toList]; rfl

def bts (l : Bs) : List Value := l.map fun b => Value.int .u8 b.toNat
theorem bts_len (l : Bs) : (bts l).length = l.length := by simp [bts]
theorem bts_append (a b : Bs) : bts (a ++ b) = bts a ++ bts b := by simp [bts]
theorem bts_get (l : Bs) (i : Nat) (h : i < l.length) : (bts l)[i]? = some (.int .u8 l[i].toNat) := by simp [bts, h]
def bRows (l : Bs) : List (List Value) := (bts l).map fun x => [x]
theorem bRows_len (l : Bs) : (bRows l).length = l.length := by simp [bRows, bts]
theorem bRows_append (a b : Bs) : bRows (a ++ b) = bRows a ++ bRows b := by simp [bRows, bts]
theorem bRows_flat (l : Bs) : (bRows l).flatten = bts l := flat_ones _
theorem bRows_one (l : Bs) : ∀ r ∈ bRows l, ∀ u ∈ r, u.oneCell' = true := by
  intro r hr u hu
  obtain ⟨x, hx, rfl⟩ := List.mem_map.1 hr
  obtain ⟨b, _, rfl⟩ := List.mem_map.1 hx
  simp at hu; subst hu; rfl
theorem bRows_size (l : Bs) : ∀ r ∈ bRows l, r.length = 1 := by
  intro r hr
  obtain ⟨x, _, rfl⟩ := List.mem_map.1 hr
  rfl
theorem byteCells_eq (s : ByteArray) : byteCells s = bts s.toList := by unfold byteCells bts; rw [ByteArray.toList_eq]

/-- A slice value that owns the bytes l. -/
def OwnsB (w : World) (e : TypeId) (v : Value) (l : Bs) : Prop := Owns w e 1 v (bRows l)

theorem OwnsB.any {w : World} {e : TypeId} {v : Value} {l : Bs} (h : OwnsB w e v l) :
    ∃ ao cap, v = .slice ao l.length cap ∧ l.length ≤ cap ∧ cap ≤ maxLen ∧ (ao = none → l = [] ∧ cap = 0) ∧ (∀ g off, ao = some ⟨g, off, none⟩ → off = 0 ∧ v.ownBlock = some g ∧ g < w.heap.size) := by
  obtain ⟨ao, cap, rfl, h1, h2, h3, h4, h5⟩ := Owns.any h
  rw [bRows_len] at h1
  refine ⟨ao, cap, by rw [bRows_len], h1, h2, fun e => ?_, fun g off e => ?_⟩
  · obtain ⟨a, b⟩ := h4 e
    refine ⟨?_, b⟩
    have := bRows_len l
    rw [a] at this
    exact List.eq_nil_of_length_eq_zero this.symm
  · obtain ⟨a, b⟩ := h5 g off e
    exact ⟨a, b, Owns.lt h b⟩
theorem OwnsB.cells {w : World} {e : TypeId} {ao : Option Addr} {n cap : Nat} {l : Bs} (h : OwnsB w e (.slice ao n cap) l) (i : Nat) (hi : i < l.length) : ∃ g, ao = some ⟨g, 0, none⟩ ∧ w.cell? ⟨g, i, none⟩ = some (.int .u8 l[i].toNat) := by
  obtain ⟨ao', cap', hv, _, _, hl, _, h5⟩ := Owns.any h
  cases hv
  obtain ⟨g, off, rfl, _, _, hc⟩ := hl i [.int .u8 l[i].toNat] (by simp [bRows, bts, hi])
  obtain ⟨rfl, _⟩ := h5 g off rfl
  have := hc 0 _ rfl
  rw [Nat.mul_one, Nat.zero_add, Nat.add_zero] at this
  exact ⟨g, rfl, this⟩

section
variable {P : Program}

/-- 'string(b)' where b owns its bytes. -/
theorem run_back {w : World} {src dst e : TypeId} {ao : Option Addr} {n cap : Nat} {l : Bs} (h : OwnsB w e (.slice ao n cap) l) (hs : P.underlying src = some (.slice e)) (he : P.underlying e = some (.int .u8)) (hd : P.underlying dst = some .string) :
    (convert src dst (.slice ao n cap)).run P w = .ok (.string (str l)) w := by
  have hn : n = l.length := by
    obtain ⟨ao', cap', hv, _⟩ := h.any
    cases hv; rfl
  subst hn
  cases ao with
  | some a =>
    refine run_convert_bytes_back w src dst e a cap l hs he hd fun j hj => ?_
    obtain ⟨g, e, hc⟩ := h.cells j hj
    cases e
    rw [Addr.add_lit, Nat.zero_add]
    exact hc
  | none =>
    obtain ⟨ao', cap', hv, _, _, hz, _⟩ := h.any
    cases hv
    obtain ⟨rfl, rfl⟩ := hz rfl
    rw [run_convert_bytes_string w src dst e none _ _ hs he hd]
    rfl

/-- append(dst, s...): a string's bytes onto owned bytes. -/
theorem run_append_str (w : World) (t tx ty e : TypeId) (ht : P.underlying t = some (.slice e)) (htx : P.underlying tx = some .string)
    (hinfo : (P.info? e).map (fun i => (i.zero, i.size, i.bytes)) = some (some (.int .u8 0), 1, 1))
    (v : Value) (l : Bs) (hown : OwnsB w e v l) (s : ByteArray) (hbytes : l.length + s.size ≤ 140737488355328) :
    ∃ v' w', (Builtin.append_ #[t, tx] ty #[v, .string s]).run P w = .ok v' w' ∧ OwnsB w' e v' (l ++ s.toList) ∧ w.grownBy w' v.ownBlock ∧
      (v'.ownBlock = v.ownBlock ∨ ∃ k, v'.ownBlock = some k ∧ w.heap.size ≤ k) := by
  obtain ⟨i, hi, hz, hs, hb⟩ := info_parts hinfo
  have hbl : (byteCells s).length = s.size := byteCells_length s
  have hs63 : l.length + s.size ≤ 9223372036854775807 := by omega
  have hrows : ∀ w' v' n, w'.ownsRow 0 e 1 v' n (bts l ++ byteCells s) → n = l.length + s.size → OwnsB w' e v' (l ++ s.toList) := by
    intro w' v' n h hn
    subst hn
    have e1 : (bRows (l ++ s.toList)).length = l.length + s.size := by rw [bRows_len, List.length_append, size_toList]
    exact ⟨by rw [e1, bRows_flat, bts_append, ← byteCells_eq]; exact h, bRows_size _, bRows_one _⟩
  have grown : ∀ (ao : Option Addr) (cap : Nat), (Builtin.firstCells i.size l.length (.slice ao l.length cap)).run P w.drew = .ok (bts l).toArray w.drew → cap < l.length + s.size → v = .slice ao l.length cap →
      ∃ v' w', (Builtin.append_ #[t, tx] ty #[v, .string s]).run P w = .ok v' w' ∧ OwnsB w' e v' (l ++ s.toList) ∧ w.grownBy w' v.ownBlock ∧ (v'.ownBlock = v.ownBlock ∨ ∃ k, v'.ownBlock = some k ∧ w.heap.size ≤ k) := by
    intro ao cap hold hg hv
    subst hv
    have hsrc : Src P i.size tx (.string s) s.size (byteCells s) w := by rw [hs]; exact Src.ofString w htx s
    have hr := run_append_grow_src (P := P) w t tx ty e i (.int .u8 0) ht hi hz ao l.length cap (bts l) hold (.string s) s.size (byteCells s) hsrc hg (by omega) (growslice_fits hg (by rw [hb]; omega))
    refine ⟨_, _, hr, hrows _ _ _ ⟨by simp [bts_len, hbl], .inr ⟨w.heap.size, _, _, rfl, Nat.zero_le _, heap_alloc_new w.drew _, grownCap_ge w _ _ _, grownCap_le_maxLen w _ _ _ (by unfold maxLen; omega), ?_, ?_⟩⟩ rfl, ⟨rfl, rfl, rfl, by simp, fun k hk _ => Below.heap_alloc w.drew _ k hk⟩, .inr ⟨_, rfl, Nat.le_refl _⟩⟩
    · have := grownCap_ge w (l.length + s.size) cap e
      simp [size_zeroCells, bts_len, hbl, Value.cells]; omega
    · rw [Array.toList_append, List.take_append_of_le_length (by simp [bts_len, hbl])]
      rw [List.take_of_length_le (by simp [bts_len, hbl])]
  have hrow := hown.row
  rw [bRows_len, bRows_flat] at hrow
  rcases hrow.2 with ⟨rfl, hn⟩ | ⟨g, cap, cur, rfl, hb0, hgg, hnc, hcm, hcs, htake⟩
  · have hl : l = [] := List.eq_nil_of_length_eq_zero hn
    subst hl
    by_cases hz0 : s.size = 0
    · refine ⟨.slice none 0 0, w, ?_, ?_, World.grownBy.refl _ _, .inl rfl⟩
      · have h0 : (byteCells s) = [] := List.eq_nil_of_length_eq_zero (by rw [hbl, hz0])
        have hf := firstCells_string (P := P) s w
        simp [Builtin.append_, run_underlying ht, run_underlying htx, sizeOf, typeInfo, hi, Builtin.lenOf, hz0, hs]
        rw [show (Builtin.firstCells 1 0 (.string s)).run P w = .ok #[] w by rw [← hz0, hf, h0]]
        simp
      · have : s.toList = [] := List.eq_nil_of_length_eq_zero (by rw [size_toList, hz0])
        rw [this]; exact hown
    · exact grown none 0 (run_firstCells_none _ _ _ _ _) (by simp; omega) rfl
  · by_cases hroom : l.length + s.size ≤ cap
    · have hst := run_storeCells_at P g l.length e (byteCells s) 0 cur w hgg (by rw [hbl, hcs]; omega) (fun u hu => by obtain ⟨_, _, rfl⟩ := List.mem_map.1 hu; rfl)
      refine ⟨.slice (some ⟨g, 0, none⟩) (l.length + s.size) cap, w.setRow g (cur.toList.take (l.length + 0) ++ byteCells s ++ cur.toList.drop (l.length + 0 + (byteCells s).length)).toArray, ?_, ?_, ⟨rfl, rfl, rfl, by simp, fun k _ hk => setRow_other w g k _ (fun e => hk (by simp [Value.ownBlock, e]))⟩, .inl rfl⟩
      · have hf := firstCells_string (P := P) s w
        simp [Builtin.append_, run_underlying ht, run_underlying htx, sizeOf, typeInfo, hi, Builtin.lenOf, hroom, hs, hf, Addr.add_lit, hst]
      · refine hrows _ _ _ ⟨by simp [bts_len, hbl], .inr ⟨g, cap, _, rfl, Nat.zero_le _, setRow_heap w g cur _ e _ hgg, hroom, hcm, ?_, ?_⟩⟩ rfl
        · simp [hbl]; omega
        · simp only [Nat.mul_one] at htake ⊢
          rw [Nat.add_zero, htake, List.toList_toArray, List.take_append_of_le_length (by simp [bts_len, hbl]), List.take_of_length_le (by simp [bts_len, hbl])]
    · refine grown (some ⟨g, 0, none⟩) cap (run_firstCells_some (P := P) w.drew i.size l.length ⟨g, 0, none⟩ l.length cap (bts l) (by rw [hs, bts_len, Nat.mul_one]) ?_) (by omega) rfl
      intro j u hj
      have := hrow.cells (g := g) rfl j u hj
      simpa using this

theorem wp_append_str {w : World} {o : Oper} {a : Act} {K : Act → World → Prop} {Q : Exit → Act → World → Prop} (sl x : Operand) (t tx : TypeId)
    (ho : o.op = .call { callee := .builtin .append, args := #[sl, x], argTypes := #[t, tx] }) (e : TypeId) (ht : P.underlying t = some (.slice e)) (htx : P.underlying tx = some .string)
    (hinfo : (P.info? e).map (fun i => (i.zero, i.size, i.bytes)) = some (some (.int .u8 0), 1, 1))
    (v : Value) (l : Bs) (hsl : a.eval sl = v) (hown : OwnsB w e v l) (s : ByteArray) (hx : a.eval x = .string s) (hbytes : l.length + s.size ≤ 140737488355328)
    (h : ∀ v' w', OwnsB w' e v' (l ++ s.toList) → w.grownBy w' v.ownBlock → (v'.ownBlock = v.ownBlock ∨ ∃ k, v'.ownBlock = some k ∧ w.heap.size ≤ k) → K (a.put o.dst v') w') : o.wp P a w K Q := by
  obtain ⟨v', w', hr, h2, h3, h4⟩ := run_append_str (P := P) w t tx o.type e ht htx hinfo v l hown s hbytes
  unfold Oper.wp execOp
  simp only [ho, resolve, invoke, builtin, Sem.run_bind, Sem.run_pure, Result.andThen_ok, List.map_toArray, List.map_cons, List.map_nil, hsl, hx, hr]
  exact h v' w' h2 h3 h4

theorem wpList_append_str {w : World} {ops : Array Oper} {rest : List Oper} {o : Oper} {a : Act} {Q : Exit → Act → World → Prop} (hgd : o.guard = none) (sl x : Operand) (t tx : TypeId)
    (ho : o.op = .call { callee := .builtin .append, args := #[sl, x], argTypes := #[t, tx] }) (e : TypeId) (ht : P.underlying t = some (.slice e)) (htx : P.underlying tx = some .string)
    (hinfo : (P.info? e).map (fun i => (i.zero, i.size, i.bytes)) = some (some (.int .u8 0), 1, 1))
    (v : Value) (l : Bs) (hsl : a.eval sl = v) (hown : OwnsB w e v l) (s : ByteArray) (hx : a.eval x = .string s) (hbytes : l.length + s.size ≤ 140737488355328)
    (h : ∀ v' w', OwnsB w' e v' (l ++ s.toList) → w.grownBy w' v.ownBlock → (v'.ownBlock = v.ownBlock ∨ ∃ k, v'.ownBlock = some k ∧ w.heap.size ≤ k) → wpList P ops Q rest (a.put o.dst v') w') : wpList P ops Q (o :: rest) a w :=
  wpList_plain hgd fun _ hK => wp_append_str sl x t tx ho e ht htx hinfo v l hsl hown s hx hbytes fun v' w' h2 h3 h4 => hK _ _ (h v' w' h2 h3 h4)
end
end Go.Proofs.YtobjmajkcfhpoaaDoor
