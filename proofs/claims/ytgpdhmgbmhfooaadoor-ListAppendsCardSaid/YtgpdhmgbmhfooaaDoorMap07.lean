/-
  A list's map in memory: which place each key has.
-/
import Derived.Test.YtgpdhmgbmhfooaaDoorPlain07
import Derived.Test.YtgpdhmgbmhfooaaDoorLaw
import Derived.Maps.OwnSet
import Derived.Maps.RangeWalk
import Derived.DeepKeys4
namespace Go.Proofs.YtgpdhmgbmhfooaaDoor
open Go.RowKit Go.Maps

theorem laidOut07 : laidOutB Tryd.prog = true := by kernel_rfl
theorem row23 : (23 : TypeId) < Tryd.prog.types.size := of_decide_eq_true (by kernel_rfl)
theorem wide23 : (match Tryd.prog.underlying 23 with | some (.array _ _) | some (.struct _) => true | _ => false) = true := by rw [Tryd.underlying23]
set_option maxRecDepth 100000 in
theorem key_law : Go.WideMaps.KeyLaw Tryd.prog 23 := deep_law_laid laidOut07 (m := 2) (by decide) row23 (by kernel_rfl) wide23
theorem keyed : Keyed Tryd.prog 23 := Keyed.of_law key_law
theorem cells23 : Tryd.prog.cellsOf 23 = 3 := by kernel_rfl
theorem c4 : Tryd.prog.cellsOf 4 = 1 := by kernel_rfl
theorem c3 : Tryd.prog.cellsOf 3 = 1 := by kernel_rfl
theorem c9 : Tryd.prog.cellsOf 9 = 1 := by kernel_rfl
theorem keyType23 : Tryd.prog.keyType 23 = true := by kernel_rfl
/-- A key as the reader tells it. -/
def kl (k : K) : Lit := .string (keyBytes [.bool k.b, .int .i64 k.n, .string k.t.data.toList])
theorem wf_int {n : Int} (h0 : -9223372036854775808 ≤ n) (h1 : n ≤ 9223372036854775807) : (Lit.int .i64 n).wf = true := by
  have e1 : IntKind.i64.min = -9223372036854775808 := rfl
  have e2 : IntKind.i64.max = 9223372036854775807 := rfl
  simp [Lit.wf, e1, e2]
  omega
theorem pred_of_lt {a n : Nat} (h : a < n) : ∃ m, n = m + 1 := ⟨n - 1, by omega⟩
theorem keyOf_k {k : K} (h : k.Good) : keyOf Tryd.prog 23 k.v = some (kl k) := by
  have hsz : k.t.size ≤ maxLen := Nat.le_trans h.sz (by decide)
  have hf : k.v.formed Tryd.prog 23 = true := by simp [K.v, Value.formed, Tryd.underlying23, cells23]
  obtain ⟨m, hm⟩ : ∃ m, Tryd.prog.types.size = m + 1 := pred_of_lt row23
  unfold keyOf
  rw [Tryd.underlying23]
  simp only [keyType23, hf, Bool.and_self, if_true]
  rw [hm]
  have w := wf_int h.lo h.hi
  simp [Program.keyLits, Tryd.underlying23, cells23, Tryd.underlying4, Tryd.underlying3, Tryd.underlying9, c4, c3, c9, K.v, Value.cells, hsz, w]
  rfl
theorem kl_key {k : K} (h : k.Good) : WideAt.IsKeyLit (kl k) := keyed.one.key ⟨k.v, keyOf_k h⟩
theorem kl_inj {x y : K} (hx : x.Good) (hy : y.Good) (h : kl x = kl y) : x = y :=
  K.v_inj (key_law.inj (keyOf_k hx) (by rw [h]; exact keyOf_k hy))
theorem zero3 (w : World) : (zeroValue 3).run Tryd.prog w = .ok (.int .i64 0) w := by kernel_rfl

/-- Block mb is a map of n entries in which key k has what F tells. -/
def MapIs (w : World) (mb : Nat) (F : K → Option Int) (n : Nat) : Prop :=
  ∃ D : DataW Unit, w.ownsMap Tryd.prog 23 (plainElem Tryd.prog 3) mb n D ∧ Tidy D ∧ size D = n ∧
    ∀ k : K, k.Good → (∀ i, F k = some i → has D (kl k) = true ∧ ∀ z, D.atKey (kl k) z = .lit (.int .i64 i)) ∧ (F k = none → has D (kl k) = false)

theorem MapIs.lt {w : World} {mb : Nat} {F : K → Option Int} {n : Nat} (h : MapIs w mb F n) : mb < w.heap.size := by
  obtain ⟨D, ho, _⟩ := h
  exact ho.lt
theorem MapIs.congr {w : World} {mb : Nat} {F G : K → Option Int} {n : Nat} (h : MapIs w mb F n) (e : ∀ k, k.Good → G k = F k) : MapIs w mb G n := by
  obtain ⟨D, ho, ht, hs, hF⟩ := h
  exact ⟨D, ho, ht, hs, fun k hk => by rw [e k hk]; exact hF k hk⟩
theorem MapIs.kept {w w' : World} {mb : Nat} {F : K → Option Int} {n : Nat} (h : MapIs w mb F n) (hb : w'.heap[mb]? = w.heap[mb]?) : MapIs w' mb F n := by
  obtain ⟨D, ⟨es, clock, h1, h2⟩, ht⟩ := h
  exact ⟨D, ⟨es, clock, hb.trans h1, h2⟩, ht⟩
theorem MapIs.mod {Z : Nat → Prop} {w w' : World} {mb : Nat} {F : K → Option Int} {n : Nat} (h : MapIs w mb F n) (hm : Mod Z w w') (hZ : ¬ Z mb) : MapIs w' mb F n :=
  h.kept (hm.block mb h.lt hZ)
theorem mapIs_made (w : World) : MapIs (w.alloc (.map #[] 0)) w.heap.size (fun _ => none) 0 :=
  ⟨.map [], World.ownsMap_made w Tryd.prog 23 _, tidy_empty, rfl, fun k _ => ⟨(fun i h => by cases h), fun _ => rfl⟩⟩

/-- What the operation tells. -/
theorem MapIs.look {w : World} {mb : Nat} {F : K → Option Int} {n : Nat} (h : MapIs w mb F n) {k : K} (hk : k.Good) :
    (Instr.lookup 59 (.map (some mb)) k.v true).run Tryd.prog w = .ok (.tuple #[.int .i64 ((F k).getD 0), .bool (F k).isSome]) w := by
  obtain ⟨D, ho, _, _, hF⟩ := h
  have w0 : (Lit.int .i64 0).wf = true := by decide
  obtain ⟨v, ps, hrun, hv⟩ := ho.look_ok keyed Tryd.underlying59 (zero3 w) (plainElem_int Tryd.underlying3 w0) (keyOf_k hk)
  obtain ⟨c, rfl, hc, _⟩ := plainElem_int_inv Tryd.underlying3 hv
  have hc' := congrArg Prod.fst hc
  simp only at hc'
  cases hf : F k with
  | some i =>
    obtain ⟨h1, h2⟩ := (hF k hk).1 i hf
    rw [h2] at hc'
    cases hc'
    rw [hrun, h1]
    rfl
  | none =>
    have h1 := (hF k hk).2 hf
    rw [atKey_of_not_has h1] at hc'
    cases hc'
    rw [hrun, h1]
    rfl
/-- What a store leaves. -/
theorem MapIs.put {w : World} {mb : Nat} {F : K → Option Int} {n : Nat} (h : MapIs w mb F n) (hn : n < maxLen) {k : K} (hk : k.Good) {v : Int} (h0 : -9223372036854775808 ≤ v) (h1 : v ≤ 9223372036854775807) :
    ∃ w', (Instr.mapUpdate 59 (.map (some mb)) k.v (.int .i64 v)).run Tryd.prog w = .ok () w' ∧ MapIs w' mb (fun x => if x = k then some v else F x) (if (F k).isSome then n else n + 1) ∧ w.grownBy w' (some mb) := by
  obtain ⟨D, ho, ht, hs, hF⟩ := h
  obtain ⟨w', hrun, ho', hg⟩ := ho.update keyed Tryd.underlying59 hn (keyOf_k hk) (plainElem_int Tryd.underlying3 (wf_int h0 h1))
  have ht' : Tidy (D.put (kl k) (.lit (.int .i64 v))) := ht.put (kl_key hk) _
  have hsz : size (D.put (kl k) (.lit (.int .i64 v))) = if (F k).isSome then n else n + 1 := by
    rw [size_put ht, hs]
    cases hf : F k with
    | some i => rw [((hF k hk).1 i hf).1]; rfl
    | none => rw [(hF k hk).2 hf]; rfl
  refine ⟨w', hrun, ⟨_, ?_, ht', hsz, fun x hx => ?_⟩, hg⟩
  · obtain ⟨es, clock, b1, b2, b3, b4⟩ := ho'
    refine ⟨es, clock, b1, b2, ?_, b4⟩
    have : size (D.put (kl k) (.lit (.int .i64 v))) = es.size := by rw [b4]; simp [size, length_sorted]
    omega
  · by_cases e : x = k
    · subst e
      simp only [if_true]
      exact ⟨(fun i hi => by cases hi; exact ⟨has_put_same ht.isMap (kl_key hk) _, fun z => atKey_put_same ht.isMap (kl_key hk) _ z⟩), (fun hi => by cases hi)⟩
    · have hne : kl x ≠ kl k := fun h => e (kl_inj hx hk h)
      simp only [if_neg e]
      refine ⟨fun i hi => ?_, fun hi => ?_⟩
      · obtain ⟨a, b⟩ := (hF x hx).1 i hi
        exact ⟨by rw [has_put_other hne]; exact a, fun z => by rw [atKey_put_other hne]; exact b z⟩
      · rw [has_put_other hne]; exact (hF x hx).2 hi
/-- What a key that is struck leaves. -/
theorem MapIs.del {w : World} {mb : Nat} {F : K → Option Int} {n : Nat} (h : MapIs w mb F n) {k : K} (hk : k.Good) (hin : (F k).isSome = true) (ty : TypeId) :
    ∃ w', (Builtin.delete_ #[59, 23] ty #[.map (some mb), k.v]).run Tryd.prog w = .ok (.tuple #[]) w' ∧ MapIs w' mb (fun x => if x = k then none else F x) (n - 1) ∧ w.grownBy w' (some mb) := by
  obtain ⟨D, ho, ht, hs, hF⟩ := h
  obtain ⟨w', hrun, ho', hg⟩ := ho.drop keyed Tryd.underlying59 (keyOf_k hk) ty
  obtain ⟨i, hi⟩ := Option.isSome_iff_exists.1 hin
  have hsz : size (D.del (kl k)) = n - 1 := by
    have := size_del ht (k := kl k)
    rw [((hF k hk).1 i hi).1, hs] at this
    simp at this
    omega
  refine ⟨w', hrun, ⟨_, ?_, ht.del _, hsz, fun x hx => ?_⟩, hg.grown⟩
  · obtain ⟨es, clock, b1, b2, b3, b4⟩ := ho'
    refine ⟨es, clock, b1, b2, ?_, b4⟩
    have : size (D.del (kl k)) = es.size := by rw [b4]; simp [size, length_sorted]
    omega
  · by_cases e : x = k
    · subst e
      simp only [if_true]
      exact ⟨(fun i hi => by cases hi), fun _ => has_del_same⟩
    · have hne : kl x ≠ kl k := fun h => e (kl_inj hx hk h)
      simp only [if_neg e]
      refine ⟨fun i hi => ?_, fun hi => ?_⟩
      · obtain ⟨a, b⟩ := (hF x hx).1 i hi
        exact ⟨by rw [has_del_other hne]; exact a, fun z => by rw [atKey_del_other hne]; exact b z⟩
      · rw [has_del_other hne]; exact (hF x hx).2 hi
theorem MapIs.lenIs {w : World} {mb : Nat} {F : K → Option Int} {n : Nat} (h : MapIs w mb F n) (ty : TypeId) : (Builtin.len_ #[59] ty #[.map (some mb)]).run Tryd.prog w = .ok (.int .i64 n) w := by
  obtain ⟨D, ho, _, hs, _⟩ := h
  rw [ho.len Tryd.underlying59 ty, hs]
end Go.Proofs.YtgpdhmgbmhfooaaDoor
