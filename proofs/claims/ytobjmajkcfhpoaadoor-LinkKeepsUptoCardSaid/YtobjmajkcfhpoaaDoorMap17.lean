/-
  Maps of a call's own, whatever their keys and elements: what look, put and len give.
-/
import Derived.Test.YtobjmajkcfhpoaaDoorRows17
import Derived.Maps.OwnSet
import Derived.Maps.RangeWalk
import Derived.DeepKeys4
import Derived.StringKeys
namespace Go.Proofs.YtobjmajkcfhpoaaDoor
open Go.RowKit Go.Maps

instance decBA : DecidableEq ByteArray := fun a b => decidable_of_iff (a.toList = b.toList) ⟨ba_ext', fun h => by rw [h]⟩
/-- A map's type, its keys and its elements. -/
structure MSpec (κ α : Type) where
  M : TypeId
  k : TypeId
  e : TypeId
  kv : κ → Value
  kl : κ → Lit
  good : κ → Prop
  keyed : Keyed Tryd.prog k
  und : Tryd.prog.underlying M = some (.map k e)
  keyOf : ∀ x, good x → keyOf Tryd.prog k (kv x) = some (kl x)
  inj : ∀ x y, good x → good y → kl x = kl y → x = y
  ev : α → Value
  ed : α → DataW Unit
  ge : α → Prop
  pe : Value → Option (DataW Unit × List MemPlace)
  pe_ev : ∀ a, ge a → pe (ev a) = some (ed a, [])
  pe_inv : ∀ v a ps, pe v = some (ed a, ps) → v = ev a
  z : α
  gz : ge z
  zero : ∀ w, (zeroValue e).run Tryd.prog w = .ok (ev z) w
section
variable {κ α : Type} (S : MSpec κ α)
/-- Block mb is a map of n entries in which key x has what F tells. -/
def MSpec.Is (w : World) (mb : Nat) (F : κ → Option α) (n : Nat) : Prop :=
  ∃ D : DataW Unit, w.ownsMap Tryd.prog S.k S.pe mb n D ∧ Tidy D ∧ size D = n ∧
    ∀ x : κ, S.good x → (∀ a, F x = some a → has D (S.kl x) = true ∧ ∀ z, D.atKey (S.kl x) z = S.ed a) ∧ (F x = none → has D (S.kl x) = false)
variable {S} {w w' : World} {mb n : Nat} {F G : κ → Option α}
theorem MSpec.Is.lt (h : S.Is w mb F n) : mb < w.heap.size := by
  obtain ⟨D, ho, _⟩ := h
  exact ho.lt
theorem MSpec.Is.congr (h : S.Is w mb F n) (e : ∀ k, S.good k → G k = F k) : S.Is w mb G n := by
  obtain ⟨D, ho, ht, hs, hF⟩ := h
  exact ⟨D, ho, ht, hs, fun k hk => by rw [e k hk]; exact hF k hk⟩
theorem MSpec.Is.kept (h : S.Is w mb F n) (hb : w'.heap[mb]? = w.heap[mb]?) : S.Is w' mb F n := by
  obtain ⟨D, ⟨es, clock, h1, h2⟩, ht⟩ := h
  exact ⟨D, ⟨es, clock, hb.trans h1, h2⟩, ht⟩
theorem MSpec.Is.mod {Z : Nat → Prop} (h : S.Is w mb F n) (hm : Mod Z w w') (hZ : ¬ Z mb) : S.Is w' mb F n := h.kept (hm.block mb h.lt hZ)
theorem MSpec.Is.under (h : S.Is w mb F n) (hb : Below w.heap.size w w') : S.Is w' mb F n := h.kept (hb.block mb h.lt)
theorem MSpec.made (w : World) : S.Is (w.alloc (.map #[] 0)) w.heap.size (fun _ => none) 0 :=
  ⟨.map [], World.ownsMap_made w Tryd.prog S.k _, tidy_empty, rfl, fun k _ => ⟨(fun i h => by cases h), fun _ => rfl⟩⟩
theorem MSpec.Is.look (h : S.Is w mb F n) {x : κ} (hx : S.good x) :
    (Instr.lookup S.M (.map (some mb)) (S.kv x) true).run Tryd.prog w = .ok (.tuple #[S.ev ((F x).getD S.z), .bool (F x).isSome]) w := by
  obtain ⟨D, ho, _, _, hF⟩ := h
  obtain ⟨v, ps, hrun, hv⟩ := ho.look_ok S.keyed S.und (S.zero w) (S.pe_ev S.z S.gz) (S.keyOf x hx)
  cases hf : F x with
  | some i =>
    obtain ⟨h1, h2⟩ := (hF x hx).1 i hf
    rw [h2] at hv
    rw [hrun, h1, S.pe_inv _ _ _ hv]
    rfl
  | none =>
    have h1 := (hF x hx).2 hf
    rw [atKey_of_not_has h1] at hv
    rw [hrun, h1, S.pe_inv _ _ _ hv]
    rfl
theorem MSpec.Is.look1 (h : S.Is w mb F n) {x : κ} (hx : S.good x) :
    (Instr.lookup S.M (.map (some mb)) (S.kv x) false).run Tryd.prog w = .ok (S.ev ((F x).getD S.z)) w := by
  obtain ⟨D, ho, _, _, hF⟩ := h
  obtain ⟨v, ps, hrun, hv⟩ := ho.lookup S.keyed S.und (S.zero w) (S.pe_ev S.z S.gz) (S.keyOf x hx)
  cases hf : F x with
  | some i =>
    obtain ⟨h1, h2⟩ := (hF x hx).1 i hf
    rw [h2] at hv
    rw [hrun, S.pe_inv _ _ _ hv]
    rfl
  | none =>
    have h1 := (hF x hx).2 hf
    rw [atKey_of_not_has h1] at hv
    rw [hrun, S.pe_inv _ _ _ hv]
    rfl
theorem MSpec.Is.put [DecidableEq κ] (h : S.Is w mb F n) (hn : n < maxLen) {x : κ} (hx : S.good x) {a : α} (ha : S.ge a) :
    ∃ w', (Instr.mapUpdate S.M (.map (some mb)) (S.kv x) (S.ev a)).run Tryd.prog w = .ok () w' ∧ S.Is w' mb (fun y => if y = x then some a else F y) (if (F x).isSome then n else n + 1) ∧ w.grownBy w' (some mb) := by
  obtain ⟨D, ho, ht, hs, hF⟩ := h
  obtain ⟨w', hrun, ho', hg⟩ := ho.update S.keyed S.und hn (S.keyOf x hx) (S.pe_ev a ha)
  have hkey : WideAt.IsKeyLit (S.kl x) := S.keyed.one.key ⟨S.kv x, S.keyOf x hx⟩
  have ht' : Tidy (D.put (S.kl x) (S.ed a)) := ht.put hkey _
  have hsz : size (D.put (S.kl x) (S.ed a)) = if (F x).isSome then n else n + 1 := by
    rw [size_put ht, hs]
    cases hf : F x with
    | some i => rw [((hF x hx).1 i hf).1]; rfl
    | none => rw [(hF x hx).2 hf]; rfl
  refine ⟨w', hrun, ⟨_, ?_, ht', hsz, fun y hy => ?_⟩, hg⟩
  · obtain ⟨es, clock, b1, b2, b3, b4⟩ := ho'
    refine ⟨es, clock, b1, b2, ?_, b4⟩
    have : size (D.put (S.kl x) (S.ed a)) = es.size := by rw [b4]; simp [size, length_sorted]
    omega
  · by_cases e : y = x
    · subst e
      simp only [if_true]
      exact ⟨(fun i hi => by cases hi; exact ⟨has_put_same ht.isMap hkey _, fun z => atKey_put_same ht.isMap hkey _ z⟩), (fun hi => by cases hi)⟩
    · have hne : S.kl y ≠ S.kl x := fun h => e (S.inj y x hy hx h)
      simp only [if_neg e]
      refine ⟨fun i hi => ?_, fun hi => ?_⟩
      · obtain ⟨p, q⟩ := (hF y hy).1 i hi
        exact ⟨by rw [has_put_other hne]; exact p, fun z => by rw [atKey_put_other hne]; exact q z⟩
      · rw [has_put_other hne]; exact (hF y hy).2 hi
theorem MSpec.Is.lenIs (h : S.Is w mb F n) (ty : TypeId) : (Builtin.len_ #[S.M] ty #[.map (some mb)]).run Tryd.prog w = .ok (.int .i64 n) w := by
  obtain ⟨D, ho, _, hs, _⟩ := h
  rw [ho.len S.und ty, hs]
end

theorem zero4 (w : World) : (zeroValue 4).run Tryd.prog w = .ok (.bool false) w := by kernel_rfl
/-- A truth as an element. -/
def peBool (v : Value) : Option (DataW Unit × List MemPlace) := match v with
  | .bool b => some (.lit (.bool b), [])
  | _ => none
theorem pe_bool_inv {v : Value} {a : Bool} {ps : List MemPlace} (h : peBool v = some (.lit (.bool a), ps)) : v = .bool a := by
  unfold peBool at h
  split at h
  · simp only [Option.some.injEq, Prod.mk.injEq, DataW.lit.injEq, Lit.bool.injEq] at h
    rw [h.1]
  · cases h
theorem law9 : Keyed Tryd.prog 9 := string_keyed Tryd.underlying9
theorem keyOf_s {s : ByteArray} (h : s.size ≤ maxLen) : keyOf Tryd.prog 9 (.string s) = some (.string s.data.toList) := Go.WideMaps.keyOf_string_mk Tryd.underlying9 h
/-- map[string]bool. -/
noncomputable def mSB : MSpec ByteArray Bool where
  M := 49
  k := 9
  e := 4
  kv := fun s => .string s
  kl := fun s => .string s.data.toList
  good := fun s => s.size ≤ maxLen
  keyed := law9
  und := Tryd.underlying49
  keyOf := fun _ h => keyOf_s h
  inj := fun s t _ _ h => by
    injection h with h
    rw [← str_data s, ← str_data t, h]
  ev := fun b => .bool b
  ed := fun b => .lit (.bool b)
  ge := fun _ => True
  pe := peBool
  pe_ev := fun _ _ => rfl
  pe_inv := fun _ _ _ h => pe_bool_inv h
  z := false
  gz := trivial
  zero := zero4
end Go.Proofs.YtobjmajkcfhpoaaDoor
