/-
  Maps of a call's own, whatever their keys and elements: what look, put and len give.
-/
import Derived.Test.YtnaefnojmiolbaaGreatDoorBaseZ
import Derived.Maps.OwnSet
import Derived.Maps.RangeWalk
import Derived.DeepKeys4
import Derived.StringKeys
namespace Go.Proofs.YtnaefnojmiolbaaGreatDoor
open Go.RowKit Go.Maps

/-- A map's type, its keys and its elements. -/
structure MSpec (κ α : Type) where
  M : TypeId
  k : TypeId
  e : TypeId
  kv : κ → Value
  kl : κ → Lit
  good : κ → Prop
  keyed : Keyed Tryz.prog k
  und : Tryz.prog.underlying M = some (.map k e)
  keyOf : ∀ x, good x → keyOf Tryz.prog k (kv x) = some (kl x)
  inj : ∀ x y, good x → good y → kl x = kl y → x = y
  ev : α → Value
  ed : α → DataW Unit
  ge : α → Prop
  pe : Value → Option (DataW Unit × List MemPlace)
  pe_ev : ∀ a, ge a → pe (ev a) = some (ed a, [])
  pe_inv : ∀ v a ps, pe v = some (ed a, ps) → v = ev a
  z : α
  gz : ge z
  zero : ∀ w, (zeroValue e).run Tryz.prog w = .ok (ev z) w
section
variable {κ α : Type} (S : MSpec κ α)
/-- Block mb is a map of n entries in which key x has what F tells. -/
def MSpec.Is (w : World) (mb : Nat) (F : κ → Option α) (n : Nat) : Prop :=
  ∃ D : DataW Unit, w.ownsMap Tryz.prog S.k S.pe mb n D ∧ Tidy D ∧ size D = n ∧
    ∀ x : κ, S.good x → (∀ a, F x = some a → has D (S.kl x) = true ∧ ∀ z, D.atKey (S.kl x) z = S.ed a) ∧ (F x = none → has D (S.kl x) = false)
variable {S} {w w' : World} {mb n : Nat} {F G : κ → Option α}
theorem MSpec.Is.lt (h : S.Is w mb F n) : mb < w.heap.size := by
  obtain ⟨D, ho, _⟩ := h
  exact ho.lt
theorem MSpec.Is.congr (h : S.Is w mb F n) (e : ∀ k, S.good k → G k = F k) : S.Is w mb G n := by
  obtain ⟨D, ho, ht, hs, hF⟩ := h
  exact ⟨D, ho, ht, hs, fun k hk => by rw [e k hk]; exact hF k hk⟩
theorem MSpec.Is.kept (h : S.Is w mb F n) (hb : w'.heap[mb]? = w.heap[mb]?) : S.Is w' mb F n := by
  obtain ⟨D, ⟨es, clock, h1, h2⟩, ht⟩ := h
  exact ⟨D, ⟨es, clock, hb.trans h1, h2⟩, ht⟩
theorem MSpec.Is.mod {Z : Nat → Prop} (h : S.Is w mb F n) (hm : Mod Z w w') (hZ : ¬ Z mb) : S.Is w' mb F n := h.kept (hm.block mb h.lt hZ)
theorem MSpec.Is.under (h : S.Is w mb F n) (hb : Below w.heap.size w w') : S.Is w' mb F n := h.kept (hb.block mb h.lt)
theorem MSpec.made (w : World) : S.Is (w.alloc (.map #[] 0)) w.heap.size (fun _ => none) 0 :=
  ⟨.map [], World.ownsMap_made w Tryz.prog S.k _, tidy_empty, rfl, fun k _ => ⟨(fun i h => by cases h), fun _ => rfl⟩⟩
theorem MSpec.Is.look (h : S.Is w mb F n) {x : κ} (hx : S.good x) :
    (Instr.lookup S.M (.map (some mb)) (S.kv x) true).run Tryz.prog w = .ok (.tuple #[S.ev ((F x).getD S.z), .bool (F x).isSome]) w := by
  obtain ⟨D, ho, _, _, hF⟩ := h
  obtain ⟨v, ps, hrun, hv⟩ := ho.look_ok S.keyed S.und (S.zero w) (S.pe_ev S.z S.gz) (S.keyOf x hx)
  cases hf : F x with
  | some i =>
    obtain ⟨h1, h2⟩ := (hF x hx).1 i hf
    rw [h2] at hv
    rw [hrun, h1, S.pe_inv _ _ _ hv]
    rfl
  | none =>
    have h1 := (hF x hx).2 hf
    rw [atKey_of_not_has h1] at hv
    rw [hrun, h1, S.pe_inv _ _ _ hv]
    rfl
theorem MSpec.Is.look1 (h : S.Is w mb F n) {x : κ} (hx : S.good x) :
    (Instr.lookup S.M (.map (some mb)) (S.kv x) false).run Tryz.prog w = .ok (S.ev ((F x).getD S.z)) w := by
  obtain ⟨D, ho, _, _, hF⟩ := h
  obtain ⟨v, ps, hrun, hv⟩ := ho.lookup S.keyed S.und (S.zero w) (S.pe_ev S.z S.gz) (S.keyOf x hx)
  cases hf : F x with
  | some i =>
    obtain ⟨h1, h2⟩ := (hF x hx).1 i hf
    rw [h2] at hv
    rw [hrun, S.pe_inv _ _ _ hv]
    rfl
  | none =>
    have h1 := (hF x hx).2 hf
    rw [atKey_of_not_has h1] at hv
    rw [hrun, S.pe_inv _ _ _ hv]
    rfl
theorem MSpec.Is.put [DecidableEq κ] (h : S.Is w mb F n) (hn : n < maxLen) {x : κ} (hx : S.good x) {a : α} (ha : S.ge a) :
    ∃ w', (Instr.mapUpdate S.M (.map (some mb)) (S.kv x) (S.ev a)).run Tryz.prog w = .ok () w' ∧ S.Is w' mb (fun y => if y = x then some a else F y) (if (F x).isSome then n else n + 1) ∧ w.grownBy w' (some mb) := by
  obtain ⟨D, ho, ht, hs, hF⟩ := h
  obtain ⟨w', hrun, ho', hg⟩ := ho.update S.keyed S.und hn (S.keyOf x hx) (S.pe_ev a ha)
  have hkey : WideAt.IsKeyLit (S.kl x) := S.keyed.one.key ⟨S.kv x, S.keyOf x hx⟩
  have ht' : Tidy (D.put (S.kl x) (S.ed a)) := ht.put hkey _
  have hsz : size (D.put (S.kl x) (S.ed a)) = if (F x).isSome then n else n + 1 := by
    rw [size_put ht, hs]
    cases hf : F x with
    | some i => rw [((hF x hx).1 i hf).1]; rfl
    | none => rw [(hF x hx).2 hf]; rfl
  refine ⟨w', hrun, ⟨_, ?_, ht', hsz, fun y hy => ?_⟩, hg⟩
  · obtain ⟨es, clock, b1, b2, b3, b4⟩ := ho'
    refine ⟨es, clock, b1, b2, ?_, b4⟩
    have : size (D.put (S.kl x) (S.ed a)) = es.size := by rw [b4]; simp [size, length_sorted]
    omega
  · by_cases e : y = x
    · subst e
      simp only [if_true]
      exact ⟨(fun i hi => by cases hi; exact ⟨has_put_same ht.isMap hkey _, fun z => atKey_put_same ht.isMap hkey _ z⟩), (fun hi => by cases hi)⟩
    · have hne : S.kl y ≠ S.kl x := fun h => e (S.inj y x hy hx h)
      simp only [if_neg e]
      refine ⟨fun i hi => ?_, fun hi => ?_⟩
      · obtain ⟨p, q⟩ := (hF y hy).1 i hi
        exact ⟨by rw [has_put_other hne]; exact p, fun z => by rw [atKey_put_other hne]; exact q z⟩
      · rw [has_put_other hne]; exact (hF y hy).2 hi
theorem MSpec.Is.lenIs (h : S.Is w mb F n) (ty : TypeId) : (Builtin.len_ #[S.M] ty #[.map (some mb)]).run Tryz.prog w = .ok (.int .i64 n) w := by
  obtain ⟨D, ho, _, hs, _⟩ := h
  rw [ho.len S.und ty, hs]
end

theorem laidOutZ : laidOutB Tryz.prog = true := by kernel_rfl
theorem row62 : (62 : TypeId) < Tryz.prog.types.size := of_decide_eq_true (by kernel_rfl)
theorem wide62 : (match Tryz.prog.underlying 62 with | some (.array _ _) | some (.struct _) => true | _ => false) = true := by rw [Tryz.underlying62]
set_option maxRecDepth 100000 in
theorem key_law : Go.WideMaps.KeyLaw Tryz.prog 62 := deep_law_laid laidOutZ (m := 2) (by decide) row62 (by kernel_rfl) wide62
theorem keyed62 : Keyed Tryz.prog 62 := Keyed.of_law key_law
theorem cells62 : Tryz.prog.cellsOf 62 = 3 := by kernel_rfl
theorem c4 : Tryz.prog.cellsOf 4 = 1 := by kernel_rfl
theorem c3 : Tryz.prog.cellsOf 3 = 1 := by kernel_rfl
theorem c9 : Tryz.prog.cellsOf 9 = 1 := by kernel_rfl
theorem keyType62 : Tryz.prog.keyType 62 = true := by kernel_rfl
/-- A key as the reader tells it. -/
def kl (k : K) : Lit := .string (keyBytes [.bool k.b, .int .i64 k.n, .string k.t.data.toList])
theorem wf_int {n : Int} (h0 : -9223372036854775808 ≤ n) (h1 : n ≤ 9223372036854775807) : (Lit.int .i64 n).wf = true := by
  have e1 : IntKind.i64.min = -9223372036854775808 := rfl
  have e2 : IntKind.i64.max = 9223372036854775807 := rfl
  simp [Lit.wf, e1, e2]
  omega
theorem pred_of_lt {a n : Nat} (h : a < n) : ∃ m, n = m + 1 := ⟨n - 1, by omega⟩
theorem keyOf_k {k : K} (h : k.Good) : keyOf Tryz.prog 62 k.v = some (kl k) := by
  have hsz : k.t.size ≤ maxLen := Nat.le_trans h.sz (by decide)
  have hf : k.v.formed Tryz.prog 62 = true := by simp [K.v, Value.formed, Tryz.underlying62, cells62]
  obtain ⟨m, hm⟩ : ∃ m, Tryz.prog.types.size = m + 1 := pred_of_lt row62
  unfold keyOf
  rw [Tryz.underlying62]
  simp only [keyType62, hf, Bool.and_self, if_true]
  rw [hm]
  have w := wf_int h.lo h.hi
  simp [Program.keyLits, Tryz.underlying62, cells62, Tryz.underlying4, Tryz.underlying3, Tryz.underlying9, c4, c3, c9, K.v, Value.cells, hsz, w]
  rfl
theorem kl_inj {x y : K} (hx : x.Good) (hy : y.Good) (h : kl x = kl y) : x = y :=
  K.v_inj (key_law.inj (keyOf_k hx) (by rw [h]; exact keyOf_k hy))
theorem zero3 (w : World) : (zeroValue 3).run Tryz.prog w = .ok (.int .i64 0) w := by kernel_rfl
theorem zero4 (w : World) : (zeroValue 4).run Tryz.prog w = .ok (.bool false) w := by kernel_rfl
theorem pe_int_inv {v : Value} {a : Int} {ps : List MemPlace} (h : plainElem (H := Unit) Tryz.prog 3 v = some (.lit (.int .i64 a), ps)) : v = .int .i64 a := by
  obtain ⟨c, rfl, hc, _⟩ := plainElem_int_inv Tryz.underlying3 h
  have := congrArg Prod.fst hc
  simp only [DataW.lit.injEq, Lit.int.injEq, true_and] at this
  rw [this]
/-- A truth as an element. -/
def peBool (v : Value) : Option (DataW Unit × List MemPlace) := match v with
  | .bool b => some (.lit (.bool b), [])
  | _ => none
theorem pe_bool_inv {v : Value} {a : Bool} {ps : List MemPlace} (h : peBool v = some (.lit (.bool a), ps)) : v = .bool a := by
  unfold peBool at h
  split at h
  · simp only [Option.some.injEq, Prod.mk.injEq, DataW.lit.injEq, Lit.bool.injEq] at h
    rw [h.1]
  · cases h
/-- map[api.Key]int. -/
noncomputable def mKI : MSpec K Int where
  M := 158
  k := 62
  e := 3
  kv := K.v
  kl := kl
  good := K.Good
  keyed := keyed62
  und := Tryz.underlying158
  keyOf := fun _ h => keyOf_k h
  inj := fun _ _ hx hy h => kl_inj hx hy h
  ev := fun n => .int .i64 n
  ed := fun n => .lit (.int .i64 n)
  ge := fun n => -9223372036854775808 ≤ n ∧ n ≤ 9223372036854775807
  pe := plainElem (H := Unit) Tryz.prog 3
  pe_ev := fun _ h => plainElem_int Tryz.underlying3 (wf_int h.1 h.2)
  pe_inv := fun _ _ _ h => pe_int_inv h
  z := 0
  gz := by decide
  zero := zero3
/-- map[api.Key]bool. -/
noncomputable def mKB : MSpec K Bool where
  M := 152
  k := 62
  e := 4
  kv := K.v
  kl := kl
  good := K.Good
  keyed := keyed62
  und := Tryz.underlying152
  keyOf := fun _ h => keyOf_k h
  inj := fun _ _ hx hy h => kl_inj hx hy h
  ev := fun b => .bool b
  ed := fun b => .lit (.bool b)
  ge := fun _ => True
  pe := peBool
  pe_ev := fun _ _ => rfl
  pe_inv := fun _ _ _ h => pe_bool_inv h
  z := false
  gz := trivial
  zero := zero4
theorem law9 : Keyed Tryz.prog 9 := string_keyed Tryz.underlying9
theorem keyOf_s {s : ByteArray} (h : s.size ≤ maxLen) : keyOf Tryz.prog 9 (.string s) = some (.string s.data.toList) := Go.WideMaps.keyOf_string_mk Tryz.underlying9 h
/-- map[string]bool. -/
noncomputable def mSB : MSpec ByteArray Bool where
  M := 104
  k := 9
  e := 4
  kv := fun s => .string s
  kl := fun s => .string s.data.toList
  good := fun s => s.size ≤ maxLen
  keyed := law9
  und := Tryz.underlying104
  keyOf := fun _ h => keyOf_s h
  inj := fun s t _ _ h => by
    injection h with h
    rw [← str_data s, ← str_data t, h]
  ev := fun b => .bool b
  ed := fun b => .lit (.bool b)
  ge := fun _ => True
  pe := peBool
  pe_ev := fun _ _ => rfl
  pe_inv := fun _ _ _ h => pe_bool_inv h
  z := false
  gz := trivial
  zero := zero4
end Go.Proofs.YtnaefnojmiolbaaGreatDoor
