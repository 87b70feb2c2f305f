/-
  A disk's maps in memory: which text each path has; no faults.
-/
import Derived.Test.YthnhpnmopjbaoaaDoorBase21
import Derived.Maps.OwnSet
import Derived.StringKeys
namespace Go.Proofs.YthnhpnmopjbaoaaDoor
open Go.RowKit Go.Maps

theorem law9 : Keyed Tryd.prog 9 := string_keyed Tryd.underlying9
theorem keyOf_s {s : ByteArray} (h : s.size ≤ maxLen) : keyOf Tryd.prog 9 (.string s) = some (.string s.data.toList) := Go.WideMaps.keyOf_string_mk Tryd.underlying9 h
abbrev kl (s : ByteArray) : Lit := .string s.data.toList
theorem kl_inj {s t : ByteArray} (h : kl s = kl t) : s = t := by
  injection h with h
  rw [← str_data s, ← str_data t, h]
/-- A file: a text and its stamp. -/
structure Fl where
  t : ByteArray
  n : Int
def Fl.v (f : Fl) : Value := .agg #[.string f.t, .int .i64 f.n]
def Fl.d (f : Fl) : DataW Unit := .agg [.lit (.string f.t.data.toList), .lit (.int .i64 f.n)]
def fileElem (v : Value) : Option (DataW Unit × List MemPlace) := match v with
  | .agg ⟨[.string t, .int .i64 n]⟩ => some (.agg [.lit (.string t.data.toList), .lit (.int .i64 n)], [])
  | _ => none
theorem fileElem_v (f : Fl) : fileElem f.v = some (f.d, []) := rfl
theorem fileElem_inv {v : Value} {f : Fl} {ps : List MemPlace} (h : fileElem v = some (f.d, ps)) : v = f.v := by
  unfold fileElem at h
  split at h
  · rename_i t n
    simp only [Option.some.injEq, Prod.mk.injEq, Fl.d, DataW.agg.injEq, List.cons.injEq, DataW.lit.injEq, Lit.string.injEq, Lit.int.injEq, true_and, and_true] at h
    obtain ⟨⟨h1, h2⟩, _⟩ := h
    have : t = f.t := by rw [← str_data t, ← str_data f.t, h1]
    rw [this, h2]
    rfl
  · cases h
def f0 : Fl := ⟨⟨#[]⟩, 0⟩
theorem zero97 (w : World) : (zeroValue 97).run Tryd.prog w = .ok f0.v w := by kernel_rfl
theorem zero3 (w : World) : (zeroValue 3).run Tryd.prog w = .ok (.int .i64 0) w := by kernel_rfl
/-- Block fb is a map of n files in which path s has what F tells. -/
def FilesIs (w : World) (fb : Nat) (F : ByteArray → Option Fl) (n : Nat) : Prop :=
  ∃ D : DataW Unit, w.ownsMap Tryd.prog 9 fileElem fb n D ∧ Tidy D ∧ size D = n ∧
    ∀ s : ByteArray, s.size ≤ maxLen → (∀ f, F s = some f → has D (kl s) = true ∧ ∀ z, D.atKey (kl s) z = f.d) ∧ (F s = none → has D (kl s) = false)
theorem FilesIs.lt {w : World} {fb : Nat} {F : ByteArray → Option Fl} {n : Nat} (h : FilesIs w fb F n) : fb < w.heap.size := by
  obtain ⟨D, ho, _⟩ := h
  exact ho.lt
theorem FilesIs.kept {w w' : World} {fb : Nat} {F : ByteArray → Option Fl} {n : Nat} (h : FilesIs w fb F n) (hb : w'.heap[fb]? = w.heap[fb]?) : FilesIs w' fb F n := by
  obtain ⟨D, ⟨es, clock, h1, h2⟩, ht⟩ := h
  exact ⟨D, ⟨es, clock, hb.trans h1, h2⟩, ht⟩
theorem FilesIs.mod {Z : Nat → Prop} {w w' : World} {fb : Nat} {F : ByteArray → Option Fl} {n : Nat} (h : FilesIs w fb F n) (hm : Mod Z w w') (hZ : ¬ Z fb) : FilesIs w' fb F n :=
  h.kept (hm.block fb h.lt hZ)
theorem filesIs_made (w : World) : FilesIs (w.alloc (.map #[] 0)) w.heap.size (fun _ => none) 0 :=
  ⟨.map [], World.ownsMap_made w Tryd.prog 9 _, tidy_empty, rfl, fun k _ => ⟨(fun i h => by cases h), fun _ => rfl⟩⟩
theorem FilesIs.look {w : World} {fb : Nat} {F : ByteArray → Option Fl} {n : Nat} (h : FilesIs w fb F n) {s : ByteArray} (hs : s.size ≤ maxLen) :
    (Instr.lookup 35 (.map (some fb)) (.string s) true).run Tryd.prog w = .ok (.tuple #[((F s).getD f0).v, .bool (F s).isSome]) w := by
  obtain ⟨D, ho, _, _, hF⟩ := h
  obtain ⟨v, ps, hrun, hv⟩ := ho.look_ok law9 Tryd.underlying35 (zero97 w) (fileElem_v f0) (keyOf_s hs)
  cases hf : F s with
  | some f =>
    obtain ⟨h1, h2⟩ := (hF s hs).1 f hf
    rw [h2] at hv
    rw [hrun, h1, fileElem_inv hv]
    rfl
  | none =>
    have h1 := (hF s hs).2 hf
    rw [atKey_of_not_has h1] at hv
    rw [hrun, h1, fileElem_inv hv]
    rfl
theorem FilesIs.put {w : World} {fb : Nat} {F : ByteArray → Option Fl} {n : Nat} (h : FilesIs w fb F n) (hn : n < maxLen) {s : ByteArray} (hs : s.size ≤ maxLen) (f : Fl) :
    ∃ w', (Instr.mapUpdate 35 (.map (some fb)) (.string s) f.v).run Tryd.prog w = .ok () w' ∧ FilesIs w' fb (fun x => if x = s then some f else F x) (if (F s).isSome then n else n + 1) ∧ w.grownBy w' (some fb) := by
  obtain ⟨D, ho, ht, hs', hF⟩ := h
  obtain ⟨w', hrun, ho', hg⟩ := ho.update law9 Tryd.underlying35 hn (keyOf_s hs) (fileElem_v f)
  have hkey : WideAt.IsKeyLit (kl s) := law9.one.key ⟨_, keyOf_s hs⟩
  have ht' : Tidy (D.put (kl s) f.d) := ht.put hkey _
  have hsz : size (D.put (kl s) f.d) = if (F s).isSome then n else n + 1 := by
    rw [size_put ht, hs']
    cases hf : F s with
    | some i => rw [((hF s hs).1 i hf).1]; rfl
    | none => rw [(hF s hs).2 hf]; rfl
  refine ⟨w', hrun, ⟨_, ?_, ht', hsz, fun x hx => ?_⟩, hg⟩
  · obtain ⟨es, clock, b1, b2, b3, b4⟩ := ho'
    refine ⟨es, clock, b1, b2, ?_, b4⟩
    have : size (D.put (kl s) f.d) = es.size := by rw [b4]; simp [size, length_sorted]
    omega
  · by_cases e : x = s
    · subst e
      simp only [if_true]
      exact ⟨(fun i hi => by cases hi; exact ⟨has_put_same ht.isMap hkey _, fun z => atKey_put_same ht.isMap hkey _ z⟩), (fun hi => by cases hi)⟩
    · have hne : kl x ≠ kl s := fun h => e (kl_inj h)
      simp only [if_neg e]
      refine ⟨fun i hi => ?_, fun hi => ?_⟩
      · obtain ⟨a, b⟩ := (hF x hx).1 i hi
        exact ⟨by rw [has_put_other hne]; exact a, fun z => by rw [atKey_put_other hne]; exact b z⟩
      · rw [has_put_other hne]; exact (hF x hx).2 hi
theorem FilesIs.lenIs {w : World} {fb : Nat} {F : ByteArray → Option Fl} {n : Nat} (h : FilesIs w fb F n) (ty : TypeId) : (Builtin.len_ #[35] ty #[.map (some fb)]).run Tryd.prog w = .ok (.int .i64 n) w := by
  obtain ⟨D, ho, _, hs, _⟩ := h
  rw [ho.len Tryd.underlying35 ty, hs]
/-- Block gb is a map of no faults. -/
def NoFaults (w : World) (gb : Nat) : Prop := w.ownsMap Tryd.prog 9 (plainElem (H := Unit) Tryd.prog 3) gb 0 (.map [])
theorem NoFaults.kept {w w' : World} {gb : Nat} (h : NoFaults w gb) (hb : w'.heap[gb]? = w.heap[gb]?) : NoFaults w' gb := by
  obtain ⟨es, clock, h1, h2⟩ := h
  exact ⟨es, clock, hb.trans h1, h2⟩
theorem NoFaults.mod {Z : Nat → Prop} {w w' : World} {gb : Nat} (h : NoFaults w gb) (hm : Mod Z w w') (hZ : ¬ Z gb) : NoFaults w' gb := h.kept (hm.block gb (World.ownsMap.lt h) hZ)
theorem noFaults_made (w : World) : NoFaults (w.alloc (.map #[] 0)) w.heap.size := World.ownsMap_made w Tryd.prog 9 _
theorem NoFaults.look {w : World} {gb : Nat} (h : NoFaults w gb) {s : ByteArray} (hs : s.size ≤ maxLen) : (Instr.lookup 36 (.map (some gb)) (.string s) false).run Tryd.prog w = .ok (.int .i64 0) w := by
  obtain ⟨c, hrun, hc, _⟩ := World.ownsMap.lookup_int h law9 Tryd.underlying36 Tryd.underlying3 (zero3 w) (keyOf_s hs)
  have : c = 0 := by
    have h' : (DataW.map [] : DataW Unit).atKey (kl s) (.lit (.int .i64 0)) = .lit (.int .i64 0) := rfl
    rw [h'] at hc
    cases hc
    rfl
  rw [hrun, this]
end Go.Proofs.YthnhpnmopjbaoaaDoor
