/-
  Plain laws on buffers: sums, and what stands always.
-/
import Derived.Test.YtoomffplaopijaaPlain12
namespace Go.Proofs.Ytoomffplaopijaa

theorem bytesOf_nil : bytesOf [] = 0 := rfl
theorem bytesOf_cons (b : Bf) (l : List Bf) : bytesOf (b :: l) = b.text.length + bytesOf l := by simp [bytesOf]
theorem bytesOf_append (a b : List Bf) : bytesOf (a ++ b) = bytesOf a + bytesOf b := by simp [bytesOf]
theorem bytesOf_set : ∀ (l : List Bf) (k : Nat) (f g : Bf), l[k]? = some f → bytesOf (l.set k g) + f.text.length = bytesOf l + g.text.length
  | [], k, f, g, h => by simp at h
  | a :: l, 0, f, g, h => by
    simp at h; subst h
    rw [List.set_cons_zero, bytesOf_cons, bytesOf_cons]; omega
  | a :: l, k + 1, f, g, h => by
    have := bytesOf_set l k f g (by simpa using h)
    rw [List.set_cons_succ, bytesOf_cons, bytesOf_cons]; omega
theorem bytesOf_le {l : List Bf} {k : Nat} {f : Bf} (h : l[k]? = some f) : f.text.length ≤ bytesOf l := by
  have := bytesOf_set l k f ⟨f.name, []⟩ h
  simp at this; omega
theorem modify_set {l : List Bf} {k : Nat} {f : Bf} (h : l[k]? = some f) (g : Bf → Bf) : l.modify k g = l.set k (g f) := by
  apply List.ext_getElem?
  intro t
  rw [List.getElem?_modify]
  by_cases e : k = t
  · subst e
    have hk := (List.getElem?_eq_some_iff.1 h).1
    rw [List.getElem?_set_self hk, h]; simp
  · rw [List.getElem?_set_ne e]; simp [e]

theorem come_bufs {s : Sk} {k : Nat} {f : Bf} (h : s.bufs[k]? = some f) (x : Bs) : (come s (k + 1) x).bufs = s.bufs.set k ⟨f.name, f.text ++ x⟩ := by
  unfold come
  exact modify_set h _
theorem come_total {s : Sk} {k : Nat} {f : Bf} (h : s.bufs[k]? = some f) (x : Bs) : (come s (k + 1) x).total = s.total + x.length := by
  unfold Sk.total
  rw [come_bufs h x]
  have := bytesOf_set s.bufs k f ⟨f.name, f.text ++ x⟩ h
  have e : (come s (k + 1) x).bottom = s.bottom := rfl
  rw [e]
  simp at this; omega
theorem come0_total (s : Sk) (x : Bs) : (come s 0 x).total = s.total + x.length := by
  unfold Sk.total
  show (s.bottom ++ x).length + bytesOf s.bufs = _
  rw [List.length_append]; omega
theorem come_ok {hf : Bool} {s : Sk} (o : Ok hf s) {k : Nat} {f : Bf} (h : s.bufs[k]? = some f) (x : Bs) (ht : s.total + x.length ≤ 65536) : Ok hf (come s (k + 1) x) := by
  refine ⟨by rw [come_total h]; exact ht, by rw [come_bufs h, List.length_set]; exact o.deep, fun b hb => ?_⟩
  rw [come_bufs h] at hb
  rcases List.mem_or_eq_of_mem_set hb with hb | rfl
  · exact o.names b hb
  · exact o.names f (List.mem_of_getElem? h)
theorem come0_ok {hf : Bool} {s : Sk} (o : Ok hf s) (x : Bs) (ht : s.total + x.length ≤ 65536) : Ok hf (come s 0 x) :=
  ⟨by rw [come0_total]; exact ht, o.deep, o.names⟩
theorem push_ok {hf : Bool} {s : Sk} (o : Ok hf s) (name : Bs) (hm : (mk hf name []).isSome = true) (hd : ¬ 32 ≤ s.bufs.length) : Ok hf { s with bufs := s.bufs ++ [⟨name, []⟩] } := by
  refine ⟨?_, by simp; omega, fun b hb => ?_⟩
  · have := o.total
    unfold Sk.total at *
    rw [bytesOf_append]
    simpa [bytesOf] using this
  · rcases List.mem_append.1 hb with hb | hb
    · exact o.names b hb
    · simp at hb; subst hb; exact hm
theorem clean_bufs {s : Sk} {M : Nat} {f : Bf} (hM : s.bufs.length = M + 1) (h : s.bufs[M]? = some f) : (clean s).bufs = s.bufs.set M ⟨f.name, []⟩ := by
  unfold clean
  show s.bufs.modify (s.bufs.length - 1) _ = _
  rw [show s.bufs.length - 1 = M by omega]
  exact modify_set h _
theorem clean_total {s : Sk} {M : Nat} {f : Bf} (hM : s.bufs.length = M + 1) (h : s.bufs[M]? = some f) : (clean s).total + f.text.length = s.total := by
  have := bytesOf_set s.bufs M f ⟨f.name, []⟩ h
  unfold Sk.total
  rw [clean_bufs hM h]
  have e : (clean s).bottom = s.bottom := rfl
  rw [e]
  simp at this; omega
theorem clean_ok {hf : Bool} {s : Sk} (o : Ok hf s) {M : Nat} {f : Bf} (hM : s.bufs.length = M + 1) (h : s.bufs[M]? = some f) : Ok hf (clean s) := by
  refine ⟨by have := clean_total hM h; have := o.total; omega, by rw [clean_bufs hM h, List.length_set]; exact o.deep, fun b hb => ?_⟩
  rw [clean_bufs hM h] at hb
  rcases List.mem_or_eq_of_mem_set hb with hb | rfl
  · exact o.names b hb
  · exact o.names f (List.mem_of_getElem? h)
theorem bytesOf_take (l : List Bf) (n : Nat) : bytesOf (l.take n) ≤ bytesOf l := by
  conv => rhs; rw [← List.take_append_drop n l, bytesOf_append]
  omega
end Go.Proofs.Ytoomffplaopijaa
