/-
  A reader's things grow, and get their items.
-/
import Derived.Test.YtnaefnojmiolbaaGreatDoorReadZ
import Derived.Test.YtnaefnojmiolbaaGreatDoorRows2
namespace Go.Proofs.YtnaefnojmiolbaaGreatDoor
open Go.RowKit

/-- The things never become fewer. -/
def Grows (val : ValF) : Prop := ∀ p m ths y, val p m ths = .ok y → ths.length ≤ y.2.2.2.length
theorem itemsP_grows {s : ByteArray} {props : Bool} {val : ValF} (hv : Grows val) : ∀ {n : Nat} {l : LS} {p m : Nat} {ths : List TP} {y : LS × Nat × Nat × List TP}, itemsP s props val n l p m ths = .ok y → ths.length ≤ y.2.2.2.length
  | 0, l, p, m, ths, y, h => by
    rw [itemsP] at h
    split at h
    · cases h
    · cases h; exact Nat.le_refl _
  | n + 1, l, p, m, ths, y, h => by
    rw [itemsP] at h
    split at h
    · cases h
    · split at h
      · cases h
      · split at h
        · cases h
        · split at h
          · cases h
          · split at h
            · cases h
            · split at h
              · cases h
              · rename_i hx
                exact Nat.le_trans (hv _ _ _ _ hx) (itemsP_grows hv h)
theorem bracesP_grows {s : ByteArray} {props : Bool} {val : ValF} (hv : Grows val) {p m : Nat} {ths : List TP} {y : LS × Nat × Nat × List TP} (h : bracesP s props val p m ths = .ok y) : ths.length ≤ y.2.2.2.length := by
  unfold bracesP at h
  split at h
  · cases h
  · split at h
    · cases h
    · exact itemsP_grows hv h
theorem objectP_grows {s : ByteArray} {val : ValF} (hv : Grows val) : Grows (objectP s val) := by
  intro p m ths y h
  unfold objectP at h
  split at h
  · cases h
  · split at h
    · cases h
    · split at h
      · cases h
      · split at h
        · cases h
        · rename_i hb
          have := bracesP_grows hv hb
          cases h
          simp at this ⊢
          omega
theorem listP_grows {s : ByteArray} {val : ValF} (hv : Grows val) : Grows (listP s val) := by
  intro p m ths y h
  unfold listP at h
  split at h
  · cases h
  · split at h
    · cases h
    · rename_i hb
      have := bracesP_grows hv hb
      cases h
      exact this
theorem graphP_grows {s : ByteArray} {sub : Option ValF} (hv : ∀ val, sub = some val → Grows val) : Grows (graphP s sub) := by
  intro p m ths y h
  unfold graphP at h
  split at h
  · unfold nullP at h
    split at h
    · cases h
    · cases h; exact Nat.le_refl _
  split at h
  · unfold boolP at h
    split at h
    · cases h
    · split at h
      · split at h
        · cases h
        · cases h; exact Nat.le_refl _
      · split at h
        · cases h
        · cases h; exact Nat.le_refl _
  split at h
  · unfold intP at h
    split at h
    · cases h
    · split at h
      · cases h
      · split at h
        · cases h
        · cases h; exact Nat.le_refl _
  split at h
  · unfold strP at h
    split at h
    · cases h
    · split at h
      · cases h
      · split at h
        · cases h
        · cases h; exact Nat.le_refl _
  split at h
  · unfold refP at h
    split at h
    · cases h
    · split at h
      · cases h
      · split at h
        · cases h
        · split at h
          · cases h
          · cases h; exact Nat.le_refl _
  split at h
  · unfold deepP at h
    split at h
    · cases h
    · rename_i val
      split at h
      · exact objectP_grows (hv val rfl) _ _ _ _ h
      · exact listP_grows (hv val rfl) _ _ _ _ h
  · cases h
theorem gvalP_grows (s : ByteArray) : ∀ d, Grows (gvalP s d)
  | 0 => graphP_grows fun _ h => by cases h
  | d + 1 => graphP_grows fun val h => by cases h; exact gvalP_grows s d
section
variable {w w3 : World} {r : Nat} {s : ByteArray} {p m : Nat} {tv v' : Value} {ths : List Th}
/-- A thing more. -/
theorem Rd.push (h : Rd w r s p m tv ths) (name : ByteArray) (o3 : Owns w3 48 2 v' (ths.map Th.row ++ [[.string name, .slice none 0 0]])) (g3 : (w.alloc (.cells #[.string name, .slice none 0 0] 48)).grownBy w3 tv.ownBlock)
    (n3 : v'.ownBlock = tv.ownBlock ∨ ∃ k, v'.ownBlock = some k ∧ (w.alloc (.cells #[.string name, .slice none 0 0] 48)).heap.size ≤ k) :
    Rd (w3.setCell ⟨r, 3, none⟩ v') r s p m v' (ths ++ [⟨name, [], .slice none 0 0⟩]) ∧ Fresh w tv v' ∧ Mod (RF r tv) w (w3.setCell ⟨r, 3, none⟩ v') := by
  have hr := lt_of_block h.blk
  have m3 : Mod (RF r tv) w w3 := ((Mod.refl (RF r tv) w).alloc _).grown g3 (fun k e _ => .inr e)
  have hne : v'.ownBlock ≠ some r := fun e => by
    rcases n3 with n3 | ⟨k, n3, hk⟩
    · exact h.ne (n3 ▸ e)
    · rw [n3] at e; cases e; simp at hk; omega
  have hsz : w.heap.size + 1 ≤ w3.heap.size := by have := g3.size; simpa using this
  have ms : Mod (fun k => k = r) w3 (w3.setCell ⟨r, 3, none⟩ v') := (Mod.refl _ w3).setCell _ _ (fun _ => rfl)
  have mA : Mod (RF r tv) w (w3.setCell ⟨r, 3, none⟩ v') := m3.trans' ms (fun i _ e => .inl e)
  have b3 : w3.heap[r]? = some (.cells #[.string s, .int .i64 p, .int .i64 m, tv] 116 (0, 0)) := (g3.block r (by simp; omega) (fun e => h.ne e.symm)).trans (alloc_blk h.blk _)
  refine ⟨⟨by have := set_blk b3 3 v'; simpa using this, ?_, hne, ?_, h.hp, h.hs, h.hm, h.tab.mod mA ?_, h.r6, ?_⟩, ?_, mA⟩
  · rw [List.map_append]
    exact Owns.mod o3 ms (fun g e x => hne (by rw [e, show g = r from x]))
  · intro t ht
    rcases List.mem_append.1 ht with ht | ht
    · exact VT64.mod (h.val t ht) mA (fun g e => h.no64 e)
    · rw [List.mem_singleton] at ht
      subst ht
      exact VAt.nil _ _ _ _
  · rintro k (rfl | e)
    · exact h.r6
    · exact h.t6 k e
  · intro g e
    rcases n3 with n3 | ⟨k, n3, hk⟩
    · exact h.t6 g (n3 ▸ e)
    · rw [n3] at e; cases e
      have := h.tab.lt
      simp at hk; omega
  · intro g e
    rcases n3 with n3 | ⟨k, n3, hk⟩
    · exact .inl (n3 ▸ e)
    · rw [n3] at e; cases e
      simp at hk
      exact .inr (by omega)
/-- A thing's items are known. -/
theorem Rd.props {g n cap : Nat} (h : Rd w r s p m (.slice (some ⟨g, 0, none⟩) n cap) ths) {i : Nat} (hi : i < ths.length) {co : Option Addr} {cm cc : Nat} {xs : List It} (hx : VT64 w (.slice co cm cc) xs) :
    Rd (w.setCell ⟨g, i * 2 + 1, none⟩ (.slice co cm cc)) r s p m (.slice (some ⟨g, 0, none⟩) n cap) (ths.set i ⟨ths[i].cls, xs, .slice co cm cc⟩) ∧ Mod (RF r (.slice (some ⟨g, 0, none⟩) n cap)) w (w.setCell ⟨g, i * 2 + 1, none⟩ (.slice co cm cc)) := by
  have ms : Mod (fun k => k = g) w (w.setCell ⟨g, i * 2 + 1, none⟩ (.slice co cm cc)) := (Mod.refl _ w).setCell _ _ (fun _ => rfl)
  have hgr : r ≠ g := fun e => h.ne (by rw [e]; rfl)
  have h64 : ∀ k, k = g → ¬ B64 w k := fun k e => h.no64 (.inr (by rw [e]; rfl))
  refine ⟨⟨(ms.block r (lt_of_block h.blk) hgr).trans h.blk, ?_, h.ne, ?_, h.hp, h.hs, h.hm, h.tab.mod ms (fun k e => h.t6 k (by rw [show k = g from e]; rfl)), h.r6, h.t6⟩, ms.mono (fun k _ e => .inr (by rw [show k = g from e]; rfl))⟩
  · have o := (h.own.setRow (k := i) (r := [.string ths[i].cls, ths[i].c]) (by simp [hi, Th.row]) 1 (by decide) (.slice co cm cc) (by rfl)).1
    rw [show (ths.set i ⟨ths[i].cls, xs, .slice co cm cc⟩).map Th.row = (ths.map Th.row).set i ([.string ths[i].cls, ths[i].c].set 1 (.slice co cm cc)) by rw [List.map_set]; rfl]
    exact o
  · intro t ht
    rcases List.mem_or_eq_of_mem_set ht with ht | rfl
    · exact VT64.mod (h.val t ht) ms h64
    · exact VT64.mod hx ms h64
theorem props_tp {i : Nat} (hi : i < ths.length) (xs : List It) (c : Value) : (ths.set i ⟨ths[i].cls, xs, c⟩).map Th.tp = (ths.map Th.tp).modify i fun t => (t.1, xs) := by
  rw [List.map_set]
  apply List.ext_getElem?
  intro k
  rw [List.getElem?_set, List.getElem?_modify]
  by_cases hk : i = k
  · subst hk
    simp [hi, Th.tp]
  · simp [hk]
end
end Go.Proofs.YtnaefnojmiolbaaGreatDoor
