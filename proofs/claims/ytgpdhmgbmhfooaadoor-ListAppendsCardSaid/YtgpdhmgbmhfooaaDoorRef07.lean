/-
  The document's list in memory; the walk of Find.
-/
import Derived.Test.YtgpdhmgbmhfooaaDoorKeys07
import Derived.Test.YtgpdhmgbmhfooaaDoorDel07
import Derived.LoopTactic
namespace Go.Proofs.YtgpdhmgbmhfooaaDoor
open Go.RowKit

/-- An item of the document's list: its value is a number's. -/
def RC (x : It) : List Value := [.bool x.1.b, .int .i64 x.1.n, .string x.1.t, .int .i64 2, .int .i64 x.2, .string ⟨#[]⟩, .slice none 0 0]
theorem RC_len (us : List It) : ∀ r ∈ us.map RC, r.length = 7 := by
  intro r hr
  obtain ⟨x, _, rfl⟩ := List.mem_map.1 hr
  rfl
theorem RC_one (us : List It) : ∀ r ∈ us.map RC, ∀ u ∈ r, u.oneCell' = true := by
  intro r hr u hu
  obtain ⟨x, _, rfl⟩ := List.mem_map.1 hr
  simp [RC] at hu
  rcases hu with rfl | rfl | rfl | rfl | rfl | rfl | rfl <;> rfl
/-- The document's list at an address: its two cells in a block, its items behind v. -/
structure RefAt (w : World) (rb ro : Nat) (c : Array Value) (v : Value) (l : LS) : Prop where
  blk : w.heap[rb]? = some (.cells c 47 (0, 0))
  c0 : c[ro]? = some v
  c1 : c[ro + 1]? = some (.int .i64 l.nx)
  own : Owns w 56 7 v (l.xs.map RC)
  ok : l.Ok
theorem RefAt.mod {Z : Nat → Prop} {w w' : World} {rb ro : Nat} {c : Array Value} {v : Value} {l : LS} (i : RefAt w rb ro c v l) (hm : Mod Z w w') (h1 : ¬ Z rb) (h2 : ∀ g, v.ownBlock = some g → ¬ Z g) : RefAt w' rb ro c v l :=
  ⟨hm.blk i.blk h1, i.c0, i.c1, i.own.mod hm h2, i.ok⟩
theorem RefAt.below {w w' : World} {rb ro : Nat} {c : Array Value} {v : Value} {l : LS} (i : RefAt w rb ro c v l) (hb : Below w.heap.size w w') : RefAt w' rb ro c v l :=
  i.mod (Mod.of_below (F := fun _ => False) hb) (fun x => x) (fun _ _ x => x)
theorem RefAt.drewN {w : World} {rb ro : Nat} {c : Array Value} {v : Value} {l : LS} (i : RefAt w rb ro c v l) (n : Nat) : RefAt (w.drewN n) rb ro c v l :=
  i.mod ((Mod.refl (fun _ => False) w).drewN n) (fun x => x) (fun _ _ x => x)
theorem RefAt.cells {w : World} {rb ro : Nat} {c : Array Value} {v : Value} {l : LS} (i : RefAt w rb ro c v l) :
    w.cell? ⟨rb, ro, none⟩ = some v ∧ w.cell? ⟨rb, ro + 1, none⟩ = some (.int .i64 l.nx) :=
  ⟨(cell_blk i.blk ro).trans i.c0, (cell_blk i.blk (ro + 1)).trans i.c1⟩
/-- An item's cells. -/
theorem ritem {w : World} {n : Nat} {ao : Option Addr} {cap : Nat} {xs : List It} (o : Owns w 56 7 (.slice ao n cap) (xs.map RC)) {j : Nat} (hj : j < xs.length) :
    ∃ g, ao = some ⟨g, 0, none⟩ ∧ n = xs.length ∧ xs.length ≤ cap ∧ cap ≤ maxLen ∧ g < w.heap.size ∧
      w.cell? ⟨g, j * 7, none⟩ = some (.bool xs[j].1.b) ∧ w.cell? ⟨g, j * 7 + 1, none⟩ = some (.int .i64 xs[j].1.n) ∧ w.cell? ⟨g, j * 7 + 2, none⟩ = some (.string xs[j].1.t) ∧
      w.cell? ⟨g, j * 7 + 3, none⟩ = some (.int .i64 2) ∧ w.cell? ⟨g, j * 7 + 4, none⟩ = some (.int .i64 xs[j].2) ∧ w.cell? ⟨g, j * 7 + 5, none⟩ = some (.string ⟨#[]⟩) ∧ w.cell? ⟨g, j * 7 + 6, none⟩ = some (.slice none 0 0) := by
  obtain ⟨ao', cap', hv, h1, h2, h3, _, h5⟩ := o.any
  rw [List.length_map] at hv h1
  cases hv
  obtain ⟨g, off, rfl, hg, _, hc⟩ := h3 j (RC xs[j]) (by simp [hj])
  obtain ⟨rfl, _⟩ := h5 g off rfl
  have d0 := hc 0 _ rfl
  have d1 := hc 1 _ rfl
  have d2 := hc 2 _ rfl
  have d3 := hc 3 _ rfl
  have d4 := hc 4 _ rfl
  have d5 := hc 5 _ rfl
  have d6 := hc 6 _ rfl
  simp only [Nat.zero_add, Nat.add_zero] at d0 d1 d2 d3 d4 d5 d6
  exact ⟨g, rfl, rfl, h1, h2, hg, d0, d1, d2, d3, d4, d5, d6⟩

/-- The place of a key, as a number; -1. -/
def findI (k : K) (xs : List It) : Int := match findK k xs with | some i => (i : Int) | none => -1
def noK (k : K) (xs : List It) (p : Nat) : Prop := ∀ q (h : q < xs.length), q < p → xs[q].1 ≠ k
theorem noK_zero (k : K) (xs : List It) : noK k xs 0 := fun _ _ h => by omega
theorem noK_succ {k : K} {xs : List It} {p : Nat} (h : noK k xs p) (hp : p < xs.length) (hne : xs[p].1 ≠ k) : noK k xs (p + 1) := fun q hq hlt => by
  by_cases e : q = p
  · subst e; exact hne
  · exact h q hq (by omega)
theorem findI_at {k : K} {xs : List It} {p : Nat} (h : noK k xs p) (hp : p < xs.length) (he : xs[p].1 = k) : findI k xs = p := by
  have : findK k xs = some p := by
    unfold findK
    rw [List.findIdx?_eq_some_iff_getElem]
    exact ⟨hp, K.same_iff.2 he, fun j hj => by simpa using K.same_ne.2 (h j (by omega) hj)⟩
  unfold findI
  rw [this]
theorem findI_end {k : K} {xs : List It} (h : noK k xs xs.length) : findI k xs = -1 := by
  have : findK k xs = none := by
    rw [findK_none]
    intro x hx
    obtain ⟨i, hi, rfl⟩ := List.getElem_of_mem hx
    exact h i hi hi
  unfold findI
  rw [this]
theorem findI_some {k : K} {xs : List It} {p : Nat} (h : findK k xs = some p) : findI k xs = p := by unfold findI; rw [h]
theorem findI_none {k : K} {xs : List It} (h : findK k xs = none) : findI k xs = -1 := by unfold findI; rw [h]

/-- What a call of Find has at hand. -/
structure FS (w W : World) (v : Value) (xs : List It) (B : Nat) (k : K) : Prop where
  own : Owns W 56 7 v (xs.map RC)
  key : W.heap[B]? = some (KB k.b k.n k.t)
  below : Below w.heap.size w W
theorem FS.drewN {w W : World} {v : Value} {xs : List It} {B : Nat} {k : K} (h : FS w W v xs B k) (n : Nat) : FS w (W.drewN n) v xs B k :=
  ⟨h.own.kept (fun _ _ => rfl), h.key, belowN h.below n⟩
def IntPostB (w : World) (n : Int) (e : Ending) (w' : World) : Prop := e = .returned (.int .i64 n) ∧ Below w.heap.size w w'

set_option maxRecDepth 100000 in
set_option maxHeartbeats 1600000 in
theorem rfind_any {v : Value} (xs : List It) (k : K) (hl : xs.length ≤ 2048) (w : World) (o : Owns w 56 7 v (xs.map RC)) : Calls Tryd.prog 76 #[v, k.v] w (IntPostB w (findI k xs)) := by
  obtain ⟨ao, cap, hv, -⟩ := o.any
  rw [List.length_map] at hv
  subst hv
  have S0 : Hid (FS w (w.alloc (KB k.b k.n k.t)) (.slice ao xs.length cap) xs w.heap.size k) :=
    ⟨o.kept (fun g e => Below.heap_alloc _ _ _ (o.lt e)), heap_alloc_new _ _, below_alloc1 _ _⟩
  clear o
  unfold K.v
  go_enter Tryd.func76, Tryd.ntmps76
  go_wp2_with fail
  generalize hW : w.alloc _ = W0 at S0 ⊢
  clear hW
  go_loopw [5] (fun i wr => ∃ p : Nat, p ≤ xs.length ∧ i = .int .i64 p ∧ Hid (FS w wr (.slice ao xs.length cap) xs w.heap.size k ∧ noK k xs p)) (fun i _ => xs.length - (intOf i).toNat)
  case atStart => exact ⟨0, Nat.zero_le _, rfl, S0.out, noK_zero k xs⟩
  case round =>
    obtain ⟨p, hp, rfl, HS⟩ := hrel
    by_cases hlt : p < xs.length
    · obtain ⟨g, rfl, -, hlc, hcm, hgl, d0, d1, d2, -⟩ := ritem HS.out.1.own hlt
      obtain ⟨a0, a1, a2⟩ := cells3 HS.out.1.key
      obtain ⟨y, hy⟩ : ∃ y, y = xs[p].1 := ⟨_, rfl⟩
      rw [← hy] at d0 d1 d2
      have HY := Lib.hid hy
      have e1 := fun w => key_eql y k w
      have hl' : (xs.length : Int) ≤ 2048 := by omega
      have hi1 : (p : Int) < (xs.length : Int) := by omega
      clear hy hlc hcm hgl
      by_cases he : y = k
      · have hs : K.same y k = true := by rw [he]; exact K.same_self k
        rw [hs] at e1
        have HE := Lib.hid he
        clear he hs
        go_wp2_with fail
        go_quiet (fail)
        go_wp2_with fail
        go_ret
        exact ⟨by rw [findI_at HS.out.2 hlt (HY.out.symm.trans HE.out)]; rfl, belowN HS.out.1.below _⟩
      · have hs : K.same y k = false := K.same_ne.2 he
        rw [hs] at e1
        have HE := Lib.hid he
        clear he hs
        go_wp2_with fail
        go_quiet (fail)
        go_wp2_with fail
        go_roundw
        case rel => exact ⟨p + 1, hlt, by go_num, HS.out.1.drewN _, noK_succ HS.out.2 hlt (fun e => HE.out (HY.out.trans e))⟩
        case measure => exact Nat.sub_lt_sub_left hlt (Nat.lt_succ_self p)
    · obtain rfl : p = xs.length := by omega
      go_wp2_with fail
      go_ret
      exact ⟨by rw [findI_end HS.out.2]; rfl, HS.out.1.below⟩
end Go.Proofs.YtgpdhmgbmhfooaaDoor
