/-
  The walk of Set at a key that is not there.
-/
import Derived.Test.YtnaefnojmiolbaaGreatDoorJw6
import Derived.Deep.RegionLawGrows
import Derived.Deep.CutRange
namespace Go.Proofs.YtnaefnojmiolbaaGreatDoor
open Go.RowKit

/-- Set is under way: its key stands in block B, its value behind. -/
structure InT (w W : World) (b : Nat) (v : Value) (mb : Nat) (l : LS) (ys : List It2) (B : Nat) (k : K) (x : VT) (c : Value) : Prop where
  tabs : Tabs w
  lst : LIs W b v mb l ys
  key : W.heap[B]? = some (KB k.b k.n k.t)
  val : W.heap[B + 1]? = some (VB x c)
  vat : VT64 W c x.xs
  below : Below w.heap.size w W
section
variable {w W W' : World} {b : Nat} {v : Value} {mb : Nat} {l : LS} {ys : List It2} {B : Nat} {k : K} {x : VT} {c : Value}
theorem InT.tabsW (h : InT w W b v mb l ys B k x c) : Tabs W := h.tabs.mono h.below
theorem InT.mono (h : InT w W b v mb l ys B k x c) (hb : Below W.heap.size W W') : InT w W' b v mb l ys B k x c :=
  ⟨h.tabs, h.lst.under hb, (hb.block _ (lt_of_block h.key)).trans h.key, (hb.block _ (lt_of_block h.val)).trans h.val, VT64.under h.vat hb, h.below.trans (hb.mono h.below.size)⟩
theorem InT.store (h : InT w W b v mb l ys B k x c) (hB : w.heap.size ≤ B) (hl : ∀ j, LFoot b v mb j → j < B) (q : K) :
    InT w (((W.setCell ⟨B, 0, none⟩ (.bool q.b)).setCell ⟨B, 1, none⟩ (.int .i64 q.n)).setCell ⟨B, 2, none⟩ (.string q.t)) b v mb l ys B q x c := by
  have hm : Mod (fun x => x = B) W (((W.setCell ⟨B, 0, none⟩ (.bool q.b)).setCell ⟨B, 1, none⟩ (.int .i64 q.n)).setCell ⟨B, 2, none⟩ (.string q.t)) :=
    (((Mod.refl (fun x => x = B) W).setCell ⟨B, 0, none⟩ _ (fun _ => rfl)).setCell ⟨B, 1, none⟩ _ (fun _ => rfl)).setCell ⟨B, 2, none⟩ _ (fun _ => rfl)
  have h64 : ∀ g, g = B → ¬ B64 W g := by
    rintro g rfl ⟨cs, fr, hc⟩
    rw [h.key] at hc; cases hc
  exact ⟨h.tabs, h.lst.mod hm (fun j hj e => by have := hl j hj; omega) h64, set3 h.key q.b q.n q.t, hm.blk h.val (by omega), VT64.mod h.vat hm h64, set3_below h.below hB _ _ _⟩
def InTS (b mb B : Nat) (q : K) (n : Int) (f : Bool) (W : World) : Prop :=
  W.cell? ⟨b, 3, none⟩ = some (.map (some mb)) ∧ W.cell? ⟨B, 0, none⟩ = some (.bool q.b) ∧ W.cell? ⟨B, 1, none⟩ = some (.int .i64 q.n) ∧ W.cell? ⟨B, 2, none⟩ = some (.string q.t) ∧
    (Instr.lookup 158 (.map (some mb)) (.agg #[.bool q.b, .int .i64 q.n, .string q.t]) true).run Tryz.prog W = .ok (.tuple #[.int .i64 n, .bool f]) W
theorem InT.sn (h : InT w W b v mb l ys B k x c) (hk : k.Good) (hf : findK k l.xs = none) : InTS b mb B k 0 false W := by
  obtain ⟨x0, x1, x2⟩ := cells3 h.key
  exact ⟨(cells5 h.lst.blk).2.2.2.1, x0, x1, x2, look_none h.lst hk hf⟩
theorem InT.sy (h : InT w W b v mb l ys B k x c) (hk : k.Good) {j : Nat} (hf : findK k l.xs = some j) : InTS b mb B k j true W := by
  obtain ⟨x0, x1, x2⟩ := cells3 h.key
  exact ⟨(cells5 h.lst.blk).2.2.2.1, x0, x1, x2, look_some h.lst hk hf⟩
end
/-- What a call that puts something into a list leaves. -/
def PutPost (w : World) (b : Nat) (v : Value) (mb : Nat) (r : Value) (l' : LS) (ys' : List It2) (e : Ending) (w' : World) : Prop :=
  e = .returned r ∧ ∃ v', LIs w' b v' mb l' ys' ∧ Mod (LFoot b v mb) w w' ∧ (v'.ownBlock = v.ownBlock ∨ ∃ g, v'.ownBlock = some g ∧ w.heap.size ≤ g)
theorem placeF_snoc {xs : List It} {q : K} (h : findK q xs = none) (x : VT) : placeF (xs ++ [(q, x)]) = fun y => if y = q then some (xs.length : Int) else placeF xs y := by
  funext y
  unfold placeF
  rw [findK_snoc h]
  split <;> rfl
theorem info167 : (Tryz.prog.info? 167).map (fun i => (i.zero, i.size, i.bytes)) = some (some (.agg #[.bool false, .int .i64 0, .string ⟨#[]⟩, .int .i64 0, .int .i64 0, .string ⟨#[]⟩, .slice none 0 0]), 7, 88) := by kernel_rfl
abbrev zrow : List Value := [.bool false, .int .i64 0, .string ⟨#[]⟩, .int .i64 0, .int .i64 0, .string ⟨#[]⟩, .slice none 0 0]
theorem owns_last {w : World} {ty : TypeId} {g n cap : Nat} {rows : List (List Value)} {r : List Value} (o : Owns w ty 7 (.slice (some ⟨g, 0, none⟩) (n + 1) cap) (rows ++ [r])) (hn : rows.length = n) (i : Nat) (u : Value) (hi : r[i]? = some u) : w.cell? ⟨g, n * 7 + i, none⟩ = some u := by
  obtain ⟨ao, cap', hv, _, _, hl, _, _⟩ := o.any
  rw [List.length_append, List.length_singleton, hn] at hv
  cases hv
  obtain ⟨g', off, e, _, _, hc⟩ := hl n r (by rw [List.getElem?_append_right (by omega)]; simp [hn])
  cases e
  have := hc i u hi
  rwa [Nat.zero_add] at this
abbrev put7 (w : World) (g o : Nat) (a0 a1 a2 a3 a4 a5 a6 : Value) : World :=
  ((((((w.setCell ⟨g, o, none⟩ a0).setCell ⟨g, o + 1, none⟩ a1).setCell ⟨g, o + 2, none⟩ a2).setCell ⟨g, o + 3, none⟩ a3).setCell ⟨g, o + 4, none⟩ a4).setCell ⟨g, o + 5, none⟩ a5).setCell ⟨g, o + 6, none⟩ a6
theorem owns_put7 {w : World} {ty : TypeId} {g n cap : Nat} {rows : List (List Value)} {z0 z1 z2 z3 z4 z5 z6 : Value} (o : Owns w ty 7 (.slice (some ⟨g, 0, none⟩) (n + 1) cap) (rows ++ [[z0, z1, z2, z3, z4, z5, z6]])) (hn : rows.length = n) (a0 a1 a2 a3 a4 a5 a6 : Value)
    (h1 : ∀ u ∈ [a0, a1, a2, a3, a4, a5, a6], u.oneCell' = true) : Owns (put7 w g (n * 7) a0 a1 a2 a3 a4 a5 a6) ty 7 (.slice (some ⟨g, 0, none⟩) (n + 1) cap) (rows ++ [[a0, a1, a2, a3, a4, a5, a6]]) := by
  have hrl : ∀ r ∈ rows, r.length = 7 := fun r hr => o.len r (by simp [hr])
  have hfl : rows.flatten.length = n * 7 := by rw [flatten_length 7 rows hrl, hn]
  have hr := o.row
  rw [List.length_append, List.length_singleton, List.flatten_append, List.flatten_singleton, hn] at hr
  obtain ⟨s0, -⟩ := hr.stored (n * 7) a0
  obtain ⟨s1, -⟩ := s0.stored (n * 7 + 1) a1
  obtain ⟨s2, -⟩ := s1.stored (n * 7 + 2) a2
  obtain ⟨s3, -⟩ := s2.stored (n * 7 + 3) a3
  obtain ⟨s4, -⟩ := s3.stored (n * 7 + 4) a4
  obtain ⟨s5, -⟩ := s4.stored (n * 7 + 5) a5
  obtain ⟨s6, -⟩ := s5.stored (n * 7 + 6) a6
  have e : (((((((rows.flatten ++ [z0, z1, z2, z3, z4, z5, z6]).set (n * 7) a0).set (n * 7 + 1) a1).set (n * 7 + 2) a2).set (n * 7 + 3) a3).set (n * 7 + 4) a4).set (n * 7 + 5) a5).set (n * 7 + 6) a6 = rows.flatten ++ [a0, a1, a2, a3, a4, a5, a6] := by
    rw [← hfl]
    simp
  rw [e] at s6
  refine ⟨by rw [List.length_append, List.length_singleton, List.flatten_append, List.flatten_singleton, hn]; exact s6, fun r hr' => ?_, fun r hr' => ?_⟩
  · rcases List.mem_append.1 hr' with h | h
    · exact hrl r h
    · rw [List.mem_singleton.1 h]; rfl
  · rcases List.mem_append.1 hr' with h | h
    · exact o.one r (by simp [h])
    · rw [List.mem_singleton.1 h]; exact h1
theorem put7_mod {w : World} {g o : Nat} {a0 a1 a2 a3 a4 a5 a6 : Value} : Mod (fun k => k = g) w (put7 w g o a0 a1 a2 a3 a4 a5 a6) :=
  (((((((Mod.refl (fun k => k = g) w).setCell _ _ (fun _ => rfl)).setCell _ _ (fun _ => rfl)).setCell _ _ (fun _ => rfl)).setCell _ _ (fun _ => rfl)).setCell _ _ (fun _ => rfl)).setCell _ _ (fun _ => rfl)).setCell _ _ (fun _ => rfl)
/-- The key and the value stand in their blocks. -/
def SQ (B : Nat) (q : K) (x : VT) (c : Value) (W : World) : Prop := W.heap[B]? = some (KB q.b q.n q.t) ∧ W.heap[B + 1]? = some (VB x c)
theorem SQ.grown {B : Nat} {q : K} {x : VT} {c : Value} {W W' : World} {o : Option Nat} (h : SQ B q x c W) (g : W.grownBy W' o) (h1 : some B ≠ o) (h2 : some (B + 1) ≠ o) : SQ B q x c W' :=
  ⟨(g.block B (lt_of_block h.1) h1).trans h.1, (g.block _ (lt_of_block h.2) h2).trans h.2⟩
theorem SQ.mod {B : Nat} {q : K} {x : VT} {c : Value} {W W' : World} {Z : Nat → Prop} (h : SQ B q x c W) (m : Mod Z W W') (h1 : ¬ Z B) (h2 : ¬ Z (B + 1)) : SQ B q x c W' := ⟨m.blk h.1 h1, m.blk h.2 h2⟩
theorem SQ.put7 {B : Nat} {q : K} {x : VT} {c : Value} {W : World} {g o : Nat} {a0 a1 a2 a3 a4 a5 a6 : Value} (h : SQ B q x c W) (h1 : g ≠ B) (h2 : g ≠ B + 1) : SQ B q x c (put7 W g o a0 a1 a2 a3 a4 a5 a6) :=
  h.mod put7_mod (fun e => h1 e.symm) (fun e => h2 e.symm)
theorem SQ.set2 {B : Nat} {q : K} {x : VT} {c : Value} {W : World} {b : Nat} {v : Value} (h : SQ B q x c W) (h1 : b ≠ B) (h2 : b ≠ B + 1) : SQ B q x c (W.setCell ⟨b, 2, none⟩ v) :=
  h.mod ((Mod.refl (fun k => k = b) W).setCell _ _ (fun _ => rfl)) (fun e => h1 e.symm) (fun e => h2 e.symm)
/-- Behind the append: the new item lies behind the others; the next number is the old one. -/
structure LMid (w5 W : World) (b : Nat) (v v' : Value) (mb : Nat) (l : LS) (ys : List It2) (q : K) (x : VT) (c : Value) : Prop where
  blk : W.heap[b]? = some (.cells #[.bool true, .bool false, v', .map (some mb), .int .i64 l.nx] 161 (0, 0))
  own : Owns W 167 7 v' (rows2 (ys ++ [((q, x), c)]))
  mod : Mod (fun k => k = b ∨ v.ownBlock = some k) w5 W
  goes : v'.ownBlock = v.ownBlock ∨ ∃ g, v'.ownBlock = some g ∧ w5.heap.size ≤ g
section
variable {w5 w6 : World} {b : Nat} {vo : Value} {n g7 cap6 mb : Nat} {l : LS} {ys : List It2} {q : K} {x : VT} {c : Value} {o : Obj}
theorem rows2_snoc (ys : List It2) (y : It2) : rows2 (ys ++ [y]) = rows2 ys ++ [itCells y.1 y.2] := by simp [rows2]
theorem mid_mod (G6 : (w5.drew.alloc o).grownBy w6 vo.ownBlock) : Mod (fun k => k = b ∨ vo.ownBlock = some k) w5 w6 :=
  (((Mod.refl (fun k => k = b ∨ vo.ownBlock = some k) w5).drew.alloc o).grown G6 (fun _k e _ => .inr e))
theorem mid_g (V6 : (Value.slice (some ⟨g7, 0, none⟩) (n + 1) cap6).ownBlock = vo.ownBlock ∨ ∃ k, (Value.slice (some ⟨g7, 0, none⟩) (n + 1) cap6).ownBlock = some k ∧ (w5.drew.alloc o).heap.size ≤ k) : g7 < w5.heap.size → vo.ownBlock = some g7 := fun h => by
  rcases V6 with e | ⟨k, e, hk⟩
  · rw [← e]; rfl
  · have h3 : g7 = k := Option.some.inj e
    simp at hk
    omega
theorem mid_goes (V6 : (Value.slice (some ⟨g7, 0, none⟩) (n + 1) cap6).ownBlock = vo.ownBlock ∨ ∃ k, (Value.slice (some ⟨g7, 0, none⟩) (n + 1) cap6).ownBlock = some k ∧ (w5.drew.alloc o).heap.size ≤ k) : (Value.slice (some ⟨g7, 0, none⟩) (n + 1) cap6).ownBlock = vo.ownBlock ∨ ∃ g, (Value.slice (some ⟨g7, 0, none⟩) (n + 1) cap6).ownBlock = some g ∧ w5.heap.size ≤ g :=
  V6.imp id (fun ⟨k, e, hk⟩ => ⟨k, e, by simp at hk; omega⟩)
theorem mid_a {cm cc : Nat} {co : Option Addr} (B6 : w6.heap[b]? = some (.cells #[.bool true, .bool false, vo, .map (some mb), .int .i64 l.nx] 161 (0, 0))) (O6 : Owns w6 167 7 (.slice (some ⟨g7, 0, none⟩) (n + 1) cap6) (rows2 ys ++ [zrow])) (hn : (rows2 ys).length = n)
    (G6 : (w5.drew.alloc o).grownBy w6 vo.ownBlock) (V6 : (Value.slice (some ⟨g7, 0, none⟩) (n + 1) cap6).ownBlock = vo.ownBlock ∨ ∃ k, (Value.slice (some ⟨g7, 0, none⟩) (n + 1) cap6).ownBlock = some k ∧ (w5.drew.alloc o).heap.size ≤ k) (hbg : b ≠ g7) :
    LMid w5 ((put7 w6 g7 (n * 7) (.bool q.b) (.int .i64 q.n) (.string q.t) (.int .i64 x.k) (.int .i64 x.n) (.string x.t) (.slice co cm cc)).setCell ⟨b, 2, none⟩ (.slice (some ⟨g7, 0, none⟩) (n + 1) cap6)) b vo (.slice (some ⟨g7, 0, none⟩) (n + 1) cap6) mb l ys q x (.slice co cm cc) := by
  have hb7 := put7_mod (o := n * 7) (a0 := .bool q.b) (a1 := .int .i64 q.n) (a2 := .string q.t) (a3 := .int .i64 x.k) (a4 := .int .i64 x.n) (a5 := .string x.t) (a6 := .slice co cm cc) |>.blk B6 hbg
  refine ⟨by have := set_blk hb7 2 (.slice (some ⟨g7, 0, none⟩) (n + 1) cap6); simpa using this, ?_, ?_, mid_goes V6⟩
  · rw [rows2_snoc]
    have o7 := owns_put7 O6 hn (.bool q.b) (.int .i64 q.n) (.string q.t) (.int .i64 x.k) (.int .i64 x.n) (.string x.t) (.slice co cm cc) (by simp [Value.oneCell'])
    exact o7.kept fun g e => by
      have h3 : g7 = g := Option.some.inj e
      exact Below.heap_setCell _ _ _ _ (fun e2 => hbg (by rw [h3]; exact e2.symm))
  · exact ((mid_mod G6).trans' put7_mod (fun i hi e => .inr (by subst e; exact mid_g V6 hi))).setCell _ _ (fun _ => .inl rfl)
theorem mid_b {cm cc : Nat} {co : Option Addr} (B6 : w6.heap[b]? = some (.cells #[.bool true, .bool false, vo, .map (some mb), .int .i64 l.nx] 161 (0, 0))) (O6 : Owns w6 167 7 (.slice (some ⟨g7, 0, none⟩) (n + 1) cap6) (rows2 ys ++ [zrow])) (hn : (rows2 ys).length = n)
    (G6 : (w5.drew.alloc o).grownBy w6 vo.ownBlock) (V6 : (Value.slice (some ⟨g7, 0, none⟩) (n + 1) cap6).ownBlock = vo.ownBlock ∨ ∃ k, (Value.slice (some ⟨g7, 0, none⟩) (n + 1) cap6).ownBlock = some k ∧ (w5.drew.alloc o).heap.size ≤ k) (hbg : b ≠ g7) :
    LMid w5 (put7 (w6.setCell ⟨b, 2, none⟩ (.slice (some ⟨g7, 0, none⟩) (n + 1) cap6)) g7 (n * 7) (.bool q.b) (.int .i64 q.n) (.string q.t) (.int .i64 x.k) (.int .i64 x.n) (.string x.t) (.slice co cm cc)) b vo (.slice (some ⟨g7, 0, none⟩) (n + 1) cap6) mb l ys q x (.slice co cm cc) := by
  have hb7 : (w6.setCell ⟨b, 2, none⟩ (.slice (some ⟨g7, 0, none⟩) (n + 1) cap6)).heap[b]? = some (.cells #[.bool true, .bool false, .slice (some ⟨g7, 0, none⟩) (n + 1) cap6, .map (some mb), .int .i64 l.nx] 161 (0, 0)) := by have := set_blk B6 2 (.slice (some ⟨g7, 0, none⟩) (n + 1) cap6); simpa using this
  refine ⟨put7_mod.blk hb7 hbg, ?_, ?_, mid_goes V6⟩
  · rw [rows2_snoc]
    have o6 : Owns (w6.setCell ⟨b, 2, none⟩ (.slice (some ⟨g7, 0, none⟩) (n + 1) cap6)) 167 7 (.slice (some ⟨g7, 0, none⟩) (n + 1) cap6) (rows2 ys ++ [zrow]) := O6.kept fun g e => by
      have h3 : g7 = g := Option.some.inj e
      exact Below.heap_setCell _ _ _ _ (fun e2 => hbg (by rw [h3]; exact e2.symm))
    exact owns_put7 o6 hn (.bool q.b) (.int .i64 q.n) (.string q.t) (.int .i64 x.k) (.int .i64 x.n) (.string x.t) (.slice co cm cc) (by simp [Value.oneCell'])
  · exact ((mid_mod G6).setCell ⟨b, 2, none⟩ (.slice (some ⟨g7, 0, none⟩) (n + 1) cap6) (fun _ => .inl rfl)).trans' put7_mod (fun i hi e => .inr (by subst e; exact mid_g V6 hi))
end
/-- An item has come behind the others. -/
structure SEnd (w W : World) (b : Nat) (v v' : Value) (mb : Nat) (l : LS) (ys : List It2) (q : K) (x : VT) (c : Value) (nx : Int) (B : Nat) : Prop where
  blk : W.heap[b]? = some (.cells #[.bool true, .bool false, v', .map (some mb), .int .i64 nx] 161 (0, 0))
  own : Owns W 167 7 v' (rows2 (ys ++ [((q, x), c)]))
  map : mKI.Is W mb (placeF (l.xs ++ [(q, x)])) (l.xs.length + 1)
  key : W.heap[B]? = some (KB q.b q.n q.t)
  ne1 : v'.ownBlock ≠ some b
  ne2 : mb ≠ b
  ne3 : v'.ownBlock ≠ some mb
  nb : B ≠ b
  fst : ys.map (·.1) = l.xs
  val : ∀ y ∈ ys ++ [((q, x), c)], VT64 W y.2 y.1.2.xs
  mod : Mod (LFoot b v mb) w W
  goes : v'.ownBlock = v.ownBlock ∨ ∃ g, v'.ownBlock = some g ∧ w.heap.size ≤ g
section
variable {w W : World} {b : Nat} {v v' : Value} {mb : Nat} {l : LS} {ys : List It2} {q : K} {x : VT} {c : Value} {nx : Int} {B : Nat}
theorem SEnd.drewN (h : SEnd w W b v v' mb l ys q x c nx B) (n : Nat) : SEnd w (W.drewN n) b v v' mb l ys q x c nx B :=
  ⟨h.blk, h.own.kept (fun _ _ => rfl), h.map.kept rfl, h.key, h.ne1, h.ne2, h.ne3, h.nb, h.fst, fun y hy => VT64.under (h.val y hy) (belowN (Below.refl _ _) n), h.mod.drewN n, h.goes⟩
theorem SEnd.next (h : SEnd w W b v v' mb l ys q x c nx B) (y : Int) : SEnd w (W.setCell ⟨b, 4, none⟩ (.int .i64 y)) b v v' mb l ys q x c y B :=
  ⟨by have := set_blk h.blk 4 (.int .i64 y); simpa using this, h.own.kept (fun g e => Below.heap_setCell _ _ _ _ (fun c => h.ne1 (by rw [e, c]))), h.map.kept (Below.heap_setCell _ _ _ _ h.ne2), set_other h.key h.nb, h.ne1, h.ne2, h.ne3, h.nb, h.fst,
    fun z hz => VT64.mod (h.val z hz) ((Mod.refl (fun k => k = b) W).setCell _ _ (fun _ => rfl)) (fun g e ⟨cs, fr, hc⟩ => by subst e; rw [h.blk] at hc; cases hc), h.mod.setCell _ _ (fun _ => .inl rfl), h.goes⟩
theorem SEnd.done (h : SEnd w W b v v' mb l ys q x c nx B) (hq : q.Norm) (hl : l.Ok) (hf : findK q l.xs = none) (hlen : l.xs.length < 2048) (hn : nx = nextP q l.nx) :
    PutPost w b v mb (.int .i64 0) ⟨l.xs ++ [(q, x)], nextP q l.nx⟩ (ys ++ [((q, x), c)]) (.returned (.int .i64 0)) W := by
  subst hn
  have hok : (⟨l.xs ++ [(q, x)], nextP q l.nx⟩ : LS).Ok := by
    have h := setN_ok (v := x) hq hl
    unfold setN at h
    rw [hf, if_neg (by omega)] at h
    exact h
  exact ⟨rfl, v', ⟨h.blk, h.own, by have := h.map; simpa using this, h.ne1, h.ne2, h.ne3, hok, by rw [List.map_append, h.fst]; rfl, h.val⟩, h.mod, h.goes⟩
end
set_option maxRecDepth 100000 in
set_option maxHeartbeats 6400000 in
theorem set_new {b : Nat} {v : Value} {mb : Nat} {l : LS} {ys : List It2} {k : K} {x : VT} {co : Option Addr} {cm cc : Nat} (hk : k.Good) (hf : findK k.norm l.xs = none) (hl : l.xs.length < 2048) (w : World) (ht : Tabs w) (i : LIs w b v mb l ys) (hx : VT64 w (.slice co cm cc) x.xs) :
    Calls Tryz.prog 126 #[.pointer (some ⟨b, 0, none⟩), k.v, x.v (.slice co cm cc)] w (PutPost w b v mb (.int .i64 0) ⟨l.xs ++ [(k.norm, x)], nextP k.norm l.nx⟩ (ys ++ [((k.norm, x), .slice co cm cc)])) := by
  have hN := (K.norm_is hk).toGood
  have hNN := K.norm_is hk
  obtain ⟨q, hq⟩ : ∃ q, q = k.norm := ⟨_, rfl⟩
  have HN : ∀ w, Tabs w → Calls Tryz.prog 80 #[.agg #[.bool k.b, .int .i64 k.n, .string k.t]] w fun e w' => e = .returned (.agg #[.bool q.b, .int .i64 q.n, .string q.t]) ∧ Below w.heap.size w w' := fun w h => by rw [hq]; exact norm_any k hk w h
  rw [← hq] at hN hf hNN ⊢
  obtain ⟨ao, cap, hv, -⟩ := i.own.any
  rw [rows2_len, i.len] at hv
  subst hv
  have A0 : InT w ((w.alloc (KB k.b k.n k.t)).alloc (VB x (.slice co cm cc))) b _ mb l ys w.heap.size k x (.slice co cm cc) := ⟨ht, i.under (at2_start w _ _).below, (at2_start w _ _).a, (at2_start w _ _).b, VT64.under hx (at2_start w _ _).below, (at2_start w _ _).below⟩
  have c0 := (cells5 A0.lst.blk).1
  have HF := Lib.hid (⟨hN, hf, fun j h => i.lt (k := j) h⟩ : _ ∧ _ ∧ _)
  have HNN := Lib.hid (⟨hNN, i.ok⟩ : _ ∧ _)
  have hl' : decide (2048 ≤ (l.xs.length : Int)) = false := by simp; omega
  have AH := Lib.hid A0
  have HX0 := Lib.hid hx
  clear i ht hk hN hNN hf hq A0 hx
  unfold K.v VT.v
  go_enter Tryz.func126, Tryz.ntmps126
  go_wp2_with (go_at_call 128; refine (lok_any _ _ _ c0).mono ?_; rintro e w' ⟨rfl, rfl⟩)
  refine (HN _ AH.out.tabsW).mono ?_; rintro e w1 ⟨rfl, hb⟩; have A1 := Lib.hid (AH.out.mono hb); clear AH hb HN c0
  obtain ⟨f0, f1, f2⟩ := free3 A1.out.key
  obtain ⟨a0, a1, a2⟩ := cells3 A1.out.key
  have A2 := A1.out.store (Nat.le_refl _) HF.out.2.2 q
  go_wp2_with fail
  clear f0 f1 f2 a0 a1 a2
  have A3 := Lib.hid (A2.mono (belowD (Below.refl _ _)))
  have HS0 := Lib.hid (A3.out.sn HF.out.1 HF.out.2.1)
  go_region_held3 (fun W => W.cell? ⟨b, 3, none⟩ = some (.map (some mb)) ∧ W.cell? ⟨w.heap.size, 0, none⟩ = some (.bool q.b) ∧ W.cell? ⟨w.heap.size, 1, none⟩ = some (.int .i64 q.n) ∧ W.cell? ⟨w.heap.size, 2, none⟩ = some (.string q.t) ∧ (Instr.lookup 158 (.map (some mb)) (.agg #[.bool q.b, .int .i64 q.n, .string q.t]) true).run Tryz.prog W = .ok (.tuple #[.int .i64 0, .bool false]) W)
    (first
      | exact HS0.out)
    (fail)
  generalize hW3 : World.drew _ = W3 at A3 HS0 ⊢
  clear hW3 A1 A2 HS0
  rename_i hHeld
  clear hHeld
  obtain ⟨c0, c1, c2, c3, c4⟩ := cells5 A3.out.lst.blk
  go_wp2_with fail
  refine (own_free _ A3.out.lst).mono ?_; rintro e w4 ⟨rfl, rfl⟩
  have gb : ∀ j, LFoot b (.slice ao l.xs.length cap) mb j → j < w.heap.size := HF.out.2.2
  obtain ⟨w5, hup, map5, gr5⟩ := (A3.out.lst.under (belowD (Below.refl _ W3))).map.put (x := q) (by unfold maxLen; omega) HF.out.1 (a := (l.xs.length : Int)) ⟨by omega, by omega⟩
  have hnone : (placeF l.xs q).isSome = false := by unfold placeF; rw [HF.out.2.1]; rfl
  rw [if_neg (by rw [hnone]; decide)] at map5
  have hup' : (Instr.mapUpdate 158 (.map (some mb)) (.agg #[.bool q.b, .int .i64 q.n, .string q.t]) (.int .i64 l.xs.length)).run Tryz.prog W3.drew = .ok () w5 := hup
  have gr5' : ∀ j, j < W3.heap.size → j ≠ mb → w5.heap[j]? = W3.heap[j]? := fun j h1 h2 => gr5.block j h1 (fun e => h2 (Option.some.inj e))
  have b5 : w5.heap[b]? = some (.cells #[.bool true, .bool false, .slice ao l.xs.length cap, .map (some mb), .int .i64 l.nx] 161 (0, 0)) := (gr5' b (lt_of_block A3.out.lst.blk) (fun e => A3.out.lst.ne2 e.symm)).trans A3.out.lst.blk
  have k5 : w5.heap[w.heap.size]? = some (KB q.b q.n q.t) := (gr5' _ (lt_of_block A3.out.key) (fun e => by have := gb mb (.inr (.inr rfl)); omega)).trans A3.out.key
  have x5 : w5.heap[w.heap.size + 1]? = some (VB x (.slice co cm cc)) := (gr5' _ (lt_of_block A3.out.val) (fun e => by have := gb mb (.inr (.inr rfl)); omega)).trans A3.out.val
  have o5 : Owns w5 167 7 (.slice ao l.xs.length cap) (rows2 ys) := A3.out.lst.own.kept fun g e => gr5' g (A3.out.lst.own.lt e) (fun e2 => A3.out.lst.ne3 (by rw [e, e2]))
  have HS4 : Hid (W3.drew.cell? ⟨b, 2, none⟩ = some (.slice ao l.xs.length cap) ∧ W3.drew.cell? ⟨b, 3, none⟩ = some (.map (some mb)) ∧ W3.drew.cell? ⟨w.heap.size, 0, none⟩ = some (.bool q.b) ∧ W3.drew.cell? ⟨w.heap.size, 1, none⟩ = some (.int .i64 q.n) ∧ W3.drew.cell? ⟨w.heap.size, 2, none⟩ = some (.string q.t)) :=
    Lib.hid ⟨c2, c3, (cells3 A3.out.key).1, (cells3 A3.out.key).2.1, (cells3 A3.out.key).2.2⟩
  have HS5 : Hid (w5.cell? ⟨b, 2, none⟩ = some (.slice ao l.xs.length cap) ∧ w5.cell? ⟨b, 3, none⟩ = some (.map (some mb)) ∧ w5.cell? ⟨w.heap.size, 0, none⟩ = some (.bool q.b) ∧ w5.cell? ⟨w.heap.size, 1, none⟩ = some (.int .i64 q.n) ∧ w5.cell? ⟨w.heap.size, 2, none⟩ = some (.string q.t)) :=
    Lib.hid ⟨(cells5 b5).2.2.1, (cells5 b5).2.2.2.1, (cells3 k5).1, (cells3 k5).2.1, (cells3 k5).2.2⟩
  have H4 := Lib.hid (⟨map5, gr5, gr5'⟩ : _ ∧ _ ∧ _)
  have H5 := Lib.hid (⟨b5, k5, x5, o5⟩ : _ ∧ _ ∧ _ ∧ _)
  have GB := Lib.hid gb
  clear map5 gr5 gr5' hup hnone b5 k5 x5 o5 c0 c1 c2 c3 c4 gb
  go_wp2_with fail
  go_region_held3 (fun W => W.cell? ⟨b, 2, none⟩ = some (.slice ao l.xs.length cap) ∧ W.cell? ⟨b, 3, none⟩ = some (.map (some mb)) ∧ W.cell? ⟨w.heap.size, 0, none⟩ = some (.bool q.b) ∧ W.cell? ⟨w.heap.size, 1, none⟩ = some (.int .i64 q.n) ∧ W.cell? ⟨w.heap.size, 2, none⟩ = some (.string q.t))
    (first
      | exact HS4.out
      | exact HS5.out)
    (fail)
  obtain ⟨b5, k5, x5, o5⟩ := H5.out
  have hO : ∀ (o : Obj), Hid (Owns (w5.drew.alloc o) 167 7 (.slice ao l.xs.length cap) (rows2 ys)) := fun o => o5.kept fun g e => Below.heap_alloc _ _ _ (o5.lt e)
  have hL : Hid (Lies (w5.drew.alloc (.cells #[.bool false, .int .i64 0, .string ⟨#[]⟩, .int .i64 0, .int .i64 0, .string ⟨#[]⟩, .slice none 0 0] 167)) 7 (some ⟨w5.heap.size, 0, none⟩) [zrow]) := lies_new w5.drew zrow 167 rfl
  have hyl := A3.out.lst.len
  have hR1 : Hid ((rows2 ys).length + [zrow].length ≤ maxLen) := by show _ ≤ _; rw [rows2_len, hyl]; unfold maxLen; simp; omega
  have hR2 : Hid (((rows2 ys).length + [zrow].length) * 88 ≤ 140737488355328) := by show _ ≤ _; rw [rows2_len, hyl]; simp; omega
  have hR3 : Hid ((rows2 ys ++ [zrow]).length = l.xs.length + 1) := by show _ = _; rw [List.length_append, rows2_len, hyl]; rfl
  have hR4 : Hid ((rows2 ys).length = l.xs.length) := by show _ = _; rw [rows2_len, hyl]
  have hB : ∀ (o : Obj), Hid ((w5.drew.alloc o).heap[b]? = some (.cells #[.bool true, .bool false, .slice ao l.xs.length cap, .map (some mb), .int .i64 l.nx] 161 (0, 0)) ∧ b < (w5.drew.alloc o).heap.size) := fun o => ⟨alloc_blk (w := w5.drew) b5 o, by have := lt_of_block b5; simp; omega⟩
  have hN1 : Hid ((some b : Option Nat) ≠ (Value.slice ao l.xs.length cap).ownBlock) := fun e => A3.out.lst.ne1 e.symm
  have hb5 := lt_of_block b5
  have hk5 := lt_of_block k5
  have hx5 := lt_of_block x5
  have hi6 : (l.xs.length : Int) < (l.xs.length : Int) + 1 := by omega
  have hi7 : (0 : Int) ≤ (l.xs.length : Int) := by omega
  obtain ⟨c0, c1, c2, c3, c4⟩ := cells5 b5
  obtain ⟨a0, a1, a2⟩ := cells3 k5
  obtain ⟨x0, x1, x2, x3⟩ := vb_cells x5
  have hXA : ∀ (o : Obj), (w5.drew.alloc o).heap[w.heap.size]? = some (KB q.b q.n q.t) ∧ (w5.drew.alloc o).heap[w.heap.size + 1]? = some (VB x (.slice co cm cc)) := fun o => ⟨alloc_blk (w := w5.drew) k5 o, alloc_blk (w := w5.drew) x5 o⟩
  have hXX : ∀ w6, (w5.drew.alloc (.cells #[.bool false, .int .i64 0, .string ⟨#[]⟩, .int .i64 0, .int .i64 0, .string ⟨#[]⟩, .slice none 0 0] 167)).grownBy w6 (Value.slice ao l.xs.length cap).ownBlock → SQ w.heap.size q x (.slice co cm cc) w6 := fun w6 g6 => SQ.grown (hXA _) g6 (fun e => by have := GB.out w.heap.size (.inr (.inl e.symm)); omega) (fun e => by have := GB.out (w.heap.size + 1) (.inr (.inl e.symm)); omega)
  have hnb : Hid (b ≠ w.heap.size ∧ b ≠ w.heap.size + 1) := Lib.hid (by have := GB.out b (.inl rfl); omega)
  clear b5 k5 x5 o5 hup' c0 c1 c3 c4 hyl
  go_upto_region 12 with fail
  go_cut [7] from 54 to 66 (fun s wx => s = .int .i64 0 ∧ Hid (∃ g7 cap6, LMid w5 wx b (.slice ao l.xs.length cap) (.slice (some ⟨g7, 0, none⟩) (l.xs.length + 1) cap6) mb l ys q x (.slice co cm cc) ∧ wx.heap[w.heap.size]? = some (KB q.b q.n q.t)))
  case first =>
    refine wp_region_noPanic ?_
    refine wp_region_held_drew (S := (fun W => W.heap[w.heap.size]? = some (KB q.b q.n q.t) ∧ W.heap[w.heap.size + 1]? = some (VB x (.slice co cm cc)))) (by kernel_rfl) (by exact ⟨H5.out.2.1, H5.out.2.2.1⟩) (fun hHeld => ?_)
    refine wpAnyH_take (i := 0) (oi := ?oz1_) (v := ?vz1_) ?hiz1_ (by kernel_rfl) (by kernel_rfl) (by kernel_rfl) (fun _ _ _ h => h) ?hyz1_ (by assumption) ?restz1_
    case hiz1_ => simp only [gA, gZ]; rfl
    case hyz1_ =>
      refine Or.inl ⟨by rfl, ?_⟩
      intro w hSw; obtain ⟨u0, u1, u2⟩ := cells3 hSw.1; obtain ⟨t0, t1, t2, t3⟩ := vb_cells hSw.2; go_simp <;> (with_reducible rfl)
    (try simp only [Act.put, pA, pZ, pS])
    refine wpAnyH_take (i := 1) (oi := ?oz2_) (v := ?vz2_) ?hiz2_ (by kernel_rfl) (by kernel_rfl) (by kernel_rfl) (fun _ _ _ h => h) ?hyz2_ (by assumption) ?restz2_
    case hiz2_ => simp only [gA, gS, gZ]; rfl
    case hyz2_ =>
      refine Or.inl ⟨by rfl, ?_⟩
      intro w hSw; obtain ⟨u0, u1, u2⟩ := cells3 hSw.1; obtain ⟨t0, t1, t2, t3⟩ := vb_cells hSw.2; go_simp <;> (with_reducible rfl)
    (try simp only [Act.put, pA, pZ, pS])
    refine wpAnyH_take (i := 2) (oi := ?oz3_) (v := ?vz3_) ?hiz3_ (by kernel_rfl) (by kernel_rfl) (by kernel_rfl) (fun _ _ _ h => h) ?hyz3_ (by assumption) ?restz3_
    case hiz3_ => simp only [gA, gS, gZ]; rfl
    case hyz3_ =>
      refine Or.inl ⟨by rfl, ?_⟩
      intro w hSw; obtain ⟨u0, u1, u2⟩ := cells3 hSw.1; obtain ⟨t0, t1, t2, t3⟩ := vb_cells hSw.2; go_simp <;> (with_reducible rfl)
    (try simp only [Act.put, pA, pZ, pS])
    refine wpAnyH_take (i := 4) (oi := ?oz4_) (v := ?vz4_) ?hiz4_ (by kernel_rfl) (by kernel_rfl) (by kernel_rfl) (fun _ _ _ h => h) ?hyz4_ (by assumption) ?restz4_
    case hiz4_ => simp only [gA, gS, gZ]; rfl
    case hyz4_ =>
      refine Or.inl ⟨by rfl, ?_⟩
      intro w hSw; obtain ⟨u0, u1, u2⟩ := cells3 hSw.1; obtain ⟨t0, t1, t2, t3⟩ := vb_cells hSw.2; go_simp <;> (with_reducible rfl)
    (try simp only [Act.put, pA, pZ, pS])
    refine wpAnyH_take (i := 5) (oi := ?oz5_) (v := ?vz5_) ?hiz5_ (by kernel_rfl) (by kernel_rfl) (by kernel_rfl) (fun _ _ _ h => h) ?hyz5_ (by assumption) ?restz5_
    case hiz5_ => simp only [gA, gS, gZ]; rfl
    case hyz5_ =>
      refine Or.inl ⟨by rfl, ?_⟩
      intro w hSw; obtain ⟨u0, u1, u2⟩ := cells3 hSw.1; obtain ⟨t0, t1, t2, t3⟩ := vb_cells hSw.2; go_simp <;> (with_reducible rfl)
    (try simp only [Act.put, pA, pZ, pS])
    refine wpAnyH_take (i := 6) (oi := ?oz6_) (v := ?vz6_) ?hiz6_ (by kernel_rfl) (by kernel_rfl) (by kernel_rfl) (fun _ _ _ h => h) ?hyz6_ (by assumption) ?restz6_
    case hiz6_ => simp only [gA, gS, gZ]; rfl
    case hyz6_ =>
      refine Or.inl ⟨by rfl, ?_⟩
      intro w hSw; obtain ⟨u0, u1, u2⟩ := cells3 hSw.1; obtain ⟨t0, t1, t2, t3⟩ := vb_cells hSw.2; go_simp <;> (with_reducible rfl)
    (try simp only [Act.put, pA, pZ, pS])
    refine wpAnyH_ready (rs := [3, 8]) (by kernel_rfl) (by simp) ?_
    refine AllReadyH.cons rfl (fun K hK => ?_) (AllReadyH.cons rfl (fun K hK => ?_) AllReadyH.nil)
    · go_simp
      refine hK.out _ _ hHeld (fun hHeld3 => ?_)
      clear hK K
      (try simp only [Act.put, pA, pZ, pS])
      refine wpAnyH_take (i := 7) (oi := ?oz7_) (v := ?vz7_) ?hiz7_ (by kernel_rfl) (by kernel_rfl) (by kernel_rfl) (fun _ _ _ h => h) ?hyz7_ (by assumption) ?restz7_
      case hiz7_ => simp only [gA, gS, gZ]; rfl
      case hyz7_ =>
        refine Or.inl ⟨by rfl, ?_⟩
        intro w hSw; obtain ⟨u0, u1, u2⟩ := cells3 hSw.1; obtain ⟨t0, t1, t2, t3⟩ := vb_cells hSw.2; go_simp <;> (with_reducible rfl)
      (try simp only [Act.put, pA, pZ, pS])
      refine wpAnyH_ready (rs := [8]) (by kernel_rfl) (by simp) ?_
      refine AllReadyH.cons rfl (fun K hK => ?_) AllReadyH.nil
      go_simp
      refine hK.out _ _ (hXA _) (fun hHeld8 => ?_)
      clear hK K
      (try simp only [Act.put, pA, pZ, pS])
      refine wpAnyH_ready (rs := [9]) (by kernel_rfl) (by simp) ?_
      refine AllReadyH.cons rfl (fun K hK => ?_) AllReadyH.nil
      refine step_append_rows rfl (.tmp 57) (.tmp 62) 159 rfl 167 _ 7 88 Tryz.underlying159 info167 rfl (by decide) (.slice ao l.xs.length cap) (rows2 ys) (by simp [Act.eval]) (hO _).out (some ⟨w5.heap.size, 0, none⟩) 1 1 [zrow] (by simp [Act.eval]) rfl (fun e => by cases e) hL.out (by simp [Value.oneCell']) (by simp) hR1.out hR2.out ?_
      intro v6 w6 o6 g6 b6
      obtain ⟨g7, cap6, hv6, -, -, -⟩ := o6.addr (by simp)
      rw [hR3.out] at hv6; subst hv6
      have hbg : b ≠ g7 := fun e => by
        rcases b6 with h | ⟨k, h, hk⟩
        · exact hN1.out (by rw [← h, e]; rfl)
        · have h3 : g7 = k := Option.some.inj h
          simp at hk
          omega
      have hgb : g7 ≠ b := fun e => hbg e.symm
      have n7 : g7 ≠ w.heap.size ∧ g7 ≠ w.heap.size + 1 := by
        rcases b6 with h | ⟨k, h, hk⟩
        · have h2 := GB.out g7 (.inr (.inl h.symm))
          omega
        · have h3 : g7 = k := Option.some.inj h
          simp at hk
          omega
      have S6 := hXX w6 g6
      have B6 := Lib.hid ((g6.block b (hB _).out.2 hN1.out).trans (hB _).out.1)
      have z2 := cell_blk B6.out 2; have ff := free_blk B6.out 2; simp at z2
      have p0 : w6.cell? ⟨g7, l.xs.length * 7, none⟩ = some (.bool false) := owns_last o6 hR4.out 0 _ rfl
      have p1 := owns_last o6 hR4.out 1 _ rfl
      have p2 := owns_last o6 hR4.out 2 _ rfl
      have p3 := owns_last o6 hR4.out 3 _ rfl
      have p4 := owns_last o6 hR4.out 4 _ rfl
      have p5 := owns_last o6 hR4.out 5 _ rfl
      have p6 := owns_last o6 hR4.out 6 _ rfl
      have q0 := o6.free (g := g7) rfl (l.xs.length * 7)
      have q1 := o6.free (g := g7) rfl (l.xs.length * 7 + 1)
      have q2 := o6.free (g := g7) rfl (l.xs.length * 7 + 2)
      have q3 := o6.free (g := g7) rfl (l.xs.length * 7 + 3)
      have q4 := o6.free (g := g7) rfl (l.xs.length * 7 + 4)
      have q5 := o6.free (g := g7) rfl (l.xs.length * 7 + 5)
      have q6 := o6.free (g := g7) rfl (l.xs.length * 7 + 6)
      have O6 := Lib.hid o6; have G6 := Lib.hid g6; have V6 := Lib.hid b6; clear o6 g6 b6
      refine hK.out _ _ S6 (fun hHeld9 => ?_)
      clear hK K
      (try simp only [Act.put, pA])
      refine wpAnyH_take (i := 10) (oi := ?oz8_) (v := ?vz8_) ?hiz8_ (by kernel_rfl) (by kernel_rfl) (by kernel_rfl) (fun _ _ _ h => h) ?hyz8_ (by assumption) ?restz8_
      case hiz8_ => simp only [gA, gS, gZ]; rfl
      case hyz8_ =>
        refine Or.inl ⟨by rfl, ?_⟩
        intro w hSw; obtain ⟨u0, u1, u2⟩ := cells3 hSw.1; obtain ⟨t0, t1, t2, t3⟩ := vb_cells hSw.2; go_simp <;> (with_reducible rfl)
      (try simp only [Act.put])
      refine wpAnyH_take (i := 12) (oi := ?oz9_) (v := ?vz9_) ?hiz9_ (by kernel_rfl) (by kernel_rfl) (by kernel_rfl) (fun _ _ _ h => h) ?hyz9_ (by assumption) ?restz9_
      case hiz9_ => simp only [gA, gS, gZ]; rfl
      case hyz9_ =>
        refine Or.inl ⟨by rfl, ?_⟩
        intro w hSw; obtain ⟨u0, u1, u2⟩ := cells3 hSw.1; obtain ⟨t0, t1, t2, t3⟩ := vb_cells hSw.2; go_simp <;> (with_reducible rfl)
      (try simp only [Act.put])
      refine wpAnyH_take (i := 13) (oi := ?oz10_) (v := ?vz10_) ?hiz10_ (by kernel_rfl) (by kernel_rfl) (by kernel_rfl) (fun _ _ _ h => h) ?hyz10_ (by assumption) ?restz10_
      case hiz10_ => simp only [gA, gS, gZ]; rfl
      case hyz10_ =>
        refine Or.inl ⟨by rfl, ?_⟩
        intro w hSw; obtain ⟨u0, u1, u2⟩ := cells3 hSw.1; obtain ⟨t0, t1, t2, t3⟩ := vb_cells hSw.2; go_simp <;> (with_reducible rfl)
      (try simp only [Act.put])
      refine wpAnyH_ready (rs := [11, 14]) (by kernel_rfl) (by simp) ?_
      refine AllReadyH.cons rfl (fun K hK => ?_) (AllReadyH.cons rfl (fun K hK => ?_) AllReadyH.nil)
      · go_simp
        refine hK.out _ _ (S6.put7 n7.1 n7.2) (fun hHeld11 => ?_)
        clear hK K
        (try simp only [Act.put, pA, pZ, pS])
        refine wpAnyH_ready (rs := [14]) (by kernel_rfl) (by simp) ?_
        refine AllReadyH.cons rfl (fun K hK => ?_) AllReadyH.nil
        go_simp
        refine hK.out _ _ ((S6.put7 n7.1 n7.2).set2 hnb.out.1 hnb.out.2) (fun hHeld14 => ?_)
        clear hK K
        (try simp only [Act.put, pA, pZ, pS])
        refine wpAnyH_done (by kernel_rfl) ?_ _
        refine NoPanic.normal ?_
        go_wp2_with fail
        go_meet
        exact ⟨rfl, Lib.hid ⟨g7, cap6, mid_a B6.out O6.out hR4.out G6.out V6.out hbg, ((S6.put7 n7.1 n7.2).set2 hnb.out.1 hnb.out.2).1⟩⟩
      · go_simp
        refine hK.out _ _ (S6.set2 hnb.out.1 hnb.out.2) (fun hHeld14 => ?_)
        clear hK K
        (try simp only [Act.put, pA, pZ, pS])
        refine wpAnyH_ready (rs := [11]) (by kernel_rfl) (by simp) ?_
        refine AllReadyH.cons rfl (fun K hK => ?_) AllReadyH.nil
        go_simp
        refine hK.out _ _ ((S6.set2 hnb.out.1 hnb.out.2).put7 n7.1 n7.2) (fun hHeld11 => ?_)
        clear hK K
        (try simp only [Act.put, pA, pZ, pS])
        refine wpAnyH_done (by kernel_rfl) ?_ _
        refine NoPanic.normal ?_
        go_wp2_with fail
        go_meet
        exact ⟨rfl, Lib.hid ⟨g7, cap6, mid_b B6.out O6.out hR4.out G6.out V6.out hbg, ((S6.set2 hnb.out.1 hnb.out.2).put7 n7.1 n7.2).1⟩⟩
    · go_simp
      refine hK.out _ _ (hXA _) (fun hHeld8 => ?_)
      clear hK K
      (try simp only [Act.put, pA, pZ, pS])
      refine wpAnyH_ready (rs := [3]) (by kernel_rfl) (by simp) ?_
      refine AllReadyH.cons rfl (fun K hK => ?_) AllReadyH.nil
      go_simp
      refine hK.out _ _ (hXA _) (fun hHeld3 => ?_)
      clear hK K
      (try simp only [Act.put, pA, pZ, pS])
      refine wpAnyH_take (i := 7) (oi := ?oz11_) (v := ?vz11_) ?hiz11_ (by kernel_rfl) (by kernel_rfl) (by kernel_rfl) (fun _ _ _ h => h) ?hyz11_ (by assumption) ?restz11_
      case hiz11_ => simp only [gA, gS, gZ]; rfl
      case hyz11_ =>
        refine Or.inl ⟨by rfl, ?_⟩
        intro w hSw; obtain ⟨u0, u1, u2⟩ := cells3 hSw.1; obtain ⟨t0, t1, t2, t3⟩ := vb_cells hSw.2; go_simp <;> (with_reducible rfl)
      (try simp only [Act.put, pA, pZ, pS])
      refine wpAnyH_ready (rs := [9]) (by kernel_rfl) (by simp) ?_
      refine AllReadyH.cons rfl (fun K hK => ?_) AllReadyH.nil
      refine step_append_rows rfl (.tmp 57) (.tmp 62) 159 rfl 167 _ 7 88 Tryz.underlying159 info167 rfl (by decide) (.slice ao l.xs.length cap) (rows2 ys) (by simp [Act.eval]) (hO _).out (some ⟨w5.heap.size, 0, none⟩) 1 1 [zrow] (by simp [Act.eval]) rfl (fun e => by cases e) hL.out (by simp [Value.oneCell']) (by simp) hR1.out hR2.out ?_
      intro v6 w6 o6 g6 b6
      obtain ⟨g7, cap6, hv6, -, -, -⟩ := o6.addr (by simp)
      rw [hR3.out] at hv6; subst hv6
      have hbg : b ≠ g7 := fun e => by
        rcases b6 with h | ⟨k, h, hk⟩
        · exact hN1.out (by rw [← h, e]; rfl)
        · have h3 : g7 = k := Option.some.inj h
          simp at hk
          omega
      have hgb : g7 ≠ b := fun e => hbg e.symm
      have n7 : g7 ≠ w.heap.size ∧ g7 ≠ w.heap.size + 1 := by
        rcases b6 with h | ⟨k, h, hk⟩
        · have h2 := GB.out g7 (.inr (.inl h.symm))
          omega
        · have h3 : g7 = k := Option.some.inj h
          simp at hk
          omega
      have S6 := hXX w6 g6
      have B6 := Lib.hid ((g6.block b (hB _).out.2 hN1.out).trans (hB _).out.1)
      have z2 := cell_blk B6.out 2; have ff := free_blk B6.out 2; simp at z2
      have p0 : w6.cell? ⟨g7, l.xs.length * 7, none⟩ = some (.bool false) := owns_last o6 hR4.out 0 _ rfl
      have p1 := owns_last o6 hR4.out 1 _ rfl
      have p2 := owns_last o6 hR4.out 2 _ rfl
      have p3 := owns_last o6 hR4.out 3 _ rfl
      have p4 := owns_last o6 hR4.out 4 _ rfl
      have p5 := owns_last o6 hR4.out 5 _ rfl
      have p6 := owns_last o6 hR4.out 6 _ rfl
      have q0 := o6.free (g := g7) rfl (l.xs.length * 7)
      have q1 := o6.free (g := g7) rfl (l.xs.length * 7 + 1)
      have q2 := o6.free (g := g7) rfl (l.xs.length * 7 + 2)
      have q3 := o6.free (g := g7) rfl (l.xs.length * 7 + 3)
      have q4 := o6.free (g := g7) rfl (l.xs.length * 7 + 4)
      have q5 := o6.free (g := g7) rfl (l.xs.length * 7 + 5)
      have q6 := o6.free (g := g7) rfl (l.xs.length * 7 + 6)
      have O6 := Lib.hid o6; have G6 := Lib.hid g6; have V6 := Lib.hid b6; clear o6 g6 b6
      refine hK.out _ _ S6 (fun hHeld9 => ?_)
      clear hK K
      (try simp only [Act.put, pA])
      refine wpAnyH_take (i := 10) (oi := ?oz12_) (v := ?vz12_) ?hiz12_ (by kernel_rfl) (by kernel_rfl) (by kernel_rfl) (fun _ _ _ h => h) ?hyz12_ (by assumption) ?restz12_
      case hiz12_ => simp only [gA, gS, gZ]; rfl
      case hyz12_ =>
        refine Or.inl ⟨by rfl, ?_⟩
        intro w hSw; obtain ⟨u0, u1, u2⟩ := cells3 hSw.1; obtain ⟨t0, t1, t2, t3⟩ := vb_cells hSw.2; go_simp <;> (with_reducible rfl)
      (try simp only [Act.put])
      refine wpAnyH_take (i := 12) (oi := ?oz13_) (v := ?vz13_) ?hiz13_ (by kernel_rfl) (by kernel_rfl) (by kernel_rfl) (fun _ _ _ h => h) ?hyz13_ (by assumption) ?restz13_
      case hiz13_ => simp only [gA, gS, gZ]; rfl
      case hyz13_ =>
        refine Or.inl ⟨by rfl, ?_⟩
        intro w hSw; obtain ⟨u0, u1, u2⟩ := cells3 hSw.1; obtain ⟨t0, t1, t2, t3⟩ := vb_cells hSw.2; go_simp <;> (with_reducible rfl)
      (try simp only [Act.put])
      refine wpAnyH_take (i := 13) (oi := ?oz14_) (v := ?vz14_) ?hiz14_ (by kernel_rfl) (by kernel_rfl) (by kernel_rfl) (fun _ _ _ h => h) ?hyz14_ (by assumption) ?restz14_
      case hiz14_ => simp only [gA, gS, gZ]; rfl
      case hyz14_ =>
        refine Or.inl ⟨by rfl, ?_⟩
        intro w hSw; obtain ⟨u0, u1, u2⟩ := cells3 hSw.1; obtain ⟨t0, t1, t2, t3⟩ := vb_cells hSw.2; go_simp <;> (with_reducible rfl)
      (try simp only [Act.put])
      refine wpAnyH_ready (rs := [11, 14]) (by kernel_rfl) (by simp) ?_
      refine AllReadyH.cons rfl (fun K hK => ?_) (AllReadyH.cons rfl (fun K hK => ?_) AllReadyH.nil)
      · go_simp
        refine hK.out _ _ (S6.put7 n7.1 n7.2) (fun hHeld11 => ?_)
        clear hK K
        (try simp only [Act.put, pA, pZ, pS])
        refine wpAnyH_ready (rs := [14]) (by kernel_rfl) (by simp) ?_
        refine AllReadyH.cons rfl (fun K hK => ?_) AllReadyH.nil
        go_simp
        refine hK.out _ _ ((S6.put7 n7.1 n7.2).set2 hnb.out.1 hnb.out.2) (fun hHeld14 => ?_)
        clear hK K
        (try simp only [Act.put, pA, pZ, pS])
        refine wpAnyH_done (by kernel_rfl) ?_ _
        refine NoPanic.normal ?_
        go_wp2_with fail
        go_meet
        exact ⟨rfl, Lib.hid ⟨g7, cap6, mid_a B6.out O6.out hR4.out G6.out V6.out hbg, ((S6.put7 n7.1 n7.2).set2 hnb.out.1 hnb.out.2).1⟩⟩
      · go_simp
        refine hK.out _ _ (S6.set2 hnb.out.1 hnb.out.2) (fun hHeld14 => ?_)
        clear hK K
        (try simp only [Act.put, pA, pZ, pS])
        refine wpAnyH_ready (rs := [11]) (by kernel_rfl) (by simp) ?_
        refine AllReadyH.cons rfl (fun K hK => ?_) AllReadyH.nil
        go_simp
        refine hK.out _ _ ((S6.set2 hnb.out.1 hnb.out.2).put7 n7.1 n7.2) (fun hHeld11 => ?_)
        clear hK K
        (try simp only [Act.put, pA, pZ, pS])
        refine wpAnyH_done (by kernel_rfl) ?_ _
        refine NoPanic.normal ?_
        go_wp2_with fail
        go_meet
        exact ⟨rfl, Lib.hid ⟨g7, cap6, mid_b B6.out O6.out hR4.out G6.out V6.out hbg, ((S6.set2 hnb.out.1 hnb.out.2).put7 n7.1 n7.2).1⟩⟩
  case rest =>
    obtain ⟨rfl, HM⟩ := hcut
    obtain ⟨g7, cap6, hm, hkB⟩ := HM.out
    have P7 : SEnd w wc b (.slice ao l.xs.length cap) (.slice (some ⟨g7, 0, none⟩) (l.xs.length + 1) cap6) mb l ys q x (.slice co cm cc) l.nx w.heap.size := by
      obtain ⟨map5, gr5, gr5'⟩ := H4.out
      have L3 := A3.out.lst
      have hz3 := A3.out.below.size
      have hz5 : W3.heap.size ≤ w5.heap.size := gr5.size
      have n64 : ∀ k, LFoot b (.slice ao l.xs.length cap) mb k → ¬ B64 W3 k := fun k hk => L3.no64 hk
      have m35 : Mod (LFoot b (.slice ao l.xs.length cap) mb) W3 w5 := ((Mod.refl _ W3).drew).grown gr5 (fun k e _ => .inr (.inr (Option.some.inj e).symm))
      have m3 : Mod (LFoot b (.slice ao l.xs.length cap) mb) W3 wc := m35.trans (hm.mod.mono (fun k _ e => e.imp id (fun e => .inl e)))
      have hbm : ∀ k, k = b ∨ (Value.slice ao l.xs.length cap).ownBlock = some k → k ≠ mb := fun k hk e => by
        rcases hk with hk | hk
        · exact L3.ne2 (by rw [← e, hk])
        · exact L3.ne3 (by rw [hk, e])
      refine ⟨hm.blk, hm.own, ?_, hkB, ?_, L3.ne2, ?_, by have := hnb.out; omega, L3.fst, ?_, (Mod.of_below A3.out.below).trans m3, ?_⟩
      · rw [placeF_snoc HF.out.2.1]
        exact map5.mod hm.mod (fun e => hbm mb e rfl)
      · rcases hm.goes with h | ⟨g, h, hg⟩
        · rw [h]; exact L3.ne1
        · rw [h]; intro e; have := lt_of_block L3.blk; have h2 := Option.some.inj e; omega
      · rcases hm.goes with h | ⟨g, h, hg⟩
        · rw [h]; exact L3.ne3
        · rw [h]; intro e; have := L3.map.lt; have h2 := Option.some.inj e; omega
      · intro y hy
        rcases List.mem_append.1 hy with h | h
        · exact VT64.mod (L3.val y h) m3 n64
        · rw [List.mem_singleton.1 h]
          exact VT64.mod A3.out.vat m3 n64
      · rcases hm.goes with h | ⟨g, h, hg⟩
        · exact .inl h
        · exact .inr ⟨g, h, by omega⟩
    obtain ⟨d0, d1, d2, d3, d4⟩ := cells5 P7.blk
    obtain ⟨y0, y1, y2⟩ := cells3 P7.key
    have ff4 := free_blk P7.blk 4
    have P := Lib.hid P7
    clear P7 hm hkB HM hO hL hR1 hR2 hR3 hR4 hB hN1 hb5 hk5 hx5 hi6 hi7 c2 a0 a1 a2 x0 x1 x2 x3 hXA hXX
    by_cases hqb : q.b = true
    · have hn : Hid (l.nx = nextP q l.nx) := by show _ = _; unfold nextP; rw [if_neg (by rw [hqb]; simp)]
      go_wp2_with fail
      go_quiet (fail)
      go_wp2_with fail
      go_ret
      exact (P.out.drewN _).done HNN.out.1 HNN.out.2 HF.out.2.1 hl hn.out
    · have hqb' : q.b = false := by cases h : q.b with | true => exact absurd h hqb | false => rfl
      clear hqb
      by_cases h0 : 0 ≤ l.nx
      · by_cases h1 : l.nx ≤ q.n
        · by_cases h2 : q.n = 9223372036854775807
          · have hn : Hid (-1 = nextP q l.nx) := by show _ = _; unfold nextP; rw [if_pos ⟨hqb', h0, h1⟩, if_pos h2]
            have hw : IntKind.i64.wrap (q.n + 1) = -9223372036854775808 := by rw [h2]; decide
            have hw' : wrap64 (q.n + 1) = -9223372036854775808 := by rw [h2]; unfold wrap64; omega
            have HX := Lib.hid h2
            clear h2
            go_wp2_with fail
            go_quiet (fail)
            go_wp2_with fail
            go_ret
            exact (((P.out.drewN _).next _).next _).done HNN.out.1 HNN.out.2 HF.out.2.1 hl hn.out
          · have hn : Hid (q.n + 1 = nextP q l.nx) := by show _ = _; unfold nextP; rw [if_pos ⟨hqb', h0, h1⟩, if_neg h2]
            have hqhi := HF.out.1.hi
            have hw : IntKind.i64.wrap (q.n + 1) = q.n + 1 := wrap_in (by omega) (by omega)
            have hw' : wrap64 (q.n + 1) = q.n + 1 := wr64 (by omega) (by omega)
            have g3 : decide (q.n + 1 < 0) = false := by simp; omega
            clear h2
            go_wp2_with fail
            go_quiet (fail)
            go_wp2_with fail
            go_ret
            exact ((P.out.drewN _).next _).done HNN.out.1 HNN.out.2 HF.out.2.1 hl hn.out
        · have hn : Hid (l.nx = nextP q l.nx) := by show _ = _; unfold nextP; rw [if_neg (by omega)]
          have g0 : decide (0 ≤ l.nx) = true := by simp [h0]
          have g1 : decide (l.nx ≤ q.n) = false := by simp; omega
          clear h1
          go_wp2_with fail
          go_quiet (fail)
          go_wp2_with fail
          go_ret
          exact (P.out.drewN _).done HNN.out.1 HNN.out.2 HF.out.2.1 hl hn.out
      · have hn : Hid (l.nx = nextP q l.nx) := by show _ = _; unfold nextP; rw [if_neg (by omega)]
        have g0 : decide (0 ≤ l.nx) = false := by simp; omega
        clear h0
        go_wp2_with fail
        go_quiet (fail)
        go_wp2_with fail
        go_ret
        exact (P.out.drewN _).done HNN.out.1 HNN.out.2 HF.out.2.1 hl hn.out
end Go.Proofs.YtnaefnojmiolbaaGreatDoor
