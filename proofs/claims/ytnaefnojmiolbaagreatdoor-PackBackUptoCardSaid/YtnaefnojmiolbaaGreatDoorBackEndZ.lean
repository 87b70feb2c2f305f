/-
  All objects of what was written have begun; by its numbers it is as it is read. Of no program but the reader's and the writer's words.
  The walk of PackBack.
-/
import Derived.Test.YtnaefnojmiolbaaGreatDoorRefAllZ
import Derived.Test.YtnaefnojmiolbaaGreatDoorNumbWZ
import Derived.Test.YtnaefnojmiolbaaGreatDoorOneZ
namespace Go.Proofs.YtnaefnojmiolbaaGreatDoor
open Go.RowKit

/-- All objects of a value, and of its lists' values, have begun. -/
inductive ObjIn (O : List Int) : VT → Prop
  | mk (k n : Int) (t : ByteArray) (l : List It) (hk : k = 5 → placeW O n ≠ none) (hs : k = 4 → ∀ x ∈ l, ObjIn O x.2) : ObjIn O (.mk k n t l)
/-- Behind a writing all objects have begun. -/
def Began (F : List TP) (N : Nat) (O : List Int) (put : PutF) : Prop := ∀ v S S', put v S = .ok S' → WOk N v → (∃ u, O = S'.o ++ u) → ObjIn O v ∧ ∀ i, S.o.length ≤ i → i < S'.o.length → ∀ o, O[i]? = some o → ∀ x ∈ (thW F o).2, ObjIn O x.2
section
variable {F : List TP} {N : Nat} {O : List Int}
theorem itemsW_began {put : PutF} (hB : Began F N O put) (hA : ∀ x S S', put x S = .ok S' → Adds S S') : ∀ {l : List It} {S S' : WS}, itemsW put l S = .ok S' → (∀ x ∈ l, WOk N x.2) → (∃ u, O = S'.o ++ u) →
    (∀ x ∈ l, ObjIn O x.2) ∧ ∀ i, S.o.length ≤ i → i < S'.o.length → ∀ o, O[i]? = some o → ∀ x ∈ (thW F o).2, ObjIn O x.2
  | [], S, S', h, _, _ => by
    rw [itemsW] at h
    cases h
    exact ⟨fun x hx => (by cases hx), fun i a b => by omega⟩
  | x :: l, S, S', h, hw, ho => by
    rw [itemsW] at h
    split at h
    · cases h
    · rename_i S1 h1
      obtain ⟨u, hu⟩ := (itemsW_adds hA h).1
      obtain ⟨v, hv⟩ := ho
      obtain ⟨a1, a2⟩ := hB _ _ _ h1 (hw x (by simp)) ⟨u ++ v, by rw [hv, hu, List.append_assoc]⟩
      obtain ⟨b1, b2⟩ := itemsW_began hB hA h (fun y hy => hw y (by simp [hy])) ⟨v, hv⟩
      refine ⟨fun y hy => ?_, fun i ha hb => ?_⟩
      · rcases List.mem_cons.1 hy with rfl | hy
        · exact a1
        · exact b1 y hy
      · by_cases hc : i < S1.o.length
        · exact a2 i ha hc
        · exact b2 i (by omega) hb
theorem bracesW_began {put : PutF} (hB : Began F N O put) (hA : ∀ x S S', put x S = .ok S' → Adds S S') {l : List It} {S S' : WS} (h : bracesW (some put) l S = .ok S') (hw : ∀ x ∈ l, WOk N x.2) (ho : ∃ u, O = S'.o ++ u) :
    (∀ x ∈ l, ObjIn O x.2) ∧ ∀ i, S.o.length ≤ i → i < S'.o.length → ∀ o, O[i]? = some o → ∀ x ∈ (thW F o).2, ObjIn O x.2 := by
  unfold bracesW at h
  simp only at h
  split at h
  · cases h
  · rename_i S1 h1
    cases h
    have r := itemsW_began hB hA h1 hw ho
    exact r
theorem graphW_began (hF : FOkW N F) {sub : Option PutF} (hB : ∀ put, sub = some put → Began F N O put) (hA : ∀ put, sub = some put → ∀ x S S', put x S = .ok S' → Adds S S') : Began F N O (graphW F sub) := by
  intro v S S' h hw ho
  unfold graphW at h
  obtain ⟨S0, hS0, hS0o⟩ : ∃ S0 : WS, S0 = ⟨cutW S.t, S.o⟩ ∧ S0.o = S.o := ⟨_, rfl, rfl⟩
  rw [← hS0] at h
  rw [← hS0o]
  clear hS0 hS0o
  cases hw with
  | mk k n t l hk hn hkk ht2 hx hsx hlx =>
  have leaf : S'.o = S0.o → k ≠ 5 → k ≠ 4 → ObjIn O (.mk k n t l) ∧ ∀ i, S0.o.length ≤ i → i < S'.o.length → ∀ o, O[i]? = some o → ∀ x ∈ (thW F o).2, ObjIn O x.2 := fun e h5 h4 =>
    ⟨.mk k n t l (fun e => absurd e h5) (fun e => absurd e h4), fun i a b => by rw [e] at b; omega⟩
  have hk5 : k = 0 ∨ k = 1 ∨ k = 2 ∨ k = 3 ∨ k = 4 ∨ k = 5 := by omega
  rcases hk5 with rfl | rfl | rfl | rfl | rfl | rfl
  · rw [valueW_0] at h; cases h; exact leaf rfl (by decide) (by decide)
  · rw [valueW_1] at h; cases h; exact leaf rfl (by decide) (by decide)
  · rw [valueW_2] at h; cases h; exact leaf rfl (by decide) (by decide)
  · rw [valueW_3] at h; cases h; exact leaf rfl (by decide) (by decide)
  · rw [valueW_4] at h
    cases sub with
    | none => unfold bracesW at h; cases h
    | some put =>
      obtain ⟨a, b⟩ := bracesW_began (hB put rfl) (hA put rfl) h hsx ho
      exact ⟨.mk 4 n t l (fun e => by cases e) (fun _ => a), b⟩
  · rw [valueW_5] at h
    unfold objectW at h
    split at h
    · rename_i i hp
      cases h
      obtain ⟨u, hu⟩ := ho
      simp only at hu
      refine ⟨.mk 5 n t l (fun _ => ?_) (fun e => by cases e), fun i a b => by simp only at b; omega⟩
      rw [hu, place_prefix hp]
      simp
    · rename_i hp
      split at h
      · cases h
      · rename_i th hth
        obtain ⟨hi0, hth0⟩ := List.getElem?_eq_some_iff.1 hth
        have hmem : th ∈ F := by rw [← hth0]; exact List.getElem_mem _
        have htw : thW F n = th := by unfold thW; rw [hth]; rfl
        cases sub with
        | none => unfold bracesW at h; cases h
        | some put =>
          obtain ⟨uo, huo⟩ := (bracesW_adds (fun _ e => by cases e; exact hA put rfl) h).1
          simp only at huo
          obtain ⟨a, b⟩ := bracesW_began (hB put rfl) (hA put rfl) h (fun x hx2 => ((hF th hmem).2.1 x hx2).2) ho
          obtain ⟨u2, hu2⟩ := ho
          have hpO : placeW O n = some S0.o.length := by
            rw [hu2, huo]
            refine place_prefix (u := u2) (place_prefix (u := uo) ?_)
            rw [place_snoc hp, if_pos rfl]
          refine ⟨.mk 5 n t l (fun _ => by rw [hpO]; simp) (fun e => by cases e), fun i ha hb o hO => ?_⟩
          by_cases hc : i = S0.o.length
          · subst hc
            have : o = n := by
              rw [hu2, huo, List.append_assoc, List.append_assoc, List.getElem?_append_right (Nat.le_refl _)] at hO
              simpa using hO.symm
            rw [this, htw]
            exact a
          · exact b i (by simp; omega) hb o hO
theorem gvalW_began (hF : FOkW N F) : ∀ k : Nat, Began F N O (gvalW F k)
  | 0 => graphW_began hF (fun _ e => by cases e) (fun _ e => by cases e)
  | k + 1 => graphW_began (sub := some (gvalW F k)) hF (fun put e => by cases e; exact gvalW_began hF k) (fun put e => by cases e; exact gvalW_adds F k)
end
theorem numL_at (O : List Int) : ∀ (l : List It) (j : Nat) (h : j < (numL O l).length), ∃ h' : j < l.length, (numL O l)[j] = ((l[j]).1, numV O (l[j]).2)
  | [], j, h => by rw [numL] at h; simp at h
  | x :: l, 0, h => ⟨by simp, by simp [numL_cons]⟩
  | x :: l, j + 1, h => by
    have h2 : j < (numL O l).length := by rw [numL_cons] at h; simpa using h
    obtain ⟨h3, e⟩ := numL_at O l j h2
    exact ⟨by simpa using h3, by simp [numL_cons, e]⟩
theorem renL_at (O : List Int) : ∀ (l : List It) (j : Nat) (h : j < (renL O l).length), ∃ h' : j < l.length, (renL O l)[j] = ((l[j]).1, renV O (l[j]).2)
  | [], j, h => by rw [renL] at h; simp at h
  | x :: l, 0, h => ⟨by simp, by simp [renL_cons]⟩
  | x :: l, j + 1, h => by
    have h2 : j < (renL O l).length := by rw [renL_cons] at h; simpa using h
    obtain ⟨h3, e⟩ := renL_at O l j h2
    exact ⟨by simpa using h3, by simp [renL_cons, e]⟩
theorem alike_list {O : List Int} (n n' : Int) (t t' : ByteArray) {l : List It} (h : ∀ x ∈ l, AlikeV (numV O x.2) (renV O x.2)) : AlikeV (.mk 4 n t (numL O l)) (.mk 4 n' t' (renL O l)) := by
  refine .list n n' t t' _ _ (by rw [numL_len, renL_len]) (fun j h1 h2 => ?_) (fun j h1 h2 => ?_)
  · obtain ⟨a, e⟩ := numL_at O l j h1
    obtain ⟨b, f⟩ := renL_at O l j h2
    rw [e, f]
  · obtain ⟨a, e⟩ := numL_at O l j h1
    obtain ⟨b, f⟩ := renL_at O l j h2
    rw [e, f]
    exact h _ (List.getElem_mem a)
theorem alike_num {O : List Int} {N : Nat} (v : VT) : WOk N v → ObjIn O v → AlikeV (numV O v) (renV O v) := by
  refine VT.ind (P := fun v => WOk N v → ObjIn O v → AlikeV (numV O v) (renV O v)) ?_ v
  intro k n t l ih hw ho
  cases hw with
  | mk k n t l hk hn hkk ht2 hx hsx hlx =>
  cases ho with
  | mk k n t l h5 h4 =>
  rw [numV, renV]
  by_cases e5 : k = 5
  · rw [if_pos e5, if_pos e5]
    subst e5
    cases hp : placeW O n with
    | none => exact absurd hp (h5 rfl)
    | some i =>
      have : placeN O n = (((some i).getD 0 : Nat) : Int) + 1 := by unfold placeN; rw [hp]; rfl
      rw [this]
      exact .obj _ _ _ _ _
  · rw [if_neg e5, if_neg e5]
    by_cases e4 : k = 4
    · rw [if_pos e4]
      subst e4
      exact alike_list _ _ _ _ (fun x hx2 => ih x hx2 (hsx x hx2) (h4 rfl x hx2))
    · rw [if_neg e4]
      exact .plain k n t _ _ (by omega)
theorem count_numL_of {O : List Int} : ∀ {l : List It}, (∀ x ∈ l, countV (numV O x.2) = countV x.2) → countL (numL O l) = countL l
  | [], _ => by rw [numL]
  | x :: l, h => by rw [numL_cons, countL_cons, countL_cons, count_numL_of fun y hy => h y (by simp [hy]), h x (by simp)]
theorem count_num (O : List Int) (v : VT) : countV (numV O v) = countV v := by
  refine VT.ind (P := fun v => countV (numV O v) = countV v) ?_ v
  intro k n t l ih
  rw [numV, countV, countV, numL_len, count_numL_of ih]
theorem count_numL (O : List Int) (l : List It) : countL (numL O l) = countL l := count_numL_of fun x _ => count_num O x.2
theorem count_renL_of {O : List Int} : ∀ {l : List It}, (∀ x ∈ l, countV (renV O x.2) ≤ countV x.2) → countL (renL O l) ≤ countL l
  | [], _ => by rw [renL]; exact Nat.le_refl _
  | x :: l, h => by
    rw [renL_cons, countL_cons, countL_cons]
    have h1 := count_renL_of (O := O) (l := l) fun y hy => h y (by simp [hy])
    have h2 := h x (by simp)
    simp only
    omega
theorem count_ren (O : List Int) (v : VT) : countV (renV O v) ≤ countV v := by
  refine VT.ind (P := fun v => countV (renV O v) ≤ countV v) ?_ v
  intro k n t l ih
  rw [renV]
  split
  · rw [count_leaf]; exact Nat.zero_le _
  · split
    · rw [countV, countV, renL_len]
      have := count_renL_of ih
      omega
    · rw [count_leaf]; exact Nat.zero_le _
theorem count_renL (O : List Int) (l : List It) : countL (renL O l) ≤ countL l := count_renL_of fun x _ => count_ren O x.2
/-- The things by their new numbers; the things as they are read. -/
def numT (F : List TP) (O : List Int) (x : Int) : TP := ((thW F x).1, numL O (thW F x).2)
def renT (F : List TP) (O : List Int) (x : Int) : TP := ((thW F x).1, renL O (thW F x).2)
theorem thW_mem {F : List TP} {x : Int} (h : 1 ≤ x ∧ x ≤ (F.length : Int)) : thW F x ∈ F := by
  unfold thW
  rw [List.getElem?_eq_getElem (by omega)]
  exact List.getElem_mem _
theorem packed_same {v : VT} {F : List TP} {s : ByteArray} {O : List Int} (h : Packed v F s O) (hg : GoodS v) (hT : ∀ th ∈ F, th.1.size ≤ 1073741824 ∧ th.2.length ≤ 140737488355328 ∧ ∀ x ∈ th.2, KG x.1 ∧ GoodS x.2) : SameG (numV O v) (O.map (numT F O)) (renV O v) (O.map (renT F O)) := by
  have hw := wok_of F.length v 0 hg h.may h.within
  have hF : FOkW F.length F := fun th hm => ⟨(hT th hm).1, propsW_wok (h.thing th hm).2 (hT th hm).2.2, (hT th hm).2.1⟩
  obtain ⟨b1, b2⟩ := gvalW_began (O := O) hF 64 v _ _ h.write hw ⟨[], by simp⟩
  have htot := h.total
  refine ⟨alike_num v hw b1, by rw [count_num]; omega, by have := count_ren O v; omega, by simp, fun i cls cls' P P' h1 h2 => ?_⟩
  rw [List.getElem?_map] at h1 h2
  cases hO : O[i]? with
  | none => rw [hO] at h1; cases h1
  | some o =>
    rw [hO] at h1 h2
    cases h1
    cases h2
    have hlt := (List.getElem?_eq_some_iff.1 hO).1
    have hom : o ∈ O := by obtain ⟨h3, rfl⟩ := List.getElem?_eq_some_iff.1 hO; exact List.getElem_mem h3
    have hmem := thW_mem (F := F) (h.order.2 o hom)
    have hb := b2 i (Nat.zero_le _) hlt o hO
    have hct := total_mem hmem
    refine ⟨rfl, alike_list _ _ _ _ (fun x hx => alike_num x.2 ((hF _ hmem).2.1 x hx).2 (hb x hx)), ?_, ?_⟩
    · rw [numL_len, count_numL]; omega
    · rw [renL_len]
      have := count_renL O (thW F o).2
      omega
theorem packed_right {v : VT} {F : List TP} {s : ByteArray} {O : List Int} (h : Packed v F s O) (hg : GoodS v) (hT : ∀ th ∈ F, th.1.size ≤ 1073741824 ∧ ∀ x ∈ th.2, KG x.1 ∧ GoodS x.2) : RightG v F := ⟨h.may, h.within, h.total, h.thing, hg, hT⟩
end Go.Proofs.YtnaefnojmiolbaaGreatDoor

namespace Go.Proofs.YtnaefnojmiolbaaGreatDoor
open Go.RowKit

attribute [local go_sem] yld_undef
theorem nums_list {b : Nat} {tv ov : Value} {o : List Int} (ho : o.length ≤ 140737488355328) {l : List It} (hl : l.length + countL l ≤ 2048) (w : World) (c : Value) (h : NB w b tv ov o) (hv : VIn w c l) : Calls Tryz.prog 21 #[.pointer (some ⟨b, 0, none⟩), c] w (NumsPost w (numL o l)) :=
  numitems_any (by omega) (fun x hx W c h1 h2 => numval_any ho x.2 (by have := count_mem hx; omega) W c h1 h2) w c h hv
/-- Things are gathered. -/
structure MI (w W : World) (ms : List Th) (mv : Value) : Prop where
  below : Below w.heap.size w W
  own : Owns W 48 2 mv (ms.map Th.row)
  fresh : ∀ g, mv.ownBlock = some g → w.heap.size ≤ g
  val : ∀ t ∈ ms, VAt (fun g => w.heap.size ≤ g ∧ mv.ownBlock ≠ some g) W t.c t.xs
theorem MI.under {w W W' : World} {ms : List Th} {mv : Value} (h : MI w W ms mv) (hb : Below W.heap.size W W') : MI w W' ms mv :=
  ⟨h.below.trans (hb.mono h.below.size), h.own.kept fun g e => hb.block g (h.own.lt e), h.fresh, fun y hy => (h.val y hy).under hb⟩
theorem MI.push {w W w6 : World} {ms : List Th} {vo v6 : Value} (h : MI w W ms vo) {t : Th} {B : Nat} (hB : w.heap.size ≤ B) (hB2 : ∀ g, vo.ownBlock = some g → g < B) (hx : VAt (fun g => B ≤ g) W t.c t.xs) {ob : Obj} (o6 : Owns w6 48 2 v6 (ms.map Th.row ++ [t.row])) (g6 : (W.alloc ob).grownBy w6 vo.ownBlock) (b6 : v6.ownBlock = vo.ownBlock ∨ ∃ k, v6.ownBlock = some k ∧ (W.alloc ob).heap.size ≤ k) : MI w w6 (ms ++ [t]) v6 := by
  have hm : Mod (fun k => vo.ownBlock = some k) W w6 := ((Mod.refl _ W).alloc ob).grown g6 (fun k e _ => e)
  have hv6 : ∀ g, g < W.heap.size → vo.ownBlock ≠ some g → v6.ownBlock ≠ some g := fun g hg hne e => by
    rcases b6 with h1 | ⟨k, h1, h2⟩
    · exact hne (by rw [← h1]; exact e)
    · rw [h1] at e
      cases e
      simp at h2
      omega
  refine ⟨((Mod.of_below (F := fun k => w.heap.size ≤ k) h.below).trans' hm (fun i _ e => h.fresh i e)).belowB (fun k hk e => by omega) (Nat.le_refl _), by rw [List.map_append]; exact o6, fun g e => ?_, fun y hy => ?_⟩
  · rcases b6 with h1 | ⟨k, h1, h2⟩
    · exact h.fresh g (by rw [← h1]; exact e)
    · rw [h1] at e
      cases e
      have := h.below.size
      simp at h2
      omega
  · rcases List.mem_append.1 hy with hy | hy
    · exact (h.val y hy).kept fun g ha hg => ⟨hm.block g hg ha.2, hm.lt hg, ha.1, hv6 g hg ha.2⟩
    · rw [List.mem_singleton] at hy
      subst hy
      exact hx.kept fun g ha hg => by
        have hne : vo.ownBlock ≠ some g := fun e => by have := hB2 g e; omega
        exact ⟨hm.block g hg hne, hm.lt hg, by omega, hv6 g hg hne⟩
theorem MI.thAt {w W : World} {ms : List Th} {mv : Value} (h : MI w W ms mv) (hle : ms.length ≤ 65536) : ThAt W mv (ms.map Th.tp) := by
  obtain ⟨ao, cap, hv', hlen, hcm, hlies, -, -⟩ := h.own.any
  simp only [List.length_map] at hv'
  refine ⟨ao, cap, by rw [List.length_map]; exact hv', by rw [List.length_map]; omega, fun i hi => ?_⟩
  rw [List.length_map] at hi
  obtain ⟨g, off, e, hg, -, hc⟩ := hlies i [.string ms[i].cls, ms[i].c] (by simp [hi, Th.row])
  refine ⟨g, off, ms[i].c, e, hg, ?_, ?_, ?_⟩
  · rw [List.getElem_map]
    exact (h.val _ (List.getElem_mem hi)).any
  · rw [List.getElem_map]
    have := hc 0 _ rfl
    simpa [Th.tp] using this
  · have := hc 1 _ rfl
    simpa using this
theorem pred_nat (i : Nat) : (((i : Int) + 1) - 1).toNat = i := by omega
theorem wr_under {i n : Nat} (h : i < n) (hn : n ≤ 140737488355328) : wrap64 (i : Int) = i ∧ IntKind.i64.wrap (i : Int) = i := wr_sm (by omega) (by omega)
set_option maxHeartbeats 25600000 in
set_option maxRecDepth 100000 in
theorem back_ok {v : VT} {F : List TP} {s : ByteArray} {O : List Int} (hP : Packed v F s O) (hpk : packP v F = (s, 0)) (hg : GoodS v) (hT : ∀ th ∈ F, th.1.size ≤ 1073741824 ∧ th.2.length ≤ 140737488355328 ∧ ∀ x ∈ th.2, KG x.1 ∧ GoodS x.2) (w : World) (c tv : Value) (hv : VCap w c v.xs) (hF : ThCap w tv F) (ht : Tabs w) : Calls Tryz.prog 7 #[v.v c, tv] w (BoolPost w true) := by
  have hT2 : ∀ th ∈ F, th.1.size ≤ 1073741824 ∧ ∀ x ∈ th.2, KG x.1 ∧ GoodS x.2 := fun th hm => ⟨(hT th hm).1, (hT th hm).2.2⟩
  have HPK := Lib.hid (fun W h1 h2 h3 => by have := pack_any F (w := W) (tv := tv) (c := c) h1 hg h2 hT2 h3; rw [hpk] at this; exact this : ∀ W, ThAt W tv F → VIn W c v.xs → Tabs W → Calls Tryz.prog 17 #[v.v c, tv] W (PackPost W (s, 0)))
  have HRT := Lib.hid (fun W h1 h2 h3 => rRight_any (packed_right hP hg hT2) W c tv h1 h2 h3 : ∀ W, VCap W c v.xs → ThCap W tv F → Tabs W → Calls Tryz.prog 18 #[v.v c, tv] W (BoolPost W true))
  have hsz : s.size ≤ 65536 := by
    have := hP.read
    unfold unpackP at this
    split at this
    · cases this
    · omega
  have HUN := Lib.hid (fun W h => by have := unpack_any s (by omega) W h; rw [hP.read] at this; exact this : ∀ W, Tabs W → Calls Tryz.prog 19 #[.string s] W (UnPost W (.ok (renV O v, O.map (renT F O)))))
  have hwo := wok_of F.length v 0 hg hP.may hP.within
  have HWK := Lib.hid (fun w0 b h1 W ov h2 h3 => walk_any (w0 := w0) (N := F.length) (b := b) (tv := tv) h1 (fun th hm x hx => by
      obtain ⟨-, hpa⟩ := propsW_at (hP.thing th hm).2
      obtain ⟨-, -, -, d4, d5⟩ := hpa x hx
      unfold rightV at d4
      rw [Bool.and_eq_true] at d4
      exact ⟨wok_of F.length x.2 0 ((hT th hm).2.2 x hx).2 d4.2 d5, 0, d4.2⟩) 64 v ⟨[], []⟩ ⟨s.toList, O⟩ hP.write hwo ⟨0, hP.may⟩ hP.few W c ov h2 h3 : ∀ (w0 : World) (b : Nat), ThAt w0 tv F → ∀ (W : World) (ov : Value), WN w0 b tv W ov [] → VIn w0 c v.xs → Calls Tryz.prog 20 #[.pointer (some ⟨b, 0, none⟩), v.v c] W (WKPost w0 b tv W O))
  have HSM := Lib.hid (fun W c d tx ty h1 h2 h3 h4 => rSame_any (packed_same hP hg hT) W c d tx ty h1 h2 h3 h4 : ∀ (W : World) (c d tx ty : Value), VIn W c (numV O v).xs → VIn W d (renV O v).xs → ThAt W tx (O.map (numT F O)) → ThAt W ty (O.map (renT F O)) → Calls Tryz.prog 22 #[(numV O v).v c, tx, (renV O v).v d, ty] W (BoolPost W true))
  have HNV := Lib.hid (fun b ov W h1 h2 => numval_any (b := b) (tv := tv) (ov := ov) (o := O) (by have := hP.few; omega) v (by have := hP.total; omega) W c h1 h2 : ∀ (b : Nat) (ov : Value) (W : World), NB W b tv ov O → VIn W c v.xs → Calls Tryz.prog 23 #[.pointer (some ⟨b, 0, none⟩), v.v c] W (NumPost W (numV O v)))
  have HCT : Hid (∀ th ∈ F, th.2.length + countL th.2 ≤ 2048) := Lib.hid fun th hm => by have := total_mem hm; have := hP.total; omega
  have HOR := Lib.hid hP.order
  have HFW := Lib.hid hP.few
  obtain ⟨ao, cap, rfl, -, -⟩ := hv.form
  have hF2 := hF
  obtain ⟨ta, tc, htv, hFl, -⟩ := hF2
  have HV := Lib.hid hv
  have HF := Lib.hid hF
  have HT : Hid (∀ W, Below w.heap.size w W → Tabs W) := Lib.hid fun W h => ht.mono h
  have HFL := Lib.hid hFl
  have HX := Lib.hid (heap_alloc_new w (VB v (.slice ao v.xs.length cap)))
  have HB := Lib.hid (below_alloc1 w (VB v (.slice ao v.xs.length cap)))
  obtain ⟨a0, a1, a2, a3⟩ := vb_cells HX.out
  clear hv hF ht hFl hP hpk hg hT hT2 hwo
  simp only [VT.v] at HPK HRT HWK HSM HNV ⊢
  subst htv
  go_enter Tryz.func7, Tryz.ntmps7
  go_wp2_with fail
  refine (HPK.out _ (HF.out.thAt.under HB.out) (HV.out.vin.under HB.out) (HT.out _ HB.out)).mono ?_
  rintro _ w1 ⟨rfl, hb⟩
  have HB1 := Lib.hid (HB.out.trans (hb.mono HB.out.size))
  have HX1 := Lib.hid ((hb.block _ (lt_of_block HX.out)).trans HX.out)
  obtain ⟨a0, a1, a2, a3⟩ := vb_cells HX1.out
  clear hb HPK
  dsimp only
  go_wp2_with fail
  refine (HRT.out _ (HV.out.under HB1.out) (HF.out.under HB1.out) (HT.out _ HB1.out)).mono ?_
  rintro _ w2 ⟨rfl, hb⟩
  have HB2 := Lib.hid (HB1.out.trans (hb.mono HB1.out.size))
  have HX2 := Lib.hid ((hb.block _ (lt_of_block HX1.out)).trans HX1.out)
  obtain ⟨a0, a1, a2, a3⟩ := vb_cells HX2.out
  clear hb HRT HB1 HX1 HX HB
  go_wp2_with fail
  refine (HUN.out _ (HT.out _ HB2.out)).mono ?_
  rintro e w4 ⟨hb4, co, cm, cc, ao2, cap2, ths, rfl, hvt, hown, hval, htp⟩
  obtain ⟨W4, hW4⟩ : ∃ W4, W4 = (w4.alloc (.cells #[.int .i64 (renV O v).k, .int .i64 (renV O v).n, .string (renV O v).t, .slice co cm cc] 24)).alloc (.cells #[.int .i64 0, .int .i64 0] 33) := ⟨_, rfl⟩
  have hbz : Below w4.heap.size w4 W4 := by rw [hW4]; exact ((Below.refl _ w4).alloc (Nat.le_refl _) _).alloc (by simp) _
  have HB4 := Lib.hid (HB2.out.trans ((hb4.trans (hbz.mono hb4.size)).mono HB2.out.size))
  have HX4 : Hid (W4.heap[w.heap.size]? = some (VB v (.slice ao v.xs.length cap))) := Lib.hid ((hbz.block _ (Nat.lt_of_lt_of_le (lt_of_block HX2.out) hb4.size)).trans ((hb4.block _ (lt_of_block HX2.out)).trans HX2.out))
  have HY4 : Hid (W4.heap[w4.heap.size]? = some (.cells #[.int .i64 (renV O v).k, .int .i64 (renV O v).n, .string (renV O v).t, .slice co cm cc] 24 (0, 0))) := Lib.hid (by rw [hW4]; exact alloc_blk (heap_alloc_new w4 _) _)
  have HF4 : Hid (W4.heap[w4.heap.size + 1]? = some (.cells #[.int .i64 0, .int .i64 0] 33 (0, 0))) := Lib.hid (by rw [hW4]; have := heap_alloc_new (w4.alloc (.cells #[.int .i64 (renV O v).k, .int .i64 (renV O v).n, .string (renV O v).t, .slice co cm cc] 24)) (.cells #[.int .i64 0, .int .i64 0] 33); simpa using this)
  have HZ4 : Hid (W4.heap.size = w4.heap.size + 2) := Lib.hid (by rw [hW4]; simp)
  have hln : ths.length ≤ 65536 := by have e : (ths.map Th.tp).length = (O.map (renT F O)).length := congrArg List.length htp; rw [List.length_map, List.length_map] at e; have := HFW.out; omega
  have hTH := (th_of_owns hln hown hval).under hbz
  rw [htp] at hTH
  have HTH := Lib.hid hTH
  have HVT := Lib.hid ((VAt.any hvt).under hbz)
  have HN5 : Hid (WN W4 W4.heap.size (.slice ta F.length tc) (W4.alloc (.cells #[.slice ta F.length tc, .slice none 0 0] 45)) (.slice none 0 0) []) := Lib.hid ⟨below_alloc1 W4 _, ⟨heap_alloc_new W4 _, Owns.empty _ _ _, fun e => by simp [Value.ownBlock] at e⟩, Nat.le_refl _, fun g e => by simp [Value.ownBlock] at e⟩
  obtain ⟨z0, z1, z2, z3⟩ := vb_cells (alloc_blk HX4.out (.cells #[.slice ta F.length tc, .slice none 0 0] 45))
  clear hb4 hvt hown hval htp hbz hTH HUN HX2 HB2 a0 a1 a2 a3
  simp only [VT.v]
  go_upto_region 5 with fail
  rw [show (w4.alloc (Obj.cells #[.int .i64 (renV O v).k, .int .i64 (renV O v).n, .string (renV O v).t, .slice co cm cc] 24)).alloc (Obj.cells #[.int .i64 0, .int .i64 0] 33) = W4 from hW4.symm]
  clear hW4
  have hbsz : w4.heap.size + 2 = W4.heap.size := HZ4.out.symm
  go_wp2_with fail
  refine (HWK.out _ _ (HF.out.thAt.under HB4.out) _ _ HN5.out (HV.out.vin.under HB4.out)).mono ?_
  rintro _ w6 ⟨rfl, ⟨ov, hW6⟩, hK6⟩
  have HW6 := Lib.hid hW6
  have HB6 := Lib.hid (HB4.out.trans (hW6.below.mono HB4.out.size))
  have HNB := Lib.hid hW6.nb
  obtain ⟨oao, ocap, hvo, -, -, hoc, -, -⟩ := hW6.nb.own.any
  rw [oRows_len] at hvo
  subst hvo
  have HOC := Lib.hid hoc
  have y0 := cell_blk HNB.out.blk 0
  have y1 := cell_blk HNB.out.blk 1
  have HM0 : Hid (MI w6 w6 [] (.slice none 0 0)) := Lib.hid ⟨Below.refl _ _, Owns.empty _ _ _, fun g e => (by simp [Value.ownBlock] at e), fun t hm => (by cases hm)⟩
  clear hW6 hK6 HWK hoc z0 z1 z2 z3 HN5
  go_wp2_with fail
  go_loopw [11, 46] (fun mv kv wr => ∃ (j : Nat) (ms : List Th), j ≤ O.length ∧ kv = .int .i64 j ∧ Hid (ms.map Th.tp = (O.take j).map (numT F O)) ∧ Hid (MI w6 wr ms mv)) (fun _ kv _ => O.length - (intOf kv).toNat)
  case atStart => exact ⟨0, [], Nat.zero_le _, rfl, Lib.hid (by simp), HM0⟩
  case round =>
    rename_i mv kv
    obtain ⟨j, ms, hj, rfl, HMS, HM⟩ := hrel
    clear HM0 y0 y1
    by_cases hlt : j < O.length
    · have hjl : (j : Int) < (O.length : Int) := by omega
      obtain ⟨hw', hw⟩ := wr_sm (x := (j : Int) + 1) (by omega) (by have := HFW.out; omega)
      obtain ⟨o, ho⟩ : ∃ o, O[j]? = some o := ⟨_, List.getElem?_eq_getElem hlt⟩
      have hom : o ∈ O := by obtain ⟨h3, rfl⟩ := List.getElem?_eq_some_iff.1 ho; exact List.getElem_mem h3
      obtain ⟨ho1, ho2⟩ := HOR.out.2 o hom
      obtain ⟨og, ooff, rfl, hog, -, hoc⟩ := HOC.out j [.int .i64 o] (by simp [oRows, ho])
      have r0 : wr.cell? ⟨og, ooff + j * 1 + 0, none⟩ = some (.int .i64 o) := (HM.out.below.cell (p := ⟨og, ooff + j * 1 + 0, none⟩) hog).trans (hoc 0 _ rfl)
      rw [Nat.mul_one, Nat.add_zero] at r0
      obtain ⟨i, rfl⟩ : ∃ i : Nat, o = (i : Int) + 1 := ⟨o.toNat - 1, by omega⟩
      have hil : i < F.length := by omega
      obtain ⟨g, off, po, pc, cls, P, hget, hmem, rfl, hvp, c0, c1⟩ := (HF.out.under HB6.out).get HM.out.below hil
      have hiF : (i : Int) < (F.length : Int) := by omega
      have hi0 : (0 : Int) ≤ (i : Int) := by omega
      obtain ⟨hwi, hwi2⟩ := wr_under hil HFL.out
      have HIL := Lib.hid hil
      have HGL : Hid (g < w.heap.size) := by
        obtain ⟨_, _, e, _, h⟩ := HF.out
        cases e
        obtain ⟨g', _, _, _, e2, h2, _⟩ := h i hil
        cases e2
        exact Lib.hid h2
      have hml : ms.length = j := by have e := congrArg List.length HMS.out; rw [List.length_map, List.length_map, List.length_take] at e; omega
      obtain ⟨mao, mcap, hvm, -⟩ := HM.out.own.any
      rw [List.length_map, hml] at hvm
      subst hvm
      have HNM : Hid (numT F O ((i : Int) + 1) = (cls, numL O P)) := Lib.hid (by
        unfold numT thW
        rw [pred_nat i, hget]
        rfl)
      have HO := Lib.hid ho
      have HML := Lib.hid hml
      have HCL := Lib.hid (HCT.out _ hmem)
      have hgl : g < wr.heap.size := cell_lt c0
      have six : ∀ {V : World}, Below wr.heap.size wr V → ((fun V => V.cell? ⟨g, off + i * 2, none⟩ = some (.string cls) ∧ V.cell? ⟨g, off + i * 2 + 1, none⟩ = some (.slice po P.length pc)) V) := fun {V} hb => ⟨(hb.cell (p := ⟨g, _, none⟩) hgl).trans c0, (hb.cell (p := ⟨g, _, none⟩) hgl).trans c1⟩
      have HSX := @Lib.hid _ @six
      have HD0 : Hid (Below wr.heap.size wr wr.drew) := Lib.hid (Below.refl _ _).drew
      have HS0 := Lib.hid (six HD0.out)
      have HVP := Lib.hid (hvp.vin.under HD0.out)
      have HNB2 := Lib.hid ((HNB.out.under HM.out.below).under HD0.out)
      have HC := Lib.hid (fun W h1 h2 => nums_list (b := W4.heap.size) (by have := HFW.out; omega) HCL.out W (.slice po P.length pc) h1 h2 : ∀ W, NB W W4.heap.size (.slice (some ⟨g, off, none⟩) F.length tc) (.slice (some ⟨og, ooff, none⟩) O.length ocap) O → VIn W (.slice po P.length pc) P → Calls Tryz.prog 21 #[.pointer (some ⟨W4.heap.size, 0, none⟩), .slice po P.length pc] W (NumsPost W (numL O P)))
      have HLT := Lib.hid hlt
      obtain ⟨Q, hQ⟩ : ∃ Q, Q = numL O P := ⟨_, rfl⟩
      rw [← hQ] at HNM HC
      clear hget hmem hvp hlt six c0 c1 ho hom ho1 ho2 hoc hml hQ
      go_wp2_with fail
      refine wp_region_noPanic ?_
      refine wp_region_held_drew (S := (fun V => V.cell? ⟨g, off + i * 2, none⟩ = some (.string cls) ∧ V.cell? ⟨g, off + i * 2 + 1, none⟩ = some (.slice po P.length pc))) (by kernel_rfl) (by exact HS0.out) (fun hHeld => ?_)
      refine wpAnyH_take (i := 0) (oi := ?o0) (v := ?v0) ?hi0 (by kernel_rfl) (by kernel_rfl) (by kernel_rfl) (fun _ _ _ h => h) ?hy0 (by assumption) ?rest0
      case hi0 => simp only [gA, gZ]; rfl
      case hy0 =>
        refine Or.inl ⟨by rfl, ?_⟩
        intro w hSw; (try dsimp only at hSw); go_simp <;> (with_reducible rfl)
      (try simp only [Act.put, pA, pZ, pS])
      refine wpAnyH_take (i := 1) (oi := ?o1) (v := ?v1) ?hi1 (by kernel_rfl) (by kernel_rfl) (by kernel_rfl) (fun _ _ _ h => h) ?hy1 (by assumption) ?rest1
      case hi1 => simp only [gA, gS, gZ]; rfl
      case hy1 =>
        refine Or.inl ⟨by rfl, ?_⟩
        intro w hSw; (try dsimp only at hSw); go_simp <;> (with_reducible rfl)
      (try simp only [Act.put, pA, pZ, pS])
      refine wpAnyH_take (i := 2) (oi := ?o2) (v := ?v2) ?hi2 (by kernel_rfl) (by kernel_rfl) (by kernel_rfl) (fun _ _ _ h => h) ?hy2 (by assumption) ?rest2
      case hi2 => simp only [gA, gS, gZ]; rfl
      case hy2 =>
        refine Or.inl ⟨by rfl, ?_⟩
        intro w hSw; (try dsimp only at hSw); go_simp <;> (with_reducible rfl)
      (try simp only [Act.put, pA, pZ, pS])
      refine wpAnyH_take (i := 3) (oi := ?o3) (v := ?v3) ?hi3 (by kernel_rfl) (by kernel_rfl) (by kernel_rfl) (fun _ _ _ h => h) ?hy3 (by assumption) ?rest3
      case hi3 => simp only [gA, gS, gZ]; rfl
      case hy3 =>
        refine Or.inl ⟨by rfl, ?_⟩
        intro w hSw; (try dsimp only at hSw); go_simp <;> (with_reducible rfl)
      (try simp only [Act.put, pA, pZ, pS])
      refine wpAnyH_take (i := 4) (oi := ?o4) (v := ?v4) ?hi4 (by kernel_rfl) (by kernel_rfl) (by kernel_rfl) (fun _ _ _ h => h) ?hy4 (by assumption) ?rest4
      case hi4 => simp only [gA, gS, gZ]; rfl
      case hy4 =>
        refine Or.inl ⟨by rfl, ?_⟩
        intro w hSw; (try dsimp only at hSw); go_simp <;> (with_reducible rfl)
      (try simp only [Act.put, pA, pZ, pS])
      refine wpAnyH_take (i := 5) (oi := ?o5) (v := ?v5) ?hi5 (by kernel_rfl) (by kernel_rfl) (by kernel_rfl) (fun _ _ _ h => h) ?hy5 (by assumption) ?rest5
      case hi5 => simp only [gA, gS, gZ]; rfl
      case hy5 =>
        refine Or.inl ⟨by rfl, ?_⟩
        intro w hSw; (try dsimp only at hSw); go_simp <;> (with_reducible rfl)
      (try simp only [Act.put, pA, pZ, pS])
      refine wpAnyH_take (i := 6) (oi := ?o6) (v := ?v6) ?hi6 (by kernel_rfl) (by kernel_rfl) (by kernel_rfl) (fun _ _ _ h => h) ?hy6 (by assumption) ?rest6
      case hi6 => simp only [gA, gS, gZ]; rfl
      case hy6 =>
        refine Or.inl ⟨by rfl, ?_⟩
        intro w hSw; (try dsimp only at hSw); go_simp <;> (with_reducible rfl)
      (try simp only [Act.put, pA, pZ, pS])
      refine wpAnyH_take (i := 7) (oi := ?o7) (v := ?v7) ?hi7 (by kernel_rfl) (by kernel_rfl) (by kernel_rfl) (fun _ _ _ h => h) ?hy7 (by assumption) ?rest7
      case hi7 => simp only [gA, gS, gZ]; rfl
      case hy7 =>
        refine Or.inl ⟨by rfl, ?_⟩
        intro w hSw; (try dsimp only at hSw); go_simp <;> (with_reducible rfl)
      (try simp only [Act.put, pA, pZ, pS])
      refine wpAnyH_take (i := 8) (oi := ?o8) (v := ?v8) ?hi8 (by kernel_rfl) (by kernel_rfl) (by kernel_rfl) (fun _ _ _ h => h) ?hy8 (by assumption) ?rest8
      case hi8 => simp only [gA, gS, gZ]; rfl
      case hy8 =>
        refine Or.inl ⟨by rfl, ?_⟩
        intro w hSw; (try dsimp only at hSw); go_simp <;> (with_reducible rfl)
      (try simp only [Act.put, pA, pZ, pS])
      refine wpAnyH_take (i := 9) (oi := ?o9) (v := ?v9) ?hi9 (by kernel_rfl) (by kernel_rfl) (by kernel_rfl) (fun _ _ _ h => h) ?hy9 (by assumption) ?rest9
      case hi9 => simp only [gA, gS, gZ]; rfl
      case hy9 =>
        refine Or.inl ⟨by rfl, ?_⟩
        intro w hSw; (try dsimp only at hSw); go_simp <;> (with_reducible rfl)
      (try simp only [Act.put, pA, pZ, pS])
      refine wpAnyH_take (i := 10) (oi := ?o10) (v := ?v10) ?hi10 (by kernel_rfl) (by kernel_rfl) (by kernel_rfl) (fun _ _ _ h => h) ?hy10 (by assumption) ?rest10
      case hi10 => simp only [gA, gS, gZ]; rfl
      case hy10 =>
        refine Or.inl ⟨by rfl, ?_⟩
        intro w hSw; (try dsimp only at hSw); go_simp <;> (with_reducible rfl)
      (try simp only [Act.put, pA, pZ, pS])
      refine wpAnyH_take (i := 11) (oi := ?o11) (v := ?v11) ?hi11 (by kernel_rfl) (by kernel_rfl) (by kernel_rfl) (fun _ _ _ h => h) ?hy11 (by assumption) ?rest11
      case hi11 => simp only [gA, gS, gZ]; rfl
      case hy11 =>
        refine Or.inl ⟨by rfl, ?_⟩
        intro w hSw; (try dsimp only at hSw); go_simp <;> (with_reducible rfl)
      (try simp only [Act.put, pA, pZ, pS])
      refine wpAnyH_take (i := 12) (oi := ?o12) (v := ?v12) ?hi12 (by kernel_rfl) (by kernel_rfl) (by kernel_rfl) (fun _ _ _ h => h) ?hy12 (by assumption) ?rest12
      case hi12 => simp only [gA, gS, gZ]; rfl
      case hy12 =>
        refine Or.inl ⟨by rfl, ?_⟩
        intro w hSw; (try dsimp only at hSw); go_simp <;> (with_reducible rfl)
      (try simp only [Act.put, pA, pZ, pS])
      refine wpAnyH_ready (rs := [13]) (by kernel_rfl) (by simp) ?_
      refine AllReadyH.cons rfl (fun K hK => ?_) AllReadyH.nil
      go_simp
      refine (HC.out _ HNB2.out HVP.out).mono ?_
      rintro _ w7 ⟨cy, ky, rfl, hvy, hb⟩
      have H1 := Lib.hid ((HM.out.under HD0.out).under hb)
      have HVY := Lib.hid hvy
      have HD1 := Lib.hid (HD0.out.trans (hb.mono HD0.out.size))
      clear hb hvy
      refine hK.out _ _ (HSX.out HD1.out) (fun hHeld13 => ?_)
      clear hK K
      (try simp only [Act.put, pA, pZ, pS])
      refine wpAnyH_take (i := 14) (oi := ?o14) (v := ?v14) ?hi14 (by kernel_rfl) (by kernel_rfl) (by kernel_rfl) (fun _ _ _ h => h) ?hy14 (by assumption) ?rest14
      case hi14 => simp only [gA, gS, gZ]; rfl
      case hy14 =>
        refine Or.inl ⟨by rfl, ?_⟩
        intro w hSw; (try dsimp only at hSw); go_simp <;> (with_reducible rfl)
      (try simp only [Act.put, pA, pZ, pS])
      refine wpAnyH_ready (rs := [15]) (by kernel_rfl) (by simp) ?_
      refine AllReadyH.cons rfl (fun K hK => ?_) AllReadyH.nil
      go_simp
      skip
      refine hK.out _ _ (HSX.out (HD1.out.trans ((below_alloc1 w7 _).mono HD1.out.size))) (fun hHeld15 => ?_)
      clear hK K
      (try simp only [Act.put, pA, pZ, pS])
      refine wpAnyH_ready (rs := [16]) (by kernel_rfl) (by simp) ?_
      refine AllReadyH.cons rfl (fun K hK => ?_) AllReadyH.nil
      have hO : Owns (w7.alloc (.cells #[.string cls, .slice cy Q.length ky] 48)) 48 2 (.slice mao j mcap) (ms.map Th.row) := H1.out.own.kept fun g e => Below.heap_alloc _ _ _ (H1.out.own.lt e)
      have hLi : Lies (w7.alloc (.cells #[.string cls, .slice cy Q.length ky] 48)) 2 (some ⟨w7.heap.size, 0, none⟩) [Th.row ⟨cls, Q, .slice cy Q.length ky⟩] := lies_new w7 [.string cls, .slice cy Q.length ky] 48 rfl
      refine step_append_rows rfl (.tmp 50) (.tmp 65) 38 rfl 48 _ 2 40 Tryz.underlying38 info48 rfl (by decide) (.slice mao j mcap) (ms.map Th.row) (by simp [Act.eval]) hO (some ⟨w7.heap.size, 0, none⟩) 1 1 [Th.row ⟨cls, Q, .slice cy Q.length ky⟩] (by simp [Act.eval]) rfl (fun e => by cases e) hLi (by simp [Th.row, Value.oneCell']) (by simp [Th.row]) (by have := HML.out; have := HLT.out; have := HFW.out; rw [List.length_map]; unfold maxLen; simp; omega) (by have := HML.out; have := HLT.out; have := HFW.out; rw [List.length_map]; simp; omega) ?_
      intro v6 w8 o6 g6 b6
      have H7 := Lib.hid (H1.out.push (t := ⟨cls, Q, .slice cy Q.length ky⟩) (B := wr.heap.size) HM.out.below.size (fun g e => HM.out.own.lt e) (HVY.out.mono fun g a _ => by have := HD0.out.size; omega) o6 g6 b6)
      have c8 : w8.cell? ⟨g, off + i * 2, none⟩ = some (.string cls) ∧ w8.cell? ⟨g, off + i * 2 + 1, none⟩ = some (.slice po P.length pc) := by
        have hbb := HB6.out.trans (H7.out.below.mono HB6.out.size)
        obtain ⟨g', off', po', pc', cls', P', hget', -, e1, -, k0, k1⟩ := HF.out.get hbb HIL.out
        cases e1
        obtain ⟨g2, off2, po2, pc2, cls2, P2, hget2, -, e2, -, m0, m1⟩ := HF.out.get (HB6.out.trans (HM.out.below.mono HB6.out.size)) HIL.out
        cases e2
        have q0 := HS0.out.1
        have q1 := HS0.out.2
        rw [show wr.drew.cell? ⟨g, off + i * 2, none⟩ = wr.cell? ⟨g, off + i * 2, none⟩ from rfl, m0] at q0
        rw [show wr.drew.cell? ⟨g, off + i * 2 + 1, none⟩ = wr.cell? ⟨g, off + i * 2 + 1, none⟩ from rfl, m1] at q1
        have b9 : ∀ (p : Addr), p.block < w.heap.size → w8.cell? p = wr.cell? p := fun p hp => (hbb.cell hp).trans ((HB6.out.trans (HM.out.below.mono HB6.out.size)).cell hp).symm
        exact ⟨(b9 ⟨g, off + i * 2, none⟩ HGL.out).trans (m0.trans q0), (b9 ⟨g, off + i * 2 + 1, none⟩ HGL.out).trans (m1.trans q1)⟩
      clear o6 g6 b6 hO hLi
      refine hK.out _ _ c8 (fun hHeld16 => ?_)
      clear hK K
      (try simp only [Act.put, pA, pZ, pS])
      refine wpAnyH_take (i := 17) (oi := ?o17) (v := ?v17) ?hi17 (by kernel_rfl) (by kernel_rfl) (by kernel_rfl) (fun _ _ _ h => h) ?hy17 (by assumption) ?rest17
      case hi17 => simp only [gA, gS, gZ]; rfl
      case hy17 =>
        refine Or.inl ⟨by rfl, ?_⟩
        intro w hSw; (try dsimp only at hSw); go_simp <;> (with_reducible rfl)
      (try simp only [Act.put, pA, pZ, pS])
      refine wpAnyH_done (by kernel_rfl) ?_ _
      refine NoPanic.normal ?_
      go_wp2_with fail
      go_roundw
      case rel => exact ⟨j + 1, ms ++ [⟨cls, Q, .slice cy Q.length ky⟩], HLT.out, by go_num, Lib.hid (by
        rw [List.take_add_one, HO.out, List.map_append, List.map_append, HMS.out]
        simp only [Option.toList_some, List.map_cons, List.map_nil, HNM.out]
        rfl), H7⟩
      case measure => have := HLT.out; simp [intOf]; omega
    · obtain rfl : j = O.length := by omega
      have hms := HMS.out
      rw [List.take_length] at hms
      have hml : ms.length ≤ 65536 := by have e := congrArg List.length hms; rw [List.length_map, List.length_map] at e; have := HFW.out; omega
      have htm := HM.out.thAt hml
      rw [hms] at htm
      have HTM := Lib.hid htm
      have HBW := Lib.hid (HW6.out.below.trans (HM.out.below.mono HW6.out.below.size))
      have HBA := Lib.hid (HB4.out.trans (HBW.out.mono HB4.out.size))
      have HD0 : Hid (Below wr.heap.size wr wr.drew) := Lib.hid (Below.refl _ _).drew
      have six : ∀ {V : World}, Below wr.heap.size wr V → ((fun V => V.cell? ⟨w.heap.size, 0, none⟩ = some (.int .i64 v.k) ∧ V.cell? ⟨w.heap.size, 1, none⟩ = some (.int .i64 v.n) ∧ V.cell? ⟨w.heap.size, 2, none⟩ = some (.string v.t) ∧ V.cell? ⟨w.heap.size, 3, none⟩ = some (.slice ao v.xs.length cap) ∧ V.cell? ⟨w4.heap.size, 0, none⟩ = some (.int .i64 (renV O v).k) ∧ V.cell? ⟨w4.heap.size, 1, none⟩ = some (.int .i64 (renV O v).n) ∧ V.cell? ⟨w4.heap.size, 2, none⟩ = some (.string (renV O v).t) ∧ V.cell? ⟨w4.heap.size, 3, none⟩ = some (.slice co cm cc) ∧ V.cell? ⟨w4.heap.size + 1, 0, none⟩ = some (.int .i64 0) ∧ V.cell? ⟨w4.heap.size + 1, 1, none⟩ = some (.int .i64 0)) V) := fun {V} hb => by
        have hb4 := HBW.out.trans (hb.mono HBW.out.size)
        obtain ⟨z0, z1, z2, z3⟩ := vb_cells ((hb4.block _ (lt_of_block HX4.out)).trans HX4.out)
        obtain ⟨y0, y1, y2, y3⟩ := vb4 ((hb4.block _ (lt_of_block HY4.out)).trans HY4.out)
        have hf := (hb4.block _ (lt_of_block HF4.out)).trans HF4.out
        exact ⟨z0, z1, z2, z3, y0, y1, y2, y3, cell_blk hf 0, cell_blk hf 1⟩
      have HSX := @Lib.hid _ @six
      have HS0 := Lib.hid (six HD0.out)
      have HNB2 := Lib.hid ((HNB.out.under HM.out.below).under HD0.out)
      have HVD := Lib.hid ((HV.out.vin.under HBA.out).under HD0.out)
      have hml2 := hml
      clear hms htm six hml
      go_wp2_with fail
      refine wp_region_noPanic ?_
      refine wp_region_held_drew (S := (fun V => V.cell? ⟨w.heap.size, 0, none⟩ = some (.int .i64 v.k) ∧ V.cell? ⟨w.heap.size, 1, none⟩ = some (.int .i64 v.n) ∧ V.cell? ⟨w.heap.size, 2, none⟩ = some (.string v.t) ∧ V.cell? ⟨w.heap.size, 3, none⟩ = some (.slice ao v.xs.length cap) ∧ V.cell? ⟨w4.heap.size, 0, none⟩ = some (.int .i64 (renV O v).k) ∧ V.cell? ⟨w4.heap.size, 1, none⟩ = some (.int .i64 (renV O v).n) ∧ V.cell? ⟨w4.heap.size, 2, none⟩ = some (.string (renV O v).t) ∧ V.cell? ⟨w4.heap.size, 3, none⟩ = some (.slice co cm cc) ∧ V.cell? ⟨w4.heap.size + 1, 0, none⟩ = some (.int .i64 0) ∧ V.cell? ⟨w4.heap.size + 1, 1, none⟩ = some (.int .i64 0))) (by kernel_rfl) (by exact HS0.out) (fun hHeld => ?_)
      refine wpAnyH_take (i := 0) (oi := ?ok0) (v := ?vk0) ?hik0 (by kernel_rfl) (by kernel_rfl) (by kernel_rfl) (fun _ _ _ h => h) ?hyk0 (by assumption) ?restk0
      case hik0 => simp only [gA, gZ]; rfl
      case hyk0 =>
        refine Or.inl ⟨by rfl, ?_⟩
        intro w hSw; (try dsimp only at hSw); go_simp <;> (with_reducible rfl)
      (try simp only [Act.put, pA, pZ, pS])
      refine wpAnyH_take (i := 1) (oi := ?ok1) (v := ?vk1) ?hik1 (by kernel_rfl) (by kernel_rfl) (by kernel_rfl) (fun _ _ _ h => h) ?hyk1 (by assumption) ?restk1
      case hik1 => simp only [gA, gS, gZ]; rfl
      case hyk1 =>
        refine Or.inl ⟨by rfl, ?_⟩
        intro w hSw; (try dsimp only at hSw); go_simp <;> (with_reducible rfl)
      (try simp only [Act.put, pA, pZ, pS])
      refine wpAnyH_take (i := 2) (oi := ?ok2) (v := ?vk2) ?hik2 (by kernel_rfl) (by kernel_rfl) (by kernel_rfl) (fun _ _ _ h => h) ?hyk2 (by assumption) ?restk2
      case hik2 => simp only [gA, gS, gZ]; rfl
      case hyk2 =>
        refine Or.inl ⟨by rfl, ?_⟩
        intro w hSw; (try dsimp only at hSw); go_simp <;> (with_reducible rfl)
      (try simp only [Act.put, pA, pZ, pS])
      refine wpAnyH_take (i := 3) (oi := ?ok3) (v := ?vk3) ?hik3 (by kernel_rfl) (by kernel_rfl) (by kernel_rfl) (fun _ _ _ h => h) ?hyk3 (by assumption) ?restk3
      case hik3 => simp only [gA, gS, gZ]; rfl
      case hyk3 =>
        refine Or.inl ⟨by rfl, ?_⟩
        intro w hSw; (try dsimp only at hSw); go_simp <;> (with_reducible rfl)
      (try simp only [Act.put, pA, pZ, pS])
      refine wpAnyH_take (i := 4) (oi := ?ok4) (v := ?vk4) ?hik4 (by kernel_rfl) (by kernel_rfl) (by kernel_rfl) (fun _ _ _ h => h) ?hyk4 (by assumption) ?restk4
      case hik4 => simp only [gA, gS, gZ]; rfl
      case hyk4 =>
        refine Or.inl ⟨by rfl, ?_⟩
        intro w hSw; (try dsimp only at hSw); go_simp <;> (with_reducible rfl)
      (try simp only [Act.put, pA, pZ, pS])
      refine wpAnyH_take (i := 6) (oi := ?ok6) (v := ?vk6) ?hik6 (by kernel_rfl) (by kernel_rfl) (by kernel_rfl) (fun _ _ _ h => h) ?hyk6 (by assumption) ?restk6
      case hik6 => simp only [gA, gS, gZ]; rfl
      case hyk6 =>
        refine Or.inl ⟨by rfl, ?_⟩
        intro w hSw; (try dsimp only at hSw); go_simp <;> (with_reducible rfl)
      (try simp only [Act.put, pA, pZ, pS])
      refine wpAnyH_take (i := 7) (oi := ?ok7) (v := ?vk7) ?hik7 (by kernel_rfl) (by kernel_rfl) (by kernel_rfl) (fun _ _ _ h => h) ?hyk7 (by assumption) ?restk7
      case hik7 => simp only [gA, gS, gZ]; rfl
      case hyk7 =>
        refine Or.inl ⟨by rfl, ?_⟩
        intro w hSw; (try dsimp only at hSw); go_simp <;> (with_reducible rfl)
      (try simp only [Act.put, pA, pZ, pS])
      refine wpAnyH_take (i := 8) (oi := ?ok8) (v := ?vk8) ?hik8 (by kernel_rfl) (by kernel_rfl) (by kernel_rfl) (fun _ _ _ h => h) ?hyk8 (by assumption) ?restk8
      case hik8 => simp only [gA, gS, gZ]; rfl
      case hyk8 =>
        refine Or.inl ⟨by rfl, ?_⟩
        intro w hSw; (try dsimp only at hSw); go_simp <;> (with_reducible rfl)
      (try simp only [Act.put, pA, pZ, pS])
      refine wpAnyH_ready (rs := [5]) (by kernel_rfl) (by simp) ?_
      refine AllReadyH.cons rfl (fun K hK => ?_) AllReadyH.nil
      go_simp
      refine (HNV.out _ _ _ HNB2.out HVD.out).mono ?_
      rintro _ w7 ⟨cy, ky, rfl, hvy, hb⟩
      simp only [VT.v]
      have HVY := Lib.hid (VAt.any hvy)
      have HD5 := Lib.hid (HD0.out.trans (hb.mono HD0.out.size))
      clear hb hvy
      refine hK.out _ _ (HSX.out HD5.out) (fun hHeldk5 => ?_)
      clear hK K
      (try simp only [Act.put, pA, pZ, pS])
      refine wpAnyH_ready (rs := [9]) (by kernel_rfl) (by simp) ?_
      refine AllReadyH.cons rfl (fun K hK => ?_) AllReadyH.nil
      go_simp
      refine (HSM.out _ _ _ _ _ HVY.out ((HVT.out.under HBW.out).under HD5.out) (HTM.out.under HD5.out) ((HTH.out.under HBW.out).under HD5.out)).mono ?_
      rintro _ w8 ⟨rfl, hb⟩
      have HD9 := Lib.hid (HD5.out.trans (hb.mono HD5.out.size))
      clear hb
      refine hK.out _ _ (HSX.out HD9.out) (fun hHeldk9 => ?_)
      clear hK K
      (try simp only [Act.put, pA, pZ, pS])
      refine wpAnyH_take (i := 10) (oi := ?ok10) (v := ?vk10) ?hik10 (by kernel_rfl) (by kernel_rfl) (by kernel_rfl) (fun _ _ _ h => h) ?hyk10 (by assumption) ?restk10
      case hik10 => simp only [gA, gS, gZ]; rfl
      case hyk10 =>
        refine Or.inl ⟨by rfl, ?_⟩
        intro w hSw; (try dsimp only at hSw); go_simp <;> (with_reducible rfl)
      (try simp only [Act.put, pA, pZ, pS])
      refine wpAnyH_take (i := 11) (oi := ?ok11) (v := ?vk11) ?hik11 (by kernel_rfl) (by kernel_rfl) (by kernel_rfl) (fun _ _ _ h => h) ?hyk11 (by assumption) ?restk11
      case hik11 => simp only [gA, gS, gZ]; rfl
      case hyk11 =>
        refine Or.inl ⟨by rfl, ?_⟩
        intro w hSw; (try dsimp only at hSw); go_simp <;> (with_reducible rfl)
      (try simp only [Act.put, pA, pZ, pS])
      refine wpAnyH_ready (rs := [12]) (by kernel_rfl) (by simp) ?_
      refine AllReadyH.cons rfl (fun K hK => ?_) AllReadyH.nil
      go_simp
      refine (alive_any _ (HT.out _ (HBA.out.trans (HD9.out.mono HBA.out.size)))).mono ?_
      rintro _ w9 ⟨rfl, hb⟩
      have HD12 := Lib.hid (HD9.out.trans (hb.mono HD9.out.size))
      clear hb
      refine hK.out _ _ (HSX.out HD12.out) (fun hHeldk12 => ?_)
      clear hK K
      (try simp only [Act.put, pA, pZ, pS])
      refine wpAnyH_take (i := 13) (oi := ?ok13) (v := ?vk13) ?hik13 (by kernel_rfl) (by kernel_rfl) (by kernel_rfl) (fun _ _ _ h => h) ?hyk13 (by assumption) ?restk13
      case hik13 => simp only [gA, gS, gZ]; rfl
      case hyk13 =>
        refine Or.inl ⟨by rfl, ?_⟩
        intro w hSw; (try dsimp only at hSw); go_simp <;> (with_reducible rfl)
      (try simp only [Act.put, pA, pZ, pS])
      refine wpAnyH_take (i := 14) (oi := ?ok14) (v := ?vk14) ?hik14 (by kernel_rfl) (by kernel_rfl) (by kernel_rfl) (fun _ _ _ h => h) ?hyk14 (by assumption) ?restk14
      case hik14 => simp only [gA, gS, gZ]; rfl
      case hyk14 =>
        refine Or.inl ⟨by rfl, ?_⟩
        intro w hSw; (try dsimp only at hSw); go_simp <;> (with_reducible rfl)
      (try simp only [Act.put, pA, pZ, pS])
      refine wpAnyH_done (by kernel_rfl) ?_ _
      refine NoPanic.normal ?_
      go_wp2_with fail
      go_ret
      exact ⟨rfl, HBA.out.trans (HD12.out.mono HBA.out.size)⟩
set_option maxHeartbeats 3200000 in
set_option maxRecDepth 100000 in
theorem back_any {v : VT} {F : List TP} (hg : GoodS v) (hT : ∀ th ∈ F, th.1.size ≤ 1073741824 ∧ th.2.length ≤ 140737488355328 ∧ ∀ x ∈ th.2, KG x.1 ∧ GoodS x.2) (w : World) (c tv : Value) (hv : VCap w c v.xs) (hF : ThCap w tv F) (ht : Tabs w) : Calls Tryz.prog 7 #[v.v c, tv] w (BoolPost w true) := by
  obtain ⟨s, e, hp⟩ : ∃ s e, packP v F = (s, e) := ⟨_, _, rfl⟩
  by_cases he : e = 0
  · subst he
    obtain ⟨O, hP⟩ := pack_back hp hg hT (by obtain ⟨_, _, _, h, _⟩ := hF; exact h)
    exact back_ok hP hp hg hT w c tv hv hF ht
  · have HPK := Lib.hid (fun W h1 h2 h3 => by have := pack_any F (w := W) (tv := tv) (c := c) h1 hg h2 (fun th hm => ⟨(hT th hm).1, (hT th hm).2.2⟩) h3; rw [hp] at this; exact this : ∀ W, ThAt W tv F → VIn W c v.xs → Tabs W → Calls Tryz.prog 17 #[v.v c, tv] W (PackPost W (s, e)))
    obtain ⟨ao, cap, rfl, -, -⟩ := hv.form
    have HV := Lib.hid hv
    have HF := Lib.hid hF
    have HT : Hid (∀ W, Below w.heap.size w W → Tabs W) := Lib.hid fun W h => ht.mono h
    have HX := Lib.hid (heap_alloc_new w (VB v (.slice ao v.xs.length cap)))
    have HB := Lib.hid (below_alloc1 w (VB v (.slice ao v.xs.length cap)))
    obtain ⟨a0, a1, a2, a3⟩ := vb_cells HX.out
    have hne : (e != 0) = true := by simp [he]
    have hne2 : ¬ e = 0 := he
    clear hv hF ht hg hT hp he
    simp only [VT.v] at HPK ⊢
    go_enter Tryz.func7, Tryz.ntmps7
    go_wp2_with fail
    refine (HPK.out _ (HF.out.thAt.under HB.out) (HV.out.vin.under HB.out) (HT.out _ HB.out)).mono ?_
    rintro _ w1 ⟨rfl, hb⟩
    have HB1 := Lib.hid (HB.out.trans (hb.mono HB.out.size))
    have HA := alive_any _ (HT.out _ HB1.out)
    clear hb HPK a0 a1 a2 a3
    dsimp only
    go_wp2_with fail
    refine HA.mono ?_
    rintro _ w2 ⟨rfl, hb2⟩
    go_wp2_with fail
    go_ret
    exact ⟨rfl, HB1.out.trans (hb2.mono HB1.out.size)⟩
end Go.Proofs.YtnaefnojmiolbaaGreatDoor
