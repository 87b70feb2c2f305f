/-
  The walks of Copy and All; All's iterator: its contract.
  The walk of pack's all: a list's items in a slice of their own (printed by genAllZ.py).
  Which texts are classes' names, as plain data; the parts between backslashes.
  The walks of Name, both sides.
  A reader of packed graphs in memory; the walks of now, fail, wrong.
-/
import Derived.Test.YtnaefnojmiolbaaGreatDoorJw2
import Derived.Test.YtnaefnojmiolbaaGreatDoorJw7
import Derived.Test.YtnaefnojmiolbaaGreatDoorJw3
import Derived.Shelf.Strings.Split
namespace Go.Proofs.YtnaefnojmiolbaaGreatDoor
open Go.RowKit Go.Shelf

attribute [local go_sem] Oper.semAt_some
/-- What Copy leaves. -/
def CopyPost (w : World) (b : Nat) (v : Value) (mb : Nat) (nx : Int) (e : Ending) (w' : World) : Prop :=
  e = .returned (.pointer (some ⟨w.heap.size, 0, none⟩)) ∧ w'.heap[w.heap.size]? = some (.cells #[.bool true, .bool true, v, .map (some mb), .int .i64 nx] 161 (0, 0)) ∧ Mod (fun k => k = b) w w'
set_option maxRecDepth 100000 in
theorem copy_any {b : Nat} {v : Value} {mb : Nat} {l : LS} {ys : List It2} (w : World) (i : LIs w b v mb l ys) : Calls Tryz.prog 130 #[.pointer (some ⟨b, 0, none⟩)] w (CopyPost w b v mb l.nx) := by
  obtain ⟨ao, cap, hv, -⟩ := i.own.any
  rw [rows2_len] at hv
  subst hv
  obtain ⟨c0, c1, c2, c3, c4⟩ := cells5 i.blk
  have f1 := free_blk i.blk 1
  have hb1 := set_blk i.blk 1 (.bool true)
  simp only [Array.setIfInBounds] at hb1
  have I := Lib.hid i
  obtain ⟨e0, e1, e2, e3, e4⟩ := cells5 (b := b) (m := true) (sh := true) (v := .slice ao ys.length cap) (mv := .map (some mb)) (nv := .int .i64 l.nx) (by simpa using hb1)
  clear i hb1
  go_enter Tryz.func130, Tryz.ntmps130
  go_wp2_with (go_at_call 128; refine (lok_any _ _ _ c0).mono ?_; rintro e w' ⟨rfl, rfl⟩)
  refine bodyPost_ret (v := .pointer (some ⟨w.heap.size, 0, none⟩)) (by simp [results, Tryz.results130, go_sem]) rfl ⟨rfl, ?_, ?_⟩
  · have h2 := heap_alloc_new (w.setCell ⟨b, 1, none⟩ (.bool true)) (.cells #[.bool true, .bool true, .slice ao ys.length cap, .map (some mb), .int .i64 l.nx] 161)
    rw [World.size_setCell] at h2
    exact h2
  · exact ((Mod.refl (fun k => k = b) w).setCell _ _ (fun _ => rfl)).alloc _
theorem all_fn (p : Option Addr) (w : World) : Calls Tryz.prog 100 #[.pointer p] w fun e w' => e = .returned (.func (.func 129) #[] #[.pointer (some ⟨w.heap.size, 0, none⟩)]) ∧ w' = w.alloc (.cells #[.pointer p] 129) := by
  go_enter Tryz.func100, Tryz.ntmps100
  go_wp2
  go_ret
  exact ⟨rfl, rfl⟩
theorem owns_type {w : World} {e size : Nat} {v : Value} {rows : List (List Value)} (o : Owns w e size v rows) {g : Nat} (hg : v.ownBlock = some g) : ∃ cur, w.heap[g]? = some (.cells cur e (0, 0)) := owns_blk o hg
def y0 : It2 := ((k0, .mk 0 0 ⟨#[]⟩ []), .slice none 0 0)
def itAt (ys : List It2) (j : Nat) : It2 := ys[j]?.getD y0
theorem itAt_lt {ys : List It2} {j : Nat} (h : j < ys.length) : itAt ys j = ys[j] := by unfold itAt; simp [h]
abbrev encL (ys : List It2) (j : Nat) : Array Value := #[(itAt ys j).1.1.v, (itAt ys j).1.2.v (itAt ys j).2]
/-- What the iterator does ahead of the first round: it marks the list. -/
def PreL (b : Nat) (_ : Nat) (W W' : World) : Prop := Mod (fun k => k = b) W W'
/-- What a round must keep: the items. -/
def KpL (v : Value) (_ : Nat) (W W' : World) : Prop := ∀ k cs t, v.ownBlock = some k → W.heap[k]? = some (.cells cs t (0, 0)) → W'.heap[k]? = some (.cells cs t (0, 0))
theorem KpL.owns {v : Value} {c : Nat} {W W' : World} {e : TypeId} {size : Nat} {rows : List (List Value)} (h : KpL v c W W') (o : Owns W e size v rows) : Owns W' e size v rows :=
  o.kept fun g e => by
    obtain ⟨cur, hc⟩ := owns_type o e
    rw [h g cur _ e hc, hc]
theorem KpL.trans {v : Value} {c : Nat} {A B C : World} (h : KpL v c A B) (k : KpL v c B C) : KpL v c A C := fun q cs t e hc => k q cs t e (h q cs t e hc)
theorem KpL.putObj {v : Value} {c : Nat} {W : World} {l : Nat} {o o' : Obj} (hl : W.heap[l]? = some o) (ho : o.isCells = false) : KpL v c W (W.putObj l o') := fun k cs t _ hc => by
  have hne : k ≠ l := fun e => by
    rw [e, hl] at hc
    cases hc
    cases ho
  exact (World.putObj_heap_other hne).trans hc
abbrev LB (y : K) (x : VT) (c : Value) : Obj := .cells #[.bool y.b, .int .i64 y.n, .string y.t, .int .i64 x.k, .int .i64 x.n, .string x.t, c] 167 (0, 0)
set_option maxRecDepth 100000 in
set_option maxHeartbeats 3200000 in
theorem all_seq {b mb : Nat} {v : Value} {l : LS} {ys : List It2} (B : Nat) (m : Nat) (w : World) (i : LIs w b v mb l ys) (hB : w.heap[B]? = some (.cells #[.pointer (some ⟨b, 0, none⟩)] 129 (0, 0))) :
    SeqG Fence.wide m Tryz.prog 129 #[.pointer (some ⟨B, 0, none⟩)] (encL ys) (PreL b) (KpL v) ys.length w := by
  obtain ⟨ao, cap, hv, -⟩ := i.own.any
  rw [rows2_len] at hv
  subst hv
  intro q J Jx W hbW hJa hY hP
  have iW := i.under hbW
  have c0 := (cells5 iW.blk).1
  have cB := cell_blk ((hbW.block _ (lt_of_block hB)).trans hB) 0
  have HC := copy_any W iW
  have hlen : ys.length ≤ 2048 := by rw [i.len]; exact i.ok.len
  have HS : Hid (∀ y ∈ ys, ∃ co cc, y.2 = .slice co y.1.2.xs.length cc) := Lib.hid (fun y hy => by obtain ⟨co, cc, h, -⟩ := (i.val y hy).form; exact ⟨co, cc, h⟩)
  have HI := Lib.hid iW
  have HY := Lib.hid hY
  have HP := Lib.hid hP
  have HJ := Lib.hid hJa
  clear i hB iW hY hP hJa hbW
  refine callsIn_of_wp Tryz.func129 rfl trivial ?_ rfl
  simp only [Tryz.ntmps129, List.size_toArray, List.length_cons, List.length_nil, Nat.reduceAdd, Nat.reduceSub, Array.replicate_succ, Array.replicate_zero, List.push_toArray, List.append_toArray, List.nil_append, List.cons_append]
  gi_wp2_with (first
    | (refine ⟨trivial, fun h => (by cases h), ?_⟩; gi_at_call 128; refine (callsIn_wide.2 (lok_any _ _ _ c0)).mono ?_; rintro e w' ⟨rfl, rfl⟩)
    | (refine ⟨trivial, fun h => (by cases h), ?_⟩; gi_at_call 130; refine (callsIn_wide.2 HC).mono ?_; rintro e w1 ⟨rfl, i2, m1⟩; have P0 := HP.out 0 w1 m1; have c2 := (cells5 i2).2.2.1; have O1 := Lib.hid (HI.out.own.mod m1 (fun g e x => HI.out.ne1 (by rw [e, x]))); clear HP i2 m1))
  gi_loopw [16] (fun i wr => ∃ k : Nat, k ≤ ys.length ∧ i = .int .i64 k ∧ Hid (J 0 k wr ∧ Owns wr 167 7 (.slice ao ys.length cap) (rows2 ys))) (fun i _ => ys.length - (intOf i).toNat)
  case atStart => exact ⟨0, Nat.zero_le _, rfl, P0, O1.out⟩
  case round =>
    obtain ⟨k, hk, rfl, HS2⟩ := hrel
    by_cases hlt : k < ys.length
    · obtain ⟨ao', cap', hv, h1, h2, h3, _, h5⟩ := HS2.out.2.any
      rw [rows2_len] at hv
      cases hv
      obtain ⟨g, off, rfl, hg, _, hc⟩ := h3 k (itCells ys[k].1 ys[k].2) (by simp [rows2, hlt])
      obtain ⟨rfl, _⟩ := h5 g off rfl
      have d0 := hc 0 _ rfl
      have d1 := hc 1 _ rfl
      have d2 := hc 2 _ rfl
      have d3 := hc 3 _ rfl
      have d4 := hc 4 _ rfl
      have d5 := hc 5 _ rfl
      have d6 := hc 6 _ rfl
      simp only [Nat.zero_add, Nat.add_zero] at d0 d1 d2 d3 d4 d5 d6
      have hi1 : (k : Int) < (ys.length : Int) := by omega
      obtain ⟨co, cc, hcv⟩ := HS.out ys[k] (List.getElem_mem hlt)
      obtain ⟨y, x, c, hyx⟩ : ∃ y x c, ((y, x), c) = ys[k] := ⟨_, _, _, rfl⟩
      rw [← hyx] at d0 d1 d2 d3 d4 d5 d6 hcv
      have hcv : c = .slice co x.xs.length cc := hcv
      subst hcv
      have HR := HY.out 0 k (wr.alloc (LB y x (.slice co x.xs.length cc))) (HJ.out _ _ _ _ HS2.out.1) hlt
      have he : encL ys k = #[.agg #[.bool y.b, .int .i64 y.n, .string y.t], .agg #[.int .i64 x.k, .int .i64 x.n, .string x.t, .slice co x.xs.length cc]] := by unfold encL; rw [itAt_lt hlt, ← hyx]; rfl
      rw [he] at HR
      obtain ⟨fn, tmps, assign, body, hy, hR⟩ := HR
      clear h1 h2 h3 h5 hc hyx he HY hg
      gi_wp2
      refine ⟨fun h => (by cases h), hR.mono ?_⟩
      clear hy hR
      rintro e W3 (⟨rfl, hJ3, hk3⟩ | ⟨rfl, hJx3⟩)
      · gi_wp2
        go_roundw
        case rel => exact ⟨k + 1, hlt, by go_num, hJ3, hk3.owns (HS2.out.2.kept (fun g e => Below.heap_alloc _ _ _ (HS2.out.2.lt e)))⟩
        case measure => exact Nat.sub_lt_sub_left hlt (Nat.lt_succ_self k)
      · gi_wp2
        refine bodyPost_ret (results_none rfl _ _ _) rfl ?_
        exact ⟨⟨_, rfl⟩, 0, .inr ⟨k, hlt, hJx3⟩⟩
    · obtain rfl : k = ys.length := by omega
      gi_wp2
      refine bodyPost_end (v := .tuple #[]) (by simp [results, Tryz.results129, go_sem]) rfl ?_
      exact ⟨⟨_, rfl⟩, 0, .inl HS2.out.1⟩
end Go.Proofs.YtnaefnojmiolbaaGreatDoor

namespace Go.Proofs.YtnaefnojmiolbaaGreatDoor
open Go.RowKit Go.Shelf

attribute [local go_sem] Oper.semAt_some
theorem info64 : (Tryz.prog.info? 64).map (fun i => (i.zero, i.size, i.bytes)) = some (some (.agg #[.bool false, .int .i64 0, .string ⟨#[]⟩, .int .i64 0, .int .i64 0, .string ⟨#[]⟩, .slice none 0 0]), 7, 88) := by kernel_rfl
theorem keeps_of_mod {Z : Nat → Prop} {W W' : World} (B : Nat) (m : Mod Z W W') (hz : ∀ k, Z k → k < W.heap.size → ∃ cs t fr, W.heap[k]? = some (.cells cs t fr)) : KeepsR B W W' :=
  KeepsR.of_mod B m (fun k o h ho => by obtain ⟨cs, t, fr, hc⟩ := hz k h (lt_of_block ho); rw [hc] at ho; cases ho; rfl)
theorem grown_blk {W W' : World} {row : Option Nat} {B : Nat} {k : Nat} {o : Obj} (hk : W.heap[k]? = some o) (ho : ∀ x, o ≠ .loop x) (hg : W.grownBy W' row) (hr : ∀ r, row = some r → B ≤ r ∧ ∃ o : Loop, W.heap[r]? = some (.loop o)) : W'.heap[k]? = some o :=
  ownL_block (β := Unit) B k o ho () W W' row hk hg hr
theorem cells_noloop (cs : Array Value) (t : TypeId) (fr : Nat × Nat) : ∀ x, (Obj.cells cs t fr) ≠ .loop x := fun x e => by cases e
/-- While a list is gone over: what has come out so far. -/
structure AI (w W : World) (b : Nat) (ys : List It2) (j : Nat) (vo : Value) : Prop where
  out : W.heap[w.heap.size]? = some (.cells #[vo] 22 (0, 0))
  own : Owns W 64 7 vo (rows2 (ys.take j))
  fresh : ∀ g, vo.ownBlock = some g → w.heap.size < g
  mod : Mod (fun k => k = b) w W
theorem AI.loop {w W W' : World} {b : Nat} {ys : List It2} {j : Nat} {vo : Value} (h : AI w W b ys j vo) {row : Option Nat} {B : Nat} (hB : w.heap.size < B) (hg : W.grownBy W' row) (hr : ∀ r, row = some r → B ≤ r ∧ ∃ o : Loop, W.heap[r]? = some (.loop o)) : AI w W' b ys j vo :=
  ⟨grown_blk h.out (cells_noloop _ _ _) hg hr, h.own.kept fun g e => by
      obtain ⟨cur, hc⟩ := owns_type h.own e
      rw [grown_blk hc (cells_noloop _ _ _) hg hr, hc], h.fresh, h.mod.grown hg (fun k e hk => by have := (hr k e).1; omega)⟩
theorem AI.under {w W W' : World} {b : Nat} {ys : List It2} {j : Nat} {vo : Value} (h : AI w W b ys j vo) (hb : Below W.heap.size W W') : AI w W' b ys j vo :=
  ⟨(hb.block _ (lt_of_block h.out)).trans h.out, h.own.kept fun g e => hb.block g (h.own.lt e), h.fresh, h.mod.trans (Mod.of_below hb)⟩
/-- Within a round: the item has come. -/
structure AR (w W2 : World) (b : Nat) (ys : List It2) (j : Nat) (vo : Value) (B0 : Nat) (v : Value) : Prop where
  ai : AI w W2 b ys j vo
  hj : j < ys.length
  hB : w.heap.size < B0
  nb : b < w.heap.size
  vlt : ∀ g, v.ownBlock = some g → g < w.heap.size
section
variable {w W2 w6 : World} {b : Nat} {ys : List It2} {j : Nat} {vo v : Value} {g7 cap6 B0 : Nat} {o : Obj} {y : K} {x : VT} {co : Option Addr} {cc : Nat}
theorem ar_g (V6 : (Value.slice (some ⟨g7, 0, none⟩) (j + 1) cap6).ownBlock = vo.ownBlock ∨ ∃ k, (Value.slice (some ⟨g7, 0, none⟩) (j + 1) cap6).ownBlock = some k ∧ (W2.drew.alloc o).heap.size ≤ k) : g7 < W2.heap.size → vo.ownBlock = some g7 := fun h => by
  rcases V6 with e | ⟨k, e, hk⟩
  · rw [← e]; rfl
  · have h3 : g7 = k := Option.some.inj e
    simp at hk
    omega
theorem take_rows {ys : List It2} {j : Nat} {y : It2} (hy : ys[j]? = some y) : rows2 (ys.take (j + 1)) = rows2 (ys.take j) ++ [itCells y.1 y.2] := by
  rw [List.take_add_one, hy]
  simp [rows2]
/-- What a round leaves. -/
def ArPost (w W2 W : World) (b : Nat) (ys : List It2) (j B0 : Nat) (v : Value) : Prop := KeepsR B0 W2 W ∧ KpL v 0 W2 W ∧ ∃ vo', AI w W b ys (j + 1) vo'
end
/-- Items owned in blocks of items are items behind a slice value. -/
theorem vt64_of {W : World} {vo : Value} {ys : List It2} (o : Owns W 64 7 vo (rows2 ys)) (hv : ∀ y ∈ ys, VT64 W y.2 y.1.2.xs) (hl : ys.length ≤ 140737488355328) : VT64 W vo (ys.map (·.1)) := by
  obtain ⟨ao, cap, hvo, -, -, hl2, -, hown⟩ := o.any
  have hlen : (rows2 ys).length = (ys.map (·.1)).length := by rw [rows2_len, List.length_map]
  rw [hlen] at hvo
  subst hvo
  refine VAt.mk ao cap (ys.map (·.1)) (fun j => (itAt ys j).2) ?_ ?_ (by rw [List.length_map]; exact hl) ?_
  · have e : rowsV (ys.map (·.1)) (fun j => (itAt ys j).2) = rows2 ys := by
      unfold rowsV rows2
      apply List.ext_getElem
      · simp
      · intro i h1 h2
        simp at h1 h2
        simp [itAt_lt (ys := ys) (j := i) (by omega)]
    rw [e]
    exact hl2
  · intro g off e hne
    obtain ⟨rfl, hown2⟩ := hown g off e
    obtain ⟨cur, hc⟩ := owns_type o hown2
    exact ⟨cur, _, hc⟩
  · intro j hj
    have hj' : j < ys.length := by simpa using hj
    rw [itAt_lt hj']
    simpa using hv ys[j] (List.getElem_mem hj')
/-- What all leaves. -/
def AllPost (w : World) (b : Nat) (xs : List It) (e : Ending) (w' : World) : Prop :=
  ∃ co cc, e = .returned (.slice co xs.length cc) ∧ VT64 w' (.slice co xs.length cc) xs ∧ Mod (fun k => k = b) w w'
end Go.Proofs.YtnaefnojmiolbaaGreatDoor

namespace Go.Proofs.YtnaefnojmiolbaaGreatDoor
open Go.RowKit

theorem toList_at {s : ByteArray} {j : Nat} (h : j < s.size) : s.toList[j]'(by rw [size_toList]; exact h) = s[j] := by
  simp [ByteArray.toList_eq]
  rfl
/-- A text's parts between backslashes. -/
def partsP : Bs → List Bs
  | [] => [[]]
  | c :: r => if c = 92 then [] :: partsP r else match partsP r with
    | p :: ps => (c :: p) :: ps
    | [] => [[c]]
def letterC (c : UInt8) : Bool := decide (c.toNat = 95) || (decide (97 ≤ c.toNat) && decide (c.toNat ≤ 122)) || (decide (65 ≤ c.toNat) && decide (c.toNat ≤ 90))
def digitC (c : UInt8) : Bool := decide (48 ≤ c.toNat) && decide (c.toNat ≤ 57)
def partOk : Bs → Bool
  | [] => false
  | c :: r => letterC c && r.all fun d => letterC d || digitC d
/-- Is a text a class's name? -/
def nameP (s : Bs) : Bool := decide (s.length ≤ 64) && (partsP s).all partOk
/-- The document's way: byte by byte. -/
def rscan : Bool → Bs → Option Bool
  | b, [] => some b
  | b, c :: r => if b && !letterC c then none else if c = 92 then rscan true r else if !letterC c && !digitC c then none else rscan false r
def okC (c : UInt8) : Bool := letterC c || digitC c
end Go.Proofs.YtnaefnojmiolbaaGreatDoor

namespace Go.Proofs.YtnaefnojmiolbaaGreatDoor
open Go.RowKit

/-- A letter, a digit, or none, as the code compares. -/
def NC (x : Int) (l d : Bool) (b1 b2 b3 b4 b5 b6 b7 : Bool) : Prop :=
  (x == 95) = b1 ∧ decide (97 ≤ x) = b2 ∧ decide (x ≤ 122) = b3 ∧ decide (65 ≤ x) = b4 ∧ decide (x ≤ 90) = b5 ∧ decide (x < 48) = b6 ∧ decide (57 < x) = b7 ∧
  l = (b1 || (b2 && b3) || (b4 && b5)) ∧ d = (!b6 && !b7)
theorem digit_int (c : UInt8) {x : Int} (hx : (c.toNat : Int) = x) : digitC c = (decide (48 ≤ x) && decide (x ≤ 57)) := by
  subst hx
  unfold digitC
  congr 1 <;> (apply decide_eq_decide.2; omega)
set_option maxRecDepth 100000 in
theorem rdigit_any (c : UInt8) (w : World) : Calls Tryz.prog 40 #[.int .u8 c.toNat] w fun e w' => e = .returned (.bool (digitC c)) ∧ w = w' := by
  obtain ⟨x, hx⟩ : ∃ x : Int, (c.toNat : Int) = x := ⟨_, rfl⟩
  have h1 := digit_int c hx
  obtain ⟨e1, he1⟩ : ∃ e, decide (48 ≤ x) = e := ⟨_, rfl⟩
  obtain ⟨e2, he2⟩ : ∃ e, decide (x ≤ 57) = e := ⟨_, rfl⟩
  rw [h1, he1, he2, hx]
  clear h1 hx
  cases e1 <;> cases e2 <;> (go_enter Tryz.func40, Tryz.ntmps40; go_wp2_with fail; go_ret; exact ⟨rfl, rfl⟩)
/-- What is still to be seen of a part behind p bytes. -/
def behind (p : Nat) (l : Bs) : Bool := if p = 0 then partOk l else (l.drop p).all okC
end Go.Proofs.YtnaefnojmiolbaaGreatDoor

namespace Go.Proofs.YtnaefnojmiolbaaGreatDoor
open Go.RowKit

theorem var_same {P : Program} {w w' : World} {n : String} {cs : Array Value} {g : Nat} (hg : P.globalNamed n = some g) (h : w.var? P n = some cs) (hb : w'.heap[g]? = w.heap[g]?) : w'.var? P n = some cs := by
  unfold World.var? at h ⊢
  rw [hg] at h ⊢
  simp only [Option.bind_some] at h ⊢
  rw [hb]
  exact h
theorem g3 : Tryz.prog.globalNamed "internal/strconv.uint64pow10" = some 3 := by kernel_rfl
theorem g4 : Tryz.prog.globalNamed "strconv.ErrSyntax" = some 4 := by kernel_rfl
theorem g5 : Tryz.prog.globalNamed "strconv.ErrRange" = some 5 := by kernel_rfl
theorem Tabs.lt {w : World} (h : Tabs w) : 6 ≤ w.heap.size := by
  obtain ⟨tp, p, hr⟩ := h.rng
  unfold World.var? at hr
  rw [g5] at hr
  simp only [Option.bind_some] at hr
  rcases Nat.lt_or_ge 5 w.heap.size with hl | hl
  · omega
  · rw [Array.getElem?_eq_none hl] at hr; cases hr
/-- The tables abide what turns no variable. -/
theorem Tabs.mod {Z : Nat → Prop} {w w' : World} (h : Tabs w) (m : Mod Z w w') (hz : ∀ k, Z k → 6 ≤ k) : Tabs w' := by
  have hl := h.lt
  have hb : ∀ k, k < 6 → w'.heap[k]? = w.heap[k]? := fun k hk => m.block k (by omega) (fun x => by have := hz k x; omega)
  refine ⟨var_same g3 h.pow (hb 3 (by omega)), ?_, ?_, ?_, ?_⟩
  · obtain ⟨a, b, e⟩ := h.rng; exact ⟨a, b, var_same g5 e (hb 5 (by omega))⟩
  · obtain ⟨a, b, e⟩ := h.syn; exact ⟨a, b, var_same g4 e (hb 4 (by omega))⟩
  · obtain ⟨x, e⟩ := h.len; exact ⟨x, (World.cell?_of_block (w := w) (hb 2 (by omega))).trans e⟩
  · exact ⟨fun c hc => (World.cell?_of_block (w := w) (hb 0 (by omega))).trans (h.utf.1 c hc), fun i hi => ⟨(World.cell?_of_block (w := w) (hb 1 (by omega))).trans (h.utf.2 i hi).1, (World.cell?_of_block (w := w) (hb 1 (by omega))).trans (h.utf.2 i hi).2⟩⟩
/-- A thing: its class, its items, the slice value before them. -/
structure Th where
  cls : ByteArray
  xs : List It
  c : Value
def Th.row (t : Th) : List Value := [.string t.cls, t.c]
/-- A reader in memory. -/
structure Rd (w : World) (r : Nat) (s : ByteArray) (p m : Nat) (tv : Value) (ths : List Th) : Prop where
  blk : w.heap[r]? = some (.cells #[.string s, .int .i64 p, .int .i64 m, tv] 116 (0, 0))
  own : Owns w 48 2 tv (ths.map Th.row)
  ne : tv.ownBlock ≠ some r
  val : ∀ t ∈ ths, VT64 w t.c t.xs
  hp : p ≤ s.size
  hs : s.size ≤ 65536
  hm : m ≤ 2049
  tab : Tabs w
  r6 : 6 ≤ r
  t6 : ∀ g, tv.ownBlock = some g → 6 ≤ g
/-- The blocks that a reader turns. -/
def RF (r : Nat) (tv : Value) (k : Nat) : Prop := k = r ∨ tv.ownBlock = some k
section
variable {w w' : World} {r : Nat} {s : ByteArray} {p m : Nat} {tv : Value} {ths : List Th}
theorem Rd.under (h : Rd w r s p m tv ths) (hb : Below w.heap.size w w') : Rd w' r s p m tv ths :=
  ⟨(hb.block _ (lt_of_block h.blk)).trans h.blk, h.own.kept fun g e => hb.block g (h.own.lt e), h.ne, fun t ht => VT64.under (h.val t ht) hb, h.hp, h.hs, h.hm, h.tab.mono hb, h.r6, h.t6⟩
theorem Rd.no64 (h : Rd w r s p m tv ths) {k : Nat} (hk : RF r tv k) : ¬ B64 w k := by
  rintro ⟨cs, fr, hc⟩
  rcases hk with rfl | hk
  · rw [h.blk] at hc; cases hc
  · obtain ⟨cur, h2⟩ := owns_type h.own hk
    rw [h2] at hc; cases hc
theorem Rd.cells (h : Rd w r s p m tv ths) : w.cell? ⟨r, 0, none⟩ = some (.string s) ∧ w.cell? ⟨r, 1, none⟩ = some (.int .i64 p) ∧ w.cell? ⟨r, 2, none⟩ = some (.int .i64 m) ∧ w.cell? ⟨r, 3, none⟩ = some tv :=
  ⟨cell_blk h.blk 0, cell_blk h.blk 1, cell_blk h.blk 2, cell_blk h.blk 3⟩
theorem Rd.setAt (h : Rd w r s p m tv ths) {q : Nat} (hq : q ≤ s.size) {v : Int} (hv : v = (q : Int)) : Rd (w.setCell ⟨r, 1, none⟩ (.int .i64 v)) r s q m tv ths :=
  hv ▸ ⟨by have := set_blk h.blk 1 (.int .i64 q); simpa using this, h.own.kept fun g e => Below.heap_setCell _ _ _ _ (fun c => h.ne (by rw [e, c])), h.ne,
    fun t ht => VT64.mod (h.val t ht) ((Mod.refl (fun k => k = r) w).setCell _ _ (fun _ => rfl)) (fun g e => h.no64 (.inl e)), hq, h.hs, h.hm, h.tab.mod ((Mod.refl (fun k => k = r) w).setCell _ _ (fun _ => rfl)) (fun k e => by rw [show k = r from e]; exact h.r6), h.r6, h.t6⟩
end
/-- The byte at the place; 0 behind the end. -/
def nowP (s : ByteArray) (p : Nat) : UInt8 := s.toList[p]?.getD 0
theorem nowP_lt {s : ByteArray} {p : Nat} (h : p < s.size) : nowP s p = s[p] := by
  unfold nowP
  rw [List.getElem?_eq_getElem (by rw [size_toList]; exact h), toList_at h]
  rfl
theorem nowP_end {s : ByteArray} {p : Nat} (h : ¬ p < s.size) : nowP s p = 0 := by
  unfold nowP
  rw [List.getElem?_eq_none (by rw [size_toList]; omega)]
  rfl
/-- How a reader gives up. -/
abbrev stopE (c : Int) (a : Nat) : Ending := .panicked [{ v := .iface 141 (.agg #[.int .i64 c, .int .i64 a]), recovered := false }]
/-- What wrong tells: nothing stands there, or something else. -/
def wrongC (s : ByteArray) (p : Nat) : Int := if p < s.size then 7 else 10
/-- Some bytes that must stand at a place: the place behind them, or a number and a place. -/
def mustP (s : ByteArray) : Bs → Nat → Except (Int × Nat) Nat
  | [], p => .ok p
  | c :: t, p => if p < s.size ∧ nowP s p = c then mustP s t (p + 1) else .error (wrongC s p, p)
/-- What a reader's call leaves, whatever comes of it. -/
def RPost {α : Type} (w : World) (r : Nat) (tv : Value) (x : Except (Int × Nat) α) (ok : α → Ending → World → Prop) (e : Ending) (w' : World) : Prop :=
  match x with
  | .ok a => ok a e w' ∧ Mod (RF r tv) w w'
  | .error (c, a) => e = stopE c a ∧ Mod (RF r tv) w w'
end Go.Proofs.YtnaefnojmiolbaaGreatDoor
