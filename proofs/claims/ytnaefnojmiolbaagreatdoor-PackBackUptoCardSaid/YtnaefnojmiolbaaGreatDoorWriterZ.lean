/-
  A builder in memory, alone or ahead of a writer's fields; the walks of copyCheck, WriteString, Len, Reset, String.
  A writer of packed graphs in memory.
  The walk of a writer's text.
  The walk of a writer's items.
  How long a writer's text becomes; what a writer's map tells; the things as they lie.
  The walk of a writer's value, whatever the walk of its items.
  The walk of a writer's value at every depth.
-/
import Derived.Test.YtnaefnojmiolbaaGreatDoorRdZ
import Derived.Test.YtnaefnojmiolbaaGreatDoorShelf
import Derived.Lib.Builder
import Derived.Laws.Externs
import Derived.Test.YtnaefnojmiolbaaGreatDoorPureWZ
import Derived.Test.YtnaefnojmiolbaaGreatDoorMapZ
import Derived.Test.YtnaefnojmiolbaaGreatDoorShelfR
namespace Go.Proofs.YtnaefnojmiolbaaGreatDoor
open Go.RowKit Go.Shelf

/-- A block's type, and how many cells lie behind the builder in it. -/
def TB (T : TypeId) (n : Nat) : Prop := (T = 56 ∧ n = 0) ∨ (T = 110 ∧ n = 2)
/-- A builder in memory, other fields behind it. -/
structure BuildIs (w : World) (T : TypeId) (b : Nat) (p v : Value) (rest : List Value) (l : Bs) : Prop where
  blk : w.heap[b]? = some (.cells (p :: v :: rest).toArray T (0, 0))
  own : OwnsB w 5 v l
  ne : v.ownBlock ≠ some b
  pp : p = .pointer none ∨ p = .pointer (some ⟨b, 0, none⟩)
  tb : TB T rest.length
theorem info56 : ∃ j, Tryz.prog.info? 56 = some j ∧ j.size = 2 := Option.map_eq_some_iff.1 (show (Tryz.prog.info? 56).map (·.size) = some 2 by kernel_rfl)
theorem lies56 : Tryz.prog.cellsOf 56 = 2 ∧ liesAt Tryz.prog Tryz.prog.depth 56 1 0 56 1 = true := ⟨by kernel_rfl, by kernel_rfl⟩
theorem lies110 : Tryz.prog.cellsOf 110 = 4 ∧ liesAt Tryz.prog Tryz.prog.depth 110 1 0 56 1 = true := ⟨by kernel_rfl, by kernel_rfl⟩
theorem TB.lies {T : TypeId} {n : Nat} (h : TB T n) : liesAt Tryz.prog Tryz.prog.depth T ((2 + n) / Tryz.prog.cellsOf T) 0 56 1 = true := by
  rcases h with ⟨rfl, rfl⟩ | ⟨rfl, rfl⟩
  · rw [lies56.1]; exact lies56.2
  · rw [lies110.1]; exact lies110.2
section
variable {w w' : World} {T : TypeId} {b : Nat} {p v : Value} {rest : List Value} {l : Bs}
theorem BuildIs.mod {Z : Nat → Prop} (i : BuildIs w T b p v rest l) (m : Mod Z w w') (h1 : ¬ Z b) (h2 : ∀ g, v.ownBlock = some g → ¬ Z g) : BuildIs w' T b p v rest l :=
  ⟨m.blk i.blk h1, Owns.mod i.own m h2, i.ne, i.pp, i.tb⟩
theorem BuildIs.below (i : BuildIs w T b p v rest l) (hb : Below w.heap.size w w') : BuildIs w' T b p v rest l :=
  i.mod (Mod.of_below (F := fun _ => False) hb) (fun x => x) (fun _ _ x => x)
theorem BuildIs.cells (i : BuildIs w T b p v rest l) : w.cell? ⟨b, 0, none⟩ = some p ∧ w.cell? ⟨b, 1, none⟩ = some v ∧ w.frozen? ⟨b, 0, none⟩ = false ∧ w.frozen? ⟨b, 1, none⟩ = false :=
  ⟨by rw [cell_blk i.blk 0]; simp, by rw [cell_blk i.blk 1]; simp, free_blk i.blk 0, free_blk i.blk 1⟩
set_option maxRecDepth 100000 in
theorem check_any (i : BuildIs w T b p v rest l) : Calls Tryz.prog 88 #[.pointer (some ⟨b, 0, none⟩)] w fun e w' => e = .returned (.tuple #[]) ∧ BuildIs w' T b (.pointer (some ⟨b, 0, none⟩)) v rest l ∧ Mod (fun k => k = b) w w' := by
  obtain ⟨j, hj, hjs⟩ := info56
  obtain ⟨c0, -, f0, -⟩ := i.cells
  have I := Lib.hid i
  rcases i.pp with rfl | rfl
  · have hsh : w.shape? b = some (T, 2 + rest.length) := by simp [World.shape?, i.blk]; omega
    have hlies := i.tb.lies
    clear i
    go_enter Tryz.func88, Tryz.ntmps88
    go_wp2
    rw [Lib.run_to_unsafe w ⟨b, 0, none⟩ Tryz.underlying53 Tryz.underlying154 hj (by rw [hjs]; decide) hsh (by show 0 < 2 + rest.length; omega)]
    simp only [Result.andThen]
    rw [Oper.upon_value]
    go_wp2
    rw [run_callFunc_extern Tryz.func121 (by kernel_rfl) (by kernel_rfl) (by kernel_rfl) (e := Extern.AbiNoEscape.same) (by kernel_rfl)]
    rw [Lib.run_noEscape]
    simp only [Result.andThen]
    rw [Oper.upon_value]
    go_wp2
    rw [Lib.run_from_unsafe w ⟨b, 0, none⟩ Tryz.underlying154 Tryz.underlying53 hj hsh hlies]
    simp only [Result.andThen]
    rw [Oper.upon_value]
    go_wp2
    go_end0
    have m : Mod (fun k => k = b) w (w.setCell ⟨b, 0, none⟩ (.pointer (some ⟨b, 0, none⟩))) := (Mod.refl _ _).setCell _ _ (fun _ => rfl)
    refine ⟨rfl, ⟨?_, Owns.mod I.out.own m (fun g e x => I.out.ne (by rw [e, x])), I.out.ne, .inr rfl, I.out.tb⟩, m⟩
    have := set_blk I.out.blk 0 (.pointer (some ⟨b, 0, none⟩))
    simpa using this
  · clear i
    go_enter Tryz.func88, Tryz.ntmps88
    go_wp2
    rw [Lib.run_neq_ptr_same w _ Tryz.underlying53 hj]
    go_wp2
    go_end0
    exact ⟨rfl, I.out, Mod.refl _ _⟩
/-- What a call that writes leaves. -/
def WritePost (w : World) (T : TypeId) (b : Nat) (v : Value) (rest : List Value) (l : Bs) (r : Value) (e : Ending) (w' : World) : Prop :=
  e = .returned r ∧ ∃ v', BuildIs w' T b (.pointer (some ⟨b, 0, none⟩)) v' rest l ∧ Mod (fun k => k = b ∨ v.ownBlock = some k) w w' ∧ (v'.ownBlock = v.ownBlock ∨ ∃ g, v'.ownBlock = some g ∧ w.heap.size ≤ g)
set_option maxHeartbeats 1600000 in
set_option maxRecDepth 100000 in
theorem wstr_any (i : BuildIs w T b p v rest l) (s : ByteArray) (hl : l.length + s.size ≤ 140737488355328) : Calls Tryz.prog 54 #[.pointer (some ⟨b, 0, none⟩), .string s] w (WritePost w T b v rest (l ++ s.toList) (.tuple #[.int .i64 s.size, .nilIface])) := by
  have HC := check_any i
  have hbl := Lib.hid (lt_of_block i.blk)
  have HL := Lib.hid hl
  clear i hl
  go_enter Tryz.func54, Tryz.ntmps54
  go_wp2_with fail
  refine HC.mono ?_
  rintro e w1 ⟨rfl, i1, m1⟩
  have I1 := Lib.hid i1
  have M1 := Lib.hid m1
  obtain ⟨ao, cap, rfl, hlc, hcm, hno, -⟩ := OwnsB.any i1.own
  obtain ⟨-, x1, -, -⟩ := i1.cells
  have hO : Hid (OwnsB w1 5 (.slice ao l.length cap) l) := Lib.hid I1.out.own
  clear i1 m1 HC hlc hcm hno
  go_wp2_with (at_builtin; refine wpList_append_str rfl (.tmp 12) (.tmp 13) 54 9 rfl 5 Tryz.underlying54 Tryz.underlying9 info5 (.slice ao l.length cap) l (by rfl) hO.out s (by rfl) HL.out ?_; intro v3 w3 o3 g3 n3; obtain ⟨a7, c7, hv7, -⟩ := OwnsB.any o3; generalize (List.length _) = L7 at hv7; subst hv7; have O3 := Lib.hid o3; have G3 := Lib.hid (⟨g3, n3⟩ : _ ∧ _); have q1 : w3.cell? ⟨b, 1, none⟩ = some (.slice ao l.length cap) := by { rw [cell_blk ((g3.block b (lt_of_block I1.out.blk) (fun e => I1.out.ne e.symm)).trans I1.out.blk) 1]; simp }; have f1 := free_blk ((g3.block b (lt_of_block I1.out.blk) (fun e => I1.out.ne e.symm)).trans I1.out.blk) 1; clear o3 g3 n3)
  go_ret2
  have hs1 := M1.out.size
  have hb := hbl.out
  have mB : Mod (fun k => k = b ∨ (Value.slice ao l.length cap).ownBlock = some k) w w3 := (M1.out.mono (fun _ _ e => .inl e)).grown G3.out.1 (fun k e _ => .inr e)
  have b3 : w3.heap[b]? = some (.cells (Value.pointer (some ⟨b, 0, none⟩) :: Value.slice ao l.length cap :: rest).toArray T (0, 0)) := (G3.out.1.block b (lt_of_block I1.out.blk) (fun e => I1.out.ne e.symm)).trans I1.out.blk
  have hne : (Value.slice a7 L7 c7).ownBlock ≠ some b := fun e => by
    rcases G3.out.2 with h | ⟨g, h, hg⟩
    · exact I1.out.ne (h ▸ e)
    · rw [h] at e; cases e; omega
  refine ⟨rfl, .slice a7 L7 c7, ⟨?_, ?_, hne, .inr rfl, I1.out.tb⟩, mB.setCell _ _ (fun _ => .inl rfl), ?_⟩
  · have := set_blk b3 1 (.slice a7 L7 c7)
    simpa using this
  · have m : Mod (fun k => k = b) w3 (w3.setCell ⟨b, 1, none⟩ (.slice a7 L7 c7)) := (Mod.refl _ _).setCell _ _ (fun _ => rfl)
    exact Owns.mod O3.out m (fun g e x => hne (by rw [e, x]))
  · rcases G3.out.2 with h | ⟨g, h, hg⟩
    · exact .inl h
    · exact .inr ⟨g, h, by omega⟩
set_option maxRecDepth 100000 in
theorem blen_any (i : BuildIs w T b p v rest l) : Calls Tryz.prog 27 #[.pointer (some ⟨b, 0, none⟩)] w fun e w' => e = .returned (.int .i64 l.length) ∧ w' = w := by
  obtain ⟨-, x1, -, -⟩ := i.cells
  obtain ⟨ao, cap, rfl, hlc, hcm, hno, -⟩ := OwnsB.any i.own
  clear i hlc hcm hno
  go_enter Tryz.func27, Tryz.ntmps27
  go_wp2_with fail
  go_ret
  exact ⟨rfl, rfl⟩
set_option maxRecDepth 100000 in
theorem breset_any (i : BuildIs w T b p v rest l) : Calls Tryz.prog 107 #[.pointer (some ⟨b, 0, none⟩)] w fun e w' => e = .returned (.tuple #[]) ∧ BuildIs w' T b (.pointer none) (.slice none 0 0) rest [] ∧ Mod (fun k => k = b) w w' := by
  obtain ⟨c0, c1, f0, f1⟩ := i.cells
  have I := Lib.hid i
  clear i
  have g1 : (w.setCell ⟨b, 0, none⟩ (.pointer none)).frozen? ⟨b, 1, none⟩ = false := by
    have := set_blk I.out.blk 0 (.pointer none)
    exact free_blk this 1
  go_enter Tryz.func107, Tryz.ntmps107
  go_wp2_with fail
  go_end0
  refine ⟨rfl, ⟨?_, Owns.empty _ _ _, by simp [Value.ownBlock], .inl rfl, I.out.tb⟩, ((Mod.refl (fun k => k = b) w).setCell ⟨b, 0, none⟩ (.pointer none) (fun _ => rfl)).setCell ⟨b, 1, none⟩ (.slice none 0 0) (fun _ => rfl)⟩
  have := set_blk (set_blk I.out.blk 0 (.pointer none)) 1 (.slice none 0 0)
  simpa using this
theorem freeze_mod (w : World) (g n : Nat) : Mod (fun k => k = g) w (w.freeze ⟨g, 0, none⟩ n) := by
  unfold World.freeze
  split
  · exact Mod.refl _ _
  · exact ⟨rfl, rfl, rfl, by simp, fun k hk hf => by
      simp only [Array.getElem?_modify]
      rw [if_neg (fun e => hf e.symm)]⟩
theorem c5 : Tryz.prog.cellsOf 5 = 1 := by kernel_rfl
set_option maxHeartbeats 4000000 in
set_option maxRecDepth 100000 in
theorem bstring_any (i : BuildIs w T b p v rest l) (hl : l ≠ []) : Calls Tryz.prog 28 #[.pointer (some ⟨b, 0, none⟩)] w fun e w' => e = .returned (.string (str l)) ∧ Mod (fun k => v.ownBlock = some k) w w' := by
  have hr := i.own.row
  have e1 : (bRows l).flatten = Lib.byteCells l := bRows_flat l
  have e2 : (bRows l).length = l.length := bRows_len l
  rw [e1, e2] at hr
  have hl0 : l.length ≠ 0 := by simpa using hl
  obtain ⟨g, cap, cur, rfl, hg, hnc, hcm, hcs, htake⟩ : ∃ g cap cur, v = .slice (some ⟨g, 0, none⟩) l.length cap ∧ w.heap[g]? = some (.cells cur 5 (0, 0)) ∧ l.length ≤ cap ∧ cap ≤ maxLen ∧ cur.size = cap * 1 ∧ cur.toList.take (l.length * 1) = Lib.byteCells l := by
    rcases hr.2 with ⟨_, hz⟩ | ⟨g, cap, cur, hv, -, r⟩
    · exact absurd hz hl0
    · exact ⟨g, cap, cur, hv, r⟩
  obtain ⟨-, c1, -, -⟩ := i.cells
  have c1 : w.drew.cell? ⟨b, 1, none⟩ = some (.slice (some ⟨g, 0, none⟩) l.length cap) := c1
  have hSD : (Builtin.unsafeSliceData_ #[54] 92 #[.slice (some ⟨g, 0, none⟩) l.length cap]).run Tryz.prog w.drew = .ok (.pointer (some ⟨g, 0, none⟩)) w.drew :=
    Lib.run_unsafeSliceData_row _ _ _ _ _ _ (by omega)
  have hUS : (Builtin.unsafeString_ #[92, 3] 9 #[.pointer (some ⟨g, 0, none⟩), .int .i64 l.length]).run Tryz.prog w.drew = .ok (.string ⟨l.toArray⟩) (w.drew.freeze ⟨g, 0, none⟩ l.length) := by
    refine Lib.run_unsafeString_row w.drew 92 3 9 5 Tryz.underlying92 c5 g cur.size (by have hg' : w.drew.heap[g]? = some (.cells cur 5 (0, 0)) := hg; simp [World.shape?, hg']) l hl (by omega) (by unfold maxLen at hcm; omega) ?_
    intro j x hx
    have := hr.cells (g := g) rfl j (.int .u8 x.toNat) (by simp [Lib.byteCells, hx])
    exact this
  have hm : Mod (fun k => (Value.slice (some ⟨g, 0, none⟩) l.length cap).ownBlock = some k) w (w.drew.freeze ⟨g, 0, none⟩ l.length) := by
    have h0 : Below (w.heap.size) w w.drew := (Below.refl _ _).drew
    exact (Mod.of_below h0).trans ((freeze_mod w.drew g l.length).mono (fun k _ e => by rw [show k = g from e]; rfl))
  have mixed : Tryz.prog.follows Departure.mixedOrders = true := by kernel_rfl
  clear i hr hcs htake hcm hnc e1 e2 hl hg
  go_enter Tryz.func28, Tryz.ntmps28
  go_wp2
  go_region_o
  all_goals (go_wp2; go_ret; exact ⟨rfl, hm⟩)
end
end Go.Proofs.YtnaefnojmiolbaaGreatDoor

namespace Go.Proofs.YtnaefnojmiolbaaGreatDoor
open Go.RowKit Go.Shelf Go.Maps

/-- map[int]int. -/
noncomputable def mII : MSpec Int Int where
  M := 108
  k := 3
  e := 3
  kv := fun n => .int .i64 n
  kl := fun n => .int .i64 n
  good := fun n => -9223372036854775808 ≤ n ∧ n ≤ 9223372036854775807
  keyed := int_keyed Tryz.underlying3
  und := Tryz.underlying108
  keyOf := fun _ h => keyOf_int_mk Tryz.underlying3 (wf_int h.1 h.2)
  inj := fun _ _ _ _ h => by injection h
  ev := fun n => .int .i64 n
  ed := fun n => .lit (.int .i64 n)
  ge := fun n => -9223372036854775808 ≤ n ∧ n ≤ 9223372036854775807
  pe := plainElem (H := Unit) Tryz.prog 3
  pe_ev := fun _ h => plainElem_int Tryz.underlying3 (wf_int h.1 h.2)
  pe_inv := fun _ _ _ h => pe_int_inv h
  z := 0
  gz := by decide
  zero := zero3
/-- The number that an object began with. -/
def begunF (o : List Int) (n : Int) : Option Int := (placeW o n).map fun i => ((i : Int) + 1)
/-- Blocks of cells that are no writer's and hold no bytes stay. -/
structure Kept (w w' : World) : Prop where
  size : w.heap.size ≤ w'.heap.size
  blk : ∀ (k : Nat) (cs : Array Value) (ty : TypeId) (fr : Nat × Nat), w.heap[k]? = some (.cells cs ty fr) → ty ≠ 110 → ty ≠ 5 → w'.heap[k]? = some (.cells cs ty fr)
theorem Kept.refl (w : World) : Kept w w := ⟨Nat.le_refl _, fun _ _ _ _ h _ _ => h⟩
theorem Kept.trans {a b c : World} (h : Kept a b) (k : Kept b c) : Kept a c := ⟨Nat.le_trans h.size k.size, fun i cs ty fr e h1 h2 => k.blk i cs ty fr (h.blk i cs ty fr e h1 h2) h1 h2⟩
theorem Kept.of_below {w w' : World} (h : Below w.heap.size w w') : Kept w w' := ⟨h.size, fun k _ _ _ e _ _ => (h.block k (lt_of_block e)).trans e⟩
theorem Kept.of_mod {F : Nat → Prop} {w w' : World} (m : Mod F w w') (h : ∀ (k : Nat) (cs : Array Value) (ty : TypeId) (fr : Nat × Nat), F k → w.heap[k]? = some (.cells cs ty fr) → ty = 110 ∨ ty = 5) : Kept w w' :=
  ⟨m.size, fun k cs ty fr e h1 h2 => m.blk e fun hf => by rcases h k cs ty fr hf e with h3 | h3 <;> contradiction⟩
theorem below_mod {w W0 w1 : World} {F : Nat → Prop} {g : Nat} (h : Below g w W0) (m : Mod F W0 w1) (hg : g ≤ W0.heap.size) (hF : ∀ k, F k → g ≤ k) : Below g w w1 :=
  ⟨m.os.trans h.os, m.tape.trans h.tape, m.output.trans h.output, Nat.le_trans h.size m.size, fun k hk => (m.block k (by omega) (fun e => by have := hF k e; omega)).trans (h.block k hk)⟩
theorem nodup_few : ∀ (N : Nat) (o : List Int), o.Nodup → (∀ x ∈ o, 1 ≤ x ∧ x ≤ (N : Int)) → o.length ≤ N
  | 0, o, _, h => by
    cases o with
    | nil => exact Nat.le_refl _
    | cons x r => have := h x (by simp); omega
  | N + 1, o, hn, h => by
    by_cases hm : ((N + 1 : Nat) : Int) ∈ o
    · have h1 := nodup_few N (o.erase ((N + 1 : Nat) : Int)) (hn.erase _) (fun x hx => by
        rw [hn.mem_erase_iff] at hx
        have := h x hx.2
        have := hx.1
        omega)
      have h2 := List.length_erase_of_mem hm
      omega
    · have h1 := nodup_few N o hn (fun x hx => by
        have h1 := h x hx
        have : x ≠ ((N + 1 : Nat) : Int) := fun e => hm (e ▸ hx)
        omega)
      omega
/-- The objects that began stand once, and are things. -/
def OOk (N : Nat) (S : WS) : Prop := S.o.Nodup ∧ ∀ x ∈ S.o, 1 ≤ x ∧ x ≤ (N : Int)
/-- A writer in memory, as it stands behind a world. -/
structure Wr (w0 : World) (N : Nat) (tv : Value) (b mb : Nat) (w : World) (p v : Value) (S : WS) : Prop where
  bd : BuildIs w 110 b p v [tv, .map (some mb)] S.t
  mp : mII.Is w mb (begunF S.o) S.o.length
  below : Below w0.heap.size w0 w
  hb : w0.heap.size ≤ b
  hm : w0.heap.size ≤ mb
  hv : ∀ g, v.ownBlock = some g → w0.heap.size ≤ g
  tab : Tabs w0
  nod : S.o.Nodup
  few : ∀ x ∈ S.o, 1 ≤ x ∧ x ≤ (N : Int)
/-- The blocks that a writer turns. -/
def WF (b mb : Nat) (v : Value) (k : Nat) : Prop := k = b ∨ v.ownBlock = some k ∨ k = mb
section
variable {w0 w w' : World} {N : Nat} {tv : Value} {b mb : Nat} {p v : Value} {S : WS}
theorem ownsB_type {l : Bs} (h : OwnsB w 5 v l) {g : Nat} (e : v.ownBlock = some g) : ∃ cur fr, w.heap[g]? = some (.cells cur 5 fr) := by
  obtain ⟨cur, hc⟩ := owns_blk h e
  exact ⟨cur, _, hc⟩
theorem Wr.apart (h : Wr w0 N tv b mb w p v S) : mb ≠ b ∧ v.ownBlock ≠ some mb := by
  obtain ⟨es, c, hm⟩ := map_blk h.mp
  refine ⟨fun e => ?_, fun e => ?_⟩
  · rw [e, h.bd.blk] at hm; cases hm
  · obtain ⟨cur, fr, hc⟩ := ownsB_type h.bd.own e
    rw [hc] at hm; cases hm
theorem Wr.types (h : Wr w0 N tv b mb w p v S) : ∀ (k : Nat) (cs : Array Value) (ty : TypeId) (fr : Nat × Nat), WF b mb v k → w.heap[k]? = some (.cells cs ty fr) → ty = 110 ∨ ty = 5 := by
  intro k cs ty fr hk e
  rcases hk with rfl | hk | rfl
  · rw [h.bd.blk] at e; cases e; exact .inl rfl
  · obtain ⟨cur, fr', hc⟩ := ownsB_type h.bd.own hk
    rw [hc] at e; cases e; exact .inr rfl
  · obtain ⟨es, c, hm⟩ := map_blk h.mp
    rw [hm] at e; cases e
theorem Wr.tabs (h : Wr w0 N tv b mb w p v S) : Tabs w := h.tab.mono h.below
theorem Wr.under (h : Wr w0 N tv b mb w p v S) (hb : Below w.heap.size w w') : Wr w0 N tv b mb w' p v S :=
  ⟨h.bd.below hb, h.mp.under hb, h.below.trans (hb.mono h.below.size), h.hb, h.hm, h.hv, h.tab, h.nod, h.few⟩
/-- What a writing leaves of a writer. -/
theorem Wr.wrote {s : Bs} {r : Value} {e : Ending} (h : Wr w0 N tv b mb w p v S) (q : WritePost w 110 b v [tv, .map (some mb)] (S.t ++ s) r e w') :
    e = .returned r ∧ (∃ p' v', Wr w0 N tv b mb w' p' v' ⟨S.t ++ s, S.o⟩) ∧ Kept w w' := by
  obtain ⟨rfl, v', i, m, f⟩ := q
  obtain ⟨h1, h2⟩ := h.apart
  refine ⟨rfl, ⟨_, v', i, h.mp.mod m (fun e => ?_), below_mod h.below m h.below.size (fun k e => ?_), h.hb, h.hm, fun g e => ?_, h.tab, h.nod, h.few⟩, Kept.of_mod m (fun k cs ty fr e => h.types k cs ty fr (by rcases e with e | e; exact .inl e; exact .inr (.inl e)))⟩
  · rcases e with e | e
    · exact h1 e
    · exact h2 e
  · rcases e with rfl | e
    · exact h.hb
    · exact h.hv k e
  · rcases f with f | ⟨g', f, hg⟩
    · exact h.hv g (f ▸ e)
    · rw [f] at e; cases e
      exact Nat.le_trans h.below.size hg
theorem Wr.wroteX {s : Bs} {r : Value} {e : Ending} (h : Wr w0 N tv b mb w p v S) (q : WritePost w 110 b v [tv, .map (some mb)] (S.t ++ s) r e w') :
    ∃ r', e = .returned r' ∧ (∃ p' v', Wr w0 N tv b mb w' p' v' ⟨S.t ++ s, S.o⟩) ∧ Kept w w' := ⟨r, h.wrote q⟩
end
/-- What a writer's call leaves. -/
def WrPost (w0 : World) (N : Nat) (tv : Value) (b mb : Nat) (w : World) (x : WR) (e : Ending) (w' : World) : Prop := match x with
  | .ok S' => e = .returned (.tuple #[]) ∧ (∃ p' v', Wr w0 N tv b mb w' p' v' S') ∧ Kept w w'
  | .error c => e = stopE c 0 ∧ Below w0.heap.size w0 w'
theorem put_kept {w0 : World} {N : Nat} {tv : Value} {b mb : Nat} {w w1 : World} {x : WR} {e : Ending} {w' : World} (h : WrPost w0 N tv b mb w1 x e w') (k : Kept w w1) : WrPost w0 N tv b mb w x e w' := by
  cases x with
  | error c => exact h
  | ok S => exact ⟨h.1, h.2.1, k.trans h.2.2⟩
theorem app_size (a b : ByteArray) : (a ++ b).size = a.size + b.size := ByteArray.size_append
theorem app_list (a b : ByteArray) : (a ++ b).toList = a.toList ++ b.toList := by
  rw [ByteArray.toList_eq, ByteArray.toList_eq, ByteArray.toList_eq, ByteArray.data_append, Array.toList_append]
theorem itoa_len {n : Int} (h0 : -9223372036854775808 ≤ n) (h1 : n ≤ 9223372036854775807) : (Lib.itoa n).length ≤ 21 := by
  have := itoa_short h0 h1
  rw [← size_toList, str_toList] at this
  exact this
end Go.Proofs.YtnaefnojmiolbaaGreatDoor

namespace Go.Proofs.YtnaefnojmiolbaaGreatDoor
open Go.RowKit Go.Shelf

attribute [local go_sem] yld_undef
set_option maxHeartbeats 6400000 in
set_option maxRecDepth 100000 in
theorem wtext_any (t : ByteArray) {w0 : World} {N : Nat} {tv : Value} {b mb : Nat} {w : World} {p v : Value} {S : WS} (h : Wr w0 N tv b mb w p v S) (hl : S.t.length + t.size ≤ 140737488350000) :
    Calls Tryz.prog 110 #[.pointer (some ⟨b, 0, none⟩), .string t] w (WrPost w0 N tv b mb w (.ok ⟨S.t ++ textW t, S.o⟩)) := by
  have HN : ∀ W, Tabs W → Calls Tryz.prog 109 #[.int .i64 (t.size : Int)] W (TextPost W (Lib.itoa t.size)) := fun W ht => num_any _ (by omega) (by omega) W ht
  have HIL : Hid ((str (Lib.itoa t.size)).size ≤ 21) := Lib.hid (itoa_short (by omega) (by omega))
  have hc1 : ¬ 9223372036854775807 < 2 + (str (Lib.itoa (t.size : Int))).size := by have := HIL.out; omega
  have hc2 : ¬ 9223372036854775807 < 2 + (str (Lib.itoa (t.size : Int))).size + 2 := by have := HIL.out; omega
  have hc3 : ¬ 9223372036854775807 < 2 + (str (Lib.itoa (t.size : Int))).size + 2 + t.size := by have := HIL.out; omega
  have hc4 : ¬ 9223372036854775807 < 2 + (str (Lib.itoa (t.size : Int))).size + 2 + t.size + 2 := by have := HIL.out; omega
  have H := Lib.hid h
  have HL := Lib.hid hl
  have HD := Lib.hid (h.under (Below.refl _ _).drew)
  clear h hl
  go_enter Tryz.func110, Tryz.ntmps110
  go_wp2_with fail
  refine wp_region_noPanic ?_
  refine wp_region_held_drew (S := (fun V => 0 ≤ V.heap.size)) (by kernel_rfl) (by exact Nat.zero_le _) (fun hHeld => ?_)
  refine wpAnyH_take (i := 0) (oi := ?o0) (v := ?v0) ?hi0 (by kernel_rfl) (by kernel_rfl) (by kernel_rfl) (fun _ _ _ h => h) ?hy0 (by assumption) ?rest0
  case hi0 => simp only [gA, gZ]; rfl
  case hy0 =>
    refine Or.inl ⟨by rfl, ?_⟩
    intro w hSw; (try dsimp only at hSw); go_simp <;> (with_reducible rfl)
  (try simp only [Act.put, pA, pZ, pS])
  refine wpAnyH_take (i := 1) (oi := ?o1) (v := ?v1) ?hi1 (by kernel_rfl) (by kernel_rfl) (by kernel_rfl) (fun _ _ _ h => h) ?hy1 (by assumption) ?rest1
  case hi1 => simp only [gA, gS, gZ]; rfl
  case hy1 =>
    refine Or.inl ⟨by rfl, ?_⟩
    intro w hSw; (try dsimp only at hSw); go_simp <;> (with_reducible rfl)
  (try simp only [Act.put, pA, pZ, pS])
  refine wpAnyH_take (i := 2) (oi := ?o2) (v := ?v2) ?hi2 (by kernel_rfl) (by kernel_rfl) (by kernel_rfl) (fun _ _ _ h => h) ?hy2 (by assumption) ?rest2
  case hi2 => simp only [gA, gS, gZ]; rfl
  case hy2 =>
    refine Or.inl ⟨by rfl, ?_⟩
    intro w hSw; (try dsimp only at hSw); go_simp <;> (with_reducible rfl)
  (try simp only [Act.put, pA, pZ, pS])
  refine wpAnyH_take (i := 3) (oi := ?o3) (v := ?v3) ?hi3 (by kernel_rfl) (by kernel_rfl) (by kernel_rfl) (fun _ _ _ h => h) ?hy3 (by assumption) ?rest3
  case hi3 => simp only [gA, gS, gZ]; rfl
  case hy3 =>
    refine Or.inl ⟨by rfl, ?_⟩
    intro w hSw; (try dsimp only at hSw); go_simp <;> (with_reducible rfl)
  (try simp only [Act.put, pA, pZ, pS])
  refine wpAnyH_take (i := 4) (oi := ?o4) (v := ?v4) ?hi4 (by kernel_rfl) (by kernel_rfl) (by kernel_rfl) (fun _ _ _ h => h) ?hy4 (by assumption) ?rest4
  case hi4 => simp only [gA, gS, gZ]; rfl
  case hy4 =>
    refine Or.inl ⟨by rfl, ?_⟩
    intro w hSw; (try dsimp only at hSw); go_simp <;> (with_reducible rfl)
  (try simp only [Act.put, pA, pZ, pS])
  refine wpAnyH_take (i := 8) (oi := ?o8) (v := ?v8) ?hi8 (by kernel_rfl) (by kernel_rfl) (by kernel_rfl) (fun _ _ _ h => h) ?hy8 (by assumption) ?rest8
  case hi8 => simp only [gA, gS, gZ]; rfl
  case hy8 =>
    refine Or.inl ⟨by rfl, ?_⟩
    intro w hSw; (try dsimp only at hSw); go_simp <;> (with_reducible rfl)
  (try simp only [Act.put, pA, pZ, pS])
  refine wpAnyH_ready (rs := [5]) (by kernel_rfl) (by simp) ?_
  refine AllReadyH.cons rfl (fun K hK => ?_) AllReadyH.nil
  go_simp
  refine (HN _ HD.out.tabs).mono ?_; rintro _ w1 ⟨rfl, hb⟩; have H1 := Lib.hid (HD.out.under hb); have K1 := Lib.hid (Kept.of_below (Below.refl w.heap.size w).drew |>.trans (Kept.of_below hb)); clear hb
  refine hK.out _ _ (Nat.zero_le _) (fun hHeld5 => ?_)
  clear hK K
  (try simp only [Act.put, pA, pZ, pS])
  refine wpAnyH_take (i := 6) (oi := ?o6) (v := ?v6) ?hi6 (by kernel_rfl) (by kernel_rfl) (by kernel_rfl) (fun _ _ _ h => h) ?hy6 (by assumption) ?rest6
  case hi6 => simp only [gA, gS, gZ]; rfl
  case hy6 =>
    refine Or.inl ⟨by rfl, ?_⟩
    intro w hSw; (try dsimp only at hSw); go_simp <;> (with_reducible rfl)
  (try simp only [Act.put, pA, pZ, pS])
  refine wpAnyH_take (i := 7) (oi := ?o7) (v := ?v7) ?hi7 (by kernel_rfl) (by kernel_rfl) (by kernel_rfl) (fun _ _ _ h => h) ?hy7 (by assumption) ?rest7
  case hi7 => simp only [gA, gS, gZ]; rfl
  case hy7 =>
    refine Or.inl ⟨by rfl, ?_⟩
    intro w hSw; (try dsimp only at hSw); go_simp <;> (with_reducible rfl)
  (try simp only [Act.put, pA, pZ, pS])
  refine wpAnyH_take (i := 9) (oi := ?o9) (v := ?v9) ?hi9 (by kernel_rfl) (by kernel_rfl) (by kernel_rfl) (fun _ _ _ h => h) ?hy9 (by assumption) ?rest9
  case hi9 => simp only [gA, gS, gZ]; rfl
  case hy9 =>
    refine Or.inl ⟨by rfl, ?_⟩
    intro w hSw; (try dsimp only at hSw); go_simp <;> (with_reducible rfl)
  (try simp only [Act.put, pA, pZ, pS])
  refine wpAnyH_take (i := 10) (oi := ?o10) (v := ?v10) ?hi10 (by kernel_rfl) (by kernel_rfl) (by kernel_rfl) (fun _ _ _ h => h) ?hy10 (by assumption) ?rest10
  case hi10 => simp only [gA, gS, gZ]; rfl
  case hy10 =>
    refine Or.inl ⟨by rfl, ?_⟩
    intro w hSw; (try dsimp only at hSw); go_simp <;> (with_reducible rfl)
  (try simp only [Act.put, pA, pZ, pS])
  refine wpAnyH_ready (rs := [11]) (by kernel_rfl) (by simp) ?_
  refine AllReadyH.cons rfl (fun K hK => ?_) AllReadyH.nil
  go_simp
  refine (wstr_any H1.out.bd _ (by have := HL.out; have := HIL.out; simp only [app_size]; show _ + (2 + _ + 2 + _ + 2) ≤ _; omega)).mono ?_; rintro _ w2 hw; obtain ⟨he, hW, hK⟩ := H1.out.wrote hw; subst he; have H2 := Lib.hid hW; have K2 := Lib.hid (K1.out.trans hK); clear hw hW hK
  refine hK.out _ _ (Nat.zero_le _) (fun hHeld11 => ?_)
  clear hK K
  (try simp only [Act.put, pA, pZ, pS])
  refine wpAnyH_done (by kernel_rfl) ?_ _
  refine NoPanic.normal ?_
  go_wp2_with fail
  first | go_end0 | (refine bodyPost_ret (results_none rfl _ _ _) rfl ?_)
  refine ⟨rfl, ?_, K2.out⟩
  obtain ⟨p', v', hW⟩ := H2.out
  refine ⟨p', v', ?_⟩
  simp only [app_list, str_toList] at hW
  unfold textW
  simpa using hW
end Go.Proofs.YtnaefnojmiolbaaGreatDoor

namespace Go.Proofs.YtnaefnojmiolbaaGreatDoor
open Go.RowKit Go.Shelf

attribute [local go_sem] yld_undef
abbrev I64 (n : Int) : Prop := -9223372036854775808 ≤ n ∧ n ≤ 9223372036854775807
/-- May a value be written: its objects are things, its texts are of some size. -/
inductive WOk (N : Nat) : VT → Prop
  | mk (k n : Int) (t : ByteArray) (l : List It) (hk : k = 5 → 1 ≤ n ∧ n ≤ (N : Int)) (hn : I64 n) (hkk : 0 ≤ k ∧ k ≤ 5) (ht : t.size ≤ 1073741824) (hx : ∀ x ∈ l, x.1.t.size ≤ 1073741824 ∧ I64 x.1.n) (hs : ∀ x ∈ l, WOk N x.2) (hlen : l.length ≤ 140737488355328) : WOk N (.mk k n t l)
/-- A list of items may be written. -/
def LOkW (N : Nat) (l : List It) : Prop := ∀ x ∈ l, (x.1.t.size ≤ 1073741824 ∧ I64 x.1.n) ∧ WOk N x.2
set_option maxHeartbeats 12800000 in
set_option maxRecDepth 100000 in
theorem witems_any (put : PutF) (d : Int) (hd0 : 0 ≤ d) (hd1 : d < 64) {w0 : World} {N : Nat} {tv : Value} {b mb : Nat}
    (HV : ∀ {W : World} {p v : Value} {S : WS} {x : VT} {c : Value}, Wr w0 N tv b mb W p v S → S.t.length ≤ 8589934592 → VIn w0 c x.xs → WOk N x → Calls Tryz.prog 82 #[.pointer (some ⟨b, 0, none⟩), x.v c, .int .i64 (d + 1)] W (WrPost w0 N tv b mb W (put x S)))
    (HP : ∀ x S S', WOk N x → OOk N S → put x S = .ok S' → S'.t.length ≤ 4294967296)
    {w : World} {p v : Value} {S : WS} {l : List It} {c : Value} (h : Wr w0 N tv b mb w p v S) (hl : S.t.length ≤ 4294967296) (hv : VIn w0 c l) (ho : LOkW N l) :
    Calls Tryz.prog 111 #[.pointer (some ⟨b, 0, none⟩), c, .int .i64 d] w (WrPost w0 N tv b mb w (bracesW (some put) l S)) := by
  obtain ⟨ao, cap, rfl, hlen⟩ := hv.form
  obtain ⟨x, hx⟩ : ∃ x, x = bracesW (some put) l S := ⟨_, rfl⟩
  rw [← hx]
  unfold bracesW at hx
  simp only at hx
  obtain ⟨x0, hx0⟩ : ∃ x0, x0 = itemsW put l ⟨S.t ++ (Lib.itoa l.length ++ [58, 123]), S.o⟩ := ⟨_, rfl⟩
  rw [← hx0] at hx
  have HX := Lib.hid hx
  have HX0 := Lib.hid hx0
  have HN : ∀ W, Tabs W → Calls Tryz.prog 109 #[.int .i64 (l.length : Int)] W (TextPost W (Lib.itoa l.length)) := fun W ht => num_any _ (by omega) (by omega) W ht
  have HIL : Hid ((str (Lib.itoa l.length)).size ≤ 21) := Lib.hid (itoa_short (by omega) (by omega))
  have HIL2 : Hid ((Lib.itoa l.length).length ≤ 21) := Lib.hid (itoa_len (by omega) (by omega))
  have hc1 : ¬ 9223372036854775807 < (str (Lib.itoa (l.length : Int))).size + 2 := by have := HIL.out; omega
  have HL := Lib.hid hl
  have HLEN := Lib.hid hlen
  have HVI := Lib.hid hv
  have HO := Lib.hid ho
  have HVH := @Lib.hid _ @HV
  have HPH := @Lib.hid _ @HP
  have HD := Lib.hid (h.under (Below.refl _ _).drew)
  have hd : decide (64 ≤ d) = false := by simp; omega
  clear h hl hv ho HV HP hx hx0 hlen
  go_enter Tryz.func111, Tryz.ntmps111
  go_wp2_with fail
  refine wp_region_noPanic ?_
  refine wp_region_held_drew (S := (fun V => 0 ≤ V.heap.size)) (by kernel_rfl) (by exact Nat.zero_le _) (fun hHeld => ?_)
  refine wpAnyH_take (i := 0) (oi := ?o0) (v := ?v0) ?hi0 (by kernel_rfl) (by kernel_rfl) (by kernel_rfl) (fun _ _ _ h => h) ?hy0 (by assumption) ?rest0
  case hi0 => simp only [gA, gZ]; rfl
  case hy0 =>
    refine Or.inl ⟨by rfl, ?_⟩
    intro w hSw; (try dsimp only at hSw); go_simp <;> (with_reducible rfl)
  (try simp only [Act.put, pA, pZ, pS])
  refine wpAnyH_take (i := 1) (oi := ?o1) (v := ?v1) ?hi1 (by kernel_rfl) (by kernel_rfl) (by kernel_rfl) (fun _ _ _ h => h) ?hy1 (by assumption) ?rest1
  case hi1 => simp only [gA, gS, gZ]; rfl
  case hy1 =>
    refine Or.inl ⟨by rfl, ?_⟩
    intro w hSw; (try dsimp only at hSw); go_simp <;> (with_reducible rfl)
  (try simp only [Act.put, pA, pZ, pS])
  refine wpAnyH_take (i := 2) (oi := ?o2) (v := ?v2) ?hi2 (by kernel_rfl) (by kernel_rfl) (by kernel_rfl) (fun _ _ _ h => h) ?hy2 (by assumption) ?rest2
  case hi2 => simp only [gA, gS, gZ]; rfl
  case hy2 =>
    refine Or.inl ⟨by rfl, ?_⟩
    intro w hSw; (try dsimp only at hSw); go_simp <;> (with_reducible rfl)
  (try simp only [Act.put, pA, pZ, pS])
  refine wpAnyH_take (i := 3) (oi := ?o3) (v := ?v3) ?hi3 (by kernel_rfl) (by kernel_rfl) (by kernel_rfl) (fun _ _ _ h => h) ?hy3 (by assumption) ?rest3
  case hi3 => simp only [gA, gS, gZ]; rfl
  case hy3 =>
    refine Or.inl ⟨by rfl, ?_⟩
    intro w hSw; (try dsimp only at hSw); go_simp <;> (with_reducible rfl)
  (try simp only [Act.put, pA, pZ, pS])
  refine wpAnyH_take (i := 4) (oi := ?o4) (v := ?v4) ?hi4 (by kernel_rfl) (by kernel_rfl) (by kernel_rfl) (fun _ _ _ h => h) ?hy4 (by assumption) ?rest4
  case hi4 => simp only [gA, gS, gZ]; rfl
  case hy4 =>
    refine Or.inl ⟨by rfl, ?_⟩
    intro w hSw; (try dsimp only at hSw); go_simp <;> (with_reducible rfl)
  (try simp only [Act.put, pA, pZ, pS])
  refine wpAnyH_ready (rs := [5]) (by kernel_rfl) (by simp) ?_
  refine AllReadyH.cons rfl (fun K hK => ?_) AllReadyH.nil
  go_simp
  refine (HN _ HD.out.tabs).mono ?_; rintro _ w1 ⟨rfl, hb⟩; have H1 := Lib.hid (HD.out.under hb); have K1 := Lib.hid (Kept.of_below (Below.refl w.heap.size w).drew |>.trans (Kept.of_below hb)); clear hb
  refine hK.out _ _ (Nat.zero_le _) (fun hHeld5 => ?_)
  clear hK K
  (try simp only [Act.put, pA, pZ, pS])
  refine wpAnyH_take (i := 6) (oi := ?o6) (v := ?v6) ?hi6 (by kernel_rfl) (by kernel_rfl) (by kernel_rfl) (fun _ _ _ h => h) ?hy6 (by assumption) ?rest6
  case hi6 => simp only [gA, gS, gZ]; rfl
  case hy6 =>
    refine Or.inl ⟨by rfl, ?_⟩
    intro w hSw; (try dsimp only at hSw); go_simp <;> (with_reducible rfl)
  (try simp only [Act.put, pA, pZ, pS])
  refine wpAnyH_ready (rs := [7]) (by kernel_rfl) (by simp) ?_
  refine AllReadyH.cons rfl (fun K hK => ?_) AllReadyH.nil
  go_simp
  refine (wstr_any H1.out.bd _ (by have := HL.out; have := HIL.out; simp only [app_size]; show _ + (_ + 2) ≤ _; omega)).mono ?_; rintro _ w2 hw; obtain ⟨r2, he, hW, hK⟩ := H1.out.wroteX hw; subst he; have H2 := Lib.hid hW; have K2 := Lib.hid (K1.out.trans hK); clear hw hW hK
  refine hK.out _ _ (Nat.zero_le _) (fun hHeld7 => ?_)
  clear hK K
  (try simp only [Act.put, pA, pZ, pS])
  refine wpAnyH_done (by kernel_rfl) ?_ _
  refine NoPanic.normal ?_
  go_wp2_with fail
  go_loopw [23] (fun kv wr => ∃ (j : Nat) (p' v' : Value) (S' : WS), j ≤ l.length ∧ kv = .int .i64 j ∧ Hid (x0 = itemsW put (l.drop j) S') ∧ Hid (Wr w0 N tv b mb wr p' v' S') ∧ Hid (Kept w wr) ∧ Hid (S'.t.length ≤ 4294967400)) (fun kv _ => l.length - (intOf kv).toNat)
  case atStart =>
    obtain ⟨p', v', hW⟩ := H2.out
    refine ⟨0, p', v', _, Nat.zero_le _, rfl, Lib.hid HX0.out, Lib.hid ?_, K2, Lib.hid ?_⟩
    · simp only [app_list, str_toList] at hW
      simpa using hW
    · have := HL.out
      have := HIL2.out
      simp
      omega
  case round =>
    obtain ⟨j, p', v', S', hj, rfl, HXj, HR, HK, HS⟩ := hrel
    clear H2 K2 HX0 H1 K1 HD
    by_cases hlt : j < l.length
    · have hi : (j : Int) < (l.length : Int) := by omega
      obtain ⟨hw', hw⟩ := wr_sm (x := (j : Int) + 1) (by have := HLEN.out; omega) (by have := HLEN.out; omega)
      obtain ⟨hd', hdw⟩ := wr_sm (x := d + 1) (by omega) (by omega)
      obtain ⟨q, y, g, off, co, cc, hget, hmem, rfl, -, r0, r1, r2, r3, r4, r5, r6⟩ := HVI.out.getB hlt HR.out.below rfl
      have HVY : Hid (VIn w0 (.slice co y.xs.length cc) y.xs) := by
        obtain ⟨q2, y2, g2, off2, co2, cc2, hget2, -, e2, hv2, s0, s1, s2, s3, s4, s5, s6⟩ := HVI.out.getB hlt (Below.refl w0.heap.size w0) rfl
        cases e2
        rw [hget] at hget2
        cases hget2
        have hk := HR.out.below.cell (p := ⟨g, off + j * 7 + 6, none⟩) (cell_lt s6)
        rw [r6, s6] at hk
        cases hk
        exact Lib.hid hv2
      obtain ⟨qb, qn, qt⟩ := q
      obtain ⟨⟨o1, o2⟩, o3⟩ := HO.out _ hmem
      replace o1 : qt.size ≤ 1073741824 := o1
      replace o2 : I64 qn := o2
      replace o3 : WOk N y := o3
      simp only at r0 r1 r2 r3 r4 r5 r6
      have HO1 := Lib.hid o1
      have HO3 := Lib.hid o3
      have hXd := HXj.out
      rw [drop_at hget, itemsW] at hXd
      simp only at hXd
      have HXd := Lib.hid hXd
      have HA : Hid ((wr.alloc (.cells #[.bool qb, .int .i64 qn, .string qt, .int .i64 y.k, .int .i64 y.n, .string y.t, .slice co y.xs.length cc] 64)).heap[wr.heap.size]? = some (.cells #[.bool qb, .int .i64 qn, .string qt, .int .i64 y.k, .int .i64 y.n, .string y.t, .slice co y.xs.length cc] 64 (0, 0))) := Lib.hid (heap_alloc_new wr _)
      have HRA := Lib.hid (HR.out.under (below_alloc1 wr (.cells #[.bool qb, .int .i64 qn, .string qt, .int .i64 y.k, .int .i64 y.n, .string y.t, .slice co y.xs.length cc] 64)))
      have KA := Lib.hid (HK.out.trans (Kept.of_below (below_alloc1 wr (.cells #[.bool qb, .int .i64 qn, .string qt, .int .i64 y.k, .int .i64 y.n, .string y.t, .slice co y.xs.length cc] 64))))
      obtain ⟨e0, e1, e2, e3, e4, e5, e6⟩ := ib_cells (x := (⟨qb, qn, qt⟩, y)) (c := .slice co y.xs.length cc) HA.out
      simp only at e0 e1 e2 e3 e4 e5 e6
      have fin : ∀ {W2 : World} {p2 v2 : Value}, Wr w0 N tv b mb W2 p2 v2 ⟨S'.t ++ keyW ⟨qb, qn, qt⟩, S'.o⟩ → Kept (wr.alloc (.cells #[.bool qb, .int .i64 qn, .string qt, .int .i64 y.k, .int .i64 y.n, .string y.t, .slice co y.xs.length cc] 64)) W2 → Hid (Wr w0 N tv b mb W2 p2 v2 ⟨S'.t ++ keyW ⟨qb, qn, qt⟩, S'.o⟩ ∧ Kept w W2 ∧ W2.heap[wr.heap.size]? = some (.cells #[.bool qb, .int .i64 qn, .string qt, .int .i64 y.k, .int .i64 y.n, .string y.t, .slice co y.xs.length cc] 64 (0, 0)) ∧ (⟨S'.t ++ keyW ⟨qb, qn, qt⟩, S'.o⟩ : WS).t.length ≤ 8589934592) := fun hW hK => Lib.hid ⟨hW, KA.out.trans hK, hK.blk _ _ _ _ HA.out (by decide) (by decide), by
        have h1 := HS.out
        have h2 : (keyW ⟨qb, qn, qt⟩).length ≤ 1073741924 := by
          unfold keyW textW
          have e1 := itoa_len (n := (qt.size : Int)) (by omega) (by omega)
          have e2 := itoa_len (n := qn) o2.1 o2.2
          split
          · simp [size_toList]; omega
          · simp; omega
        show (S'.t ++ keyW ⟨qb, qn, qt⟩).length ≤ _
        rw [List.length_append]; omega⟩
      have FIN := @Lib.hid _ @fin
      clear hXd HXj hget hmem fin o1 o3
      cases qb
      · have HNK : ∀ W, Tabs W → Calls Tryz.prog 109 #[.int .i64 qn] W (TextPost W (Lib.itoa qn)) := fun W ht => num_any _ o2.1 o2.2 W ht
        have HIK : Hid ((str (Lib.itoa qn)).size ≤ 21) := Lib.hid (itoa_short o2.1 o2.2)
        have hk1 : ¬ 9223372036854775807 < 2 + (str (Lib.itoa qn)).size := by have := HIK.out; omega
        have hk2 : ¬ 9223372036854775807 < 2 + (str (Lib.itoa qn)).size + 1 := by have := HIK.out; omega
        have HDD := Lib.hid (HRA.out.under (Below.refl _ _).drew)
        have hE1 : Hid ((wr.alloc (.cells #[.bool false, .int .i64 qn, .string qt, .int .i64 y.k, .int .i64 y.n, .string y.t, .slice co y.xs.length cc] 64)).drew.cell? ⟨wr.heap.size, 1, none⟩ = some (.int .i64 qn)) := Lib.hid e1
        go_wp2_with fail
        refine wp_region_noPanic ?_
        refine wp_region_held_drew (S := (fun V => V.cell? ⟨wr.heap.size, 1, none⟩ = some (.int .i64 qn))) (by kernel_rfl) (by exact hE1.out) (fun hHeld => ?_)
        refine wpAnyH_take (i := 0) (oi := ?oa0) (v := ?va0) ?hia0 (by kernel_rfl) (by kernel_rfl) (by kernel_rfl) (fun _ _ _ h => h) ?hya0 (by assumption) ?resta0
        case hia0 => simp only [gA, gZ]; rfl
        case hya0 =>
          refine Or.inl ⟨by rfl, ?_⟩
          intro w hSw; (try dsimp only at hSw); go_simp <;> (with_reducible rfl)
        (try simp only [Act.put, pA, pZ, pS])
        refine wpAnyH_take (i := 1) (oi := ?oa1) (v := ?va1) ?hia1 (by kernel_rfl) (by kernel_rfl) (by kernel_rfl) (fun _ _ _ h => h) ?hya1 (by assumption) ?resta1
        case hia1 => simp only [gA, gS, gZ]; rfl
        case hya1 =>
          refine Or.inl ⟨by rfl, ?_⟩
          intro w hSw; (try dsimp only at hSw); go_simp <;> (with_reducible rfl)
        (try simp only [Act.put, pA, pZ, pS])
        refine wpAnyH_take (i := 2) (oi := ?oa2) (v := ?va2) ?hia2 (by kernel_rfl) (by kernel_rfl) (by kernel_rfl) (fun _ _ _ h => h) ?hya2 (by assumption) ?resta2
        case hia2 => simp only [gA, gS, gZ]; rfl
        case hya2 =>
          refine Or.inl ⟨by rfl, ?_⟩
          intro w hSw; (try dsimp only at hSw); go_simp <;> (with_reducible rfl)
        (try simp only [Act.put, pA, pZ, pS])
        refine wpAnyH_take (i := 3) (oi := ?oa3) (v := ?va3) ?hia3 (by kernel_rfl) (by kernel_rfl) (by kernel_rfl) (fun _ _ _ h => h) ?hya3 (by assumption) ?resta3
        case hia3 => simp only [gA, gS, gZ]; rfl
        case hya3 =>
          refine Or.inl ⟨by rfl, ?_⟩
          intro w hSw; (try dsimp only at hSw); go_simp <;> (with_reducible rfl)
        (try simp only [Act.put, pA, pZ, pS])
        refine wpAnyH_take (i := 4) (oi := ?oa4) (v := ?va4) ?hia4 (by kernel_rfl) (by kernel_rfl) (by kernel_rfl) (fun _ _ _ h => h) ?hya4 (by assumption) ?resta4
        case hia4 => simp only [gA, gS, gZ]; rfl
        case hya4 =>
          refine Or.inl ⟨by rfl, ?_⟩
          intro w hSw; (try dsimp only at hSw); go_simp <;> (with_reducible rfl)
        (try simp only [Act.put, pA, pZ, pS])
        refine wpAnyH_take (i := 5) (oi := ?oa5) (v := ?va5) ?hia5 (by kernel_rfl) (by kernel_rfl) (by kernel_rfl) (fun _ _ _ h => h) ?hya5 (by assumption) ?resta5
        case hia5 => simp only [gA, gS, gZ]; rfl
        case hya5 =>
          refine Or.inl ⟨by rfl, ?_⟩
          intro w hSw; (try dsimp only at hSw); go_simp <;> (with_reducible rfl)
        (try simp only [Act.put, pA, pZ, pS])
        refine wpAnyH_ready (rs := [6]) (by kernel_rfl) (by simp) ?_
        refine AllReadyH.cons rfl (fun K hK => ?_) AllReadyH.nil
        go_simp
        refine (HNK _ HDD.out.tabs).mono ?_; rintro _ w3 ⟨rfl, hb⟩; have H3 := Lib.hid (HDD.out.under hb); have K3 := Lib.hid (Kept.of_below (Below.refl (wr.alloc (.cells #[.bool false, .int .i64 qn, .string qt, .int .i64 y.k, .int .i64 y.n, .string y.t, .slice co y.xs.length cc] 64)).heap.size _).drew |>.trans (Kept.of_below hb)); clear hb
        refine hK.out _ _ (cell_blk (K3.out.blk _ _ _ _ HA.out (by decide) (by decide)) 1) (fun hHelda6 => ?_)
        clear hK K
        (try simp only [Act.put, pA, pZ, pS])
        refine wpAnyH_take (i := 7) (oi := ?oa7) (v := ?va7) ?hia7 (by kernel_rfl) (by kernel_rfl) (by kernel_rfl) (fun _ _ _ h => h) ?hya7 (by assumption) ?resta7
        case hia7 => simp only [gA, gS, gZ]; rfl
        case hya7 =>
          refine Or.inl ⟨by rfl, ?_⟩
          intro w hSw; (try dsimp only at hSw); go_simp <;> (with_reducible rfl)
        (try simp only [Act.put, pA, pZ, pS])
        refine wpAnyH_take (i := 8) (oi := ?oa8) (v := ?va8) ?hia8 (by kernel_rfl) (by kernel_rfl) (by kernel_rfl) (fun _ _ _ h => h) ?hya8 (by assumption) ?resta8
        case hia8 => simp only [gA, gS, gZ]; rfl
        case hya8 =>
          refine Or.inl ⟨by rfl, ?_⟩
          intro w hSw; (try dsimp only at hSw); go_simp <;> (with_reducible rfl)
        (try simp only [Act.put, pA, pZ, pS])
        refine wpAnyH_ready (rs := [9]) (by kernel_rfl) (by simp) ?_
        refine AllReadyH.cons rfl (fun K hK => ?_) AllReadyH.nil
        go_simp
        refine (wstr_any H3.out.bd _ (by have := HS.out; have := HIK.out; simp only [app_size]; show _ + (2 + _ + 1) ≤ _; omega)).mono ?_; rintro _ w4 hw; obtain ⟨he, hW, hK⟩ := H3.out.wrote hw; subst he; have H4 := Lib.hid hW; have K4 := Lib.hid (K3.out.trans hK); clear hw hW hK
        refine hK.out _ _ (cell_blk (K4.out.blk _ _ _ _ HA.out (by decide) (by decide)) 1) (fun hHelda9 => ?_)
        clear hK K
        (try simp only [Act.put, pA, pZ, pS])
        refine wpAnyH_done (by kernel_rfl) ?_ _
        refine NoPanic.normal ?_
        obtain ⟨p4, v4, hW4⟩ := H4.out
        have HF := FIN.out (W2 := w4) (p2 := p4) (v2 := v4) (by
          have e : keyW ⟨false, qn, qt⟩ = [105, 58] ++ (Lib.itoa qn ++ [59]) := rfl
          rw [e]
          simp only [app_list, str_toList] at hW4
          simpa using hW4) K4.out
        obtain ⟨e0, e1, e2, e3, e4, e5, e6⟩ := ib_cells (x := (⟨false, qn, qt⟩, y)) (c := .slice co y.xs.length cc) HF.out.2.2.1
        simp only at e0 e1 e2 e3 e4 e5 e6
        have HVV := HVH.out HF.out.1 HF.out.2.2.2 HVY.out HO3.out
        clear H3 K3 H4 K4 hW4 HDD hE1 HNK
        obtain ⟨x1, hx1⟩ : ∃ x1, x1 = put y ⟨S'.t ++ keyW ⟨false, qn, qt⟩, S'.o⟩ := ⟨_, rfl⟩
        have hXe := HXd.out
        rw [← hx1] at HVV hXe
        have HX1 := Lib.hid hx1
        have HXe := Lib.hid hXe
        clear hx1 hXe HXd
        rcases x1 with er | S1
        · have hx0e : x0 = .error er := HXe.out
          have hxe : x = .error er := by have := HX.out; rw [hx0e] at this; exact this
          subst hxe
          go_wp2_with fail
          refine HVV.mono ?_
          rintro _ w5 ⟨rfl, hb5⟩
          go_wp2_with fail
          exact ⟨rfl, rfl, hb5⟩
        · go_wp2_with fail
          refine HVV.mono ?_
          rintro _ w5 ⟨rfl, ⟨p5, v5, hW5⟩, hK5⟩
          have H5 := Lib.hid hW5
          have K5 := Lib.hid (HF.out.2.1.trans hK5)
          clear hW5 hK5
          go_wp2_with fail
          go_roundw
          case rel => exact ⟨j + 1, p5, v5, S1, hlt, by go_num, Lib.hid HXe.out, H5, K5, Lib.hid (by have := HPH.out _ _ _ HO3.out ⟨HF.out.1.nod, HF.out.1.few⟩ HX1.out.symm; omega)⟩
          case measure => simp [intOf]; omega
      · have HT := wtext_any qt HRA.out (by have := HS.out; have := HO1.out; omega)
        go_wp2_with fail
        refine HT.mono ?_
        rintro _ w4 ⟨rfl, ⟨p4, v4, hW4⟩, hK4⟩
        have HF := FIN.out (W2 := w4) (p2 := p4) (v2 := v4) (by
          have e : keyW ⟨true, qn, qt⟩ = textW qt := rfl
          rw [e]
          exact hW4) hK4
        obtain ⟨e0, e1, e2, e3, e4, e5, e6⟩ := ib_cells (x := (⟨true, qn, qt⟩, y)) (c := .slice co y.xs.length cc) HF.out.2.2.1
        simp only at e0 e1 e2 e3 e4 e5 e6
        have HVV := HVH.out HF.out.1 HF.out.2.2.2 HVY.out HO3.out
        clear HT hW4 hK4
        obtain ⟨x1, hx1⟩ : ∃ x1, x1 = put y ⟨S'.t ++ keyW ⟨true, qn, qt⟩, S'.o⟩ := ⟨_, rfl⟩
        have hXe := HXd.out
        rw [← hx1] at HVV hXe
        have HX1 := Lib.hid hx1
        have HXe := Lib.hid hXe
        clear hx1 hXe HXd
        rcases x1 with er | S1
        · have hx0e : x0 = .error er := HXe.out
          have hxe : x = .error er := by have := HX.out; rw [hx0e] at this; exact this
          subst hxe
          go_wp2_with fail
          refine HVV.mono ?_
          rintro _ w5 ⟨rfl, hb5⟩
          go_wp2_with fail
          exact ⟨rfl, rfl, hb5⟩
        · go_wp2_with fail
          refine HVV.mono ?_
          rintro _ w5 ⟨rfl, ⟨p5, v5, hW5⟩, hK5⟩
          have H5 := Lib.hid hW5
          have K5 := Lib.hid (HF.out.2.1.trans hK5)
          clear hW5 hK5
          go_wp2_with fail
          go_roundw
          case rel => exact ⟨j + 1, p5, v5, S1, hlt, by go_num, Lib.hid HXe.out, H5, K5, Lib.hid (by have := HPH.out _ _ _ HO3.out ⟨HF.out.1.nod, HF.out.1.few⟩ HX1.out.symm; omega)⟩
          case measure => simp [intOf]; omega
    · obtain rfl : j = l.length := by omega
      have hX2 := HXj.out
      rw [List.drop_of_length_le (Nat.le_refl _), itemsW] at hX2
      have hxe : x = .ok ⟨S'.t ++ [125], S'.o⟩ := by have := HX.out; rw [hX2] at this; exact this
      subst hxe
      have HW := wstr_any HR.out.bd ⟨#[125]⟩ (by have := HS.out; show _ + 1 ≤ _; omega)
      go_wp2_with fail
      refine HW.mono ?_
      rintro _ w4 hw
      obtain ⟨he, ⟨p4, v4, hW⟩, hK⟩ := HR.out.wrote hw
      subst he
      go_wp2_with fail
      first | go_end0 | (refine bodyPost_ret (results_none rfl _ _ _) rfl ?_)
      refine ⟨rfl, ⟨p4, v4, ?_⟩, HK.out.trans hK⟩
      have e : (⟨#[125]⟩ : ByteArray).toList = [125] := str_toList [125]
      rw [e] at hW
      exact hW
end Go.Proofs.YtnaefnojmiolbaaGreatDoor

namespace Go.Proofs.YtnaefnojmiolbaaGreatDoor
open Go.RowKit Go.Shelf

/-- Things that may be written. -/
def FOkW (N : Nat) (F : List TP) : Prop := ∀ th ∈ F, th.1.size ≤ 1073741824 ∧ LOkW N th.2 ∧ th.2.length ≤ 140737488355328
theorem itemsW_len {N L : Nat} {put : PutF} (HP : ∀ x S S', WOk N x → OOk N S → put x S = .ok S' → S'.t.length ≤ L ∧ OOk N S') : ∀ {l : List It} {S S' : WS}, LOkW N l → OOk N S → itemsW put l S = .ok S' → S'.t.length ≤ max S.t.length L ∧ OOk N S'
  | [], S, S', _, hO, h => by
    rw [itemsW] at h
    cases h
    exact ⟨by omega, hO⟩
  | x :: l, S, S', ho, hO, h => by
    rw [itemsW] at h
    split at h
    · cases h
    · rename_i w' h1
      obtain ⟨a, a2⟩ := HP _ ⟨S.t ++ keyW x.1, S.o⟩ _ (ho x (by simp)).2 hO h1
      obtain ⟨b, b2⟩ := itemsW_len HP (fun y hy => ho y (by simp [hy])) a2 h
      exact ⟨by omega, b2⟩
theorem bracesW_len {N L : Nat} {sub : Option PutF} (HP : ∀ put, sub = some put → ∀ x S S', WOk N x → OOk N S → put x S = .ok S' → S'.t.length ≤ L ∧ OOk N S') {l : List It} {S S' : WS} (ho : LOkW N l) (hl : l.length ≤ 140737488355328) (hS : S.t.length + 30 ≤ L) (hO : OOk N S) (h : bracesW sub l S = .ok S') : S'.t.length ≤ L + 1 ∧ OOk N S' := by
  unfold bracesW at h
  split at h
  · cases h
  · rename_i put
    split at h
    · cases h
    · rename_i w' h1
      obtain ⟨a, a2⟩ := itemsW_len (HP put rfl) (S := ⟨S.t ++ (Lib.itoa l.length ++ [58, 123]), S.o⟩) ho hO h1
      have b := itoa_len (n := (l.length : Int)) (by omega) (by omega)
      cases h
      simp only [List.length_append, List.length_cons, List.length_nil] at a ⊢
      exact ⟨by omega, a2⟩
theorem cutW_len (t : Bs) : (cutW t).length ≤ 131072 := by
  unfold cutW
  split
  · rw [List.length_replicate]; omega
  · omega
/-- What a writer's map tells behind one more object. -/
theorem place_snoc {o : List Int} {n : Int} (h : placeW o n = none) (y : Int) : placeW (o ++ [n]) y = if y = n then some o.length else placeW o y := by
  unfold placeW at h ⊢
  rw [List.findIdx?_append]
  by_cases e : y = n
  · subst e
    rw [if_pos rfl, h]
    simp [List.findIdx?_singleton]
  · rw [if_neg e]
    cases hf : List.findIdx? (fun x => decide (x = y)) o with
    | some i => rfl
    | none =>
      simp [List.findIdx?_singleton]
      exact fun h => e h.symm
theorem place_mem {o : List Int} {n : Int} (h : placeW o n = none) : n ∉ o := by
  unfold placeW at h
  rw [List.findIdx?_eq_none_iff] at h
  intro hm
  have := h n hm
  simp at this
/-- Things as they lie behind a slice value. -/
def ThAt (w : World) (tv : Value) (F : List TP) : Prop := ∃ ta tc, tv = .slice ta F.length tc ∧ F.length ≤ 140737488355328 ∧
  ∀ i (hi : i < F.length), ∃ g off c, ta = some ⟨g, off, none⟩ ∧ g < w.heap.size ∧ VIn w c (F[i]).2 ∧ w.cell? ⟨g, off + i * 2, none⟩ = some (.string (F[i]).1) ∧ w.cell? ⟨g, off + i * 2 + 1, none⟩ = some c
section
variable {w0 w : World} {N : Nat} {tv : Value} {b mb : Nat} {p v : Value} {S : WS}
theorem Wr.cells (h : Wr w0 N tv b mb w p v S) : w.cell? ⟨b, 0, none⟩ = some p ∧ w.cell? ⟨b, 1, none⟩ = some v ∧ w.cell? ⟨b, 2, none⟩ = some tv ∧ w.cell? ⟨b, 3, none⟩ = some (.map (some mb)) :=
  ⟨by rw [cell_blk h.bd.blk]; simp, by rw [cell_blk h.bd.blk]; simp, by rw [cell_blk h.bd.blk]; simp, by rw [cell_blk h.bd.blk]; simp⟩
/-- One more object has begun. -/
theorem Wr.begin {n : Int} {w5 : World} (h : Wr w0 N tv b mb w p v S) (hp : placeW S.o n = none) (hn : 1 ≤ n ∧ n ≤ (N : Int)) (hm : mII.Is w5 mb (fun y => if y = n then some ((S.o.length : Int) + 1) else begunF S.o y) (if (begunF S.o n).isSome then S.o.length else S.o.length + 1)) (g : w.grownBy w5 (some mb)) :
    Wr w0 N tv b mb w5 p v ⟨S.t, S.o ++ [n]⟩ ∧ Kept w w5 := by
  have ha := h.apart
  have m : Mod (fun k => k = mb) w w5 := (Mod.refl _ w).grown g (fun k e _ => (Option.some.inj e).symm)
  have hnone : (begunF S.o n).isSome = false := by unfold begunF; rw [hp]; rfl
  rw [if_neg (by rw [hnone]; decide)] at hm
  refine ⟨⟨h.bd.mod m (fun e => ha.1 e.symm) (fun k e x => ha.2 (x ▸ e)), ?_, below_mod h.below m h.below.size (fun k e => by rw [show k = mb from e]; exact h.hm), h.hb, h.hm, h.hv, h.tab, ?_, fun x hx => ?_⟩, Kept.of_mod m (fun k cs ty fr e c => h.types k cs ty fr (.inr (.inr e)) c)⟩
  · have e : (S.o ++ [n]).length = S.o.length + 1 := by simp
    show mII.Is w5 mb (begunF (S.o ++ [n])) (S.o ++ [n]).length
    rw [e]
    refine hm.congr fun y _ => ?_
    unfold begunF
    rw [place_snoc hp]
    split <;> rfl
  · show (S.o ++ [n]).Nodup
    rw [List.nodup_append]
    exact ⟨h.nod, by simp, fun a ha b hb e => place_mem hp (by rw [List.mem_singleton] at hb; rw [← hb, ← e]; exact ha)⟩
  · rcases List.mem_append.1 hx with hx | hx
    · exact h.few x hx
    · rw [List.mem_singleton.1 hx]; exact hn
end
theorem repeat_blank (n : Nat) : Lib.repeatL [32] n = List.replicate n 32 := by
  induction n with
  | zero => rfl
  | succ n ih => rw [Lib.repeatL, List.replicate_succ, ih]; rfl
end Go.Proofs.YtnaefnojmiolbaaGreatDoor

namespace Go.Proofs.YtnaefnojmiolbaaGreatDoor
open Go.RowKit Go.Shelf

attribute [local go_sem] yld_undef
section
variable {w0 w w' : World} {N : Nat} {tv : Value} {b mb : Nat} {p v : Value} {S : WS}
theorem Wr.reset (h : Wr w0 N tv b mb w p v S) (i : BuildIs w' 110 b (.pointer none) (.slice none 0 0) [tv, .map (some mb)] []) (m : Mod (fun k => k = b) w w') : Wr w0 N tv b mb w' (.pointer none) (.slice none 0 0) ⟨[], S.o⟩ ∧ Kept w w' :=
  ⟨⟨i, h.mp.mod m (fun e => h.apart.1 e), below_mod h.below m h.below.size (fun k e => by rw [show k = b from e]; exact h.hb), h.hb, h.hm, fun g e => by simp [Value.ownBlock] at e, h.tab, h.nod, h.few⟩,
    Kept.of_mod m (fun k cs ty fr e c => h.types k cs ty fr (.inl e) c)⟩
end
/-- Where a writer's value stands. -/
def VS (w0 : World) (N : Nat) (tv : Value) (b mb : Nat) (w : World) (o : Obj) (S' : WS) (W : World) : Prop :=
  (∃ p v, Wr w0 N tv b mb W p v S') ∧ Kept w W ∧ W.heap[w.heap.size]? = some o
set_option maxHeartbeats 25600000 in
set_option maxRecDepth 100000 in
theorem wval_any (F : List TP) (sub : Option PutF) (d : Int) {w0 : World} {tv : Value} {b mb : Nat} (hF : ThAt w0 tv F) (hFo : FOkW F.length F)
    (HI : ∀ {W : World} {p v : Value} {S : WS} {l : List It} {c : Value}, Wr w0 F.length tv b mb W p v S → S.t.length ≤ 4294967296 → VIn w0 c l → LOkW F.length l → Calls Tryz.prog 111 #[.pointer (some ⟨b, 0, none⟩), c, .int .i64 d] W (WrPost w0 F.length tv b mb W (bracesW sub l S)))
    {w : World} {p v : Value} {S : WS} {y : VT} {c : Value} (h : Wr w0 F.length tv b mb w p v S) (hl : S.t.length ≤ 8589934592) (hv : VIn w0 c y.xs) (ho : WOk F.length y) :
    Calls Tryz.prog 82 #[.pointer (some ⟨b, 0, none⟩), y.v c, .int .i64 d] w (WrPost w0 F.length tv b mb w (graphW F sub y S)) := by
  obtain ⟨ao, cap, rfl, hlen⟩ := hv.form
  cases ho with
  | mk k n t l hk hn hkk ht hx hs hlx =>
  obtain ⟨S1, hS1⟩ : ∃ S1 : WS, S1 = ⟨cutW S.t, S.o⟩ := ⟨_, rfl⟩
  obtain ⟨x, hx0⟩ : ∃ x, x = graphW F sub (.mk k n t l) S := ⟨_, rfl⟩
  rw [← hx0]
  unfold graphW at hx0
  rw [← hS1] at hx0
  have HX := Lib.hid hx0
  have HSE := Lib.hid hS1
  have HS1 : Hid (S1.t.length ≤ 131072) := Lib.hid (by rw [hS1]; exact cutW_len S.t)
  have HLO : Hid (LOkW F.length l) := Lib.hid (fun x hm => ⟨hx x hm, hs x hm⟩)
  have HV : Hid (VIn w0 (.slice ao l.length cap) l) := Lib.hid hv
  have HII := @Lib.hid _ @HI
  have HFT := Lib.hid hF
  have HFO := Lib.hid hFo
  have HA := Lib.hid (heap_alloc_new w (.cells #[.int .i64 k, .int .i64 n, .string t, .slice ao l.length cap] 24))
  have HW := Lib.hid (h.under (below_alloc1 w (.cells #[.int .i64 k, .int .i64 n, .string t, .slice ao l.length cap] 24)))
  have HK := Lib.hid (Kept.of_below (below_alloc1 w (.cells #[.int .i64 k, .int .i64 n, .string t, .slice ao l.length cap] 24)))
  have HLN := blen_any HW.out.bd
  have HNW : Hid (w.heap.size + 1 ≤ (w.alloc (.cells #[.int .i64 k, .int .i64 n, .string t, .slice ao l.length cap] 24)).heap.size) := Lib.hid (by simp)
  clear h hv hx hs hx0 hS1 HI hF hFo
  simp only [VT.v, VT.k, VT.n, VT.t, VT.xs]
  go_enter Tryz.func82, Tryz.ntmps82
  go_wp2_with fail
  refine HLN.mono ?_
  rintro _ w1 ⟨rfl, rfl⟩
  go_upto_if 12 with fail
  go_cut [] from 8 to 21 (fun wx => Hid (VS w0 F.length tv b mb w (.cells #[.int .i64 k, .int .i64 n, .string t, .slice ao l.length cap] 24 (0, 0)) S1 wx))
  case first =>
    by_cases hbig : 131072 < S.t.length
    · have hb1 : (131072 : Int) < (S.t.length : Int) := by omega
      have HR := breset_any HW.out.bd
      have HBIG := Lib.hid hbig
      go_wp2_with fail
      refine HR.mono ?_
      rintro _ w2 ⟨rfl, i2, m2⟩
      obtain ⟨hW2, hK2⟩ := HW.out.reset i2 m2
      have HD := Lib.hid (hW2.under (Below.refl _ _).drew)
      have KD := Lib.hid ((HK.out.trans hK2).trans (Kept.of_below (Below.refl w2.heap.size w2).drew))
      have BD : Hid (w2.drew.heap[w.heap.size]? = some (.cells #[.int .i64 k, .int .i64 n, .string t, .slice ao l.length cap] 24 (0, 0))) := Lib.hid (hK2.blk _ _ _ _ HA.out (by decide) (by decide))
      have HRP : ∀ W, Calls Tryz.prog 108 #[.string ⟨#[32]⟩, .int .i64 65537] W (fun e w' => e = .returned (.string ⟨(Lib.repeatL [32] 65537).toArray⟩) ∧ Below W.heap.size W w') := fun W => Tryz.strings_Repeat ⟨#[32]⟩ 65537 W (by decide) (by decide)
      have HRL : Hid ((⟨(Lib.repeatL [32] 65537).toArray⟩ : ByteArray).toList = List.replicate 65537 32) := Lib.hid (by rw [repeat_blank]; exact str_toList _)
      have HRS : Hid ((⟨(Lib.repeatL [32] 65537).toArray⟩ : ByteArray).size = 65537) := Lib.hid (by rw [repeat_blank]; show (str (List.replicate 65537 32)).size = _; rw [str_size, List.length_replicate])
      generalize (⟨(Lib.repeatL [32] 65537).toArray⟩ : ByteArray) = rp at HRP HRL HRS
      clear hW2 hK2 i2 m2 hbig HR HLN
      go_wp2_with fail
      refine wp_region_noPanic ?_
      refine wp_region_held_drew (S := (fun V => 0 ≤ V.heap.size)) (by kernel_rfl) (by exact Nat.zero_le _) (fun hHeld => ?_)
      refine wpAnyH_take (i := 0) (oi := ?or0) (v := ?vr0) ?hir0 (by kernel_rfl) (by kernel_rfl) (by kernel_rfl) (fun _ _ _ h => h) ?hyr0 (by assumption) ?restr0
      case hir0 => simp only [gA, gZ]; rfl
      case hyr0 =>
        refine Or.inl ⟨by rfl, ?_⟩
        intro w hSw; (try dsimp only at hSw); go_simp <;> (with_reducible rfl)
      (try simp only [Act.put, pA, pZ, pS])
      refine wpAnyH_take (i := 1) (oi := ?or1) (v := ?vr1) ?hir1 (by kernel_rfl) (by kernel_rfl) (by kernel_rfl) (fun _ _ _ h => h) ?hyr1 (by assumption) ?restr1
      case hir1 => simp only [gA, gS, gZ]; rfl
      case hyr1 =>
        refine Or.inl ⟨by rfl, ?_⟩
        intro w hSw; (try dsimp only at hSw); go_simp <;> (with_reducible rfl)
      (try simp only [Act.put, pA, pZ, pS])
      refine wpAnyH_take (i := 2) (oi := ?or2) (v := ?vr2) ?hir2 (by kernel_rfl) (by kernel_rfl) (by kernel_rfl) (fun _ _ _ h => h) ?hyr2 (by assumption) ?restr2
      case hir2 => simp only [gA, gS, gZ]; rfl
      case hyr2 =>
        refine Or.inl ⟨by rfl, ?_⟩
        intro w hSw; (try dsimp only at hSw); go_simp <;> (with_reducible rfl)
      (try simp only [Act.put, pA, pZ, pS])
      refine wpAnyH_ready (rs := [3]) (by kernel_rfl) (by simp) ?_
      refine AllReadyH.cons rfl (fun K hK => ?_) AllReadyH.nil
      go_simp
      refine (HRP _).mono ?_; rintro _ w3 ⟨rfl, hb⟩; have H3 := Lib.hid (HD.out.under hb); have K3 := Lib.hid (KD.out.trans (Kept.of_below hb)); have B3 := Lib.hid ((hb.block _ (lt_of_block BD.out)).trans BD.out); clear hb
      refine hK.out _ _ (Nat.zero_le _) (fun hHeldr3 => ?_)
      clear hK K
      (try simp only [Act.put, pA, pZ, pS])
      refine wpAnyH_ready (rs := [4]) (by kernel_rfl) (by simp) ?_
      refine AllReadyH.cons rfl (fun K hK => ?_) AllReadyH.nil
      go_simp
      refine (wstr_any H3.out.bd _ (by have := HRS.out; show 0 + _ ≤ _; omega)).mono ?_; rintro _ w4 hw; obtain ⟨he, hW, hK⟩ := H3.out.wrote hw; subst he; have H4 := Lib.hid hW; have K4 := Lib.hid (K3.out.trans hK); have B4 := Lib.hid (hK.blk _ _ _ _ B3.out (by decide) (by decide)); clear hw hW hK
      refine hK.out _ _ (Nat.zero_le _) (fun hHeldr4 => ?_)
      clear hK K
      (try simp only [Act.put, pA, pZ, pS])
      refine wpAnyH_done (by kernel_rfl) ?_ _
      refine NoPanic.normal ?_
      go_wp2_with fail
      go_meet
      refine Lib.hid ⟨?_, K4.out, B4.out⟩
      obtain ⟨p4, v4, h4⟩ := H4.out
      refine ⟨p4, v4, ?_⟩
      rw [HSE.out]
      unfold cutW
      rw [if_pos HBIG.out]
      have e := HRL.out
      rw [e, List.nil_append] at h4
      exact h4
    · have hb1 : ¬ (131072 : Int) < (S.t.length : Int) := by omega
      have HBIG := Lib.hid hbig
      go_wp2_with fail
      go_meet
      refine Lib.hid ⟨⟨p, v, ?_⟩, HK.out, HA.out⟩
      rw [HSE.out]
      unfold cutW
      rw [if_neg HBIG.out]
      exact HW.out
  case rest =>
    clear HW HK HA HLN
    obtain ⟨⟨pc, vc, hWc⟩, hKc, hBc⟩ := hcut.out
    have HWC := Lib.hid hWc
    have HKC := Lib.hid hKc
    have HBC := Lib.hid hBc
    clear hWc hKc hBc hcut
    obtain ⟨z0, z1, z2, z3⟩ := vb4 HBC.out
    have HD := Lib.hid (HWC.out.under (Below.refl _ _).drew)
    have KD := Lib.hid (Kept.of_below (Below.refl wc.heap.size wc).drew)
    have hk5 : k = 0 ∨ k = 1 ∨ k = 2 ∨ k = 3 ∨ k = 4 ∨ k = 5 := by omega
    have HN : ∀ W, Tabs W → Calls Tryz.prog 109 #[.int .i64 n] W (TextPost W (Lib.itoa n)) := fun W ht => num_any _ hn.1 hn.2 W ht
    have HIN : Hid ((str (Lib.itoa n)).size ≤ 21) := Lib.hid (itoa_short hn.1 hn.2)
    have hc1 : ¬ 9223372036854775807 < 2 + (str (Lib.itoa n)).size := by have := HIN.out; omega
    have hc2 : ¬ 9223372036854775807 < 2 + (str (Lib.itoa n)).size + 1 := by have := HIN.out; omega
    rcases hk5 with rfl | rfl | rfl | rfl | rfl | rfl
    · have hxe : x = .ok ⟨S1.t ++ [78, 59], S1.o⟩ := HX.out
      subst hxe
      have HWR := wstr_any HWC.out.bd ⟨#[78, 59]⟩ (by have := HS1.out; show _ + 2 ≤ _; omega)
      go_wp2_with fail
      refine HWR.mono ?_
      rintro _ w4 hw
      obtain ⟨he, hW, hK⟩ := HWC.out.wrote hw
      subst he
      go_wp2_with fail
      first | go_end0 | (refine bodyPost_ret (results_none rfl _ _ _) rfl ?_)
      have e : (⟨#[78, 59]⟩ : ByteArray).toList = [78, 59] := str_toList [78, 59]
      rw [e] at hW
      exact ⟨rfl, hW, HKC.out.trans hK⟩
    · have hxe : x = .ok ⟨S1.t ++ ([98, 58] ++ (Lib.itoa n ++ [59])), S1.o⟩ := HX.out
      subst hxe
      have hE1 : Hid (wc.drew.cell? ⟨w.heap.size, 1, none⟩ = some (.int .i64 n)) := Lib.hid z1
      go_wp2_with fail
      refine wp_region_noPanic ?_
      refine wp_region_held_drew (S := (fun V => V.cell? ⟨w.heap.size, 1, none⟩ = some (.int .i64 n))) (by kernel_rfl) (by exact hE1.out) (fun hHeld => ?_)
      refine wpAnyH_take (i := 0) (oi := ?oa0) (v := ?va0) ?hia0 (by kernel_rfl) (by kernel_rfl) (by kernel_rfl) (fun _ _ _ h => h) ?hya0 (by assumption) ?resta0
      case hia0 => simp only [gA, gZ]; rfl
      case hya0 =>
        refine Or.inl ⟨by rfl, ?_⟩
        intro w hSw; (try dsimp only at hSw); go_simp <;> (with_reducible rfl)
      (try simp only [Act.put, pA, pZ, pS])
      refine wpAnyH_take (i := 1) (oi := ?oa1) (v := ?va1) ?hia1 (by kernel_rfl) (by kernel_rfl) (by kernel_rfl) (fun _ _ _ h => h) ?hya1 (by assumption) ?resta1
      case hia1 => simp only [gA, gS, gZ]; rfl
      case hya1 =>
        refine Or.inl ⟨by rfl, ?_⟩
        intro w hSw; (try dsimp only at hSw); go_simp <;> (with_reducible rfl)
      (try simp only [Act.put, pA, pZ, pS])
      refine wpAnyH_take (i := 2) (oi := ?oa2) (v := ?va2) ?hia2 (by kernel_rfl) (by kernel_rfl) (by kernel_rfl) (fun _ _ _ h => h) ?hya2 (by assumption) ?resta2
      case hia2 => simp only [gA, gS, gZ]; rfl
      case hya2 =>
        refine Or.inl ⟨by rfl, ?_⟩
        intro w hSw; (try dsimp only at hSw); go_simp <;> (with_reducible rfl)
      (try simp only [Act.put, pA, pZ, pS])
      refine wpAnyH_take (i := 3) (oi := ?oa3) (v := ?va3) ?hia3 (by kernel_rfl) (by kernel_rfl) (by kernel_rfl) (fun _ _ _ h => h) ?hya3 (by assumption) ?resta3
      case hia3 => simp only [gA, gS, gZ]; rfl
      case hya3 =>
        refine Or.inl ⟨by rfl, ?_⟩
        intro w hSw; (try dsimp only at hSw); go_simp <;> (with_reducible rfl)
      (try simp only [Act.put, pA, pZ, pS])
      refine wpAnyH_take (i := 4) (oi := ?oa4) (v := ?va4) ?hia4 (by kernel_rfl) (by kernel_rfl) (by kernel_rfl) (fun _ _ _ h => h) ?hya4 (by assumption) ?resta4
      case hia4 => simp only [gA, gS, gZ]; rfl
      case hya4 =>
        refine Or.inl ⟨by rfl, ?_⟩
        intro w hSw; (try dsimp only at hSw); go_simp <;> (with_reducible rfl)
      (try simp only [Act.put, pA, pZ, pS])
      refine wpAnyH_ready (rs := [5]) (by kernel_rfl) (by simp) ?_
      refine AllReadyH.cons rfl (fun K hK => ?_) AllReadyH.nil
      go_simp
      refine (HN _ HD.out.tabs).mono ?_; rintro _ w3 ⟨rfl, hb⟩; have H3 := Lib.hid (HD.out.under hb); have K3 := Lib.hid (KD.out.trans (Kept.of_below hb)); clear hb
      refine hK.out _ _ (cell_blk (K3.out.blk _ _ _ _ HBC.out (by decide) (by decide)) 1) (fun hHelda5 => ?_)
      clear hK K
      (try simp only [Act.put, pA, pZ, pS])
      refine wpAnyH_take (i := 6) (oi := ?oa6) (v := ?va6) ?hia6 (by kernel_rfl) (by kernel_rfl) (by kernel_rfl) (fun _ _ _ h => h) ?hya6 (by assumption) ?resta6
      case hia6 => simp only [gA, gS, gZ]; rfl
      case hya6 =>
        refine Or.inl ⟨by rfl, ?_⟩
        intro w hSw; (try dsimp only at hSw); go_simp <;> (with_reducible rfl)
      (try simp only [Act.put, pA, pZ, pS])
      refine wpAnyH_take (i := 7) (oi := ?oa7) (v := ?va7) ?hia7 (by kernel_rfl) (by kernel_rfl) (by kernel_rfl) (fun _ _ _ h => h) ?hya7 (by assumption) ?resta7
      case hia7 => simp only [gA, gS, gZ]; rfl
      case hya7 =>
        refine Or.inl ⟨by rfl, ?_⟩
        intro w hSw; (try dsimp only at hSw); go_simp <;> (with_reducible rfl)
      (try simp only [Act.put, pA, pZ, pS])
      refine wpAnyH_ready (rs := [8]) (by kernel_rfl) (by simp) ?_
      refine AllReadyH.cons rfl (fun K hK => ?_) AllReadyH.nil
      go_simp
      refine (wstr_any H3.out.bd _ (by have := HS1.out; have := HIN.out; simp only [app_size]; show _ + (2 + _ + 1) ≤ _; omega)).mono ?_; rintro _ w4 hw; obtain ⟨he, hW, hK⟩ := H3.out.wrote hw; subst he; have H4 := Lib.hid hW; have K4 := Lib.hid (K3.out.trans hK); clear hw hW hK
      refine hK.out _ _ (cell_blk (K4.out.blk _ _ _ _ HBC.out (by decide) (by decide)) 1) (fun hHelda8 => ?_)
      clear hK K
      (try simp only [Act.put, pA, pZ, pS])
      refine wpAnyH_done (by kernel_rfl) ?_ _
      refine NoPanic.normal ?_
      go_wp2_with fail
      first | go_end0 | (refine bodyPost_ret (results_none rfl _ _ _) rfl ?_)
      obtain ⟨p4, v4, hW4⟩ := H4.out
      simp only [app_list, str_toList] at hW4
      exact ⟨rfl, ⟨p4, v4, by simpa using hW4⟩, HKC.out.trans K4.out⟩
    · have hxe : x = .ok ⟨S1.t ++ ([105, 58] ++ (Lib.itoa n ++ [59])), S1.o⟩ := HX.out
      subst hxe
      have hE1 : Hid (wc.drew.cell? ⟨w.heap.size, 1, none⟩ = some (.int .i64 n)) := Lib.hid z1
      go_wp2_with fail
      refine wp_region_noPanic ?_
      refine wp_region_held_drew (S := (fun V => V.cell? ⟨w.heap.size, 1, none⟩ = some (.int .i64 n))) (by kernel_rfl) (by exact hE1.out) (fun hHeld => ?_)
      refine wpAnyH_take (i := 0) (oi := ?ob0) (v := ?vb0) ?hib0 (by kernel_rfl) (by kernel_rfl) (by kernel_rfl) (fun _ _ _ h => h) ?hyb0 (by assumption) ?restb0
      case hib0 => simp only [gA, gZ]; rfl
      case hyb0 =>
        refine Or.inl ⟨by rfl, ?_⟩
        intro w hSw; (try dsimp only at hSw); go_simp <;> (with_reducible rfl)
      (try simp only [Act.put, pA, pZ, pS])
      refine wpAnyH_take (i := 1) (oi := ?ob1) (v := ?vb1) ?hib1 (by kernel_rfl) (by kernel_rfl) (by kernel_rfl) (fun _ _ _ h => h) ?hyb1 (by assumption) ?restb1
      case hib1 => simp only [gA, gS, gZ]; rfl
      case hyb1 =>
        refine Or.inl ⟨by rfl, ?_⟩
        intro w hSw; (try dsimp only at hSw); go_simp <;> (with_reducible rfl)
      (try simp only [Act.put, pA, pZ, pS])
      refine wpAnyH_take (i := 2) (oi := ?ob2) (v := ?vb2) ?hib2 (by kernel_rfl) (by kernel_rfl) (by kernel_rfl) (fun _ _ _ h => h) ?hyb2 (by assumption) ?restb2
      case hib2 => simp only [gA, gS, gZ]; rfl
      case hyb2 =>
        refine Or.inl ⟨by rfl, ?_⟩
        intro w hSw; (try dsimp only at hSw); go_simp <;> (with_reducible rfl)
      (try simp only [Act.put, pA, pZ, pS])
      refine wpAnyH_take (i := 3) (oi := ?ob3) (v := ?vb3) ?hib3 (by kernel_rfl) (by kernel_rfl) (by kernel_rfl) (fun _ _ _ h => h) ?hyb3 (by assumption) ?restb3
      case hib3 => simp only [gA, gS, gZ]; rfl
      case hyb3 =>
        refine Or.inl ⟨by rfl, ?_⟩
        intro w hSw; (try dsimp only at hSw); go_simp <;> (with_reducible rfl)
      (try simp only [Act.put, pA, pZ, pS])
      refine wpAnyH_take (i := 4) (oi := ?ob4) (v := ?vb4) ?hib4 (by kernel_rfl) (by kernel_rfl) (by kernel_rfl) (fun _ _ _ h => h) ?hyb4 (by assumption) ?restb4
      case hib4 => simp only [gA, gS, gZ]; rfl
      case hyb4 =>
        refine Or.inl ⟨by rfl, ?_⟩
        intro w hSw; (try dsimp only at hSw); go_simp <;> (with_reducible rfl)
      (try simp only [Act.put, pA, pZ, pS])
      refine wpAnyH_ready (rs := [5]) (by kernel_rfl) (by simp) ?_
      refine AllReadyH.cons rfl (fun K hK => ?_) AllReadyH.nil
      go_simp
      refine (HN _ HD.out.tabs).mono ?_; rintro _ w3 ⟨rfl, hb⟩; have H3 := Lib.hid (HD.out.under hb); have K3 := Lib.hid (KD.out.trans (Kept.of_below hb)); clear hb
      refine hK.out _ _ (cell_blk (K3.out.blk _ _ _ _ HBC.out (by decide) (by decide)) 1) (fun hHeldb5 => ?_)
      clear hK K
      (try simp only [Act.put, pA, pZ, pS])
      refine wpAnyH_take (i := 6) (oi := ?ob6) (v := ?vb6) ?hib6 (by kernel_rfl) (by kernel_rfl) (by kernel_rfl) (fun _ _ _ h => h) ?hyb6 (by assumption) ?restb6
      case hib6 => simp only [gA, gS, gZ]; rfl
      case hyb6 =>
        refine Or.inl ⟨by rfl, ?_⟩
        intro w hSw; (try dsimp only at hSw); go_simp <;> (with_reducible rfl)
      (try simp only [Act.put, pA, pZ, pS])
      refine wpAnyH_take (i := 7) (oi := ?ob7) (v := ?vb7) ?hib7 (by kernel_rfl) (by kernel_rfl) (by kernel_rfl) (fun _ _ _ h => h) ?hyb7 (by assumption) ?restb7
      case hib7 => simp only [gA, gS, gZ]; rfl
      case hyb7 =>
        refine Or.inl ⟨by rfl, ?_⟩
        intro w hSw; (try dsimp only at hSw); go_simp <;> (with_reducible rfl)
      (try simp only [Act.put, pA, pZ, pS])
      refine wpAnyH_ready (rs := [8]) (by kernel_rfl) (by simp) ?_
      refine AllReadyH.cons rfl (fun K hK => ?_) AllReadyH.nil
      go_simp
      refine (wstr_any H3.out.bd _ (by have := HS1.out; have := HIN.out; simp only [app_size]; show _ + (2 + _ + 1) ≤ _; omega)).mono ?_; rintro _ w4 hw; obtain ⟨he, hW, hK⟩ := H3.out.wrote hw; subst he; have H4 := Lib.hid hW; have K4 := Lib.hid (K3.out.trans hK); clear hw hW hK
      refine hK.out _ _ (cell_blk (K4.out.blk _ _ _ _ HBC.out (by decide) (by decide)) 1) (fun hHeldb8 => ?_)
      clear hK K
      (try simp only [Act.put, pA, pZ, pS])
      refine wpAnyH_done (by kernel_rfl) ?_ _
      refine NoPanic.normal ?_
      go_wp2_with fail
      first | go_end0 | (refine bodyPost_ret (results_none rfl _ _ _) rfl ?_)
      obtain ⟨p4, v4, hW4⟩ := H4.out
      simp only [app_list, str_toList] at hW4
      exact ⟨rfl, ⟨p4, v4, by simpa using hW4⟩, HKC.out.trans K4.out⟩
    · have hxe : x = .ok ⟨S1.t ++ textW t, S1.o⟩ := HX.out
      subst hxe
      have HT := wtext_any t HWC.out (by have := HS1.out; omega)
      go_wp2_with fail
      refine HT.mono ?_
      rintro _ w4 ⟨rfl, hW4, hK4⟩
      go_wp2_with fail
      first | go_end0 | (refine bodyPost_ret (results_none rfl _ _ _) rfl ?_)
      exact ⟨rfl, hW4, HKC.out.trans hK4⟩
    · have hxe : x = bracesW sub l ⟨S1.t ++ [97, 58], S1.o⟩ := HX.out
      have HXE := Lib.hid hxe
      have HWR := wstr_any HWC.out.bd ⟨#[97, 58]⟩ (by have := HS1.out; show _ + 2 ≤ _; omega)
      clear hxe
      go_wp2_with fail
      refine HWR.mono ?_
      rintro _ w4 hw
      obtain ⟨he, ⟨p4, v4, hW⟩, hK⟩ := HWC.out.wrote hw
      subst he
      have e : (⟨#[97, 58]⟩ : ByteArray).toList = [97, 58] := str_toList [97, 58]
      rw [e] at hW
      obtain ⟨q0, q1, q2, q3⟩ := vb4 (hK.blk _ _ _ _ HBC.out (by decide) (by decide))
      have HIC := HII.out hW (by have := HS1.out; show (S1.t ++ [97, 58]).length ≤ _; simp; omega) HV.out HLO.out
      rw [← HXE.out] at HIC
      have K4 := Lib.hid (HKC.out.trans hK)
      clear hw hW hK HWR e z0 z1 z2 z3
      go_wp2_with fail
      rcases x with er | S2
      · refine HIC.mono ?_
        rintro _ w5 ⟨rfl, hb5⟩
        go_wp2_with fail
        exact ⟨rfl, rfl, hb5⟩
      · refine HIC.mono ?_
        rintro _ w5 ⟨rfl, hW5, hK5⟩
        go_wp2_with fail
        first | go_end0 | (refine bodyPost_ret (results_none rfl _ _ _) rfl ?_)
        exact ⟨rfl, hW5, K4.out.trans hK5⟩
    · obtain ⟨hn1, hn2⟩ := hk rfl
      obtain ⟨i0, rfl⟩ : ∃ i0 : Nat, n = (i0 : Int) + 1 := ⟨n.toNat - 1, by omega⟩
      have hxe : x = objectW F sub ((i0 : Int) + 1) S1 := HX.out
      unfold objectW at hxe
      have HLK := HD.out.mp.look1 (x := (i0 : Int) + 1) hn
      have hfew := nodup_few F.length S1.o HWC.out.nod HWC.out.few
      obtain ⟨ta, tc, rfl, hFl, hth⟩ := HFT.out
      obtain ⟨d0, d1, d2, d3⟩ := HD.out.cells
      have HZ1 := Lib.hid z1
      clear hk HN HIN hc1 hc2
      rcases hp : placeW S1.o ((i0 : Int) + 1) with _ | i
      · have hi0 : i0 < F.length := by omega
        have hidx : F[(((i0 : Int) + 1) - 1).toNat]? = some F[i0] := by
          rw [show (((i0 : Int) + 1) - 1).toNat = i0 by omega]
          exact List.getElem?_eq_getElem hi0
        rw [hp] at hxe
        simp only [hidx] at hxe
        have HXE := Lib.hid hxe
        obtain ⟨g, off, cx, rfl, hg, hvx, g0, g1⟩ := hth i0 hi0
        obtain ⟨fo1, fo2, -⟩ := HFO.out _ (List.getElem_mem hi0)
        have HFO1 := Lib.hid fo1
        have HFO2 := Lib.hid fo2
        have HVX := Lib.hid hvx
        generalize hth0 : F[i0] = th at hxe HXE g0 HVX HFO1 HFO2
        obtain ⟨cls, props⟩ := th
        obtain ⟨co, cc, rfl, hcl⟩ := HVX.out.form
        simp only at HXE g0 HVX HFO1 HFO2 hcl
        have hlk : (Instr.lookup 108 (.map (some mb)) (.int .i64 ((i0 : Int) + 1)) false).run Tryz.prog wc.drew = .ok (.int .i64 0) wc.drew := by
          have h2 : (begunF S1.o ((i0 : Int) + 1)).getD 0 = 0 := by unfold begunF; rw [hp]; rfl
          have h3 : (Instr.lookup 108 (.map (some mb)) (.int .i64 ((i0 : Int) + 1)) false).run Tryz.prog wc.drew = .ok (.int .i64 ((begunF S1.o ((i0 : Int) + 1)).getD 0)) wc.drew := HLK
          rw [h2] at h3
          exact h3
        have HS17 : Hid (wc.drew.cell? ⟨b, 3, none⟩ = some (.map (some mb)) ∧ wc.drew.cell? ⟨w.heap.size, 1, none⟩ = some (.int .i64 ((i0 : Int) + 1)) ∧ (Instr.lookup 108 (.map (some mb)) (.int .i64 ((i0 : Int) + 1)) false).run Tryz.prog wc.drew = .ok (.int .i64 0) wc.drew) := Lib.hid ⟨d3, HZ1.out, hlk⟩
        have HDD := Lib.hid (HD.out.under (Below.refl _ _).drew)
        have hlen20 : (Builtin.len_ #[108] 3 #[.map (some mb)]).run Tryz.prog wc.drew.drew = .ok (.int .i64 S1.o.length) wc.drew.drew := HDD.out.mp.lenIs 3
        have HS20 : Hid (wc.drew.drew.cell? ⟨b, 3, none⟩ = some (.map (some mb)) ∧ wc.drew.drew.cell? ⟨w.heap.size, 1, none⟩ = some (.int .i64 ((i0 : Int) + 1)) ∧ (Builtin.len_ #[108] 3 #[.map (some mb)]).run Tryz.prog wc.drew.drew = .ok (.int .i64 S1.o.length) wc.drew.drew) := Lib.hid ⟨d3, HZ1.out, hlen20⟩
        obtain ⟨w5, hput0, i5, gr5⟩ := HDD.out.mp.put (x := (i0 : Int) + 1) (a := (S1.o.length : Int) + 1) (by unfold maxLen; omega) hn ⟨by omega, by omega⟩
        have hput : (Instr.mapUpdate 108 (.map (some mb)) (.int .i64 ((i0 : Int) + 1)) (.int .i64 ((S1.o.length : Int) + 1))).run Tryz.prog wc.drew.drew = .ok () w5 := hput0
        obtain ⟨hW5, hK5⟩ := HDD.out.begin hp ⟨hn1, hn2⟩ i5 gr5
        have H5 := Lib.hid hW5
        have K5 := Lib.hid ((KD.out.trans (Kept.of_below (Below.refl wc.drew.heap.size wc.drew).drew)).trans hK5)
        have B5 := Lib.hid (K5.out.blk _ _ _ _ HBC.out (by decide) (by decide))
        obtain ⟨e0, e1, e2, e3⟩ := H5.out.cells
        obtain ⟨y0, y1, y2, y3⟩ := vb4 B5.out
        have len5 : (Builtin.len_ #[108] 3 #[.map (some mb)]).run Tryz.prog w5 = .ok (.int .i64 (S1.o ++ [(i0 : Int) + 1]).length) w5 := H5.out.mp.lenIs 3
        obtain ⟨hwl, hwl2⟩ := wr_sm (x := (S1.o.length : Int) + 1) (by omega) (by omega)
        have G0 : w5.cell? ⟨g, off + i0 * 2, none⟩ = some (.string cls) := (H5.out.below.cell (p := ⟨g, off + i0 * 2, none⟩) hg).trans g0
        have G1 : w5.cell? ⟨g, off + i0 * 2 + 1, none⟩ = some (.slice co props.length cc) := (H5.out.below.cell (p := ⟨g, off + i0 * 2 + 1, none⟩) hg).trans g1
        have HE := Lib.hid (⟨e2, y1, e3⟩ : _ ∧ _ ∧ _)
        clear hW5 hK5 hput0 i5 gr5 hidx hxe HLK e0 e1 y0 y2 y3
        go_wp2_with fail
        clear z0 z1 z2 z3
        refine wp_region_noPanic ?_
        refine wp_region_held_drew (S := (fun V => V.cell? ⟨b, 3, none⟩ = some (.map (some mb)) ∧ V.cell? ⟨w.heap.size, 1, none⟩ = some (.int .i64 ((i0 : Int) + 1)) ∧ (Instr.lookup 108 (.map (some mb)) (.int .i64 ((i0 : Int) + 1)) false).run Tryz.prog V = .ok (.int .i64 0) V)) (by kernel_rfl) (by exact HS17.out) (fun hHeld => ?_)
        refine wpAnyH_take (i := 0) (oi := ?od0) (v := ?vd0) ?hid0 (by kernel_rfl) (by kernel_rfl) (by kernel_rfl) (fun _ _ _ h => h) ?hyd0 (by assumption) ?restd0
        case hid0 => simp only [gA, gZ]; rfl
        case hyd0 =>
          refine Or.inl ⟨by rfl, ?_⟩
          intro w hSw; (try dsimp only at hSw); go_simp <;> (with_reducible rfl)
        (try simp only [Act.put, pA, pZ, pS])
        refine wpAnyH_take (i := 1) (oi := ?od1) (v := ?vd1) ?hid1 (by kernel_rfl) (by kernel_rfl) (by kernel_rfl) (fun _ _ _ h => h) ?hyd1 (by assumption) ?restd1
        case hid1 => simp only [gA, gS, gZ]; rfl
        case hyd1 =>
          refine Or.inl ⟨by rfl, ?_⟩
          intro w hSw; (try dsimp only at hSw); go_simp <;> (with_reducible rfl)
        (try simp only [Act.put, pA, pZ, pS])
        refine wpAnyH_take (i := 2) (oi := ?od2) (v := ?vd2) ?hid2 (by kernel_rfl) (by kernel_rfl) (by kernel_rfl) (fun _ _ _ h => h) ?hyd2 (by assumption) ?restd2
        case hid2 => simp only [gA, gS, gZ]; rfl
        case hyd2 =>
          refine Or.inl ⟨by rfl, ?_⟩
          intro w hSw; (try dsimp only at hSw); go_simp <;> (with_reducible rfl)
        (try simp only [Act.put, pA, pZ, pS])
        refine wpAnyH_take (i := 3) (oi := ?od3) (v := ?vd3) ?hid3 (by kernel_rfl) (by kernel_rfl) (by kernel_rfl) (fun _ _ _ h => h) ?hyd3 (by assumption) ?restd3
        case hid3 => simp only [gA, gS, gZ]; rfl
        case hyd3 =>
          refine Or.inl ⟨by rfl, ?_⟩
          intro w hSw; (try dsimp only at hSw); go_simp <;> (with_reducible rfl)
        (try simp only [Act.put, pA, pZ, pS])
        refine wpAnyH_take (i := 4) (oi := ?od4) (v := ?vd4) ?hid4 (by kernel_rfl) (by kernel_rfl) (by kernel_rfl) (fun _ _ _ h => h) ?hyd4 (by assumption) ?restd4
        case hid4 => simp only [gA, gS, gZ]; rfl
        case hyd4 =>
          refine Or.inl ⟨by rfl, ?_⟩
          intro w hSw; (try dsimp only at hSw); go_simp <;> (with_reducible rfl)
        (try simp only [Act.put, pA, pZ, pS])
        refine wpAnyH_take (i := 5) (oi := ?od5) (v := ?vd5) ?hid5 (by kernel_rfl) (by kernel_rfl) (by kernel_rfl) (fun _ _ _ h => h) ?hyd5 (by assumption) ?restd5
        case hid5 => simp only [gA, gS, gZ]; rfl
        case hyd5 =>
          refine Or.inl ⟨by rfl, ?_⟩
          intro w hSw; (try dsimp only at hSw); go_simp <;> (with_reducible rfl)
        (try simp only [Act.put, pA, pZ, pS])
        refine wpAnyH_take (i := 6) (oi := ?od6) (v := ?vd6) ?hid6 (by kernel_rfl) (by kernel_rfl) (by kernel_rfl) (fun _ _ _ h => h) ?hyd6 (by assumption) ?restd6
        case hid6 => simp only [gA, gS, gZ]; rfl
        case hyd6 =>
          refine Or.inl ⟨by rfl, ?_⟩
          intro w hSw; (try dsimp only at hSw); go_simp <;> (with_reducible rfl)
        (try simp only [Act.put, pA, pZ, pS])
        refine wpAnyH_take (i := 7) (oi := ?od7) (v := ?vd7) ?hid7 (by kernel_rfl) (by kernel_rfl) (by kernel_rfl) (fun _ _ _ h => h) ?hyd7 (by assumption) ?restd7
        case hid7 => simp only [gA, gS, gZ]; rfl
        case hyd7 =>
          refine Or.inl ⟨by rfl, ?_⟩
          intro w hSw; (try dsimp only at hSw); go_simp <;> (with_reducible rfl)
        (try simp only [Act.put, pA, pZ, pS])
        refine wpAnyH_done (by kernel_rfl) ?_ _
        refine NoPanic.normal ?_
        go_wp2_with fail
        refine wp_region_noPanic ?_
        refine wp_region_held_drew (S := (fun V => V.cell? ⟨b, 3, none⟩ = some (.map (some mb)) ∧ V.cell? ⟨w.heap.size, 1, none⟩ = some (.int .i64 ((i0 : Int) + 1)))) (by kernel_rfl) (by exact ⟨HS20.out.1, HS20.out.2.1⟩) (fun hHeld => ?_)
        refine wpAnyH_take (i := 0) (oi := ?of0) (v := ?vf0) ?hif0 (by kernel_rfl) (by kernel_rfl) (by kernel_rfl) (fun _ _ _ h => h) ?hyf0 (by assumption) ?restf0
        case hif0 => simp only [gA, gZ]; rfl
        case hyf0 =>
          refine Or.inl ⟨by rfl, ?_⟩
          intro w hSw; (try dsimp only at hSw); go_simp <;> (with_reducible rfl)
        (try simp only [Act.put, pA, pZ, pS])
        refine wpAnyH_take (i := 1) (oi := ?of1) (v := ?vf1) ?hif1 (by kernel_rfl) (by kernel_rfl) (by kernel_rfl) (fun _ _ _ h => h) ?hyf1 (by assumption) ?restf1
        case hif1 => simp only [gA, gS, gZ]; rfl
        case hyf1 =>
          refine Or.inl ⟨by rfl, ?_⟩
          intro w hSw; (try dsimp only at hSw); go_simp <;> (with_reducible rfl)
        (try simp only [Act.put, pA, pZ, pS])
        refine wpAnyH_take (i := 2) (oi := ?of2) (v := ?vf2) ?hif2 (by kernel_rfl) (by kernel_rfl) (by kernel_rfl) (fun _ _ _ h => h) ?hyf2 (by assumption) ?restf2
        case hif2 => simp only [gA, gS, gZ]; rfl
        case hyf2 =>
          refine Or.inl ⟨by rfl, ?_⟩
          intro w hSw; (try dsimp only at hSw); go_simp <;> (with_reducible rfl)
        (try simp only [Act.put, pA, pZ, pS])
        refine wpAnyH_take (i := 3) (oi := ?of3) (v := ?vf3) ?hif3 (by kernel_rfl) (by kernel_rfl) (by kernel_rfl) (fun _ _ _ h => h) ?hyf3 (by assumption) ?restf3
        case hif3 => simp only [gA, gS, gZ]; rfl
        case hyf3 =>
          refine Or.inl ⟨by rfl, ?_⟩
          intro w hSw; (try dsimp only at hSw); go_simp <;> (with_reducible rfl)
        (try simp only [Act.put, pA, pZ, pS])
        refine wpAnyH_take (i := 4) (oi := ?of4) (v := ?vf4) ?hif4 (by kernel_rfl) (by kernel_rfl) (by kernel_rfl) (fun _ _ _ h => h) ?hyf4 (by assumption) ?restf4
        case hif4 => simp only [gA, gS, gZ]; rfl
        case hyf4 =>
          refine Or.inl ⟨by rfl, ?_⟩
          intro w hSw; (try dsimp only at hSw); go_simp <;> (with_reducible rfl)
        (try simp only [Act.put, pA, pZ, pS])
        refine wpAnyH_take (i := 5) (oi := ?of5) (v := ?vf5) ?hif5 (by kernel_rfl) (by kernel_rfl) (by kernel_rfl) (fun _ _ _ h => h) ?hyf5 (by assumption) ?restf5
        case hif5 => simp only [gA, gS, gZ]; rfl
        case hyf5 =>
          refine Or.inl ⟨by rfl, ?_⟩
          intro w hSw; (try dsimp only at hSw); go_simp <;> (with_reducible rfl)
        (try simp only [Act.put, pA, pZ, pS])
        refine wpAnyH_take (i := 6) (oi := ?of6) (v := ?vf6) ?hif6 (by kernel_rfl) (by kernel_rfl) (by kernel_rfl) (fun _ _ _ h => h) ?hyf6 (by assumption) ?restf6
        case hif6 => simp only [gA, gS, gZ]; rfl
        case hyf6 =>
          refine Or.inl ⟨by rfl, ?_⟩
          intro w hSw; (try dsimp only at hSw); go_simp <;> (with_reducible rfl)
        (try simp only [Act.put, pA, pZ, pS])
        refine wpAnyH_take (i := 7) (oi := ?of7) (v := ?vf7) ?hif7 (by kernel_rfl) (by kernel_rfl) (by kernel_rfl) (fun _ _ _ h => h) ?hyf7 (by assumption) ?restf7
        case hif7 => simp only [gA, gS, gZ]; rfl
        case hyf7 =>
          refine Or.inl ⟨by rfl, ?_⟩
          intro w hSw; (try dsimp only at hSw); go_simp <;> (with_reducible rfl)
        (try simp only [Act.put, pA, pZ, pS])
        refine wpAnyH_take (i := 8) (oi := ?of8) (v := ?vf8) ?hif8 (by kernel_rfl) (by kernel_rfl) (by kernel_rfl) (fun _ _ _ h => h) ?hyf8 (by assumption) ?restf8
        case hif8 => simp only [gA, gS, gZ]; rfl
        case hyf8 =>
          refine Or.inl ⟨by rfl, ?_⟩
          intro w hSw; (try dsimp only at hSw); go_simp <;> (with_reducible rfl)
        (try simp only [Act.put, pA, pZ, pS])
        refine wpAnyH_take (i := 9) (oi := ?of9) (v := ?vf9) ?hif9 (by kernel_rfl) (by kernel_rfl) (by kernel_rfl) (fun _ _ _ h => h) ?hyf9 (by assumption) ?restf9
        case hif9 => simp only [gA, gS, gZ]; rfl
        case hyf9 =>
          refine Or.inl ⟨by rfl, ?_⟩
          intro w hSw; (try dsimp only at hSw); go_simp <;> (with_reducible rfl)
        (try simp only [Act.put, pA, pZ, pS])
        refine wpAnyH_ready (rs := [10]) (by kernel_rfl) (by simp) ?_
        refine AllReadyH.cons rfl (fun K hK => ?_) AllReadyH.nil
        go_simp
        skip
        refine hK.out _ _ ⟨HS20.out.1, HS20.out.2.1⟩ (fun hHeldf10 => ?_)
        clear hK K
        (try simp only [Act.put, pA, pZ, pS])
        refine wpAnyH_take (i := 11) (oi := ?of11) (v := ?vf11) ?hif11 (by kernel_rfl) (by kernel_rfl) (by kernel_rfl) (fun _ _ _ h => h) ?hyf11 (by assumption) ?restf11
        case hif11 => simp only [gA, gS, gZ]; rfl
        case hyf11 =>
          refine Or.inl ⟨by rfl, ?_⟩
          intro w hSw; (try dsimp only at hSw); go_simp <;> (with_reducible rfl)
        (try simp only [Act.put, pA, pZ, pS])
        refine wpAnyH_ready (rs := [12]) (by kernel_rfl) (by simp) ?_
        refine AllReadyH.cons rfl (fun K hK => ?_) AllReadyH.nil
        go_simp
        skip
        refine hK.out _ _ ⟨HE.out.2.2, HE.out.2.1⟩ (fun hHeldf12 => ?_)
        clear hK K
        (try simp only [Act.put, pA, pZ, pS])
        refine wpAnyH_done (by kernel_rfl) ?_ _
        refine NoPanic.normal ?_
        go_wp2_with fail
        have hi1 : (i0 : Int) < (F.length : Int) := by omega
        obtain ⟨hwi, hwi2⟩ := wr_sm (x := (i0 : Int)) (by omega) (by omega)
        have cel : ∀ {W : World}, Below w5.heap.size w5 W → W.cell? ⟨b, 2, none⟩ = some (.slice (some ⟨g, off, none⟩) F.length tc) ∧ W.cell? ⟨w.heap.size, 1, none⟩ = some (.int .i64 ((i0 : Int) + 1)) ∧ W.cell? ⟨g, off + i0 * 2, none⟩ = some (.string cls) ∧ W.cell? ⟨g, off + i0 * 2 + 1, none⟩ = some (.slice co props.length cc) := fun hb =>
          ⟨(hb.cell (lt_of_block H5.out.bd.blk)).trans HE.out.1, (hb.cell (lt_of_block B5.out)).trans HE.out.2.1, (hb.cell (Nat.lt_of_lt_of_le hg H5.out.below.size)).trans G0, (hb.cell (Nat.lt_of_lt_of_le hg H5.out.below.size)).trans G1⟩
        have HS21 := Lib.hid (cel (Below.refl _ w5).drew)
        have HS21a := Lib.hid (cel ((Below.refl w5.heap.size w5).alloc (Nat.le_refl _) (.cells #[.string ⟨#[]⟩, .slice none 0 0] 48)).drew)
        have HB6 : Hid (Below w5.heap.size w5 (w5.alloc (.cells #[.string cls, .slice co props.length cc] 48)).drew) := Lib.hid ((Below.refl w5.heap.size w5).alloc (Nat.le_refl _) (.cells #[.string cls, .slice co props.length cc] 48)).drew
        have HS21b := Lib.hid (cel HB6.out)
        have H6 := Lib.hid (H5.out.under HB6.out)
        have K6 := Lib.hid (K5.out.trans (Kept.of_below HB6.out))
        have B6 : Hid ((w5.alloc (.cells #[.string cls, .slice co props.length cc] 48)).drew.heap[w5.heap.size]? = some (.cells #[.string cls, .slice co props.length cc] 48 (0, 0))) := Lib.hid (heap_alloc_new w5 _)
        clear cel
        refine wp_region_noPanic ?_
        refine wp_region_held_drew (S := (fun V => V.cell? ⟨b, 2, none⟩ = some (.slice (some ⟨g, off, none⟩) F.length tc) ∧ V.cell? ⟨w.heap.size, 1, none⟩ = some (.int .i64 ((i0 : Int) + 1)) ∧ V.cell? ⟨g, off + i0 * 2, none⟩ = some (.string cls) ∧ V.cell? ⟨g, off + i0 * 2 + 1, none⟩ = some (.slice co props.length cc))) (by kernel_rfl) (by exact HS21.out) (fun hHeld => ?_)
        refine wpAnyH_take (i := 0) (oi := ?og0) (v := ?vg0) ?hig0 (by kernel_rfl) (by kernel_rfl) (by kernel_rfl) (fun _ _ _ h => h) ?hyg0 (by assumption) ?restg0
        case hig0 => simp only [gA, gZ]; rfl
        case hyg0 =>
          refine Or.inl ⟨by rfl, ?_⟩
          intro w hSw; (try dsimp only at hSw); go_simp <;> (with_reducible rfl)
        (try simp only [Act.put, pA, pZ, pS])
        refine wpAnyH_take (i := 1) (oi := ?og1) (v := ?vg1) ?hig1 (by kernel_rfl) (by kernel_rfl) (by kernel_rfl) (fun _ _ _ h => h) ?hyg1 (by assumption) ?restg1
        case hig1 => simp only [gA, gS, gZ]; rfl
        case hyg1 =>
          refine Or.inl ⟨by rfl, ?_⟩
          intro w hSw; (try dsimp only at hSw); go_simp <;> (with_reducible rfl)
        (try simp only [Act.put, pA, pZ, pS])
        refine wpAnyH_take (i := 2) (oi := ?og2) (v := ?vg2) ?hig2 (by kernel_rfl) (by kernel_rfl) (by kernel_rfl) (fun _ _ _ h => h) ?hyg2 (by assumption) ?restg2
        case hig2 => simp only [gA, gS, gZ]; rfl
        case hyg2 =>
          refine Or.inl ⟨by rfl, ?_⟩
          intro w hSw; (try dsimp only at hSw); go_simp <;> (with_reducible rfl)
        (try simp only [Act.put, pA, pZ, pS])
        refine wpAnyH_take (i := 3) (oi := ?og3) (v := ?vg3) ?hig3 (by kernel_rfl) (by kernel_rfl) (by kernel_rfl) (fun _ _ _ h => h) ?hyg3 (by assumption) ?restg3
        case hig3 => simp only [gA, gS, gZ]; rfl
        case hyg3 =>
          refine Or.inl ⟨by rfl, ?_⟩
          intro w hSw; (try dsimp only at hSw); go_simp <;> (with_reducible rfl)
        (try simp only [Act.put, pA, pZ, pS])
        refine wpAnyH_take (i := 4) (oi := ?og4) (v := ?vg4) ?hig4 (by kernel_rfl) (by kernel_rfl) (by kernel_rfl) (fun _ _ _ h => h) ?hyg4 (by assumption) ?restg4
        case hig4 => simp only [gA, gS, gZ]; rfl
        case hyg4 =>
          refine Or.inl ⟨by rfl, ?_⟩
          intro w hSw; (try dsimp only at hSw); go_simp <;> (with_reducible rfl)
        (try simp only [Act.put, pA, pZ, pS])
        refine wpAnyH_take (i := 5) (oi := ?og5) (v := ?vg5) ?hig5 (by kernel_rfl) (by kernel_rfl) (by kernel_rfl) (fun _ _ _ h => h) ?hyg5 (by assumption) ?restg5
        case hig5 => simp only [gA, gS, gZ]; rfl
        case hyg5 =>
          refine Or.inl ⟨by rfl, ?_⟩
          intro w hSw; (try dsimp only at hSw); go_simp <;> (with_reducible rfl)
        (try simp only [Act.put, pA, pZ, pS])
        refine wpAnyH_take (i := 6) (oi := ?og6) (v := ?vg6) ?hig6 (by kernel_rfl) (by kernel_rfl) (by kernel_rfl) (fun _ _ _ h => h) ?hyg6 (by assumption) ?restg6
        case hig6 => simp only [gA, gS, gZ]; rfl
        case hyg6 =>
          refine Or.inl ⟨by rfl, ?_⟩
          intro w hSw; (try dsimp only at hSw); go_simp <;> (with_reducible rfl)
        (try simp only [Act.put, pA, pZ, pS])
        refine wpAnyH_take (i := 7) (oi := ?og7) (v := ?vg7) ?hig7 (by kernel_rfl) (by kernel_rfl) (by kernel_rfl) (fun _ _ _ h => h) ?hyg7 (by assumption) ?restg7
        case hig7 => simp only [gA, gS, gZ]; rfl
        case hyg7 =>
          refine Or.inl ⟨by rfl, ?_⟩
          intro w hSw; (try dsimp only at hSw); go_simp <;> (with_reducible rfl)
        (try simp only [Act.put, pA, pZ, pS])
        refine wpAnyH_take (i := 8) (oi := ?og8) (v := ?vg8) ?hig8 (by kernel_rfl) (by kernel_rfl) (by kernel_rfl) (fun _ _ _ h => h) ?hyg8 (by assumption) ?restg8
        case hig8 => simp only [gA, gS, gZ]; rfl
        case hyg8 =>
          refine Or.inl ⟨by rfl, ?_⟩
          intro w hSw; (try dsimp only at hSw); go_simp <;> (with_reducible rfl)
        (try simp only [Act.put, pA, pZ, pS])
        refine wpAnyH_ready (rs := [9]) (by kernel_rfl) (by simp) ?_
        refine AllReadyH.cons rfl (fun K hK => ?_) AllReadyH.nil
        go_simp
        skip
        refine hK.out _ _ HS21a.out (fun hHeldg9 => ?_)
        clear hK K
        (try simp only [Act.put, pA, pZ, pS])
        refine wpAnyH_ready (rs := [10]) (by kernel_rfl) (by simp) ?_
        refine AllReadyH.cons rfl (fun K hK => ?_) AllReadyH.nil
        go_simp
        skip
        refine hK.out _ _ HS21b.out (fun hHeldg10 => ?_)
        clear hK K
        (try simp only [Act.put, pA, pZ, pS])
        refine wpAnyH_done (by kernel_rfl) ?_ _
        refine NoPanic.normal ?_
        clear HS21 HS21a HS21b HB6 G0 G1 HE e2 y1 e3 hput hlk len5 hlen20 HS17 HS20 d0 d1 d2 d3
        generalize (w5.alloc (.cells #[.string cls, .slice co props.length cc] 48)).drew = w6 at H6 K6 B6 ⊢
        have HN : ∀ W, Tabs W → Calls Tryz.prog 109 #[.int .i64 (cls.size : Int)] W (TextPost W (Lib.itoa cls.size)) := fun W ht => num_any _ (by have := HFO1.out; omega) (by have := HFO1.out; omega) W ht
        have HIN : Hid ((str (Lib.itoa (cls.size : Int))).size ≤ 21) := Lib.hid (itoa_short (by have := HFO1.out; omega) (by have := HFO1.out; omega))
        have hc1 : ¬ 9223372036854775807 < 2 + (str (Lib.itoa (cls.size : Int))).size := by have := HIN.out; omega
        have hc2 : ¬ 9223372036854775807 < 2 + (str (Lib.itoa (cls.size : Int))).size + 2 := by have := HIN.out; omega
        have hc3 : ¬ 9223372036854775807 < 2 + (str (Lib.itoa (cls.size : Int))).size + 2 + cls.size := by have := HIN.out; have := HFO1.out; omega
        have hc4 : ¬ 9223372036854775807 < 2 + (str (Lib.itoa (cls.size : Int))).size + 2 + cls.size + 2 := by have := HIN.out; have := HFO1.out; omega
        have HD6 := Lib.hid (H6.out.under (Below.refl _ _).drew)
        have KD6 := Lib.hid (K6.out.trans (Kept.of_below (Below.refl w6.heap.size w6).drew))
        have BD6 : Hid (w6.drew.heap[w5.heap.size]? = some (.cells #[.string cls, .slice co props.length cc] 48 (0, 0))) := Lib.hid B6.out
        go_wp2_with fail
        refine wp_region_noPanic ?_
        refine wp_region_held_drew (S := (fun V => V.cell? ⟨w5.heap.size, 0, none⟩ = some (.string cls))) (by kernel_rfl) (by exact cell_blk BD6.out 0) (fun hHeld => ?_)
        refine wpAnyH_take (i := 0) (oi := ?oh0) (v := ?vh0) ?hih0 (by kernel_rfl) (by kernel_rfl) (by kernel_rfl) (fun _ _ _ h => h) ?hyh0 (by assumption) ?resth0
        case hih0 => simp only [gA, gZ]; rfl
        case hyh0 =>
          refine Or.inl ⟨by rfl, ?_⟩
          intro w hSw; (try dsimp only at hSw); go_simp <;> (with_reducible rfl)
        (try simp only [Act.put, pA, pZ, pS])
        refine wpAnyH_take (i := 1) (oi := ?oh1) (v := ?vh1) ?hih1 (by kernel_rfl) (by kernel_rfl) (by kernel_rfl) (fun _ _ _ h => h) ?hyh1 (by assumption) ?resth1
        case hih1 => simp only [gA, gS, gZ]; rfl
        case hyh1 =>
          refine Or.inl ⟨by rfl, ?_⟩
          intro w hSw; (try dsimp only at hSw); go_simp <;> (with_reducible rfl)
        (try simp only [Act.put, pA, pZ, pS])
        refine wpAnyH_take (i := 2) (oi := ?oh2) (v := ?vh2) ?hih2 (by kernel_rfl) (by kernel_rfl) (by kernel_rfl) (fun _ _ _ h => h) ?hyh2 (by assumption) ?resth2
        case hih2 => simp only [gA, gS, gZ]; rfl
        case hyh2 =>
          refine Or.inl ⟨by rfl, ?_⟩
          intro w hSw; (try dsimp only at hSw); go_simp <;> (with_reducible rfl)
        (try simp only [Act.put, pA, pZ, pS])
        refine wpAnyH_take (i := 3) (oi := ?oh3) (v := ?vh3) ?hih3 (by kernel_rfl) (by kernel_rfl) (by kernel_rfl) (fun _ _ _ h => h) ?hyh3 (by assumption) ?resth3
        case hih3 => simp only [gA, gS, gZ]; rfl
        case hyh3 =>
          refine Or.inl ⟨by rfl, ?_⟩
          intro w hSw; (try dsimp only at hSw); go_simp <;> (with_reducible rfl)
        (try simp only [Act.put, pA, pZ, pS])
        refine wpAnyH_take (i := 4) (oi := ?oh4) (v := ?vh4) ?hih4 (by kernel_rfl) (by kernel_rfl) (by kernel_rfl) (fun _ _ _ h => h) ?hyh4 (by assumption) ?resth4
        case hih4 => simp only [gA, gS, gZ]; rfl
        case hyh4 =>
          refine Or.inl ⟨by rfl, ?_⟩
          intro w hSw; (try dsimp only at hSw); go_simp <;> (with_reducible rfl)
        (try simp only [Act.put, pA, pZ, pS])
        refine wpAnyH_take (i := 5) (oi := ?oh5) (v := ?vh5) ?hih5 (by kernel_rfl) (by kernel_rfl) (by kernel_rfl) (fun _ _ _ h => h) ?hyh5 (by assumption) ?resth5
        case hih5 => simp only [gA, gS, gZ]; rfl
        case hyh5 =>
          refine Or.inl ⟨by rfl, ?_⟩
          intro w hSw; (try dsimp only at hSw); go_simp <;> (with_reducible rfl)
        (try simp only [Act.put, pA, pZ, pS])
        refine wpAnyH_take (i := 9) (oi := ?oh9) (v := ?vh9) ?hih9 (by kernel_rfl) (by kernel_rfl) (by kernel_rfl) (fun _ _ _ h => h) ?hyh9 (by assumption) ?resth9
        case hih9 => simp only [gA, gS, gZ]; rfl
        case hyh9 =>
          refine Or.inl ⟨by rfl, ?_⟩
          intro w hSw; (try dsimp only at hSw); go_simp <;> (with_reducible rfl)
        (try simp only [Act.put, pA, pZ, pS])
        refine wpAnyH_take (i := 10) (oi := ?oh10) (v := ?vh10) ?hih10 (by kernel_rfl) (by kernel_rfl) (by kernel_rfl) (fun _ _ _ h => h) ?hyh10 (by assumption) ?resth10
        case hih10 => simp only [gA, gS, gZ]; rfl
        case hyh10 =>
          refine Or.inl ⟨by rfl, ?_⟩
          intro w hSw; (try dsimp only at hSw); go_simp <;> (with_reducible rfl)
        (try simp only [Act.put, pA, pZ, pS])
        refine wpAnyH_ready (rs := [6]) (by kernel_rfl) (by simp) ?_
        refine AllReadyH.cons rfl (fun K hK => ?_) AllReadyH.nil
        go_simp
        refine (HN _ HD6.out.tabs).mono ?_; rintro _ w3 ⟨rfl, hb⟩; have H3 := Lib.hid (HD6.out.under hb); have K3 := Lib.hid (KD6.out.trans (Kept.of_below hb)); have B3 := Lib.hid ((hb.block _ (lt_of_block BD6.out)).trans BD6.out); clear hb
        refine hK.out _ _ (cell_blk B3.out 0) (fun hHeldh6 => ?_)
        clear hK K
        (try simp only [Act.put, pA, pZ, pS])
        refine wpAnyH_take (i := 7) (oi := ?oh7) (v := ?vh7) ?hih7 (by kernel_rfl) (by kernel_rfl) (by kernel_rfl) (fun _ _ _ h => h) ?hyh7 (by assumption) ?resth7
        case hih7 => simp only [gA, gS, gZ]; rfl
        case hyh7 =>
          refine Or.inl ⟨by rfl, ?_⟩
          intro w hSw; (try dsimp only at hSw); go_simp <;> (with_reducible rfl)
        (try simp only [Act.put, pA, pZ, pS])
        refine wpAnyH_take (i := 8) (oi := ?oh8) (v := ?vh8) ?hih8 (by kernel_rfl) (by kernel_rfl) (by kernel_rfl) (fun _ _ _ h => h) ?hyh8 (by assumption) ?resth8
        case hih8 => simp only [gA, gS, gZ]; rfl
        case hyh8 =>
          refine Or.inl ⟨by rfl, ?_⟩
          intro w hSw; (try dsimp only at hSw); go_simp <;> (with_reducible rfl)
        (try simp only [Act.put, pA, pZ, pS])
        refine wpAnyH_take (i := 11) (oi := ?oh11) (v := ?vh11) ?hih11 (by kernel_rfl) (by kernel_rfl) (by kernel_rfl) (fun _ _ _ h => h) ?hyh11 (by assumption) ?resth11
        case hih11 => simp only [gA, gS, gZ]; rfl
        case hyh11 =>
          refine Or.inl ⟨by rfl, ?_⟩
          intro w hSw; (try dsimp only at hSw); go_simp <;> (with_reducible rfl)
        (try simp only [Act.put, pA, pZ, pS])
        refine wpAnyH_take (i := 12) (oi := ?oh12) (v := ?vh12) ?hih12 (by kernel_rfl) (by kernel_rfl) (by kernel_rfl) (fun _ _ _ h => h) ?hyh12 (by assumption) ?resth12
        case hih12 => simp only [gA, gS, gZ]; rfl
        case hyh12 =>
          refine Or.inl ⟨by rfl, ?_⟩
          intro w hSw; (try dsimp only at hSw); go_simp <;> (with_reducible rfl)
        (try simp only [Act.put, pA, pZ, pS])
        refine wpAnyH_ready (rs := [13]) (by kernel_rfl) (by simp) ?_
        refine AllReadyH.cons rfl (fun K hK => ?_) AllReadyH.nil
        go_simp
        refine (wstr_any H3.out.bd _ (by have := HS1.out; have := HIN.out; have := HFO1.out; simp only [app_size]; show _ + (2 + _ + 2 + _ + 2) ≤ _; omega)).mono ?_; rintro _ w4 hw; obtain ⟨he, hW, hK⟩ := H3.out.wrote hw; subst he; have H4 := Lib.hid hW; have K4 := Lib.hid (K3.out.trans hK); have B4 := Lib.hid (hK.blk _ _ _ _ B3.out (by decide) (by decide)); clear hw hW hK
        refine hK.out _ _ (cell_blk B4.out 0) (fun hHeldh13 => ?_)
        clear hK K
        (try simp only [Act.put, pA, pZ, pS])
        refine wpAnyH_done (by kernel_rfl) ?_ _
        refine NoPanic.normal ?_
        obtain ⟨q0, q1⟩ : w4.cell? ⟨w5.heap.size, 0, none⟩ = some (.string cls) ∧ w4.cell? ⟨w5.heap.size, 1, none⟩ = some (.slice co props.length cc) := ⟨cell_blk B4.out 0, cell_blk B4.out 1⟩
        obtain ⟨p4, v4, hW4⟩ := H4.out
        have hW8 : Wr w0 F.length (.slice (some ⟨g, off, none⟩) F.length tc) b mb w4 p4 v4 ⟨S1.t ++ ([79, 58] ++ (Lib.itoa (cls.size : Int) ++ ([58, 34] ++ (cls.toList ++ [34, 58])))), S1.o ++ [(i0 : Int) + 1]⟩ := by
          simp only [app_list, str_toList] at hW4
          simpa using hW4
        have HIL6 : Hid ((Lib.itoa (cls.size : Int)).length ≤ 21) := Lib.hid (itoa_len (by have := HFO1.out; omega) (by have := HFO1.out; omega))
        have HIC := HII.out hW8 (by have := HS1.out; have := HFO1.out; have := HIL6.out; simp [size_toList]; omega) HVX.out HFO2.out
        rw [← HXE.out] at HIC
        clear hW4 hW8 H4 HD6 HN
        go_wp2_with fail
        rcases x with er | S2
        · refine HIC.mono ?_
          rintro _ w9 ⟨rfl, hb9⟩
          go_wp2_with fail
          exact ⟨rfl, rfl, hb9⟩
        · refine HIC.mono ?_
          rintro _ w9 ⟨rfl, hW9, hK9⟩
          go_wp2_with fail
          first | go_end0 | (refine bodyPost_ret (results_none rfl _ _ _) rfl ?_)
          exact ⟨rfl, hW9, (HKC.out.trans K4.out).trans hK9⟩
      · rw [hp] at hxe
        simp only at hxe
        subst hxe
        have hilt : i < S1.o.length := (List.findIdx?_eq_some_iff_getElem.1 hp).1
        have hlk : (Instr.lookup 108 (.map (some mb)) (.int .i64 ((i0 : Int) + 1)) false).run Tryz.prog wc.drew = .ok (.int .i64 ((i : Int) + 1)) wc.drew := by
          have h2 : (begunF S1.o ((i0 : Int) + 1)).getD 0 = (i : Int) + 1 := by unfold begunF; rw [hp]; rfl
          have h3 : (Instr.lookup 108 (.map (some mb)) (.int .i64 ((i0 : Int) + 1)) false).run Tryz.prog wc.drew = .ok (.int .i64 ((begunF S1.o ((i0 : Int) + 1)).getD 0)) wc.drew := HLK
          rw [h2] at h3
          exact h3
        have HN : ∀ W, Tabs W → Calls Tryz.prog 109 #[.int .i64 ((i : Int) + 1)] W (TextPost W (Lib.itoa ((i : Int) + 1))) := fun W ht => num_any _ (by omega) (by omega) W ht
        have HIN : Hid ((str (Lib.itoa ((i : Int) + 1))).size ≤ 21) := Lib.hid (itoa_short (by omega) (by omega))
        have hc1 : ¬ 9223372036854775807 < 2 + (str (Lib.itoa ((i : Int) + 1))).size := by have := HIN.out; omega
        have hc2 : ¬ 9223372036854775807 < 2 + (str (Lib.itoa ((i : Int) + 1))).size + 1 := by have := HIN.out; omega
        have hpos : (0 : Int) < (i : Int) + 1 := by omega
        have HS17 : Hid (wc.drew.cell? ⟨b, 3, none⟩ = some (.map (some mb)) ∧ wc.drew.cell? ⟨w.heap.size, 1, none⟩ = some (.int .i64 ((i0 : Int) + 1)) ∧ (Instr.lookup 108 (.map (some mb)) (.int .i64 ((i0 : Int) + 1)) false).run Tryz.prog wc.drew = .ok (.int .i64 ((i : Int) + 1)) wc.drew) := Lib.hid ⟨d3, HZ1.out, hlk⟩
        clear HLK hp
        go_wp2_with fail
        clear z0 z1 z2 z3
        refine wp_region_noPanic ?_
        refine wp_region_held_drew (S := (fun V => V.cell? ⟨b, 3, none⟩ = some (.map (some mb)) ∧ V.cell? ⟨w.heap.size, 1, none⟩ = some (.int .i64 ((i0 : Int) + 1)) ∧ (Instr.lookup 108 (.map (some mb)) (.int .i64 ((i0 : Int) + 1)) false).run Tryz.prog V = .ok (.int .i64 ((i : Int) + 1)) V)) (by kernel_rfl) (by exact HS17.out) (fun hHeld => ?_)
        refine wpAnyH_take (i := 0) (oi := ?oc0) (v := ?vc0) ?hic0 (by kernel_rfl) (by kernel_rfl) (by kernel_rfl) (fun _ _ _ h => h) ?hyc0 (by assumption) ?restc0
        case hic0 => simp only [gA, gZ]; rfl
        case hyc0 =>
          refine Or.inl ⟨by rfl, ?_⟩
          intro w hSw; (try dsimp only at hSw); go_simp <;> (with_reducible rfl)
        (try simp only [Act.put, pA, pZ, pS])
        refine wpAnyH_take (i := 1) (oi := ?oc1) (v := ?vc1) ?hic1 (by kernel_rfl) (by kernel_rfl) (by kernel_rfl) (fun _ _ _ h => h) ?hyc1 (by assumption) ?restc1
        case hic1 => simp only [gA, gS, gZ]; rfl
        case hyc1 =>
          refine Or.inl ⟨by rfl, ?_⟩
          intro w hSw; (try dsimp only at hSw); go_simp <;> (with_reducible rfl)
        (try simp only [Act.put, pA, pZ, pS])
        refine wpAnyH_take (i := 2) (oi := ?oc2) (v := ?vc2) ?hic2 (by kernel_rfl) (by kernel_rfl) (by kernel_rfl) (fun _ _ _ h => h) ?hyc2 (by assumption) ?restc2
        case hic2 => simp only [gA, gS, gZ]; rfl
        case hyc2 =>
          refine Or.inl ⟨by rfl, ?_⟩
          intro w hSw; (try dsimp only at hSw); go_simp <;> (with_reducible rfl)
        (try simp only [Act.put, pA, pZ, pS])
        refine wpAnyH_take (i := 3) (oi := ?oc3) (v := ?vc3) ?hic3 (by kernel_rfl) (by kernel_rfl) (by kernel_rfl) (fun _ _ _ h => h) ?hyc3 (by assumption) ?restc3
        case hic3 => simp only [gA, gS, gZ]; rfl
        case hyc3 =>
          refine Or.inl ⟨by rfl, ?_⟩
          intro w hSw; (try dsimp only at hSw); go_simp <;> (with_reducible rfl)
        (try simp only [Act.put, pA, pZ, pS])
        refine wpAnyH_take (i := 4) (oi := ?oc4) (v := ?vc4) ?hic4 (by kernel_rfl) (by kernel_rfl) (by kernel_rfl) (fun _ _ _ h => h) ?hyc4 (by assumption) ?restc4
        case hic4 => simp only [gA, gS, gZ]; rfl
        case hyc4 =>
          refine Or.inl ⟨by rfl, ?_⟩
          intro w hSw; (try dsimp only at hSw); go_simp <;> (with_reducible rfl)
        (try simp only [Act.put, pA, pZ, pS])
        refine wpAnyH_take (i := 5) (oi := ?oc5) (v := ?vc5) ?hic5 (by kernel_rfl) (by kernel_rfl) (by kernel_rfl) (fun _ _ _ h => h) ?hyc5 (by assumption) ?restc5
        case hic5 => simp only [gA, gS, gZ]; rfl
        case hyc5 =>
          refine Or.inl ⟨by rfl, ?_⟩
          intro w hSw; (try dsimp only at hSw); go_simp <;> (with_reducible rfl)
        (try simp only [Act.put, pA, pZ, pS])
        refine wpAnyH_take (i := 6) (oi := ?oc6) (v := ?vc6) ?hic6 (by kernel_rfl) (by kernel_rfl) (by kernel_rfl) (fun _ _ _ h => h) ?hyc6 (by assumption) ?restc6
        case hic6 => simp only [gA, gS, gZ]; rfl
        case hyc6 =>
          refine Or.inl ⟨by rfl, ?_⟩
          intro w hSw; (try dsimp only at hSw); go_simp <;> (with_reducible rfl)
        (try simp only [Act.put, pA, pZ, pS])
        refine wpAnyH_take (i := 7) (oi := ?oc7) (v := ?vc7) ?hic7 (by kernel_rfl) (by kernel_rfl) (by kernel_rfl) (fun _ _ _ h => h) ?hyc7 (by assumption) ?restc7
        case hic7 => simp only [gA, gS, gZ]; rfl
        case hyc7 =>
          refine Or.inl ⟨by rfl, ?_⟩
          intro w hSw; (try dsimp only at hSw); go_simp <;> (with_reducible rfl)
        (try simp only [Act.put, pA, pZ, pS])
        refine wpAnyH_done (by kernel_rfl) ?_ _
        refine NoPanic.normal ?_
        go_wp2_with fail
        have HDD := Lib.hid (HD.out.under (Below.refl _ _).drew)
        have KDD := Lib.hid (KD.out.trans (Kept.of_below (Below.refl wc.drew.heap.size wc.drew).drew))
        clear HD KD
        have HD := HDD
        have KD := KDD
        refine wp_region_noPanic ?_
        refine wp_region_held_drew (S := (fun V => 0 ≤ V.heap.size)) (by kernel_rfl) (by exact Nat.zero_le _) (fun hHeld => ?_)
        refine wpAnyH_take (i := 0) (oi := ?oe0) (v := ?ve0) ?hie0 (by kernel_rfl) (by kernel_rfl) (by kernel_rfl) (fun _ _ _ h => h) ?hye0 (by assumption) ?reste0
        case hie0 => simp only [gA, gZ]; rfl
        case hye0 =>
          refine Or.inl ⟨by rfl, ?_⟩
          intro w hSw; (try dsimp only at hSw); go_simp <;> (with_reducible rfl)
        (try simp only [Act.put, pA, pZ, pS])
        refine wpAnyH_take (i := 1) (oi := ?oe1) (v := ?ve1) ?hie1 (by kernel_rfl) (by kernel_rfl) (by kernel_rfl) (fun _ _ _ h => h) ?hye1 (by assumption) ?reste1
        case hie1 => simp only [gA, gS, gZ]; rfl
        case hye1 =>
          refine Or.inl ⟨by rfl, ?_⟩
          intro w hSw; (try dsimp only at hSw); go_simp <;> (with_reducible rfl)
        (try simp only [Act.put, pA, pZ, pS])
        refine wpAnyH_take (i := 2) (oi := ?oe2) (v := ?ve2) ?hie2 (by kernel_rfl) (by kernel_rfl) (by kernel_rfl) (fun _ _ _ h => h) ?hye2 (by assumption) ?reste2
        case hie2 => simp only [gA, gS, gZ]; rfl
        case hye2 =>
          refine Or.inl ⟨by rfl, ?_⟩
          intro w hSw; (try dsimp only at hSw); go_simp <;> (with_reducible rfl)
        (try simp only [Act.put, pA, pZ, pS])
        refine wpAnyH_take (i := 3) (oi := ?oe3) (v := ?ve3) ?hie3 (by kernel_rfl) (by kernel_rfl) (by kernel_rfl) (fun _ _ _ h => h) ?hye3 (by assumption) ?reste3
        case hie3 => simp only [gA, gS, gZ]; rfl
        case hye3 =>
          refine Or.inl ⟨by rfl, ?_⟩
          intro w hSw; (try dsimp only at hSw); go_simp <;> (with_reducible rfl)
        (try simp only [Act.put, pA, pZ, pS])
        refine wpAnyH_ready (rs := [4]) (by kernel_rfl) (by simp) ?_
        refine AllReadyH.cons rfl (fun K hK => ?_) AllReadyH.nil
        go_simp
        refine (HN _ HD.out.tabs).mono ?_; rintro _ w3 ⟨rfl, hb⟩; have H3 := Lib.hid (HD.out.under hb); have K3 := Lib.hid (KD.out.trans (Kept.of_below hb)); clear hb
        refine hK.out _ _ (Nat.zero_le _) (fun hHelde4 => ?_)
        clear hK K
        (try simp only [Act.put, pA, pZ, pS])
        refine wpAnyH_take (i := 5) (oi := ?oe5) (v := ?ve5) ?hie5 (by kernel_rfl) (by kernel_rfl) (by kernel_rfl) (fun _ _ _ h => h) ?hye5 (by assumption) ?reste5
        case hie5 => simp only [gA, gS, gZ]; rfl
        case hye5 =>
          refine Or.inl ⟨by rfl, ?_⟩
          intro w hSw; (try dsimp only at hSw); go_simp <;> (with_reducible rfl)
        (try simp only [Act.put, pA, pZ, pS])
        refine wpAnyH_take (i := 6) (oi := ?oe6) (v := ?ve6) ?hie6 (by kernel_rfl) (by kernel_rfl) (by kernel_rfl) (fun _ _ _ h => h) ?hye6 (by assumption) ?reste6
        case hie6 => simp only [gA, gS, gZ]; rfl
        case hye6 =>
          refine Or.inl ⟨by rfl, ?_⟩
          intro w hSw; (try dsimp only at hSw); go_simp <;> (with_reducible rfl)
        (try simp only [Act.put, pA, pZ, pS])
        refine wpAnyH_ready (rs := [7]) (by kernel_rfl) (by simp) ?_
        refine AllReadyH.cons rfl (fun K hK => ?_) AllReadyH.nil
        go_simp
        refine (wstr_any H3.out.bd _ (by have := HS1.out; have := HIN.out; simp only [app_size]; show _ + (2 + _ + 1) ≤ _; omega)).mono ?_; rintro _ w4 hw; obtain ⟨he, hW, hK⟩ := H3.out.wrote hw; subst he; have H4 := Lib.hid hW; have K4 := Lib.hid (K3.out.trans hK); clear hw hW hK
        refine hK.out _ _ (Nat.zero_le _) (fun hHelde7 => ?_)
        clear hK K
        (try simp only [Act.put, pA, pZ, pS])
        refine wpAnyH_done (by kernel_rfl) ?_ _
        refine NoPanic.normal ?_
        go_wp2_with fail
        first | go_end0 | (refine bodyPost_ret (results_none rfl _ _ _) rfl ?_)
        obtain ⟨p4, v4, hW4⟩ := H4.out
        simp only [app_list, str_toList] at hW4
        exact ⟨rfl, ⟨p4, v4, by simpa using hW4⟩, HKC.out.trans K4.out⟩
end Go.Proofs.YtnaefnojmiolbaaGreatDoor

namespace Go.Proofs.YtnaefnojmiolbaaGreatDoor
open Go.RowKit Go.Shelf

attribute [local go_sem] yld_undef
theorem objectW_len {N L : Nat} (hN : N ≤ 140737488355328) {F : List TP} (hF : FOkW N F) {sub : Option PutF} (HP : ∀ put, sub = some put → ∀ x S S', WOk N x → OOk N S → put x S = .ok S' → S'.t.length ≤ L ∧ OOk N S') (hL : 1073873100 ≤ L) {n : Int} (hn : 1 ≤ n ∧ n ≤ (N : Int)) {S S' : WS} (hO : OOk N S) (hS : S.t.length ≤ 131072) (h : objectW F sub n S = .ok S') : S'.t.length ≤ L + 1 ∧ OOk N S' := by
  have ho := nodup_few N S.o hO.1 hO.2
  unfold objectW at h
  split at h
  · rename_i i hp
    have hi : i < S.o.length := (List.findIdx?_eq_some_iff_getElem.1 hp).1
    cases h
    have := itoa_len (n := ((i : Int) + 1)) (by omega) (by omega)
    simp only [List.length_append, List.length_cons, List.length_nil]
    exact ⟨by omega, hO⟩
  · rename_i hp
    split at h
    · cases h
    · rename_i th hth
      obtain ⟨i, e⟩ := List.getElem?_eq_some_iff.1 hth
      obtain ⟨f1, f2, f3⟩ := hF th (by rw [← e]; exact List.getElem_mem _)
      have := itoa_len (n := (th.1.size : Int)) (by omega) (by omega)
      refine bracesW_len HP f2 f3 ?_ ⟨?_, fun x hx => ?_⟩ h
      · simp only [List.length_append, List.length_cons, List.length_nil, size_toList]
        omega
      · show (S.o ++ [n]).Nodup
        rw [List.nodup_append]
        exact ⟨hO.1, by simp, fun a ha b hb e => place_mem hp (by rw [List.mem_singleton] at hb; rw [← hb, ← e]; exact ha)⟩
      · rcases List.mem_append.1 hx with hx | hx
        · exact hO.2 x hx
        · rw [List.mem_singleton.1 hx]; exact hn
/-- A value's writing leaves no longer text. -/
theorem graphW_len {N L : Nat} (hN : N ≤ 140737488355328) {F : List TP} (hF : FOkW N F) {sub : Option PutF} (HP : ∀ put, sub = some put → ∀ x S S', WOk N x → OOk N S → put x S = .ok S' → S'.t.length ≤ L ∧ OOk N S') (hL : 1073873100 ≤ L) {y : VT} {S S' : WS} (hy : WOk N y) (hO : OOk N S) (h : graphW F sub y S = .ok S') : S'.t.length ≤ L + 1 ∧ OOk N S' := by
  unfold graphW at h
  cases hy with
  | mk k n t l hk hn hkk ht hx hs hlx =>
  have hc := cutW_len S.t
  have e1 := itoa_len (n := n) hn.1 hn.2
  have e2 := itoa_len (n := (t.size : Int)) (by omega) (by omega)
  have hk5 : k = 0 ∨ k = 1 ∨ k = 2 ∨ k = 3 ∨ k = 4 ∨ k = 5 := by omega
  rcases hk5 with rfl | rfl | rfl | rfl | rfl | rfl
  · rw [valueW_0] at h
    cases h
    exact ⟨by simp only [List.length_append, List.length_cons, List.length_nil]; omega, hO⟩
  · rw [valueW_1] at h
    cases h
    exact ⟨by simp only [List.length_append, List.length_cons, List.length_nil]; omega, hO⟩
  · rw [valueW_2] at h
    cases h
    exact ⟨by simp only [List.length_append, List.length_cons, List.length_nil]; omega, hO⟩
  · rw [valueW_3] at h
    cases h
    exact ⟨by simp only [textW, List.length_append, List.length_cons, List.length_nil, size_toList]; omega, hO⟩
  · rw [valueW_4] at h
    refine bracesW_len (S := ⟨cutW S.t ++ [97, 58], S.o⟩) HP (fun x hm => ⟨hx x hm, hs x hm⟩) hlx ?_ hO h
    simp only [List.length_append, List.length_cons, List.length_nil]; omega
  · rw [valueW_5] at h
    exact objectW_len hN hF HP hL (hk rfl) (S := ⟨cutW S.t, S.o⟩) hO hc h
theorem gvalW_len {N : Nat} (hN : N ≤ 140737488355328) {F : List TP} (hF : FOkW N F) : ∀ (k : Nat) (x : VT) (S S' : WS), WOk N x → OOk N S → gvalW F k x S = .ok S' → S'.t.length ≤ 1073873101 + k ∧ OOk N S'
  | 0, _, _, _, hx, hO, h => graphW_len hN hF (fun _ e => by cases e) (Nat.le_refl _) hx hO h
  | k + 1, _, _, _, hx, hO, h => by
    have := graphW_len hN hF (sub := some (gvalW F k)) (L := 1073873101 + k) (fun put e => by cases e; exact gvalW_len hN hF k) (by omega) hx hO h
    exact ⟨by omega, this.2⟩
set_option maxRecDepth 100000 in
/-- Items within the deepest braces. -/
theorem witems_deep {w0 : World} {N : Nat} {tv : Value} {b mb : Nat} {w : World} {p v : Value} {S : WS} {l : List It} {c : Value} (h : Wr w0 N tv b mb w p v S) (hv : VIn w0 c l) :
    Calls Tryz.prog 111 #[.pointer (some ⟨b, 0, none⟩), c, .int .i64 64] w (WrPost w0 N tv b mb w (bracesW none l S)) := by
  obtain ⟨ao, cap, rfl, hlen⟩ := hv.form
  have hb := h.below
  clear h hv
  go_enter Tryz.func111, Tryz.ntmps111
  go_wp2_with fail
  exact ⟨rfl, rfl, hb⟩
/-- A value with so many braces left. -/
theorem wgraph_any (F : List TP) {w0 : World} {tv : Value} {b mb : Nat} (hF : ThAt w0 tv F) (hFo : FOkW F.length F) : ∀ (k : Nat), k ≤ 64 → ∀ {w : World} {p v : Value} {S : WS} {y : VT} {c : Value}, Wr w0 F.length tv b mb w p v S → S.t.length ≤ 8589934592 → VIn w0 c y.xs → WOk F.length y →
    Calls Tryz.prog 82 #[.pointer (some ⟨b, 0, none⟩), y.v c, .int .i64 (64 - (k : Int))] w (WrPost w0 F.length tv b mb w (gvalW F k y S))
  | 0, _, _, _, _, _, _, _, h, hl, hv, ho => wval_any F none 64 hF hFo (fun h _ hv _ => witems_deep h hv) h hl hv ho
  | k + 1, hk, _, _, _, _, _, _, h, hl, hv, ho => by
    have hN : F.length ≤ 140737488355328 := by obtain ⟨_, _, _, h1, _⟩ := hF; exact h1
    refine wval_any F (some (gvalW F k)) (64 - ((k + 1 : Nat) : Int)) hF hFo (fun h hl hv ho => ?_) h hl hv ho
    refine witems_any (gvalW F k) (64 - ((k + 1 : Nat) : Int)) (by omega) (by omega) (fun h hl hv ho => ?_) (fun x S S' hx hO h => ?_) h hl hv ho
    · rw [show (64 - ((k + 1 : Nat) : Int)) + 1 = 64 - (k : Int) by omega]
      exact wgraph_any F hF hFo k (by omega) h hl hv ho
    · have := (gvalW_len hN hFo k x S S' hx hO h).1
      omega
end Go.Proofs.YtnaefnojmiolbaaGreatDoor
