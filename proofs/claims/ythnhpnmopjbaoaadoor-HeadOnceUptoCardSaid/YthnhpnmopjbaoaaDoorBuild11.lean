/-
  A builder in memory; the walks of copyCheck, WriteByte, WriteRune at ASCII, String.
-/
import Derived.Test.YthnhpnmopjbaoaaDoorClone11
import Derived.Test.YthnhpnmopjbaoaaDoorShelfB
import Derived.Lib.Builder
import Derived.Laws.Externs
namespace Go.Proofs.YthnhpnmopjbaoaaDoor
open Go.RowKit Go.Shelf

/-- A builder in memory. -/
structure BuildIs (w : World) (b : Nat) (p v : Value) (l : Bs) : Prop where
  blk : w.heap[b]? = some (.cells #[p, v] 112 (0, 0))
  own : OwnsB w 5 v l
  ne : v.ownBlock ≠ some b
  pp : p = .pointer none ∨ p = .pointer (some ⟨b, 0, none⟩)
theorem info112 : ∃ j, Tryd.prog.info? 112 = some j ∧ j.size = 2 := Option.map_eq_some_iff.1 (show (Tryd.prog.info? 112).map (·.size) = some 2 by kernel_rfl)
section
variable {w w' : World} {b : Nat} {p v : Value} {l : Bs}
theorem BuildIs.mod {Z : Nat → Prop} (i : BuildIs w b p v l) (m : Mod Z w w') (h1 : ¬ Z b) (h2 : ∀ g, v.ownBlock = some g → ¬ Z g) : BuildIs w' b p v l :=
  ⟨m.blk i.blk h1, Owns.mod i.own m h2, i.ne, i.pp⟩
theorem BuildIs.below (i : BuildIs w b p v l) (hb : Below w.heap.size w w') : BuildIs w' b p v l :=
  i.mod (Mod.of_below (F := fun _ => False) hb) (fun x => x) (fun _ _ x => x)
set_option maxRecDepth 100000 in
theorem check_any (i : BuildIs w b p v l) : Calls Tryd.prog 87 #[.pointer (some ⟨b, 0, none⟩)] w fun e w' => e = .returned (.tuple #[]) ∧ BuildIs w' b (.pointer (some ⟨b, 0, none⟩)) v l ∧ Mod (fun k => k = b) w w' := by
  obtain ⟨j, hj, hjs⟩ := info112
  have c0 := cell_blk i.blk 0
  have f0 := free_blk i.blk 0
  have I := Lib.hid i
  rcases i.pp with rfl | rfl
  · have hsh : w.shape? b = some (112, 2) := by simp [World.shape?, i.blk]
    clear i
    go_enter Tryd.func87, Tryd.ntmps87
    go_wp2
    rw [Lib.run_to_unsafe w ⟨b, 0, none⟩ Tryd.underlying110 Tryd.underlying139 hj (by rw [hjs]; decide) hsh (Nat.zero_lt_succ 1)]
    simp only [Result.andThen]
    rw [Oper.upon_value]
    go_wp2
    rw [run_callFunc_extern Tryd.func103 (by kernel_rfl) (by kernel_rfl) (by kernel_rfl) (e := Extern.AbiNoEscape.same) (by kernel_rfl)]
    rw [Lib.run_noEscape]
    simp only [Result.andThen]
    rw [Oper.upon_value]
    go_wp2
    rw [Lib.run_from_unsafe w ⟨b, 0, none⟩ Tryd.underlying139 Tryd.underlying110 hj hsh Tryd.Builder_Extra_169.liesBuilder]
    simp only [Result.andThen]
    rw [Oper.upon_value]
    go_wp2
    go_end0
    have m : Mod (fun k => k = b) w (w.setCell ⟨b, 0, none⟩ (.pointer (some ⟨b, 0, none⟩))) := (Mod.refl _ _).setCell _ _ (fun _ => rfl)
    refine ⟨rfl, ⟨?_, Owns.mod I.out.own m (fun g e x => I.out.ne (by rw [e, x])), I.out.ne, .inr rfl⟩, m⟩
    have := set_blk I.out.blk 0 (.pointer (some ⟨b, 0, none⟩))
    simpa using this
  · clear i
    go_enter Tryd.func87, Tryd.ntmps87
    go_wp2
    rw [Lib.run_neq_ptr_same w _ Tryd.underlying110 hj]
    go_wp2
    go_end0
    exact ⟨rfl, I.out, Mod.refl _ _⟩
/-- What a call that writes leaves. -/
def WritePost (w : World) (b : Nat) (v : Value) (l : Bs) (r : Value) (e : Ending) (w' : World) : Prop :=
  e = .returned r ∧ ∃ v', BuildIs w' b (.pointer (some ⟨b, 0, none⟩)) v' l ∧ Mod (fun k => k = b ∨ v.ownBlock = some k) w w' ∧ (v'.ownBlock = v.ownBlock ∨ ∃ g, v'.ownBlock = some g ∧ w.heap.size ≤ g)
set_option maxHeartbeats 1600000 in
set_option maxRecDepth 100000 in
theorem wbyte_any (i : BuildIs w b p v l) (c : UInt8) (hl : l.length ≤ 140737488351232) : Calls Tryd.prog 77 #[.pointer (some ⟨b, 0, none⟩), .int .u8 c.toNat] w (WritePost w b v (l ++ [c]) .nilIface) := by
  have HC := check_any i
  have hbl := Lib.hid (lt_of_block i.blk)
  clear i
  go_enter Tryd.func77, Tryd.ntmps77
  go_wp2_with fail
  refine HC.mono ?_
  rintro e w1 ⟨rfl, i1, m1⟩
  have I1 := Lib.hid i1
  have M1 := Lib.hid m1
  have I2 := Lib.hid (i1.below (below_alloc1 w1 (.cells #[.int .u8 c.toNat] 5)))
  obtain ⟨ao, cap, rfl, hlc, hcm, hno, -⟩ := OwnsB.any i1.own
  have x1 := cell_blk I1.out.blk 1
  have hO : Hid (Owns (w1.alloc (.cells #[.int .u8 c.toNat] 5)) 5 1 (.slice ao l.length cap) (bRows l)) := I2.out.own
  have hL := Lib.hid (lies_new w1 [.int .u8 c.toNat] 5 rfl)
  have hr1 : Hid ((bRows l).length + ([[Value.int .u8 c.toNat]] : List (List Value)).length ≤ maxLen) := by show _ ≤ _; unfold maxLen; rw [bRows_len]; simp; omega
  have hr2 : Hid (((bRows l).length + ([[Value.int .u8 c.toNat]] : List (List Value)).length) * 1 ≤ 140737488355328) := by show _ ≤ _; rw [bRows_len]; simp; omega
  clear i1 m1 HC hlc hcm hno
  go_wp2_with (at_builtin; refine wpList_append_rows rfl (.tmp 11) (.tmp 13) 95 rfl 5 _ 1 1 Tryd.underlying95 info5 rfl (by decide) (.slice ao l.length cap) (bRows l) (by rfl) hO.out (some ⟨w1.heap.size, 0, none⟩) 1 1 [[.int .u8 c.toNat]] (by rfl) rfl (fun e => by cases e) hL.out (by simp [Value.oneCell']) (by simp) hr1.out (by have h := hr2.out; omega) ?_; intro v3 w3 o3 g3 n3; obtain ⟨a7, c7, hv7, -⟩ := o3.any; generalize (List.length _) = L7 at hv7; subst hv7; have O3 := Lib.hid o3; have G3 := Lib.hid (⟨g3, n3⟩ : _ ∧ _); have q1 := cell_blk ((g3.block b (lt_of_block I2.out.blk) (fun e => I2.out.ne e.symm)).trans I2.out.blk) 1; have f1 := free_blk ((g3.block b (lt_of_block I2.out.blk) (fun e => I2.out.ne e.symm)).trans I2.out.blk) 1; clear o3 g3 n3)
  go_ret
  have hs1 := M1.out.size
  have hb := hbl.out
  have mA : Mod (fun k => k = b) w (w1.alloc (.cells #[.int .u8 c.toNat] 5)) := M1.out.alloc _
  have mB : Mod (fun k => k = b ∨ (Value.slice ao l.length cap).ownBlock = some k) w w3 := (mA.mono (fun _ _ e => .inl e)).grown G3.out.1 (fun k e _ => .inr e)
  have b3 : w3.heap[b]? = some (.cells #[.pointer (some ⟨b, 0, none⟩), .slice ao l.length cap] 112 (0, 0)) := (G3.out.1.block b (lt_of_block I2.out.blk) (fun e => I2.out.ne e.symm)).trans I2.out.blk
  have hne : (Value.slice a7 L7 c7).ownBlock ≠ some b := fun e => by
    rcases G3.out.2 with h | ⟨g, h, hg⟩
    · exact I2.out.ne (h ▸ e)
    · rw [h] at e; cases e; simp at hg; omega
  refine ⟨rfl, .slice a7 L7 c7, ⟨?_, ?_, hne, .inr rfl⟩, mB.setCell _ _ (fun _ => .inl rfl), ?_⟩
  · have := set_blk b3 1 (.slice a7 L7 c7)
    simpa using this
  · have o : OwnsB w3 5 (.slice a7 L7 c7) (l ++ [c]) := by unfold OwnsB; rw [bRows_append]; exact O3.out
    have m : Mod (fun k => k = b) w3 (w3.setCell ⟨b, 1, none⟩ (.slice a7 L7 c7)) := (Mod.refl _ _).setCell _ _ (fun _ => rfl)
    exact Owns.mod o m (fun g e x => hne (by rw [e, x]))
  · rcases G3.out.2 with h | ⟨g, h, hg⟩
    · exact .inl h
    · exact .inr ⟨g, h, by simp at hg; omega⟩
theorem own_from {B : Nat} (i : BuildIs w b p v l) (hv : ∀ g, v.ownBlock = some g → B ≤ g) : w.ownsRow B 5 1 v (Lib.byteCells l).length (Lib.byteCells l) := by
  have h := i.own.row
  have e1 : (bRows l).flatten = Lib.byteCells l := bRows_flat l
  have e2 : (bRows l).length = (Lib.byteCells l).length := by rw [bRows_len]; simp [Lib.byteCells]
  rw [e1, e2] at h
  refine ⟨h.1, ?_⟩
  rcases h.2 with hn | ⟨g, cap, cur, rfl, hb, hgg, rest⟩
  · exact .inl hn
  · exact .inr ⟨g, cap, cur, rfl, hv g rfl, hgg, rest⟩
theorem bstring_any {B : Nat} (i : BuildIs w b p v l) (hB : B ≤ b) (hv : ∀ g, v.ownBlock = some g → B ≤ g) : Calls Tryd.prog 75 #[.pointer (some ⟨b, 0, none⟩)] w fun e w' => e = .returned (.string (str l)) ∧ Below B w w' := by
  have hbf : Lib.BuilderAtF 112 5 B b p (Lib.byteCells l) w := Lib.BuilderAtF.of ⟨hB, v, i.blk, own_from i hv, i.ne⟩
  have hlt := lt_of_block i.blk
  have h : Lib.IsBuilderF 112 5 B b (Lib.byteCells l) w := by
    rcases i.pp with rfl | rfl
    · exact .inl hbf
    · exact .inr hbf
  refine (Tryd.Builder_String_any_k B b l w h (by omega)).mono ?_
  rintro e w' ⟨rfl, -, hb, -⟩
  exact ⟨rfl, hb⟩
/-- What an append to a row of bytes leaves. -/
def AppPost (w : World) (v : Value) (l : Bs) (e : Ending) (w' : World) : Prop :=
  ∃ ao cap, e = .returned (.slice ao l.length cap) ∧ OwnsB w' 5 (.slice ao l.length cap) l ∧ Mod (fun k => v.ownBlock = some k) w w' ∧ ((Value.slice ao l.length cap).ownBlock = v.ownBlock ∨ ∃ g, (Value.slice ao l.length cap).ownBlock = some g ∧ w.heap.size ≤ g)
set_option maxHeartbeats 1600000 in
set_option maxRecDepth 100000 in
theorem arune_ascii (hown : OwnsB w 5 v l) (c : UInt8) (hc : c.toNat < 128) (hl : l.length ≤ 140737488351232) : Calls Tryd.prog 88 #[v, .int .i32 c.toNat] w (AppPost w v (l ++ [c])) := by
  obtain ⟨ao, cap, rfl, hlc, hcm, hno, -⟩ := OwnsB.any hown
  have HOW := Lib.hid hown
  have hO : Hid (Owns (w.alloc (.cells #[.int .u8 c.toNat] 5)) 5 1 (.slice ao l.length cap) (bRows l)) := Lib.hid (Owns.mod hown (Mod.of_below (F := fun _ => False) (below_alloc1 w (.cells #[.int .u8 c.toNat] 5))) (fun _ _ x => x))
  have hL := Lib.hid (lies_new w [.int .u8 c.toNat] 5 rfl)
  have hr1 : Hid ((bRows l).length + ([[Value.int .u8 c.toNat]] : List (List Value)).length ≤ maxLen) := by show _ ≤ _; unfold maxLen; rw [bRows_len]; simp; omega
  have hr2 : Hid (((bRows l).length + ([[Value.int .u8 c.toNat]] : List (List Value)).length) * 1 ≤ 140737488355328) := by show _ ≤ _; rw [bRows_len]; simp; omega
  have hw1 : IntKind.u32.wrap (c.toNat : Int) = c.toNat := by unfold IntKind.wrap; simp [IntKind.bits]; omega
  have hw2 : IntKind.u8.wrap (c.toNat : Int) = c.toNat := by unfold IntKind.wrap; simp [IntKind.bits]; omega
  have d1 : decide ((c.toNat : Int) ≤ 127) = true := by simp; omega
  clear hown hlc hcm hno
  go_enter Tryd.func88, Tryd.ntmps88
  go_wp2_with (at_builtin; refine wpList_append_rows rfl (.tmp 8) (.tmp 11) 95 rfl 5 _ 1 1 Tryd.underlying95 info5 rfl (by decide) (.slice ao l.length cap) (bRows l) (by rfl) hO.out (some ⟨w.heap.size, 0, none⟩) 1 1 [[.int .u8 c.toNat]] (by rfl) rfl (fun e => by cases e) hL.out (by simp [Value.oneCell']) (by simp) hr1.out (by have h := hr2.out; omega) ?_; intro v3 w3 o3 g3 n3; obtain ⟨a7, c7, hv7, -⟩ := o3.any; have HL7 : Hid ((bRows l ++ [[Value.int .u8 c.toNat]]).length = (l ++ [c]).length) := Lib.hid (by rw [List.length_append, bRows_len, List.length_append]; rfl); rw [HL7.out] at hv7; generalize hz : List.length (l ++ [c]) = L7 at hv7; subst hv7; have O3 := Lib.hid o3; have G3 := Lib.hid (⟨g3, n3⟩ : _ ∧ _); have HZ := Lib.hid hz; clear o3 g3 n3 hz HL7)
  go_ret
  rw [← HZ.out] at O3 G3
  refine ⟨a7, c7, by rw [HZ.out]; rfl, ?_, ?_, ?_⟩
  · unfold OwnsB; rw [bRows_append]; exact O3.out
  · exact (((Mod.refl _ w).alloc _).grown G3.out.1 (fun k e _ => e))
  · rcases G3.out.2 with h | ⟨g, h, hg⟩
    · exact .inl h
    · exact .inr ⟨g, h, by simp at hg; omega⟩
set_option maxHeartbeats 1600000 in
set_option maxRecDepth 100000 in
theorem wrune_ascii (i : BuildIs w b p v l) (c : UInt8) (hc : c.toNat < 128) (hl : l.length ≤ 140737488351232) : Calls Tryd.prog 74 #[.pointer (some ⟨b, 0, none⟩), .int .i32 c.toNat] w (WritePost w b v (l ++ [c]) (.tuple #[.int .i64 1, .nilIface])) := by
  have HC := check_any i
  have hbl := Lib.hid (lt_of_block i.blk)
  clear i
  go_enter Tryd.func74, Tryd.ntmps74
  go_wp2_with fail
  refine HC.mono ?_
  rintro e w1 ⟨rfl, i1, m1⟩
  have I1 := Lib.hid i1
  have M1 := Lib.hid m1
  have HA := arune_ascii i1.own c hc hl
  obtain ⟨ao, cap, rfl, hlc, hcm, hno, -⟩ := OwnsB.any i1.own
  have x1 := cell_blk I1.out.blk 1
  clear i1 m1 HC hlc hcm hno
  go_wp2_with fail
  refine HA.mono ?_
  rintro e w2 ⟨ao2, cap2, rfl, o2, m2, n2⟩
  have b2 := m2.blk I1.out.blk (fun e => I1.out.ne e)
  have B2 := Lib.hid b2
  have q1 := cell_blk b2 1
  have f1 := free_blk b2 1
  have HH := Lib.hid (⟨o2, m2, n2⟩ : _ ∧ _ ∧ _)
  have hw : IntKind.i64.wrap (((l ++ [c]).length : Int) - (l.length : Int)) = 1 := by rw [List.length_append]; rw [IntKind.wrap_i64]; simp; omega
  clear HA o2 m2 n2 b2 x1
  generalize hL : (l ++ [c]).length = L at HH hw
  have HL := Lib.hid hL
  clear hL
  have hw' : wrap64 ((L : Int) - (l.length : Int)) = 1 := by unfold wrap64; rw [IntKind.wrap_i64] at hw; omega
  go_wp2_with fail
  go_ret2
  have hs1 := M1.out.size
  have hb := hbl.out
  rw [← HL.out] at HH ⊢
  have mB : Mod (fun k => k = b ∨ (Value.slice ao l.length cap).ownBlock = some k) w w2 := (M1.out.mono (fun _ _ e => .inl e)).trans (HH.out.2.1.mono (fun _ _ e => .inr e))
  have hne : (Value.slice ao2 (l ++ [c]).length cap2).ownBlock ≠ some b := fun e => by
    rcases HH.out.2.2 with h | ⟨g, h, hg⟩
    · exact I1.out.ne (h ▸ e)
    · rw [h] at e; cases e; omega
  refine ⟨rfl, .slice ao2 (l ++ [c]).length cap2, ⟨?_, ?_, hne, .inr rfl⟩, mB.setCell _ _ (fun _ => .inl rfl), ?_⟩
  · have := set_blk B2.out 1 (.slice ao2 (l ++ [c]).length cap2)
    simpa using this
  · have m : Mod (fun k => k = b) w2 (w2.setCell ⟨b, 1, none⟩ (.slice ao2 (l ++ [c]).length cap2)) := (Mod.refl _ _).setCell _ _ (fun _ => rfl)
    exact Owns.mod HH.out.1 m (fun g e x => hne (by rw [e, x]))
  · rcases HH.out.2.2 with h | ⟨g, h, hg⟩
    · exact .inl h
    · exact .inr ⟨g, h, by omega⟩
end
end Go.Proofs.YthnhpnmopjbaoaaDoor
