/-
  The walks of without, of Remove.
-/
import Derived.Test.YthnhpnmopjbaoaaDoorDelF11
import Derived.Test.YthnhpnmopjbaoaaDoorLine11
namespace Go.Proofs.YthnhpnmopjbaoaaDoor
open Go.RowKit

theorem belowD {B : Nat} {a w : World} (h : Below B a w) : Below B a w.drew := ⟨h.os, h.tape, h.output, h.size, h.block⟩
/-- Texts that a line may have. -/
def Small (ls : List ByteArray) : Prop := ∀ s ∈ ls, s.size ≤ 140737488351232
/-- What without gives. -/
def WithoutPost (w : World) (x : ByteArray) (ls : List ByteArray) (e : Ending) (w' : World) : Prop :=
  ∃ v', e = .returned v' ∧ Owns w' 9 1 v' ((dropP x ls).map sR) ∧ Below w.heap.size w w' ∧ ∀ g, v'.ownBlock = some g → w.heap.size ≤ g
set_option maxHeartbeats 1600000 in
set_option maxRecDepth 100000 in
theorem without_any {w : World} {v : Value} {x : ByteArray} {ls : List ByteArray} (hown : Owns w 9 1 v (ls.map sR)) (hl : ls.length ≤ 2048) (hsz : Small ls) : Calls Tryd.prog 53 #[v, .string x] w (WithoutPost w x ls) := by
  have B1 := Lib.hid (below_alloc1 w (.cells #[.string x] 9))
  have hO1 : Owns (w.alloc (.cells #[.string x] 9)) 9 1 v (ls.map sR) := hown.mod (Mod.of_below (F := fun _ => False) B1.out) (fun _ _ x => x)
  have HCl := clone_list hO1 hl
  have hc0 := heap_alloc_new w (.cells #[.string x] 9)
  have HS1 : Hid ((w.alloc (.cells #[.string x] 9)).heap.size = w.heap.size + 1) := Lib.hid (by simp)
  have HSM := Lib.hid hsz
  have HLN := Lib.hid hl
  clear hown hO1 hsz hl
  go_enter Tryd.func53, Tryd.ntmps53
  go_wp2_with fail
  generalize w.alloc _ = W1 at B1 HCl hc0 HS1 ⊢
  refine HCl.mono ?_
  rintro e w2 ⟨v1, rfl, o1, hb, hn⟩
  have hcell : w2.cell? ⟨w.heap.size, 0, none⟩ = some (.string x) := (hb.cell (p := ⟨w.heap.size, 0, none⟩) (by rw [HS1.out]; exact Nat.lt_succ_self _)).trans (cell_blk hc0 0)
  have B2 := Lib.hid (B1.out.trans (hb.mono B1.out.size))
  have HN := Lib.hid hn
  have HO := Lib.hid o1
  have HC := Lib.hid hcell
  clear HCl hb hn hcell hc0
  rcases HO.out.form with ⟨rfl, e1⟩ | ⟨g, cap, e1, -⟩
  · have hnil : ls = [] := List.map_eq_nil_iff.1 e1
    clear e1
    go_wp2_with fail
    refine (deletef_nil _ _).mono ?_
    rintro e w3 ⟨rfl, rfl⟩
    go_wp2_with fail
    go_ret
    exact ⟨_, rfl, by rw [hnil]; exact Owns.empty _ _ _, B2.out, fun g e => by cases e⟩
  · rw [List.length_map] at e1
    subst e1
    have hg := HN.out g rfl
    have HD := deletef_any HLN.out HSM.out HO.out HC.out (by rw [HS1.out] at hg; omega)
    have HG := Lib.hid hg
    clear hg
    go_wp2_with fail
    refine HD.mono ?_
    rintro e w3 ⟨v3, rfl, o3, m3, n3⟩
    have H3 := Lib.hid (⟨o3, m3, n3⟩ : _ ∧ _ ∧ _)
    clear HD o3 m3 n3
    go_wp2_with fail
    go_ret
    refine ⟨_, rfl, H3.out.1, ?_, fun g' e => ?_⟩
    · have h2 := B2.out.size
      have h1 := HS1.out
      have hg := HG.out
      exact B2.out.trans (H3.out.2.1.belowB (fun k hk e => by have e' : k = g := e; omega) h2)
    · have e : v3.ownBlock = some g' := e
      rw [H3.out.2.2] at e
      have h1 := HS1.out
      have hg := HG.out
      cases e; omega
/-- What a call on heads leaves: its answer, the heads as they stand behind it. -/
def HPost (w : World) (h : Nat) (sent : Bool) (v : Value) (n code : Int) (ls : List ByteArray) (e : Ending) (w' : World) : Prop :=
  e = .returned (.int .i64 n) ∧ ∃ v', HeadsIs w' h sent code v' ls ∧ Mod (fun k => k = h) w w' ∧ (v' = v ∨ ∀ g, v'.ownBlock = some g → w.heap.size ≤ g)
theorem HeadsIs.putLines {w w' : World} {h : Nat} {sent : Bool} {code : Int} {v v' : Value} {ls ls' : List ByteArray} (i : HeadsIs w' h sent code v ls) (hm : Mod (fun k => k = h) w w') (hh : h < w.heap.size)
    (o : Owns w' 9 1 v' (ls'.map sR)) (hn : ∀ g, v'.ownBlock = some g → w.heap.size ≤ g) (hl : ls'.length ≤ 64) :
    ∃ v'', HeadsIs (w'.setCell ⟨h, 3, none⟩ v') h sent code v'' ls' ∧ Mod (fun k => k = h) w (w'.setCell ⟨h, 3, none⟩ v') ∧ (v'' = v ∨ ∀ g, v''.ownBlock = some g → w.heap.size ≤ g) :=
  ⟨v', i.setLines o (fun e => by have := hn h e; omega) hl, hm.setCell _ _ (fun _ => rfl), .inr hn⟩
theorem dropP_len (x : ByteArray) (ls : List ByteArray) : (dropP x ls).length ≤ ls.length := List.length_filter_le _ _
section
variable {w : World} {h : Nat} {sent : Bool} {code : Int} {v : Value} {ls : List ByteArray}
theorem remove_sent (i : HeadsIs w h true code v ls) (s : ByteArray) : Calls Tryd.prog 32 #[.pointer (some ⟨h, 0, none⟩), .string s] w (HPost w h true v 17 code ls) := by
  have HC := closed_any i
  have I := Lib.hid i
  unfold closedP at HC
  clear i
  go_enter Tryd.func32, Tryd.ntmps32
  go_wp2_with fail
  refine HC.mono ?_
  rintro e w1 ⟨rfl, rfl⟩
  clear HC
  go_wp2_with fail
  go_ret
  exact ⟨rfl, v, I.out, Mod.refl _ _, .inl rfl⟩
set_option maxHeartbeats 1600000 in
set_option maxRecDepth 100000 in
theorem remove_open (i : HeadsIs w h false code v ls) (hsz : Small ls) (s : ByteArray) (hs : s.size ≤ 140737488351232) : Calls Tryd.prog 32 #[.pointer (some ⟨h, 0, none⟩), .string s] w (HPost w h false v 0 code (dropP (str (smallL s.toList)) ls)) := by
  have HC := closed_any i
  have I := Lib.hid i
  have HSM := Lib.hid hsz
  have HS := fun W => small_any s hs W
  have HH := Lib.hid (lt_of_block i.blk)
  obtain ⟨-, -, -, x3⟩ := i.cells
  have f3 := free_blk i.blk 3
  unfold closedP at HC
  generalize str (smallL s.toList) = x at HS ⊢
  have HW : ∀ W, Below w.heap.size w W → Calls Tryd.prog 53 #[v, .string x] W (WithoutPost W x ls) := fun W hb => without_any ((i.below hb).own) (by have := i.len; omega) hsz
  clear i hsz hs
  go_enter Tryd.func32, Tryd.ntmps32
  go_wp2_with fail
  refine HC.mono ?_
  rintro e w1 ⟨rfl, rfl⟩
  clear HC
  go_wp2_with fail
  go_region_with (first
    | (go_at_call 55; refine (HS _).mono ?_; rintro e w2 ⟨rfl, hb⟩; have B2 := Lib.hid (Below.trans (belowD (Below.refl w.heap.size w)) hb); have y3 := cell_blk (I.out.below B2.out).blk 3; have q3 := free_blk (I.out.below B2.out).blk 3; clear hb)
    | (go_at_call 53; refine (HW _ B2.out).mono ?_; rintro e w3 ⟨v3, rfl, o3, hb, n3⟩; obtain ⟨a7, c7, hv7, -⟩ := o3.any; generalize (List.length _) = L7 at hv7; subst hv7; have B3 := Lib.hid (B2.out.trans (hb.mono B2.out.size)); have y33 := cell_blk (I.out.below B3.out).blk 3; have q33 := free_blk (I.out.below B3.out).blk 3; have H3 := Lib.hid (⟨o3, n3⟩ : _ ∧ _); clear hb o3 n3))
  all_goals
    go_wp2_with fail
    go_ret
    refine ⟨rfl, ?_⟩
    have hm : Mod (fun k => k = h) w w3 := Mod.of_below B3.out
    exact (I.out.below B3.out).putLines hm HH.out H3.out.1 (fun g e => Nat.le_trans B2.out.size (H3.out.2 g e)) (Nat.le_trans (dropP_len _ _) I.out.len)
end
end Go.Proofs.YthnhpnmopjbaoaaDoor
