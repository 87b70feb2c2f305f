/-
  The walk of the statement MemoPlays.
-/
import Derived.Test.YtchiedlagdecoaaDoes19b
namespace Go.Proofs.Ytchiedlagdecoaa
open Go.RowKit

/-- A call of the script. -/
structure Cl where
  kind : Int
  path : ByteArray
  stamp : Int
  u : Int
def Cl.cells (a : Cl) : List Value := [.int .i64 a.kind, .string a.path, .int .i64 a.stamp, .int .i64 a.u]

theorem act_cells {W wr : World} {ao : Option Addr} {acts : List Cl} {k : Nat} {B : Nat} (hl : Lies W 4 ao (acts.map Cl.cells)) (hk : k < acts.length) (hb : Below W.heap.size W wr) (hB : B = W.heap.size) :
    ∃ g off, ao = some ⟨g, off, none⟩ ∧ g < B ∧ wr.cell? ⟨g, off + k * 4, none⟩ = some (.int .i64 acts[k].kind) ∧ wr.cell? ⟨g, off + k * 4 + 1, none⟩ = some (.string acts[k].path) ∧ wr.cell? ⟨g, off + k * 4 + 2, none⟩ = some (.int .i64 acts[k].stamp) ∧ wr.cell? ⟨g, off + k * 4 + 3, none⟩ = some (.int .i64 acts[k].u) := by
  obtain ⟨g, off, e, hg, _, hc⟩ := hl k acts[k].cells (by simp [hk])
  have c0 := hc 0 _ rfl
  have c1 := hc 1 _ rfl
  have c2 := hc 2 _ rfl
  have c3 := hc 3 _ rfl
  rw [Nat.add_zero] at c0
  subst hB
  exact ⟨g, off, e, hg, (hb.cell (p := ⟨g, _, none⟩) hg).trans c0, (hb.cell (p := ⟨g, _, none⟩) hg).trans c1, (hb.cell (p := ⟨g, _, none⟩) hg).trans c2, (hb.cell (p := ⟨g, _, none⟩) hg).trans c3⟩

/-- Bounds that hold of a state behind k calls. -/
structure Bd (k : Nat) (s : St) : Prop where
  len : s.us.length ≤ k
  h : 0 ≤ s.h ∧ s.h ≤ k
  m : 0 ≤ s.m ∧ s.m ≤ k
theorem Bd.next {k : Nat} {s : St} (i : Bd k s) (most kind : Int) (p : ByteArray) (st u : Int) : Bd (k + 1) (step most kind p st u s) := by
  obtain ⟨h1, h2, h3⟩ := i
  have := stepU_len most kind p st u s.us
  refine ⟨?_, ?_, ?_⟩
  · show (stepU _ _ _ _ _ _).length ≤ _; omega
  · unfold step; simp only; split
    · split <;> constructor <;> omega
    · constructor <;> omega
  · unfold step; simp only; split
    · split <;> constructor <;> omega
    · constructor <;> omega

/-- Both memos in one state. -/
def Same (W wr : World) (b rb : Nat) (most : Int) (k : Nat) : Prop :=
  ∃ v rv s, Both wr W.heap.size b rb v rv most most s s ∧ Bd k s ∧ Below W.heap.size W wr

theorem both_start {W w1 : World} {most mx : Int} (i1 : MemoIs w1 W.heap.size (.slice none 0 0) mx [] 0 0) (b1 : Below W.heap.size W w1) :
    Both (w1.alloc (.cells #[.int .i64 most, .slice none 0 0, .int .i64 0, .int .i64 0] 27)) W.heap.size W.heap.size w1.heap.size (.slice none 0 0) (.slice none 0 0) mx most ⟨[], 0, 0⟩ ⟨[], 0, 0⟩ ∧
    Below W.heap.size W (w1.alloc (.cells #[.int .i64 most, .slice none 0 0, .int .i64 0, .int .i64 0] 27)) := by
  have hb := lt_of_block i1.blk
  refine ⟨⟨i1.mod (F := fun _ => False) ((Mod.refl _ w1).alloc _) (fun x => x) (fun _ _ x => x), ⟨heap_alloc_new w1 _, ⟨none, 0, rfl, by simp, by simp, Lies.nil _ _ _, fun _ => ⟨rfl, rfl⟩, fun _ e => by simp [Value.ownBlock] at e⟩, by simp [Value.ownBlock], by simp⟩,
    by omega, by simp [Value.ownBlock], by simp [Value.ownBlock], fun _ e => by simp [Value.ownBlock] at e, ⟨Nat.le_refl _, by have := b1.size; omega, fun _ e => by simp [Value.ownBlock] at e⟩, by have := b1.size; simp; omega⟩, b1.alloc b1.size _⟩

set_option maxHeartbeats 3200000 in
theorem plays_at (most mx : Int) (cap : Nat) (ao : Option Addr) (acts : List Cl) (W : World) (hl : Lies W 4 ao (acts.map Cl.cells)) (hn : acts.length ≤ 4398046511000) (hmx : (0 ≤ most ∧ mx = most) ∨ (most < 0 ∧ mx = 0)) :
    Calls Try.prog 3 #[.int .i64 most, .slice ao acts.length cap] W (AlivePost W) := by
  have HL := Lib.hid hl
  clear hl
  have hmax : Hid (max most 0 = mx) := by show max most 0 = mx; omega
  rcases hmx with ⟨hm, hx⟩ | ⟨hm, hx⟩
  all_goals
    have HX := Lib.hid hx
    clear hx
    go_enter Try.func3, Try.ntmps3
    go_wp2_with fail
    refine (new_any most _).mono ?_
    rintro e w1 ⟨rfl, i1, b1⟩
    rw [hmax.out, HX.out] at i1
    have I1 := Lib.hid i1
    have B1 := Lib.hid b1
    clear i1 b1
    go_wp2_with fail
    obtain ⟨i2, l2⟩ := both_start I1.out B1.out
    have I2 := Lib.hid i2
    have L2 := Lib.hid l2
    clear i2 l2
    refine (stands_any _ _ _ _ _ _ _ _ _ _ I2.out.memo I2.out.ref).mono ?_
    rintro e w2 ⟨rfl, b2⟩
    have I3 := Lib.hid (I2.out.stay (Mod.of_below b2))
    have L3 := Lib.hid (L2.out.trans (b2.mono I2.out.size))
    clear b2
    go_wp2_with fail
    refine (alive_any _).mono ?_
    rintro e w3 ⟨rfl, b3⟩
    have I4 := Lib.hid (I3.out.stay (Mod.of_below b3))
    have L4 := Lib.hid (L3.out.trans (b3.mono I3.out.size))
    clear b3
    go_wp2_with fail
    go_loopw [27] (fun i wr => ∃ k : Nat, k ≤ acts.length ∧ i = .int .i64 k ∧ Same W wr W.heap.size w1.heap.size mx k) (fun i _ => acts.length - (intOf i).toNat)
    case atStart => exact ⟨0, Nat.zero_le _, rfl, _, _, ⟨[], 0, 0⟩, by rw [HX.out]; exact I4.out, ⟨by simp, by simp, by simp⟩, L4.out⟩
    case round =>
      obtain ⟨k, hk, rfl, v, rv, s, bb, bd, bl⟩ := hrel
      by_cases hlt : k < acts.length
      · obtain ⟨g, off, rfl, hg, c0, c1, c2, c3⟩ := act_cells HL.out hlt bl rfl
        have bb1 := bb.stay ((Mod.refl (fun _ => False) wr).alloc (.cells #[.int .i64 acts[k].kind, .string acts[k].path, .int .i64 acts[k].stamp, .int .i64 acts[k].u] 32))
        have bl1 := bl.alloc bl.size (.cells #[.int .i64 acts[k].kind, .string acts[k].path, .int .i64 acts[k].stamp, .int .i64 acts[k].u] 32)
        have BB := Lib.hid bb1
        have BL := Lib.hid bl1
        have BD := Lib.hid bd
        clear bb bd bl bb1 bl1
        go_wp2_with fail
        refine (does_any _ _ _ _ _ _ _ acts[k].kind acts[k].path acts[k].stamp acts[k].u s s _ BB.out ?_ ?_ ?_ ?_ ?_ ?_).mono ?_
        iterate 4 (have := BD.out.h; have := BD.out.m; omega)
        iterate 2 (have := BD.out.len; omega)
        rintro e w5 ⟨⟨ok, rfl, hok⟩, ⟨v5, rv5, b5⟩, l5⟩
        obtain rfl := hok rfl
        have B5 := Lib.hid b5
        have L5 := Lib.hid (BL.out.trans l5)
        clear b5 l5 hok c0 c1 c2 c3
        go_wp2_with fail
        refine (stands_any _ _ _ _ _ _ _ _ _ _ B5.out.memo B5.out.ref).mono ?_
        rintro e w6 ⟨rfl, b6⟩
        have B6 := Lib.hid (B5.out.stay (Mod.of_below b6))
        have L6 := Lib.hid (L5.out.trans (b6.mono B5.out.size))
        clear b6
        go_wp2_with fail
        go_roundw
        case rel => exact ⟨k + 1, by omega, by go_num, _, _, _, B6.out, BD.out.next _ _ _ _ _, L6.out⟩
        case measure => simp [intOf]; omega
      · obtain rfl : k = acts.length := by omega
        have BL := Lib.hid bl
        clear bl bb bd
        go_wp2
        go_ret
        exact ⟨rfl, BL.out⟩

theorem plays_any (most : Int) (cap : Nat) (ao : Option Addr) (acts : List Cl) (W : World) (hl : Lies W 4 ao (acts.map Cl.cells)) (hn : acts.length ≤ 4398046511000) :
    Calls Try.prog 3 #[.int .i64 most, .slice ao acts.length cap] W (AlivePost W) := by
  by_cases h : 0 ≤ most
  · exact plays_at most most cap ao acts W hl hn (.inl ⟨h, rfl⟩)
  · exact plays_at most 0 cap ao acts W hl hn (.inr ⟨by omega, rfl⟩)
end Go.Proofs.Ytchiedlagdecoaa
