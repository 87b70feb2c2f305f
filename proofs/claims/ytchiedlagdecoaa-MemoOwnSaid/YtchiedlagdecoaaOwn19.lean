/-
  The walk of the statement MemoOwn.
-/
import Derived.Test.YtchiedlagdecoaaPlays19
namespace Go.Proofs.Ytchiedlagdecoaa
open Go.RowKit

/-- What holds while the answered paths are written over: only their own block turns. -/
structure SpoilRel (w : World) (n : Nat) (lo : Option Addr) (lcap : Nat) (wr : World) : Prop where
  own : ∃ xs : List Value, xs.length = n ∧ Owns wr 9 1 (.slice lo n lcap) (xs.map fun x => [x])
  mod : Mod (fun j => (Value.slice lo n lcap).ownBlock = some j) w wr

theorem SpoilRel.set {w wr : World} {n : Nat} {g lcap : Nat} (i : SpoilRel w n (some ⟨g, 0, none⟩) lcap wr) (k : Nat) (s : ByteArray) : SpoilRel w n (some ⟨g, 0, none⟩) lcap (wr.setCell ⟨g, k, none⟩ (.string s)) := by
  obtain ⟨xs, hn, ho⟩ := i.own
  obtain ⟨r1, r2⟩ := ho.setOne k (.string s) rfl
  exact ⟨⟨xs.set k (.string s), by simpa using hn, r1⟩, i.mod.setCell _ _ (fun _ => rfl)⟩

set_option maxHeartbeats 3200000 in
theorem own_any (cap : Nat) (ao : Option Addr) (acts : List Cl) (W : World) (hl : Lies W 4 ao (acts.map Cl.cells)) (hn : acts.length ≤ 4398046511000) :
    Calls Try.prog 7 #[.slice ao acts.length cap] W (AlivePost W) := by
  have HL := Lib.hid hl
  clear hl
  go_enter Try.func7, Try.ntmps7
  go_wp2_with fail
  refine (new_any 4 _).mono ?_
  rintro e w1 ⟨rfl, i1, b1⟩
  have I1 : Hid (MemoIs w1 W.heap.size (.slice none 0 0) 4 [] 0 0) := i1
  have B1 := Lib.hid b1
  clear i1 b1
  go_wp2_with fail
  obtain ⟨i2, l2⟩ := both_start (most := 4) I1.out B1.out
  have I2 := Lib.hid i2
  have L2 := Lib.hid l2
  clear i2 l2
  refine (alive_any _).mono ?_
  rintro e w3 ⟨rfl, b3⟩
  have I4 := Lib.hid (I2.out.stay (Mod.of_below b3))
  have L4 := Lib.hid (L2.out.trans (b3.mono I2.out.size))
  clear b3
  go_wp2_with fail
  go_loopw [19] (fun i wr => ∃ k : Nat, k ≤ acts.length ∧ i = .int .i64 k ∧ Same W wr W.heap.size w1.heap.size 4 k) (fun i _ => acts.length - (intOf i).toNat)
  case atStart => exact ⟨0, Nat.zero_le _, rfl, _, _, ⟨[], 0, 0⟩, I4.out, ⟨by simp, by simp, by simp⟩, L4.out⟩
  case round =>
    obtain ⟨k, hk, rfl, v, rv, s, bb, bd, bl⟩ := hrel
    by_cases hlt : k < acts.length
    · obtain ⟨g, off, rfl, hg, c0, c1, c2, c3⟩ := act_cells HL.out hlt bl rfl
      have bb1 := bb.stay ((Mod.refl (fun _ => False) wr).alloc (.cells #[.int .i64 acts[k].kind, .string acts[k].path, .int .i64 acts[k].stamp, .int .i64 acts[k].u] 32))
      have bl1 := bl.alloc bl.size (.cells #[.int .i64 acts[k].kind, .string acts[k].path, .int .i64 acts[k].stamp, .int .i64 acts[k].u] 32)
      have BB := Lib.hid bb1
      have BL := Lib.hid bl1
      have BD := Lib.hid bd
      clear bb bd bl bb1 bl1
      go_wp2_with fail
      refine (does_any _ _ _ _ _ _ _ acts[k].kind acts[k].path acts[k].stamp acts[k].u s s _ BB.out ?_ ?_ ?_ ?_ ?_ ?_).mono ?_
      iterate 4 (have := BD.out.h; have := BD.out.m; omega)
      iterate 2 (have := BD.out.len; omega)
      rintro e w5 ⟨⟨ok, rfl, hok⟩, ⟨v5, rv5, b5⟩, l5⟩
      have B5 := Lib.hid b5
      have L5 := Lib.hid (BL.out.trans l5)
      clear b5 l5 hok c0 c1 c2 c3
      go_wp2_with fail
      refine (paths_any _ _ _ _ _ _ _ B5.out.memo).mono ?_
      rintro e w6 ⟨lv, rfl, o6, f6, b6⟩
      obtain ⟨lo, lcap, rfl, hlc, hcm, -, -, hlo⟩ := o6.any
      have hpl : (pathRows (step 4 acts[k].kind acts[k].path acts[k].stamp acts[k].u s).us).length = (step 4 acts[k].kind acts[k].path acts[k].stamp acts[k].u s).us.length := by simp [pathRows]
      have hsl := (BD.out.next 4 acts[k].kind acts[k].path acts[k].stamp acts[k].u).len
      rw [hpl] at o6 f6 hlo
      rw [hpl]
      have hpr : pathRows (step 4 acts[k].kind acts[k].path acts[k].stamp acts[k].u s).us = ((step 4 acts[k].kind acts[k].path acts[k].stamp acts[k].u s).us.map fun x => Value.string x.path).map fun x => [x] := by simp [pathRows]
      have hR : SpoilRel w6 (step 4 acts[k].kind acts[k].path acts[k].stamp acts[k].u s).us.length lo lcap w6 := ⟨⟨_, List.length_map _, by rw [← hpr]; exact o6⟩, Mod.refl _ _⟩
      have B6 := Lib.hid (B5.out.stay (Mod.of_below b6))
      have L6 := Lib.hid (L5.out.trans (b6.mono B5.out.size))
      have LB6 := Lib.hid b6
      have F6 := Lib.hid f6
      have HR := Lib.hid hR
      have HLO := Lib.hid hlo
      have BD2 := Lib.hid (BD.out.next 4 acts[k].kind acts[k].path acts[k].stamp acts[k].u)
      clear hpl hpr hlc hcm o6 f6 hR hlo b6
      generalize step 4 acts[k].kind acts[k].path acts[k].stamp acts[k].u s = s2 at *
      obtain ⟨wo, rfl⟩ : ∃ wo : World, wo = wr := ⟨_, rfl⟩
      have bwr := B5.out.size
      have hkl : k < acts.length := hlt
      have hsl2 : s2.us.length ≤ 4398046511103 := by omega
      go_wp2_with fail
      go_loopw [8, 30] (fun _ i w7 => ∃ j : Nat, j ≤ s2.us.length ∧ i = .int .i64 j ∧ SpoilRel w6 s2.us.length lo lcap w7) (fun _ i _ => s2.us.length - (intOf i).toNat)
      case atStart => exact ⟨0, Nat.zero_le _, rfl, HR.out⟩
      case round =>
        obtain ⟨j, hj, rfl, sr⟩ := hrel
        by_cases hjl : j < s2.us.length
        · obtain ⟨xs, hxs, ho⟩ := sr.own
          obtain ⟨g2, cap2, hv, -, -, hg2⟩ := ho.addr (by intro e; have := congrArg List.length e; simp at this; subst this; simp at hxs; omega)
          obtain ⟨ao2, cap3, hv2, -, -, hl2, -, -⟩ := ho.any
          rw [hv] at hv2
          simp only [Value.slice.injEq] at hv hv2
          obtain ⟨rfl, -, -⟩ := hv
          obtain ⟨rfl, -, -⟩ := hv2
          obtain ⟨g3, off3, e3, -, -, hc3⟩ := hl2 j [xs[j]'(by omega)] (by simp [hxs, hjl])
          cases e3
          have d0 := hc3 0 _ rfl
          rw [Nat.mul_one, Nat.add_zero, Nat.zero_add] at d0
          obtain ⟨x0, hx0⟩ : ∃ x0, xs[j]'(by omega) = x0 := ⟨_, rfl⟩
          rw [hx0] at d0
          have ff := ho.free (g := g2) rfl j
          have SR := Lib.hid sr
          have hjn : (j : Int) < (s2.us.length : Int) := by omega
          clear hx0 hc3 hl2 ho sr hxs hk hsl hkl
          go_wp2_with fail
          go_roundw
          case rel => exact ⟨j + 1, by omega, by go_num, SR.out.set j _⟩
          case measure => simp [intOf]; omega
        · obtain rfl : j = s2.us.length := by omega
          obtain ⟨xs, hxs, ho⟩ := sr.own
          have SR := Lib.hid sr
          have hO : ∀ (o : Obj), Hid (Owns (wr.alloc o) 9 1 (.slice lo s2.us.length lcap) (xs.map fun x => [x])) := fun o => ho.kept fun g e => Below.heap_alloc _ _ _ (ho.lt e)
          have hL : Hid (Lies (wr.alloc (.cells #[.string ⟨#[115, 112, 111, 105, 108, 116]⟩, .string ⟨#[115, 112, 111, 105, 108, 116]⟩] 9)) 1 (some ⟨wr.heap.size, 0, none⟩) [[.string ⟨#[115, 112, 111, 105, 108, 116]⟩], [.string ⟨#[115, 112, 111, 105, 108, 116]⟩]]) := by
            intro i r hi
            match i, hi with
            | 0, hi => simp at hi; subst hi; exact ⟨_, 0, rfl, by simp, rfl, fun t u ht => by match t, ht with | 0, ht => simp at ht; subst ht; rw [cell_blk (heap_alloc_new wr _)]; rfl⟩
            | 1, hi => simp at hi; subst hi; exact ⟨_, 0, rfl, by simp, rfl, fun t u ht => by match t, ht with | 0, ht => simp at ht; subst ht; rw [cell_blk (heap_alloc_new wr _)]; rfl⟩
          have hR1 : Hid ((xs.map fun x => [x]).length + [[Value.string ⟨#[115, 112, 111, 105, 108, 116]⟩], [.string ⟨#[115, 112, 111, 105, 108, 116]⟩]].length ≤ maxLen) := by show _ ≤ _; unfold maxLen; simp; omega
          have hR2 : Hid (((xs.map fun x => [x]).length + [[Value.string ⟨#[115, 112, 111, 105, 108, 116]⟩], [.string ⟨#[115, 112, 111, 105, 108, 116]⟩]].length) * 16 ≤ 140737488355328) := by show _ ≤ _; simp; omega
          clear ho sr hxs hsl hkl
          go_wp2_with (at_builtin; refine wpList_append_rows rfl (.tmp 37) (.tmp 38) 37 rfl 9 _ 1 16 Try.underlying37 info9 rfl (by decide) (.slice lo s2.us.length lcap) (xs.map fun x => [x]) rfl (hO _).out (some ⟨wr.heap.size, 0, none⟩) 2 2 [[.string ⟨#[115, 112, 111, 105, 108, 116]⟩], [.string ⟨#[115, 112, 111, 105, 108, 116]⟩]] rfl rfl (fun e => by cases e) hL.out (by simp; exact rfl) (by simp) hR1.out hR2.out ?_; intro v8 w8 o8 g8 b8; obtain ⟨ao8, cap8, hv8, -⟩ := o8.any; subst hv8; have G8 := Lib.hid g8; clear o8 g8 b8)
          go_roundw
          case rel =>
            have m7 : Mod (fun i => w5.heap.size ≤ i) w5 wr := (Mod.of_below LB6.out).trans (SR.out.mod.mono (fun i _ e => F6.out i e))
            have m8 : Mod (fun i => w5.heap.size ≤ i) w5 w8 := (m7.alloc _).grown G8.out (fun i e _ => F6.out i e)
            have m9 : Mod (fun _ => False) w5 w8 := m8.mono (fun i h1 h2 => by omega)
            exact ⟨k + 1, by omega, by go_num, _, _, s2, B5.out.stay m9, BD2.out, L5.out.trans ((m9.below).mono B5.out.size)⟩
          case measure => simp [intOf]; omega
    · obtain rfl : k = acts.length := by omega
      have BL := Lib.hid bl
      have BB := Lib.hid bb
      clear bl bb bd
      go_wp2_with (go_at_call 10; refine (stands_any _ _ _ _ _ _ _ _ _ _ BB.out.memo BB.out.ref).mono ?_; rintro e w6 ⟨rfl, b6⟩; have B6 := Lib.hid b6; clear b6)
      go_ret
      exact ⟨rfl, BL.out.trans (B6.out.mono BL.out.size)⟩
end Go.Proofs.Ytchiedlagdecoaa
