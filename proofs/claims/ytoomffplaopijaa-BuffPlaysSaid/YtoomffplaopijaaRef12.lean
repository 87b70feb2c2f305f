/-
  The document's stack in memory; the walks of size and own.
-/
import Derived.Test.YtoomffplaopijaaRows2
import Derived.Test.YtoomffplaopijaaLive12
namespace Go.Proofs.Ytoomffplaopijaa
open Go.RowKit

theorem info62 : (Try.prog.info? 62).map (fun i => (i.zero, i.size, i.bytes)) = some (some (.agg #[.string .empty, .string .empty]), 2, 32) := by kernel_rfl

def Bf.cells (f : Bf) : List Value := [.string (str f.name), .string (str f.text)]
def rRows (l : List Bf) : List (List Value) := l.map Bf.cells
theorem rRows_len (l : List Bf) : (rRows l).length = l.length := List.length_map _
theorem rRows_size (l : List Bf) : ∀ r ∈ rRows l, r.length = 2 := by
  intro r hr; obtain ⟨f, _, rfl⟩ := List.mem_map.1 hr; rfl
theorem rRows_one (l : List Bf) : ∀ r ∈ rRows l, ∀ u ∈ r, u.oneCell' = true := by
  intro r hr u hu; obtain ⟨f, _, rfl⟩ := List.mem_map.1 hr; simp [Bf.cells] at hu; rcases hu with rfl | rfl <;> rfl

structure RefIs (w : World) (b : Nat) (v : Value) (s : Sk) : Prop where
  blk : w.heap[b]? = some (.cells #[v, .string (str s.bottom), .int .i64 s.mark, .int .i64 s.first] 42 (0, 0))
  rows : Owns w 62 2 v (rRows s.bufs)
  ne : v.ownBlock ≠ some b
  ok : Ok true s

theorem RefIs.mod {F : Nat → Prop} {w w' : World} {b : Nat} {v : Value} {s : Sk} (i : RefIs w b v s) (m : Mod F w w') (hb : ¬ F b) (hv : ∀ g, v.ownBlock = some g → ¬ F g) : RefIs w' b v s :=
  ⟨m.blk i.blk hb, i.rows.mod m hv, i.ne, i.ok⟩
theorem RefIs.stay {w w' : World} {b : Nat} {v : Value} {s : Sk} (i : RefIs w b v s) (m : Mod (fun _ => False) w w') : RefIs w' b v s := i.mod m (fun x => x) (fun _ _ x => x)
theorem RefIs.form {w : World} {b : Nat} {v : Value} {s : Sk} (i : RefIs w b v s) : ∃ ao cap, v = .slice ao s.bufs.length cap ∧ s.bufs.length ≤ cap ∧ cap ≤ maxLen ∧ Lies w 2 ao (rRows s.bufs) ∧ (ao = none → rRows s.bufs = [] ∧ cap = 0) := by
  obtain ⟨ao, cap, hv, h1, h2, h3, h4, _⟩ := i.rows.any
  rw [rRows_len] at hv h1
  exact ⟨ao, cap, hv, h1, h2, h3, h4⟩
theorem RefIs.at {w : World} {b : Nat} {v : Value} {s : Sk} (i : RefIs w b v s) {k : Nat} {f : Bf} (hk : s.bufs[k]? = some f) :
    ∃ g cap, v = .slice (some ⟨g, 0, none⟩) s.bufs.length cap ∧ s.bufs.length ≤ cap ∧ cap ≤ maxLen ∧ w.cell? ⟨g, k * 2, none⟩ = some (.string (str f.name)) ∧ w.cell? ⟨g, k * 2 + 1, none⟩ = some (.string (str f.text)) ∧ g < w.heap.size ∧ w.frozen? ⟨g, k * 2 + 1, none⟩ = false := by
  obtain ⟨ao, cap, hv, h1, h2, h3, h4, h5⟩ := i.rows.any
  rw [rRows_len] at hv h1
  obtain ⟨g, off, e, hg, _, hc⟩ := h3 k f.cells (by unfold rRows; rw [List.getElem?_map, hk]; rfl)
  obtain ⟨rfl, hob⟩ := h5 g off e
  subst e
  have c0 := hc 0 _ rfl
  have c1 := hc 1 _ rfl
  rw [Nat.zero_add] at c0 c1
  rw [Nat.add_zero] at c0
  exact ⟨g, cap, hv, h1, h2, c0, c1, hg, i.rows.free hob _⟩

/-- What a step of the document's leaves. -/
def RLeft (w : World) (b : Nat) (v : Value) (s' : Sk) (w' : World) : Prop :=
  ∃ v', RefIs w' b v' s' ∧ (v'.ownBlock = v.ownBlock ∨ v'.ownBlock = none ∨ ∃ j, v'.ownBlock = some j ∧ w.heap.size ≤ j) ∧ Mod (fun k => k = b ∨ v.ownBlock = some k) w w'
theorem RLeft.refl {w : World} {b : Nat} {v : Value} {s : Sk} (i : RefIs w b v s) : RLeft w b v s w := ⟨v, i, .inl rfl, Mod.refl _ _⟩
theorem RLeft.below {w w' : World} {b : Nat} {v : Value} {s : Sk} (i : RefIs w b v s) (m : Below w.heap.size w w') : RLeft w b v s w' := ⟨v, i.stay (Mod.of_below m), .inl rfl, Mod.of_below m⟩
theorem RLeft.trans {w w1 w2 : World} {b : Nat} {v v1 : Value} {s2 : Sk} (o1 : v1.ownBlock = v.ownBlock ∨ v1.ownBlock = none ∨ ∃ j, v1.ownBlock = some j ∧ w.heap.size ≤ j) (m1 : Mod (fun k => k = b ∨ v.ownBlock = some k) w w1) (l : RLeft w1 b v1 s2 w2) : RLeft w b v s2 w2 := by
  obtain ⟨v2, i2, o2, m2⟩ := l
  refine ⟨v2, i2, ?_, m1.trans' m2 (fun k hk x => ?_)⟩
  · rcases o2 with h | h | ⟨j, h, hj⟩
    · rw [h]; exact o1
    · exact .inr (.inl h)
    · exact .inr (.inr ⟨j, h, Nat.le_trans m1.size hj⟩)
  · rcases x with x | x
    · exact .inl x
    · rcases o1 with h | h | ⟨j, h, hj⟩
      · rw [h] at x; exact .inr x
      · rw [h] at x; cases x
      · rw [h] at x; cases x; omega
/-- A field of the document's stack turns. -/
theorem RefIs.setField {w : World} {b : Nat} {v : Value} {s' : Sk} {c : Array Value} (hb : w.heap[b]? = some (.cells c 42 (0, 0))) (j : Nat) (x : Value) (hr : Owns w 62 2 v (rRows s'.bufs)) (hn : v.ownBlock ≠ some b) (hok : Ok true s')
    (hx : c.setIfInBounds j x = #[v, .string (str s'.bottom), .int .i64 s'.mark, .int .i64 s'.first]) : RefIs (w.setCell ⟨b, j, none⟩ x) b v s' :=
  ⟨by rw [← hx]; exact set_blk hb j x, hr.kept fun g e => Below.heap_setCell _ _ _ _ (fun e' => hn (by rw [e, e'])), hn, hok⟩

theorem ret_int {k : IntKind} {a b : Int} (h : a = b) : Ending.returned (.int k a) = .returned (.int k b) := by rw [h]
theorem bytesOf_take_snoc (l : List Bf) (k : Nat) (h : k < l.length) : bytesOf (l.take (k + 1)) = bytesOf (l.take k) + l[k].text.length := by
  rw [List.take_succ_eq_append_getElem h, bytesOf_append]
  simp [bytesOf]

set_option maxHeartbeats 800000 in
theorem size_any {b : Nat} {v : Value} {s : Sk} {w : World} (i : RefIs w b v s) :
    Calls Try.prog 38 #[.pointer (some ⟨b, 0, none⟩)] w fun e w' => e = .returned (.int .i64 (s.total : Int)) ∧ w = w' := by
  have I := Lib.hid i
  obtain ⟨ao, cap, rfl, -, -, -, -⟩ := i.form
  have c0 := cell_blk i.blk 0
  have c1 := cell_blk i.blk 1
  simp at c0 c1
  have hd := i.ok.deep
  have ht := i.ok.total
  have hbt : (str s.bottom).size = s.bottom.length := str_size _
  have HT : Hid (s.bottom.length + bytesOf s.bufs = s.total) := rfl
  clear i
  go_enter Try.func38, Try.ntmps38
  go_wp2_with fail
  go_loop [3, 4] (fun n i => ∃ k : Nat, k ≤ s.bufs.length ∧ i = .int .i64 k ∧ n = .int .i64 ((s.bottom.length + bytesOf (s.bufs.take k) : Nat) : Int)) (fun _ i => s.bufs.length - (intOf i).toNat)
  case atStart => exact ⟨0, Nat.zero_le _, rfl, by simp [bytesOf]⟩
  case round =>
    obtain ⟨k, hk, rfl, rfl⟩ := hrel
    by_cases hlt : k < s.bufs.length
    · obtain ⟨g, cap', hv, -, -, c2, c3, -, -⟩ := I.out.at (List.getElem?_eq_getElem hlt)
      cases hv
      have hsn := bytesOf_take_snoc s.bufs k hlt
      have hle : s.bottom.length + bytesOf (s.bufs.take k) + s.bufs[k].text.length ≤ 65536 := by
        have h1 := bytesOf_take s.bufs (k + 1)
        have := HT.out
        omega
      have hts : (str s.bufs[k].text).size = s.bufs[k].text.length := str_size _
      have HS : Hid ((s.bottom.length + bytesOf (s.bufs.take k) : Nat) + (s.bufs[k].text.length : Int) = ((s.bottom.length + bytesOf (s.bufs.take (k + 1)) : Nat) : Int)) := by show _ = _; omega
      clear hsn
      go_wp2
      go_round
      case rel => exact ⟨k + 1, by omega, by go_num, by rw [← HS.out]; rfl⟩
      case measure => simp [intOf]; omega
    · obtain rfl : k = s.bufs.length := by omega
      go_wp2
      go_ret
      exact ⟨ret_int (by rw [← HT.out]; rfl), rfl⟩

def OwnPost (w : World) (b : Nat) (s : Sk) (e : Ending) (w' : World) : Prop :=
  e = .returned (.tuple #[]) ∧ ∃ v', RefIs w' b v' s ∧ (v'.ownBlock = none ∨ ∃ j, v'.ownBlock = some j ∧ w.heap.size ≤ j) ∧ Mod (fun k => k = b) w w'

set_option maxHeartbeats 800000 in
theorem own_any {b : Nat} {v : Value} {s : Sk} {w : World} (i : RefIs w b v s) : Calls Try.prog 39 #[.pointer (some ⟨b, 0, none⟩)] w (OwnPost w b s) := by
  obtain ⟨ao, cap, hv, hcap, hcm, hl, hno⟩ := i.form
  have hd := i.ok.deep
  have OK := Lib.hid i.ok
  have HL := Lib.hid hl
  have HN := Lib.hid hno
  have B := Lib.hid i.blk
  have c0 := cell_blk i.blk 0
  simp at c0
  rw [hv] at c0
  have n1 : Hid (s.bufs.length = (rRows s.bufs).length) := (rRows_len _).symm
  have r1 : Hid (([] : List (List Value)).length + (rRows s.bufs).length ≤ maxLen) := by show _ ≤ _; unfold maxLen; rw [rRows_len]; simp; omega
  have r2 : Hid ((([] : List (List Value)).length + (rRows s.bufs).length) * 32 ≤ 140737488355328) := by show _ ≤ _; rw [rRows_len]; simp; omega
  clear i hl hno hv
  go_enter Try.func39, Try.ntmps39
  go_wp2_with (at_builtin; refine wpList_append_rows rfl (.const (.slice none 0 0)) (.tmp 6) 40 rfl 62 _ 2 32 Try.underlying40 info62 rfl (by decide) (.slice none 0 0) [] rfl (Owns.empty _ _ _) ao s.bufs.length cap (rRows s.bufs) rfl n1.out HN.out HL.out (rRows_one _) (rRows_size _) r1.out r2.out ?_; intro v3 w3 o3 g3 b3; rw [List.nil_append] at o3; obtain ⟨ao3, cap3, hv3, -⟩ := o3.any; subst hv3; have B3 := Lib.hid ((g3.block b (lt_of_block B.out) (by simp [Value.ownBlock])).trans B.out); have ff := free_blk B3.out 0; have z0 := cell_blk B3.out 0; simp at z0; have O3 := Lib.hid o3; have G3 := Lib.hid g3; have X3 := Lib.hid b3; clear o3 g3 b3)
  go_end0
  have x3 : (Value.slice ao3 (rRows s.bufs).length cap3).ownBlock = none ∨ ∃ j, (Value.slice ao3 (rRows s.bufs).length cap3).ownBlock = some j ∧ w.heap.size ≤ j := by
    rcases X3.out with h | h
    · exact .inl h
    · exact .inr h
  have hn : (Value.slice ao3 (rRows s.bufs).length cap3).ownBlock ≠ some b := by
    intro e
    have := lt_of_block B.out
    rcases x3 with h | ⟨j, h, hj⟩
    · rw [h] at e; cases e
    · rw [h] at e; cases e; omega
  exact ⟨rfl, _, RefIs.setField B3.out 0 (.slice ao3 (rRows s.bufs).length cap3) O3.out hn OK.out rfl, x3, ((Mod.refl (fun k => k = b) w).grown G3.out (fun k e _ => by simp [Value.ownBlock] at e)).setCell _ _ (fun _ => rfl)⟩
end Go.Proofs.Ytoomffplaopijaa
