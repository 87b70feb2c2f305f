/-
  The walks of a stack's own calls: ok, make, top, come.
-/
import Derived.Test.YtoomffplaopijaaStack12b
namespace Go.Proofs.Ytoomffplaopijaa
open Go.RowKit

theorem wrap_in {x : Int} (h0 : -9223372036854775808 ≤ x) (h1 : x ≤ 9223372036854775807) : IntKind.i64.wrap x = x := by rw [IntKind.wrap_i64]; omega
theorem info5 : (Try.prog.info? 5).map (fun i => (i.zero, i.size, i.bytes)) = some (some (.int .u8 0), 1, 1) := by kernel_rfl
theorem info54 : (Try.prog.info? 54).map (fun i => (i.zero, i.size, i.bytes)) = some (some (.pointer none), 1, 8) := by kernel_rfl

theorem fn_eq (w : World) : (binOp .eql 25 (.func (.func 10) #[] #[]) .nilFunc).run Try.prog w = .ok (.bool false) w := by kernel_rfl
theorem nil_eq (w : World) : (binOp .eql 25 .nilFunc .nilFunc).run Try.prog w = .ok (.bool true) w := by kernel_rfl

theorem ok_nil (w : World) : Calls Try.prog 28 #[.pointer none] w fun e w' => e = .returned (.bool false) ∧ w = w' := by
  go_enter Try.func28, Try.ntmps28
  go_wp2
  go_ret
  exact ⟨rfl, rfl⟩
theorem ok_any (b : Nat) (m : Bool) (w : World) (h : w.cell? ⟨b, 0, none⟩ = some (.bool m)) :
    Calls Try.prog 28 #[.pointer (some ⟨b, 0, none⟩)] w fun e w' => e = .returned (.bool m) ∧ w = w' := by
  go_enter Try.func28, Try.ntmps28
  go_wp2
  go_ret
  exact ⟨rfl, rfl⟩
theorem ok_yes {b : Nat} {fv : Value} {hf : Bool} {h : Shape} {s : Sk} {w : World} (i : StackIs w b fv hf h s) :
    Calls Try.prog 28 #[.pointer (some ⟨b, 0, none⟩)] w fun e w' => e = .returned (.bool true) ∧ w = w' :=
  ok_any b true w (by rw [cell_blk i.blk]; rfl)

def MakePost (w : World) (hf : Bool) (nm tx : ByteArray) (e : Ending) (w' : World) : Prop :=
  e = .returned (.tuple #[.string (str ((mk hf nm.toList tx.toList).getD [])), .bool (mk hf nm.toList tx.toList).isSome]) ∧ Below w.heap.size w w'

set_option maxHeartbeats 800000 in
theorem make_any {b : Nat} {fv : Value} {hf : Bool} {h : Shape} {s : Sk} {w : World} (i : StackIs w b fv hf h s) (nm tx : ByteArray) (hl : tx.size ≤ 1099511627776) :
    Calls Try.prog 29 #[.pointer (some ⟨b, 0, none⟩), .string nm, .string tx] w (MakePost w hf nm tx) := by
  have c1 := cell_blk i.blk 1
  simp at c1
  by_cases h0 : nm.toList = []
  · have HM : Hid (mk hf nm.toList tx.toList = some tx.toList) := by show _ = _; unfold mk; rw [if_pos h0]
    have e0 : nm.toList.isEmpty = true := by simpa using h0
    clear i
    go_enter Try.func29, Try.ntmps29
    go_wp2
    go_ret2
    exact ⟨by rw [HM.out, Option.getD_some, str_of]; rfl, Below.refl _ _⟩
  · have e0 : nm.toList.isEmpty = false := by simpa using h0
    rcases i.fn with ⟨rfl, rfl⟩ | ⟨rfl, rfl⟩
    · have HM : Hid (mk true nm.toList tx.toList = fl nm.toList tx.toList) := by show _ = _; unfold mk; rw [if_neg h0, if_pos rfl]
      have hfe := fn_eq
      clear i
      go_enter Try.func29, Try.ntmps29
      go_wp2_with (go_at_call 10; refine (filter_any nm tx _ hl).mono ?_; rintro e w1 ⟨rfl, hb⟩)
      go_ret2
      exact ⟨by rw [HM.out]; rfl, hb⟩
    · have HM : Hid (mk false nm.toList tx.toList = none) := by show _ = _; unfold mk; rw [if_neg h0]; rfl
      have hfe := nil_eq
      clear i
      go_enter Try.func29, Try.ntmps29
      go_wp2
      go_ret2
      exact ⟨by rw [HM.out]; rfl, Below.refl _ _⟩

/-- The row's cell of the k-th buffer. -/
theorem StackIs.rowCell {w : World} {b : Nat} {fv : Value} {hf : Bool} {h : Shape} {s : Sk} (i : StackIs w b fv hf h s) {k : Nat} {x : Bx} (hx : h.xs[k]? = some x) :
    ∃ g cap, h.vb = .slice (some ⟨g, 0, none⟩) s.bufs.length cap ∧ s.bufs.length ≤ cap ∧ cap ≤ maxLen ∧ w.cell? ⟨g, k, none⟩ = some (.pointer (some ⟨x.p, 0, none⟩)) ∧ g < w.heap.size := by
  have hne : rowOf h.xs ≠ [] := by
    intro e
    have := congrArg List.length e
    simp [rowOf] at this
    rw [this] at hx; simp at hx
  obtain ⟨g, cap, hv, hc, hm, hg⟩ := i.rows.addr hne
  obtain ⟨ao, cap', hv', _, _, hl, _⟩ := i.rows.any
  rw [hv] at hv'
  cases hv'
  obtain ⟨g', off, e, _, _, hcl⟩ := hl k [.pointer (some ⟨x.p, 0, none⟩)] (by unfold rowOf; rw [List.getElem?_map, hx]; rfl)
  cases e
  have := hcl 0 _ rfl
  rw [Nat.mul_one, Nat.zero_add, Nat.add_zero] at this
  have hll : (rowOf h.xs).length = s.bufs.length := by simp [rowOf, i.len]
  rw [hll] at hv hc
  exact ⟨g, cap, hv, hc, hm, this, hg⟩
theorem StackIs.rowForm {w : World} {b : Nat} {fv : Value} {hf : Bool} {h : Shape} {s : Sk} (i : StackIs w b fv hf h s) : ∃ ao cap, h.vb = .slice ao s.bufs.length cap := by
  obtain ⟨ao, cap, hv, _⟩ := i.rows.any
  have hll : (rowOf h.xs).length = s.bufs.length := by simp [rowOf, i.len]
  rw [hll] at hv
  exact ⟨ao, cap, hv⟩
theorem StackIs.at {w : World} {b : Nat} {fv : Value} {hf : Bool} {h : Shape} {s : Sk} (i : StackIs w b fv hf h s) {k : Nat} (hk : k < s.bufs.length) : ∃ x, h.xs[k]? = some x :=
  ⟨_, List.getElem?_eq_getElem (by rw [i.len]; exact hk)⟩

/-- top, where there is a buffer; and where there is none. -/
theorem top_none {b : Nat} {fv : Value} {hf : Bool} {h : Shape} {s : Sk} {w : World} (i : StackIs w b fv hf h s) (h0 : s.bufs.length = 0) :
    Calls Try.prog 27 #[.pointer (some ⟨b, 0, none⟩)] w fun e w' => e = .returned (.pointer none) ∧ w = w' := by
  obtain ⟨ao, cap, hv⟩ := i.rowForm
  have c0 := cell_blk i.blk 0
  have c2 := cell_blk i.blk 2
  simp at c0 c2
  rw [hv, h0] at c2
  clear i hv
  go_enter Try.func27, Try.ntmps27
  go_wp2_with (go_at_call 28; refine (ok_any _ _ _ c0).mono ?_; rintro e w' ⟨rfl, rfl⟩)
  go_ret
  exact ⟨rfl, rfl⟩
theorem top_some {b : Nat} {fv : Value} {hf : Bool} {h : Shape} {s : Sk} {w : World} (i : StackIs w b fv hf h s) {M : Nat} (hM : s.bufs.length = M + 1) {x : Bx} (hx : h.xs[M]? = some x) :
    Calls Try.prog 27 #[.pointer (some ⟨b, 0, none⟩)] w fun e w' => e = .returned (.pointer (some ⟨x.p, 0, none⟩)) ∧ ∃ n, w' = w.drewN n := by
  obtain ⟨g, cap, hv, -, -, hc, -⟩ := i.rowCell hx
  have c0 := cell_blk i.blk 0
  have c2 := cell_blk i.blk 2
  simp at c0 c2
  rw [hv, hM] at c2
  have hd := i.ok.deep
  rw [hM] at hd
  clear i hv hM
  go_enter Try.func27, Try.ntmps27
  go_wp2_with (go_at_call 28; refine (ok_any _ _ _ c0).mono ?_; rintro e w' ⟨rfl, rfl⟩)
  go_quiet (fail)
  go_wp2
  go_ret
  exact ⟨rfl, _, rfl⟩
end Go.Proofs.Ytoomffplaopijaa
