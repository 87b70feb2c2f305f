/-
  The walks of Drop and New.
-/
import Derived.Test.YtoomffplaopijaaGet12
namespace Go.Proofs.Ytoomffplaopijaa
open Go.RowKit

theorem popB_total {s : Sk} {M : Nat} {f : Bf} (hM : s.bufs.length = M + 1) (hf : s.bufs[M]? = some f) (ht : f.text = []) : (popB s).total = s.total := by
  have e : s.bufs = s.bufs.take M ++ [f] := by
    have hlt : M < s.bufs.length := by omega
    have h1 : s.bufs[M] = f := by rw [List.getElem?_eq_getElem hlt] at hf; exact Option.some.inj hf
    conv => lhs; rw [← List.take_length (l := s.bufs), hM, List.take_succ_eq_append_getElem hlt, h1]
  unfold Sk.total
  show s.bottom.length + bytesOf (s.bufs.take (s.bufs.length - 1)) = _
  rw [show s.bufs.length - 1 = M by omega]
  conv => rhs; rw [e]
  rw [bytesOf_append]
  simp [bytesOf, ht]
theorem popB_ok {hf : Bool} {s : Sk} (o : Ok hf s) {M : Nat} {f : Bf} (hM : s.bufs.length = M + 1) (h : s.bufs[M]? = some f) (ht : f.text = []) : Ok hf (popB s) :=
  ⟨by rw [popB_total hM h ht]; exact o.total, by show (s.bufs.take _).length ≤ 32; rw [List.length_take]; have := o.deep; omega, fun b hb => o.names b (List.mem_of_mem_take hb)⟩

/-- The top buffer goes: it is empty. -/
theorem StackIs.chop {w : World} {b : Nat} {fv : Value} {hf : Bool} {h : Shape} {s : Sk} (i : StackIs w b fv hf h s) {M g cap : Nat} {f : Bf} (hM : s.bufs.length = M + 1) (hv : h.vb = .slice (some ⟨g, 0, none⟩) (M + 1) cap)
    (hfk : s.bufs[M]? = some f) (ht : f.text = []) (n : Nat) : Left w b fv hf h (popB s) ((w.drewN n).setCell ⟨b, 2, none⟩ (.slice (some ⟨g, 0, none⟩) M cap)) := by
  have hbv : h.vb.ownBlock ≠ some b := fun e => by have := i.sep _ _ _ (own_00 h b) ((own_10 h b).trans e); simp at this
  have hgb : g ≠ b := fun e => hbv (by rw [hv, e]; rfl)
  refine i.less (.slice (some ⟨g, 0, none⟩) M cap) M (((Mod.refl _ w).drewN n).setCell _ _ (fun _ => rfl)) ?_ (by rw [hv]; rfl) ?_ (by show s.bufs.take _ = _; rw [show s.bufs.length - 1 = M by omega]) rfl (popB_ok i.ok hM hfk ht)
  · have t := set_blk (w := w.drewN n) i.blk 2 (.slice (some ⟨g, 0, none⟩) M cap)
    simp at t
    rw [t, popB_total hM hfk ht]
    rfl
  · have r := i.rows
    rw [hv] at r
    have hl : (rowOf h.xs).length = M + 1 := by unfold rowOf; rw [List.length_map, i.len, hM]
    have t := r.take M (by omega)
    have e : (rowOf h.xs).take M = rowOf (h.xs.take M) := by unfold rowOf; rw [List.map_take]
    rw [e] at t
    exact t.kept fun q e => Below.heap_setCell _ _ _ _ (fun e' => hgb (by cases e; exact e'))

theorem StackIs.drewN {w : World} {b : Nat} {fv : Value} {hf : Bool} {h : Shape} {s : Sk} (i : StackIs w b fv hf h s) (n : Nat) : StackIs (w.drewN n) b fv hf h s := i.stay ((Mod.refl _ w).drewN n)
theorem clean_len (s : Sk) : (clean s).bufs.length = s.bufs.length := by unfold clean; simp
theorem clean_top {s : Sk} {M : Nat} {f : Bf} (hM : s.bufs.length = M + 1) (h : s.bufs[M]? = some f) : (clean s).bufs[M]? = some ⟨f.name, []⟩ := by
  rw [clean_bufs hM h, List.getElem?_set_self (by omega)]

/-- Drop, said plainly. -/
def dropS (s : Sk) : Sk := popB (clean s)
theorem dropS_none {s : Sk} (h0 : s.bufs.length = 0) : dropS s = s := by
  unfold dropS
  rw [clean_none h0]
  have : s.bufs = [] := List.eq_nil_of_length_eq_zero h0
  unfold popB
  rw [this]
  cases s; simp at this; subst this; rfl
def DropPost (w : World) (b : Nat) (fv : Value) (hf : Bool) (h : Shape) (s : Sk) (e : Ending) (w' : World) : Prop := e = .returned (.tuple #[.string (str ((s.bufs[s.bufs.length - 1]?.map Bf.text).getD [])), .bool (s.bufs[s.bufs.length - 1]?).isSome]) ∧ Left w b fv hf h (dropS s) w'

set_option maxHeartbeats 800000 in
theorem drop_any {b : Nat} {fv : Value} {hf : Bool} {h : Shape} {s : Sk} {w : World} (i : StackIs w b fv hf h s) :
    Calls Try.prog 25 #[.pointer (some ⟨b, 0, none⟩)] w (DropPost w b fv hf h s) := by
  by_cases h0 : s.bufs.length = 0
  · have e0 : s.bufs[s.bufs.length - 1]? = none := by rw [List.getElem?_eq_none]; omega
    have HE := Lib.hid e0
    have I := Lib.hid i
    have H0 := Lib.hid h0
    clear i e0 h0
    go_enter Try.func25, Try.ntmps25
    go_wp2_with (go_at_call 12; refine (get_any I.out).mono ?_; rintro e w' ⟨rfl, n, rfl⟩; rw [HE.out])
    go_ret2
    exact ⟨by rw [HE.out]; rfl, by rw [dropS_none H0.out]; exact ⟨h, I.out.drewN n, (Mod.refl _ w).drewN n, fun _ x => .inl x⟩⟩
  · obtain ⟨M, x, f, hM, hx, hfk, e0⟩ := i.topAt h0
    have HE := Lib.hid e0
    have I := Lib.hid i
    have HM := Lib.hid hM
    have HF := Lib.hid hfk
    have hwr : IntKind.i64.wrap ((M : Int) + 1 - 1) = M := by rw [Int.add_sub_cancel]; exact wrap_in (by omega) (by have := i.ok.deep; omega)
    have hdeep := i.ok.deep
    rw [hM] at hdeep
    clear i e0 h0 hx hfk hM
    go_enter Try.func25, Try.ntmps25
    go_wp2_with (first | (go_at_call 12; refine (get_any I.out).mono ?_; rintro e w' ⟨rfl, n, rfl⟩; rw [HE.out]) | (go_at_call 26; refine (clean_any (I.out.drewN n)).mono ?_; rintro e w2 ⟨rfl, h2, i2, m2, f2⟩; obtain ⟨t2, ht2⟩ := i2.at (k := M) (by rw [clean_len, HM.out]; omega); obtain ⟨g, cap, hv, hcap, -, -, -⟩ := i2.rowCell ht2; rw [clean_len, HM.out] at hv hcap; have c2 := cell_blk i2.blk 2; have f2' := free_blk i2.blk 2; simp at c2; rw [hv] at c2; have I2 := Lib.hid i2; have M2 := Lib.hid m2; have F2 := Lib.hid f2; have HV := Lib.hid hv; clear i2 m2 f2 hv ht2))
    go_region
    go_wp2
    go_ret2
    refine ⟨by rw [HE.out]; rfl, ?_⟩
    refine Left.trans (h1 := h2) (((Mod.refl _ w).drewN n).trans' M2.out (fun _ _ x => x)) F2.out ?_
    exact I2.out.chop (by rw [clean_len]; exact HM.out) HV.out (clean_top HM.out HF.out) rfl 1
end Go.Proofs.Ytoomffplaopijaa
