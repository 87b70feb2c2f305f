/-
  The walk of 'come': a text comes on a level.
-/
import Derived.Test.YtoomffplaopijaaWalk12
import Derived.Test.YtoomffplaopijaaPlainB12
namespace Go.Proofs.Ytoomffplaopijaa
open Go.RowKit

def ComePost (w : World) (b : Nat) (fv : Value) (hf : Bool) (h : Shape) (s' : Sk) (e : Ending) (w' : World) : Prop := e = .returned (.tuple #[]) ∧ Left w b fv hf h s' w'

set_option maxHeartbeats 1600000 in
theorem come_level {b : Nat} {fv : Value} {hf : Bool} {h : Shape} {s : Sk} {w : World} (i : StackIs w b fv hf h s) {k : Nat} (hk : k < s.bufs.length) (x : ByteArray) (ht : s.total + x.size ≤ 65536) :
    Calls Try.prog 30 #[.pointer (some ⟨b, 0, none⟩), .int .i64 ((k : Int) + 1), .string x] w (ComePost w b fv hf h (come s (k + 1) x.toList)) := by
  obtain ⟨bx, hx⟩ := i.at hk
  have hfk : s.bufs[k]? = some s.bufs[k] := List.getElem?_eq_getElem hk
  obtain ⟨g, cap, hv, hcl, -, hc, hg⟩ := i.rowCell hx
  obtain ⟨hb1, hb2⟩ := i.each k bx _ hx hfk
  have l3 : h.own b (3, k) = some bx.p := by rw [own_3, hx]; rfl
  have l4 : h.own b (4, k) = bx.tv.ownBlock := by rw [own_4, hx]; rfl
  have l1 : h.own b (1, 0) = some g := by rw [own_10, hv]; rfl
  have hbp : b ≠ bx.p := fun e => by have := i.sep _ _ _ (own_00 h b) (l3.trans (by rw [e])); simp at this
  have hbg : b ≠ g := fun e => by have := i.sep _ _ _ (own_00 h b) (l1.trans (by rw [e])); simp at this
  have hbt : bx.tv.ownBlock ≠ some b := fun e => by have := i.sep _ _ _ (own_00 h b) (l4.trans e); simp at this
  have hpt : bx.tv.ownBlock ≠ some bx.p := fun e => by have := i.sep _ _ _ l3 (l4.trans e); simp at this
  have c2 := cell_blk i.blk 2
  have c6 := cell_blk i.blk 6
  have f6 := free_blk i.blk 6
  simp at c2 c6
  rw [hv] at c2
  have hdeep := i.ok.deep
  have hwr : IntKind.i64.wrap ((s.total : Int) + (x.size : Int)) = (s.total : Int) + (x.size : Int) := wrap_in (by omega) (by omega)
  have hbl := lt_of_block i.blk
  -- the world behind the first store
  have B1 : (w.setCell ⟨b, 6, none⟩ (.int .i64 ((s.total : Int) + (x.size : Int)))).heap[b]? = some (.cells #[.bool true, fv, h.vb, h.bv, .int .i64 s.mark, .int .i64 s.first, .int .i64 ((s.total : Int) + (x.size : Int))] 50 (0, 0)) := set_blk i.blk 6 _
  have P1 : (w.setCell ⟨b, 6, none⟩ (.int .i64 ((s.total : Int) + (x.size : Int)))).heap[bx.p]? = some (.cells #[.string (str s.bufs[k].name), bx.tv] 57 (0, 0)) := set_other hb1 hbp.symm
  have T1 : OwnsB (w.setCell ⟨b, 6, none⟩ (.int .i64 ((s.total : Int) + (x.size : Int)))) 5 bx.tv s.bufs[k].text := Owns.kept hb2 fun q e => Below.heap_setCell _ _ _ _ (fun e' => hbt (by rw [e, e']))
  have hc1 : (w.setCell ⟨b, 6, none⟩ (.int .i64 ((s.total : Int) + (x.size : Int)))).cell? ⟨g, k, none⟩ = some (.pointer (some ⟨bx.p, 0, none⟩)) := by
    rw [← hc]; exact World.cell?_of_block (w := w) (Below.heap_setCell _ _ _ _ (fun e => hbg e.symm))
  have c2' : (w.setCell ⟨b, 6, none⟩ (.int .i64 ((s.total : Int) + (x.size : Int)))).cell? ⟨b, 2, none⟩ = some (.slice (some ⟨g, 0, none⟩) s.bufs.length cap) := by rw [cell_blk B1 2, hv]; rfl
  have M1 : Mod (fun j => j = b ∨ bx.tv.ownBlock = some j ∨ j = bx.p) w (w.setCell ⟨b, 6, none⟩ (.int .i64 ((s.total : Int) + (x.size : Int)))) := (Mod.refl _ w).setCell _ _ (fun _ => .inl rfl)
  have I := Lib.hid i
  have HM := Lib.hid M1
  have HB := Lib.hid B1
  have HP := Lib.hid P1
  have HT := Lib.hid T1
  have HX := Lib.hid hx
  have HF := Lib.hid hfk
  have hkl : (k : Int) < (s.bufs.length : Int) := by omega
  obtain ⟨ao, tcap, htv, -, -, -, -⟩ := T1.any
  have p1 := cell_blk hb1 1
  simp at p1
  rw [htv] at p1
  have HTV := Lib.hid htv
  have hlen : Hid (s.bufs[k].text.length + x.size ≤ 140737488355328) := by
    show _ ≤ _
    have := bytesOf_le hfk
    unfold Sk.total at ht
    omega
  have hbp' : bx.p ≠ b := fun e => hbp e.symm
  have hbg' : g ≠ b := fun e => hbg e.symm
  clear i hb1 hb2 l3 l4 l1 hv M1 B1 P1 T1 hx hfk htv hcl hc1 c2'
  have HT' : Hid (OwnsB (w.setCell ⟨b, 6, none⟩ (.int .i64 ((s.total : Int) + (x.size : Int)))) 5 (.slice ao s.bufs[k].text.length tcap) s.bufs[k].text) := by
    have := HT.out
    rw [HTV.out] at this
    exact this
  have hob : (Value.slice ao s.bufs[k].text.length tcap).ownBlock = bx.tv.ownBlock := by rw [HTV.out]
  have HOB := Lib.hid hob
  clear hob
  have hsz6 : (w.setCell ⟨b, 6, none⟩ (.int .i64 ((s.total : Int) + (x.size : Int)))).heap.size = w.heap.size := by simp
  have HSZ := Lib.hid hsz6
  clear hsz6
  go_enter Try.func30, Try.ntmps30
  go_wp2_with (at_builtin; refine wpList_append_str rfl (.tmp 30) (.tmp 31) 48 9 rfl 5 Try.underlying48 Try.underlying9 info5 (.slice ao s.bufs[k].text.length tcap) s.bufs[k].text rfl HT'.out x rfl hlen.out ?_; intro v2 w2 o2 g2 b2; obtain ⟨ao2, cap2, hv2, -, -, -, -⟩ := o2.any; subst hv2; have P2 := Lib.hid ((g2.block bx.p (lt_of_block HP.out) (by rw [HOB.out]; exact hpt.symm)).trans HP.out); have B2 := Lib.hid ((g2.block b (lt_of_block HB.out) (by rw [HOB.out]; exact hbt.symm)).trans HB.out); have q1 := cell_blk P2.out 1; have ff := free_blk P2.out 1; simp at q1; have O2 := Lib.hid o2; have G2 := Lib.hid g2; have X2 := Lib.hid b2; clear o2 g2 b2 c2 c6 f6 hc p1)
  go_end0
  refine ⟨rfl, ?_⟩
  have hp := lt_of_block HP.out
  rw [HSZ.out] at hp
  have x2 := X2.out
  rw [HOB.out, HSZ.out] at x2
  have g2 := G2.out
  have hn2 : ∀ q, (Value.slice ao2 (s.bufs[k].text ++ x.toList).length cap2).ownBlock = some q → q ≠ bx.p := by
    intro q e
    rcases x2 with h | ⟨j, h, hj⟩
    · rw [h] at e; exact fun e' => hpt (e' ▸ e)
    · rw [h] at e; cases e; omega
  have e1 := come_total HF.out x.toList
  rw [size_toList] at e1
  refine I.out.setText HX.out HF.out (.slice ao2 (s.bufs[k].text ++ x.toList).length cap2) (s.bufs[k].text ++ x.toList) ?_ ?_ ?_ ?_ ?_ (come_bufs HF.out x.toList) rfl (come_ok I.out.ok HF.out x.toList (by rw [size_toList]; exact ht))
  · exact (HM.out.grown g2 (fun j e _ => .inr (.inl (by rw [← HOB.out]; exact e)))).setCell _ _ (fun _ => .inr (.inr rfl))
  · rw [e1]
    exact set_other B2.out hbp
  · have := set_blk P2.out 1 (.slice ao2 (s.bufs[k].text ++ x.toList).length cap2)
    simpa using this
  · exact Owns.kept O2.out fun q e => Below.heap_setCell _ _ _ _ (hn2 q e)
  · rcases x2 with h | ⟨j, h, hj⟩
    · exact .inl h
    · exact .inr (.inr ⟨j, h, hj⟩)
end Go.Proofs.Ytoomffplaopijaa
