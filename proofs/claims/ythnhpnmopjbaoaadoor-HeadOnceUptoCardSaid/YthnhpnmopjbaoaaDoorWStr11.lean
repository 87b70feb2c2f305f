/-
  The walk of strings.Builder's WriteString.
-/
import Derived.Test.YthnhpnmopjbaoaaDoorBuild11
namespace Go.Proofs.YthnhpnmopjbaoaaDoor
open Go.RowKit Go.Shelf

set_option maxHeartbeats 1600000 in
set_option maxRecDepth 100000 in
theorem wstr_any {w : World} {b : Nat} {p v : Value} {l : Bs} (i : BuildIs w b p v l) (s : ByteArray) (hl : l.length + s.size ≤ 140737488355328) : Calls Tryd.prog 78 #[.pointer (some ⟨b, 0, none⟩), .string s] w (WritePost w b v (l ++ s.toList) (.tuple #[.int .i64 s.size, .nilIface])) := by
  have HC := check_any i
  have hbl := Lib.hid (lt_of_block i.blk)
  have HL := Lib.hid hl
  clear i hl
  go_enter Tryd.func78, Tryd.ntmps78
  go_wp2_with fail
  refine HC.mono ?_
  rintro e w1 ⟨rfl, i1, m1⟩
  have I1 := Lib.hid i1
  have M1 := Lib.hid m1
  obtain ⟨ao, cap, rfl, hlc, hcm, hno, -⟩ := OwnsB.any i1.own
  have x1 := cell_blk I1.out.blk 1
  have hO : Hid (OwnsB w1 5 (.slice ao l.length cap) l) := Lib.hid I1.out.own
  clear i1 m1 HC hlc hcm hno
  go_wp2_with (at_builtin; refine wpList_append_str rfl (.tmp 12) (.tmp 13) 95 9 rfl 5 Tryd.underlying95 Tryd.underlying9 info5 (.slice ao l.length cap) l (by rfl) hO.out s (by rfl) HL.out ?_; intro v3 w3 o3 g3 n3; obtain ⟨a7, c7, hv7, -⟩ := OwnsB.any o3; generalize (List.length _) = L7 at hv7; subst hv7; have O3 := Lib.hid o3; have G3 := Lib.hid (⟨g3, n3⟩ : _ ∧ _); have q1 := cell_blk ((g3.block b (lt_of_block I1.out.blk) (fun e => I1.out.ne e.symm)).trans I1.out.blk) 1; have f1 := free_blk ((g3.block b (lt_of_block I1.out.blk) (fun e => I1.out.ne e.symm)).trans I1.out.blk) 1; clear o3 g3 n3)
  go_ret2
  have hs1 := M1.out.size
  have hb := hbl.out
  have mB : Mod (fun k => k = b ∨ (Value.slice ao l.length cap).ownBlock = some k) w w3 := (M1.out.mono (fun _ _ e => .inl e)).grown G3.out.1 (fun k e _ => .inr e)
  have b3 : w3.heap[b]? = some (.cells #[.pointer (some ⟨b, 0, none⟩), .slice ao l.length cap] 112 (0, 0)) := (G3.out.1.block b (lt_of_block I1.out.blk) (fun e => I1.out.ne e.symm)).trans I1.out.blk
  have hne : (Value.slice a7 L7 c7).ownBlock ≠ some b := fun e => by
    rcases G3.out.2 with h | ⟨g, h, hg⟩
    · exact I1.out.ne (h ▸ e)
    · rw [h] at e; cases e; omega
  refine ⟨rfl, .slice a7 L7 c7, ⟨?_, ?_, hne, .inr rfl⟩, mB.setCell _ _ (fun _ => .inl rfl), ?_⟩
  · have := set_blk b3 1 (.slice a7 L7 c7)
    simpa using this
  · have m : Mod (fun k => k = b) w3 (w3.setCell ⟨b, 1, none⟩ (.slice a7 L7 c7)) := (Mod.refl _ _).setCell _ _ (fun _ => rfl)
    exact Owns.mod O3.out m (fun g e x => hne (by rw [e, x]))
  · rcases G3.out.2 with h | ⟨g, h, hg⟩
    · exact .inl h
    · exact .inr ⟨g, h, by omega⟩
end Go.Proofs.YthnhpnmopjbaoaaDoor
