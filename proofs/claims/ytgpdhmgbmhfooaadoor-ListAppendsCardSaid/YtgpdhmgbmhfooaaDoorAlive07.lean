/-
  The walk of the laws' alive of lists.
-/
import Derived.Test.YtgpdhmgbmhfooaaDoorAppend07
namespace Go.Proofs.YtgpdhmgbmhfooaaDoor
open Go.RowKit

/-- A list of the call's own: all its parts are new, nothing that was there has turned. -/
structure Mine (w W : World) (b : Nat) (sh : Bool) (v : Value) (mb : Nat) (l : LS) : Prop where
  lst : ListIs W b sh v mb l
  below : Below w.heap.size w W
  b0 : w.heap.size ≤ b
  v0 : ∀ g, v.ownBlock = some g → w.heap.size ≤ g
  m0 : w.heap.size ≤ mb
theorem Mine.turned {w W W' : World} {b : Nat} {sh : Bool} {v : Value} {mb : Nat} {l : LS} {sh' : Bool} {v' : Value} {mb' : Nat} {l' : LS} (h : Mine w W b sh v mb l) (hl : ListIs W' b sh' v' mb' l') (hm : Mod (Foot b sh v mb) W W') (hg : Goes W.heap.size sh v mb sh' v' mb') : Mine w W' b sh' v' mb' l' := by
  have hsz := h.below.size
  refine ⟨hl, ?_, h.b0, fun g e => ?_, ?_⟩
  · refine h.below.trans (hm.belowB (fun k hk => ?_) hsz)
    rintro (e | ⟨_, e | e⟩)
    · have := h.b0; omega
    · have := h.v0 _ e; omega
    · have := h.m0; omega
  · rcases hg with ⟨_, rfl, _⟩ | ⟨_, h2, _⟩
    · exact h.v0 g e
    · rcases h2 g e with h' | ⟨_, h'⟩
      · omega
      · exact h.v0 g h'
  · rcases hg with ⟨_, _, rfl⟩ | ⟨_, _, h3⟩
    · exact h.m0
    · rcases h3 with h' | ⟨_, rfl⟩
      · omega
      · exact h.m0
theorem Mine.below' {w W W' : World} {b : Nat} {sh : Bool} {v : Value} {mb : Nat} {l : LS} (h : Mine w W b sh v mb l) (hb : Below W.heap.size W W') : Mine w W' b sh v mb l :=
  ⟨h.lst.below hb, h.below.trans (hb.mono h.below.size), h.b0, h.v0, h.m0⟩

abbrev t5 : ByteArray := ⟨#[53]⟩
theorem canon5 : canonP t5.toList = some 5 := by
  have h : Lib.itoa 5 = t5.toList := by
    have h5 : Lib.decDigits 5 = [53] := by rw [decDigits_lt (by decide)]; rfl
    rw [bl_eq]
    show Lib.decDigits 5 = [53]
    exact h5
  rw [← h]
  exact canonP_itoa (by decide) (by decide)
theorem good5 : (K.mk true 0 t5).Good := ⟨by decide, by decide, by decide⟩
theorem norm5 : (K.mk true 0 t5).norm = ⟨false, 5, ⟨#[]⟩⟩ := by
  show (match canonP t5.toList with | some n => K.mk false n ⟨#[]⟩ | none => K.mk true 0 t5) = _
  rw [canon5]
theorem set5 : setP ⟨true, 0, t5⟩ 70 LS.new = (0, ⟨[(⟨false, 5, ⟨#[]⟩⟩, 70)], 6⟩) := by
  unfold setP
  rw [norm5]
  rfl
theorem append5 : appendP 71 ⟨[(⟨false, 5, ⟨#[]⟩⟩, 70)], 6⟩ = ((⟨false, 6, ⟨#[]⟩⟩, 0), ⟨[(⟨false, 5, ⟨#[]⟩⟩, 70), (⟨false, 6, ⟨#[]⟩⟩, 71)], 7⟩) := by
  have h : setP ⟨false, 6, ⟨#[]⟩⟩ 71 ⟨[(⟨false, 5, ⟨#[]⟩⟩, 70)], 6⟩ = (0, ⟨[(⟨false, 5, ⟨#[]⟩⟩, 70), (⟨false, 6, ⟨#[]⟩⟩, 71)], 7⟩) := by
    unfold setP setN
    rw [K.norm_num]
    have hf : findK ⟨false, 6, ⟨#[]⟩⟩ [(⟨false, 5, ⟨#[]⟩⟩, 70)] = none := findK_none.2 (by simp)
    simp only [hf]
    rfl
  unfold appendP
  rw [if_neg (by decide)]
  simp only [h, if_true]
theorem get5 : getP ⟨false, 5, ⟨#[]⟩⟩ ⟨[(⟨false, 5, ⟨#[]⟩⟩, 70), (⟨false, 6, ⟨#[]⟩⟩, 71)], 7⟩ = (70, true) := by
  unfold getP
  rw [K.norm_num]
  have hf : findK ⟨false, 5, ⟨#[]⟩⟩ [(⟨false, 5, ⟨#[]⟩⟩, 70), (⟨false, 6, ⟨#[]⟩⟩, 71)] = some 0 := by
    unfold findK
    rw [List.findIdx?_cons, if_pos (K.same_self _)]
  rw [hf]
  rfl
set_option maxRecDepth 100000 in
set_option maxHeartbeats 3200000 in
theorem lalive_any (w : World) (ht : Tabs w) : Calls Tryd.prog 18 #[] w (BoolPost w true) := by
  have HTS := Lib.hid ht
  clear ht
  have HS : ∀ W b sh v mb, Tabs W → ListIs W b sh v mb LS.new → Calls Tryd.prog 19 #[.pointer (some ⟨b, 0, none⟩), .agg #[.bool true, .int .i64 0, .string t5], .int .i64 70] W (SetPost W b sh v mb (0, ⟨[(⟨false, 5, ⟨#[]⟩⟩, 70)], 6⟩)) := fun W b sh v mb hT hL => by
    rw [← set5]; exact set_any (k := ⟨true, 0, t5⟩) 70 good5 W hT hL
  have HP : ∀ W b sh v mb, Tabs W → ListIs W b sh v mb ⟨[(⟨false, 5, ⟨#[]⟩⟩, 70)], 6⟩ → Calls Tryd.prog 24 #[.pointer (some ⟨b, 0, none⟩), .int .i64 71] W fun e w' => e = .returned (.tuple #[.agg #[.bool false, .int .i64 6, .string ⟨#[]⟩], .int .i64 0]) ∧
      ∃ sh' v' mb', ListIs w' b sh' v' mb' ⟨[(⟨false, 5, ⟨#[]⟩⟩, 70), (⟨false, 6, ⟨#[]⟩⟩, 71)], 7⟩ ∧ Mod (Foot b sh v mb) W w' ∧ Goes W.heap.size sh v mb sh' v' mb' := fun W b sh v mb hT hL => by
    have h := append_any 71 W hT hL
    rw [append5] at h
    exact h
  have HG : ∀ W b sh v mb, Tabs W → ListIs W b sh v mb ⟨[(⟨false, 5, ⟨#[]⟩⟩, 70), (⟨false, 6, ⟨#[]⟩⟩, 71)], 7⟩ → Calls Tryd.prog 20 #[.pointer (some ⟨b, 0, none⟩), .agg #[.bool false, .int .i64 5, .string ⟨#[]⟩]] W (GetPost W (70, true)) := fun W b sh v mb hT hL => by
    rw [← get5]; exact get_any (k := ⟨false, 5, ⟨#[]⟩⟩) ⟨by decide, by decide, by decide⟩ W hT hL
  go_enter Tryd.func18, Tryd.ntmps18
  go_wp2_with fail
  refine (lnew_any _).mono ?_
  rintro e w1 ⟨b, mb, rfl, i1, hb1, hm1, hbel⟩
  have M1 : Hid (Mine w w1 b false (.slice none 0 0) mb LS.new) := ⟨i1, hbel, hb1, by simp [Value.ownBlock], hm1⟩
  clear i1 hb1 hm1 hbel
  go_wp2_with fail
  refine (HS _ _ _ _ _ (HTS.out.mono M1.out.below) M1.out.lst).mono ?_
  rintro e w2 ⟨rfl, sh2, v2, mb2, i2, m2, g2⟩
  have M2 := Lib.hid (M1.out.turned i2 m2 g2)
  clear M1 i2 m2 g2 HS
  go_wp2_with fail
  refine (HP _ _ _ _ _ (HTS.out.mono M2.out.below) M2.out.lst).mono ?_
  rintro e w3 ⟨rfl, sh3, v3, mb3, i3, m3, g3⟩
  have M3 := Lib.hid ((M2.out.turned i3 m3 g3).below' (below_alloc1 w3 (KB false 6 ⟨#[]⟩)))
  have hk := heap_alloc_new w3 (KB false 6 ⟨#[]⟩)
  have HK := Lib.hid hk
  clear M2 i3 m3 g3 HP hk
  go_wp2_with fail
  refine (HG _ _ _ _ _ (HTS.out.mono M3.out.below) M3.out.lst).mono ?_
  rintro e w4 ⟨rfl, hb⟩
  have M4 := Lib.hid (M3.out.below' hb)
  obtain ⟨a0, a1, a2⟩ := cells3 ((hb.block _ (lt_of_block HK.out)).trans HK.out)
  clear M3 hb HG HK
  have HL : Calls Tryd.prog 21 #[.pointer (some ⟨b, 0, none⟩)] w4 fun e w' => e = .returned (.int .i64 2) ∧ w4 = w' := llen_any w4 M4.out.lst
  have HX : Calls Tryd.prog 23 #[.pointer (some ⟨b, 0, none⟩)] w4 fun e w' => e = .returned (.int .i64 7) ∧ w4 = w' := lnext_any w4 M4.out.lst
  go_wp2_with (first
    | (go_at_call 21; refine HL.mono ?_; rintro e w' ⟨rfl, rfl⟩)
    | (go_at_call 23; refine HX.mono ?_; rintro e w' ⟨rfl, rfl⟩))
  go_ret
  exact ⟨rfl, M4.out.below⟩
end Go.Proofs.YtgpdhmgbmhfooaaDoor
