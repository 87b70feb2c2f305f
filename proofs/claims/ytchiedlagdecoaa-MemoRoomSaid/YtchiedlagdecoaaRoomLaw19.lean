/-
  Which paths are there while nothing is given up for want of room: told by the calls so far, from the last one back.
-/
import Derived.Test.YtchiedlagdecoaaHist19
namespace Go.Proofs.Ytchiedlagdecoaa

/-- From the last call back: is the path there with that stamp? -/
def wantR (p : ByteArray) (st : Int) : List Cl → Bool
  | [] => false
  | b :: rest =>
    if kindOf b.kind = 3 ∧ b.u.tmod 8 = 0 then false
    else if b.path.toList ≠ p.toList ∨ kindOf b.kind = 3 then wantR p st rest
    else if kindOf b.kind = 0 ∧ b.stamp = st then wantR p st rest
    else decide (kindOf b.kind = 1 ∧ b.stamp = st)

theorem hit_some {us : List U} (h : Uniq us) (p : ByteArray) (st : Int) : (hitU p st us).isSome = true ↔ ∃ x ∈ us, x.path.toList = p.toList ∧ x.stamp = st := by
  rw [Option.isSome_iff_exists]
  constructor
  · rintro ⟨x, hx⟩
    obtain ⟨a, b, c⟩ := (hit_iff h p st x).1 hx
    exact ⟨x, a, b, c⟩
  · rintro ⟨x, a, b, c⟩
    exact ⟨x, (hit_iff h p st x).2 ⟨a, b, c⟩⟩
theorem bool_iff {a b : Bool} (h : a = true ↔ b = true) : a = b := by cases a <;> cases b <;> simp_all

theorem rev_take {acts : List Cl} {k : Nat} (hk : k < acts.length) : (acts.take (k + 1)).reverse = acts[k] :: (acts.take k).reverse := by
  rw [List.take_succ_eq_append_getElem hk, List.reverse_append]; rfl

/-- While there is room. -/
theorem room_hist (most : Int) (acts : List Cl) (h0 : (acts.length : Int) ≤ most) : ∀ k, k ≤ acts.length → ∀ p st, (hitU p st (runS most (acts.take k)).us).isSome = wantR p st (acts.take k).reverse
  | 0, _, p, st => by simp [runS, hitU, find, wantR]
  | k + 1, hk, p, st => by
    have hlt : k < acts.length := by omega
    have ih := room_hist most acts h0 k (by omega) p st
    have hq := (hist most (by omega) acts k (by omega)).1
    have hlen := (runS_bd most acts k (by omega)).len
    rw [rev_take hlt, runS_succ most acts k hlt]
    generalize acts[k] = b
    generalize hs : runS most (acts.take k) = s at *
    have hq' := hq.step most b.kind b.path b.stamp b.u
    have e : (step most b.kind b.path b.stamp b.u s).us = stepU most b.kind b.path b.stamp b.u s.us := rfl
    rw [e]
    unfold wantR
    have hr := kind_range b.kind
    by_cases h3 : kindOf b.kind = 3 ∧ b.u.tmod 8 = 0
    · rw [if_pos h3]
      unfold stepU
      rw [if_neg (by omega), if_neg (by omega), if_neg (by omega), if_pos h3.2]
      simp [hitU, find]
    · rw [if_neg h3]
      by_cases hp : b.path.toList ≠ p.toList ∨ kindOf b.kind = 3
      · rw [if_pos hp, ← ih]
        apply bool_iff
        rw [hit_some hq', hit_some hq]
        unfold stepU
        split
        · rename_i hc
          have hne := hp.resolve_right (by omega)
          refine ⟨fun ⟨x, hx, h1, h2⟩ => ⟨x, ((mem_get hq _ _ _).1 hx).1, h1, h2⟩, fun ⟨x, hx, h1, h2⟩ => ⟨x, (mem_get hq _ _ _).2 ⟨hx, fun e => absurd (e.symm.trans h1) hne⟩, h1, h2⟩⟩
        · split
          · rename_i hc
            have hne := hp.resolve_right (by omega)
            have hput : putU most b.path b.stamp b.u s.us = addU b.path b.stamp b.u s.us := by
              unfold putU
              simp only
              have := add_len b.path b.stamp b.u s.us
              rw [if_neg (by omega)]
            rw [hput]
            refine ⟨fun ⟨x, hx, h1, h2⟩ => ?_, fun ⟨x, hx, h1, h2⟩ => ⟨x, (mem_add hq _ _ _ _).2 (.inl ⟨hx, fun e => absurd (e.symm.trans h1) hne⟩), h1, h2⟩⟩
            rcases (mem_add hq _ _ _ _).1 hx with ⟨a, _⟩ | rfl
            · exact ⟨x, a, h1, h2⟩
            · exact absurd h1 hne
          · split
            · rename_i hc
              have hne := hp.resolve_right (by omega)
              exact ⟨fun ⟨x, hx, h1, h2⟩ => ⟨x, ((mem_drop hq _ _).1 hx).1, h1, h2⟩, fun ⟨x, hx, h1, h2⟩ => ⟨x, (mem_drop hq _ _).2 ⟨hx, fun e => absurd (e.symm.trans h1) hne⟩, h1, h2⟩⟩
            · rename_i hc1 hc2 hc3
              rw [if_neg (fun e => h3 ⟨by omega, e⟩)]
      · rw [if_neg hp]
        have hpe : b.path.toList = p.toList := Decidable.byContradiction fun e => hp (.inl e)
        have hk3 : ¬ kindOf b.kind = 3 := fun e => hp (.inr e)
        by_cases h0' : kindOf b.kind = 0 ∧ b.stamp = st
        · rw [if_pos h0', ← ih]
          apply bool_iff
          rw [hit_some hq', hit_some hq]
          unfold stepU
          rw [if_pos h0'.1]
          refine ⟨fun ⟨x, hx, h1, h2⟩ => ⟨x, ((mem_get hq _ _ _).1 hx).1, h1, h2⟩, fun ⟨x, hx, h1, h2⟩ => ⟨x, (mem_get hq _ _ _).2 ⟨hx, fun _ => h2.trans h0'.2.symm⟩, h1, h2⟩⟩
        · rw [if_neg h0']
          apply bool_iff
          rw [hit_some hq', decide_eq_true_iff]
          unfold stepU
          split
          · rename_i hc
            refine ⟨fun ⟨x, hx, h1, h2⟩ => ?_, fun ⟨e, _⟩ => by omega⟩
            have := ((mem_get hq _ _ _).1 hx).2 (h1.trans hpe.symm)
            exact absurd ⟨hc, this.symm.trans h2⟩ h0'
          · split
            · rename_i hc
              have hput : putU most b.path b.stamp b.u s.us = addU b.path b.stamp b.u s.us := by
                unfold putU
                simp only
                have := add_len b.path b.stamp b.u s.us
                rw [if_neg (by omega)]
              rw [hput]
              constructor
              · rintro ⟨x, hx, h1, h2⟩
                rcases (mem_add hq _ _ _ _).1 hx with ⟨_, a⟩ | rfl
                · exact absurd (h1.trans hpe.symm) a
                · exact ⟨hc, h2⟩
              · rintro ⟨_, h2⟩
                exact ⟨⟨b.path, b.stamp, b.u⟩, (mem_add hq _ _ _ _).2 (.inr rfl), hpe, h2⟩
            · split
              · rename_i hc
                refine ⟨fun ⟨x, hx, h1, h2⟩ => ?_, fun ⟨e, _⟩ => by omega⟩
                exact absurd (h1.trans hpe.symm) ((mem_drop hq _ _).1 hx).2
              · exact absurd (by omega) hk3
end Go.Proofs.Ytchiedlagdecoaa
