/-
  ListWalks: the row and the tied card. No condition.
-/
import Derived.Test.YtgpdhmgbmhfooaaDoorWalks07
import Derived.Test.YtgpdhmgbmhfooaaDoorLaid07
import Derived.Test.YtgpdhmgbmhfooaaDoorScript07
import Derived.Test.YtgpdhmgbmhfooaaDoorLaw
import Derived.Test.YtgpdhmgbmhfooaaDoorTie
import Derived.Test.YtgpdhmgbmhfooaaDoorCards
import Derived.SevenTiedAt
import Derived.Stop.Joined
namespace Go.Proofs.YtgpdhmgbmhfooaaDoor
open Go.RowKit Go.ChangeShapes Go.WideShapes Go.ChangeAt
open Go.ChangeMaps (open_string shut_string)

theorem wf_u8 {n : Int} (h : (Lit.int .u8 n).wf = true) : 0 ≤ n ∧ n ≤ 255 := by
  have e1 : IntKind.u8.min = 0 := rfl
  have e2 : IntKind.u8.max = 255 := rfl
  simp [Lit.wf, e1, e2] at h
  omega
theorem ownC07 : ownKnob Tryd.prog.godebug = none := by kernel_rfl
theorem laidOutC07 : laidOutB Tryd.prog = true := by kernel_rfl

set_option maxRecDepth 100000 in
theorem walks_lifted (os : Os) (started : os.Started) (H : Type) (enc : TypeId × Value → H) :
    ReturnsInHanded {} Tryd.checked os 7 .any (fun w args => (Rows.listWalksSpec.pre enc Tryd.prog Tryd.f7 Rows.listWalksRow.domain false w args ∧ laidMetH Tryd.prog laidL7 w) ∧ sizedMet enc Tryd.prog Tryd.f7 (OpenSpec.ofChange Rows.listWalksSpec) false w args)
      (Rows.listWalksSpec.post enc Tryd.prog Tryd.f7 false true false false) := by
  refine returnsInHanded_of_change_and (C := Tryd.checked) (X := fun w _ => laidMetH Tryd.prog laidL7 w) (fun _ _ _ hh h => h.of_heap hh) ownC07 started (by kernel_rfl) Tryd.func7
    (ChangeSpec.witness_shaped (enc := enc) (C := Tryd.checked) (os := os) (X := fun w _ => laidMetH Tryd.prog laidL7 w) false (World.laidAll Tryd.prog os laidL7) #[.slice none 0 0, .slice none 0 0, .int .u8 0] 8 (World.laidAll_os _ _ _)
      (World.shaped_of_ZipB (by kernel_rfl) (by kernel_rfl)) (by kernel_rfl) (by kernel_rfl) (by kernel_rfl)
      (by rw [MakeChecks.laidMetH_plain _ _ _ (by kernel_rfl)]; exact laidMet_laidAll _ (by kernel_rfl) (by kernel_rfl))) ?_
  intro W base args ds gs before hval0 hW _ hsz0 hL _
  have hsz : (DataW.weightsEach Tryd.prog (Tryd.f7.params.toList ++ Rows.listWalksSpec.plain.varTypes Tryd.prog) (ds ++ gs)).all (· ≤ reachBytes) = true := hsz0
  clear hsz0
  have hval : ∀ (j : Nat) t v, Tryd.f7.params[j]? = some t → args[j]? = some v → Value.okWide Tryd.prog W .any base t v := hval0
  have hW' := hW
  obtain ⟨p, q, hA0, hV, rfl, _, _⟩ := hW
  have hA : DataW.TrodAll enc Tryd.prog W 0 (fun _ => true) true Tryd.f7.params.toList args.toList ds p := hA0
  rw [Tryd.params7] at hA hval hsz
  obtain ⟨v0, v1, v2, d0, d1, d2, p0, p1, p2, rfl, rfl, rfl, h0, h1, h2⟩ := trodAll_three hA
  obtain ⟨rfl, rfl⟩ := trodVars_none hV
  obtain ⟨ao0, cap0, acts0, rfl, hl0, hg0, hn0⟩ := open_acts (hval 0 34 v0 rfl rfl) (reach_arg hsz (j := 0) rfl rfl) h0
  obtain ⟨ao1, cap1, acts1, rfl, hl1, hg1, hn1⟩ := open_acts (hval 1 34 v1 rfl rfl) (reach_arg hsz (j := 1) rfl rfl) h1
  obtain ⟨lv, rfl, rfl, rfl, hlv⟩ := open_int Tryd.underlying5 (hval 2 5 v2 rfl rfl) h2
  refine (walks_any cap0 ao0 acts0 cap1 ao1 acts1 lv W hl0 hg0 (by omega) hl1 hg1 (by omega) (wf_u8 hlv).1 (wf_u8 hlv).2 (tabs_of_laid7 hL)).mono fun e W' ⟨he, hb⟩ => ?_
  exact ⟨_, he, law_post (tb := 4) laidOutC07 (by kernel_rfl) rfl Tryd.underlying4 rfl rfl hW' hb⟩

theorem walks_holds : Rows.ListWalksSaid :=
  OpenClaim.holds_of_wide 7 Tryd.f7 rfl rfl rfl rfl rfl rfl rfl ⟨rfl, rfl, rfl, rfl, rfl⟩ rfl rfl rfl rfl rfl (by kernel_rfl) Tryd.func7 (by kernel_rfl)
    (of_decide_eq_true (by kernel_rfl)) (by unfold Func.isWrapper; first | (rw [if_pos (by decide +kernel)]; kernel_rfl) | (rw [if_neg (by decide +kernel)]; exact ⟨rfl, rfl⟩))
    (fun os started H enc _ => walks_lifted os started H enc)
theorem walks_card : Rows.ListWalksCardSaid :=
  Claim7.holds_tied_plain_at .later [] [.data, .data, .data, .sentinel, .sentinel] true (true, "4a36253eb800c84169cbf35e5a2fbc99db8e0e4fa8da76b8e7d986cfa14332c8") true walks_holds (fun _ h => by cases h) (by kernel_rfl) (fun _ h => by cases h) listWalks_row_tie rfl ⟨rfl, rfl⟩ (by kernel_rfl) rfl
    (fun f fn hf hfn => by
      obtain rfl : f = 7 := Option.some.inj ((show Tryd.prog.funcNamed "ostler/ostlerlaw07.ListWalks" = some 7 by kernel_rfl).symm.trans hf) |>.symm
      obtain rfl : fn = Tryd.f7 := (Option.some.inj (Tryd.func7.symm.trans hfn)).symm
      exact ⟨by kernel_rfl, fun j t ht => by
        rw [Tryd.params7] at ht
        have hm : t ∈ [34, 34, 5] := by simpa using Array.mem_of_getElem? ht
        have hall : ([34, 34, 5].all fun u => !Tryd.prog.wantsStandIn u) = true := by kernel_rfl
        exact (show Tryd.prog.wantsStandIn t = false by simpa using List.all_eq_true.1 hall t hm)⟩)
    (by kernel_rfl)
end Go.Proofs.YtgpdhmgbmhfooaaDoor
