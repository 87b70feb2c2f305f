/-
  LinkWritten: the row and the card of the second form (bulk at most 1048576).
-/
import Derived.Test.YtobjmajkcfhpoaaDoorWp34
import Derived.Test.YtobjmajkcfhpoaaDoorWp35
import Derived.Test.YtobjmajkcfhpoaaDoorTie
import Derived.Test.YtobjmajkcfhpoaaDoorCards
import Derived.SevenTiedAt
import Derived.Stop.Joined
namespace Go.Proofs.YtobjmajkcfhpoaaDoor
open Go.RowKit Go.ChangeShapes Go.WideShapes Go.ChangeAt
set_option maxRecDepth 100000 in
theorem written_reads (os : Os) {H : Type} (enc : TypeId × Value → H) : ∃ places, DataW.whole enc Tryd.prog ((World.laidAll Tryd.prog os laidL17).forCall (fun _ _ => 0) ⟨#[], #[.slice none 0 0, .agg #[.string .empty, .int .i64 0, .bool false, .bool false, .string .empty, .slice none 0 0, .slice none 0 0, .slice none 0 0, .slice none 0 0, .slice none 0 0, .slice none 0 0]], []⟩).memory Tryd.f4.params.toList Rows.linkWrittenSpec.vars false (#[.slice none 0 0, .agg #[.string .empty, .int .i64 0, .bool false, .bool false, .string .empty, .slice none 0 0, .slice none 0 0, .slice none 0 0, .slice none 0 0, .slice none 0 0, .slice none 0 0]] : Array Value).toList 8 = some ([.nil, .agg [.lit (.string []), .lit (.int .i64 0), .lit (.bool false), .lit (.bool false), .lit (.string []), .nil, .nil, .nil, .nil, .nil, .nil]], [], places) :=
 ⟨[], by kernel_rfl⟩
set_option maxRecDepth 100000 in
theorem written_lifted (os : Os) (started : os.Started) (H : Type) (enc : TypeId × Value → H) (F : Stop.Interp) :
  ReturnsInHanded {} Tryd.checked os 4 .any ((Rows.OpenSpec.upto Rows.linkWrittenSpec).preRow enc Tryd.prog Tryd.f4 Rows.linkWrittenUptoRow.domain false Rows.linkWrittenUptoRow.laid) (((Rows.OpenSpec.upto Rows.linkWrittenSpec).at F).post enc Tryd.prog Tryd.f4 false true false false) := by
 obtain ⟨places, hx⟩ := written_reads os enc; refine returnsInHanded_of_row (C := Tryd.checked) (s := Rows.OpenSpec.upto Rows.linkWrittenSpec) own17 started (by kernel_rfl) Tryd.func4
  (witness_row_shaped (enc := enc) (C := Tryd.checked) false (World.laidAll Tryd.prog os laidL17) #[.slice none 0 0, .agg #[.string .empty, .int .i64 0, .bool false, .bool false, .string .empty, .slice none 0 0, .slice none 0 0, .slice none 0 0, .slice none 0 0, .slice none 0 0, .slice none 0 0]] (World.laidAll_os _ _ _) (World.shaped_of_ZipB (by kernel_rfl) (by kernel_rfl)) (by kernel_rfl)
   (OpenSpec.preRow_of_cond 8 hx (by kernel_rfl) (fun k hk => by cases hk; kernel_rfl) (by kernel_rfl)
    (show laidMetH Tryd.prog laidL17 _ by rw [MakeChecks.laidMetH_plain _ _ _ (by kernel_rfl)]; exact laidMet_laidAll _ (by kernel_rfl) (by kernel_rfl)))) ?_
 intro W base args ds gs before hval0 hW _ hcond _ hL hSh _; have hbulk : Rows.uptoBulkAll (ds ++ gs) ≤ 1048576 := of_decide_eq_true (hcond _ rfl); have hL : laidMetH Tryd.prog laidL17 W := hL; have hval : ∀ (j : Nat) t v, Tryd.f4.params[j]? = some t → args[j]? = some v → Value.okWide Tryd.prog W .any base t v := hval0; have hW' := hW; obtain ⟨p, q, hA0, hV, rfl, _, _⟩ := hW; have hA : DataW.TrodAll enc Tryd.prog W 0 (fun _ => true) true Tryd.f4.params.toList args.toList ds p := hA0; rw [Tryd.params4] at hA hval; obtain ⟨v0, v1, d0, d1, p0, p1, rfl, rfl, rfl, h0, h1⟩ := trodAll_two hA; obtain ⟨rfl, rfl⟩ := trodVars_none hV; obtain ⟨ao, cap, xs, rfl, hk, hok, hn, hs⟩ := open_classes_c (hval 0 22 v0 rfl rfl) (Nat.le_trans (bulks.part_le (by simp)) hbulk) h0; obtain ⟨x1, rfl, hx, hcx, hxn⟩ := open_class_c (hval 1 29 v1 rfl rfl) (Nat.le_trans (bulks.part_le (by simp)) hbulk) h1; have hb2 : Rows.uptoBulk d0 + Rows.uptoBulk d1 ≤ 1048576 := by
  have h9 := hbulk; simp only [List.append_nil, Rows.uptoBulkAll] at h9; omega
 obtain ⟨hU, hDx, hD⟩ := uni_two hok hx (by omega); refine (written_any hU ao cap xs x1 hk (fun x hx => (hok x hx).2.cap) hD hn hx.inn hDx (tabs_of_shape hSh)).mono fun e W' ⟨he, hb⟩ => ?_
 exact ⟨_, he, law_post (tb := 4) laidOut17 (by kernel_rfl) rfl Tryd.underlying4 rfl rfl hW' hb⟩
theorem written_holds : Rows.LinkWrittenUptoSaid :=
 OpenClaim.holds_of_cond 4 Tryd.f4 rfl rfl rfl rfl rfl rfl rfl ⟨rfl, rfl, rfl, rfl, rfl⟩ rfl rfl rfl rfl rfl (by kernel_rfl) Tryd.func4 (by kernel_rfl)
  (of_decide_eq_true (by kernel_rfl)) (by unfold Func.isWrapper; first | (rw [if_pos (by decide +kernel)]; kernel_rfl) | (rw [if_neg (by decide +kernel)]; exact ⟨rfl, rfl⟩))
  (fun os started H enc _ F => by rw [OpenClaim.pre_eq_preRow]; exact written_lifted os started H enc F)
theorem written_card : Rows.LinkWrittenUptoCardSaid :=
 Claim7.holds_tied_plain_at .later [] _ _ _ _ written_holds (fun _ h => by cases h) (by kernel_rfl) (fun _ h => by cases h) linkWrittenUpto_row_tie rfl ⟨rfl, rfl⟩ (by kernel_rfl) rfl
  (fun f fn hf hfn => by
   obtain rfl : f = 4 := Option.some.inj ((show Tryd.prog.funcNamed "ostler/ostlerlaw17.LinkWritten" = some 4 by kernel_rfl).symm.trans hf) |>.symm
   obtain rfl : fn = Tryd.f4 := (Option.some.inj (Tryd.func4.symm.trans hfn)).symm
   exact ⟨by kernel_rfl, fun j t ht => by
    rw [Tryd.params4] at ht
    have hm : t ∈ [22, 29] := by simpa using Array.mem_of_getElem? ht
    have hall : ([22, 29].all fun u => !Tryd.prog.wantsStandIn u) = true := by kernel_rfl
    exact (show Tryd.prog.wantsStandIn t = false by simpa using List.all_eq_true.1 hall t hm)⟩)
  (by kernel_rfl)
end Go.Proofs.YtobjmajkcfhpoaaDoor
