/-
  BuffPieces: through buffers that make capitals, pieces come to the same as the whole at once, for all pieces and every depth. No condition.
-/
import Derived.Test.YtoomffplaopijaaPieces12
import Derived.Test.YtoomffplaopijaaLawW
namespace Go.Proofs.Ytoomffplaopijaa
open Go.RowKit Go.ChangeShapes Go.WideShapes Go.ChangeAt

theorem reach_num : reachBytes ≤ 140737488351232 := by decide
theorem open_texts_w {H : Type} {enc : TypeId × Value → H} {W : World} {base : Nat} {v : Value} {d : DataW H} {p : List MemPlace} (hv : Value.okWide Try.prog W .any base 38 v) (hr : InReach Try.prog 38 d) (h : DataW.Trod enc Try.prog W 0 (fun _ => true) true 38 v d p) :
    ∃ ao cap, ∃ xs : List ByteArray, v = .slice ao xs.length cap ∧ Lies W 1 ao (xs.map fun s => [.string s]) ∧ xs.length ≤ maxLen ∧ (∀ a ∈ xs, a.size ≤ 140737488351232) := by
  obtain ⟨a0, len, cap, rfl⟩ := okWide_slice Try.underlying38 hv
  obtain ⟨fuel, hf⟩ := h
  obtain ⟨ao, cap', acts, hcs, hle, hcm, hl, hg, -, -⟩ := open_rows_w (α := ByteArray) (cells := fun s => [.string s]) (good := fun a => a.size ≤ 140737488351232) Try.underlying38 Try.cells9 (by decide)
    (fun n cs x _ hr h => by
      obtain ⟨s, h, hx, hs⟩ := DataW.trod_string Try.underlying9 h
      rw [hx] at hr
      have := reach_text hr
      exact ⟨s, h, Nat.le_trans (Nat.le_of_eq (show s.size = s.data.toList.length from Array.length_toList.symm)) (Nat.le_trans this reach_num)⟩) hr hf
  simp only [Value.cells] at hcs
  obtain ⟨rfl, rfl, rfl⟩ : a0 = ao ∧ len = acts.length ∧ cap = cap' := by simpa using hcs
  exact ⟨a0, cap, acts, rfl, hl, Nat.le_trans hle hcm, hg⟩

set_option maxRecDepth 100000 in
theorem pieces_lifted (os : Os) (started : os.Started) (H : Type) (enc : TypeId × Value → H) :
    ReturnsInHanded {} Try.checked os 5 .any (Rows.buffPiecesSpec.pre6 enc Try.prog Try.f5 Rows.buffPiecesRow.domain false) (Rows.buffPiecesSpec.post enc Try.prog Try.f5 false true false false) := by
  refine returnsInHanded_of_change_sized (C := Try.checked) Try.own started (by kernel_rfl) Try.func5
    (ChangeSpec.witness6 (enc := enc) (C := Try.checked) false ⟨#[], #[.slice none 0 0, .int .u8 0], []⟩ 8 (by kernel_rfl) (by kernel_rfl) (by kernel_rfl) (by kernel_rfl)) ?_
  intro W base args ds gs before hval0 hW _ hz _
  have hval : ∀ (j : Nat) t v, Try.f5.params[j]? = some t → args[j]? = some v → Value.okWide Try.prog W .any base t v := hval0
  have hW' := hW
  obtain ⟨p, q, hA0, hV, rfl, hfz, hnd⟩ := hW
  have hA : DataW.TrodAll enc Try.prog W 0 (fun _ => true) true Try.f5.params.toList args.toList ds p := hA0
  rw [Try.params5] at hA hval
  obtain ⟨v0, v1, d0, d1, p0, p1, rfl, rfl, rfl, h0, h1⟩ := trodAll_two hA
  obtain ⟨rfl, rfl⟩ := trodVars_none hV
  obtain ⟨ao, cap, xs, rfl, hl, hn, hxs⟩ := open_texts_w (hval 0 38 v0 rfl rfl) (reach_arg hz (j := 0) rfl rfl) h0
  obtain ⟨t, rfl, rfl, rfl, hwf⟩ := open_int Try.underlying5 (hval 1 5 v1 rfl rfl) h1
  refine (pieces_any cap ao xs t W hl (by simpa [maxLen] using hn) hxs (by simp [Lit.wf, IntKind.min, IntKind.max, IntKind.signed, IntKind.bits] at hwf; omega)).mono fun e W' ⟨he, hb⟩ => ?_
  exact ⟨_, he, law_post (tb := 4) Try.laidOut (by kernel_rfl) rfl Try.underlying4 rfl rfl hW' hb⟩

theorem pieces_holds : Rows.BuffPiecesSaid :=
  OpenClaim.holds_of_wide 5 Try.f5 rfl rfl rfl rfl rfl rfl rfl ⟨rfl, rfl, rfl, rfl, rfl⟩ rfl rfl rfl rfl rfl (by kernel_rfl) Try.func5 (by kernel_rfl)
    (of_decide_eq_true (by kernel_rfl)) (by unfold Func.isWrapper; first | (rw [if_pos (by decide +kernel)]; kernel_rfl) | (rw [if_neg (by decide +kernel)]; exact ⟨rfl, rfl⟩))
    (fun os started H enc _ => pieces_lifted os started H enc)
end Go.Proofs.Ytoomffplaopijaa
