/-
  HeadNobody: the row and the tied card. No condition.
-/
import Derived.Test.YthnhpnmopjbaoaaDoorNobLaw11
import Derived.Test.YthnhpnmopjbaoaaDoorLaid21
import Derived.Test.YthnhpnmopjbaoaaDoorLaw
import Derived.Test.YthnhpnmopjbaoaaDoorTie
import Derived.Test.YthnhpnmopjbaoaaDoorCards
import Derived.SevenTiedAt
import Derived.Stop.Joined
namespace Go.Proofs.YthnhpnmopjbaoaaDoor
open Go.RowKit Go.ChangeShapes Go.WideShapes Go.ChangeAt
open Go.ChangeMaps (open_string shut_string)

abbrev laidL5 : List (String × DataW Unit) := [("math/bits.deBruijn32tab", Rows.laid_math_bits_deBruijn32tab), ("math/bits.deBruijn64tab", Rows.laid_math_bits_deBruijn64tab), ("internal/strconv.uint64pow10", Rows.laid_internal_strconv_uint64pow10), ("strconv.ErrRange", Rows.laid_strconv_ErrRange), ("strconv.ErrSyntax", Rows.laid_strconv_ErrSyntax)]
theorem tabs_of_laid5 {W : World} (hL0 : laidMetH Tryd.prog laidL5 W) (hS : W.ShapedOpen Tryd.prog) : Tabs W := by
  rw [MakeChecks.laidMetH_plain _ _ _ (by kernel_rfl)] at hL0
  have h1 := hL0.tail.tail
  have hp : Lib.TabIs Tryd.prog W "internal/strconv.uint64pow10" .u64 Lib.pow10Tab := by
    rw [pow_data] at h1
    exact Lib.tabIs_of_head gPow tPow Tryd.underlying143 Tryd.underlying125 (by kernel_rfl) (by kernel_rfl) h1
  have h2 := h1.tail
  obtain ⟨a1, s1, hv1, -, -, -⟩ := laid_sentinel h2.tail gSyn tSyn Tryd.underlying106 rowE Tryd.underlying157 Tryd.underlying159 rfl rfl Tryd.underlying9 (by kernel_rfl) (by kernel_rfl)
  exact ⟨hp, ⟨_, _, hv1⟩, mlen_of_shape hS⟩
theorem cells55 : Tryd.prog.cellsOf 55 = 6 := by kernel_rfl
theorem cells03 : Tryd.prog.cellsOf 3 = 1 := by kernel_rfl
theorem cells04 : Tryd.prog.cellsOf 4 = 1 := by kernel_rfl
theorem cells09 : Tryd.prog.cellsOf 9 = 1 := by kernel_rfl
set_option maxRecDepth 100000 in
theorem open_act {H : Type} {enc : TypeId × Value → H} {W : World} {base : Nat} {v : Value} {d : DataW H} {p : List MemPlace} (hv : Value.okWide Tryd.prog W .any base 55 v) (h : DataW.Trod enc Tryd.prog W 0 (fun _ => true) true 55 v d p) :
    ∃ (k n : Int) (s t u : ByteArray) (r : Bool), v = .agg #[.int .i64 k, .string s, .string t, .string u, .bool r, .int .i64 n] := by
  obtain ⟨cs, rfl, hcs⟩ := okWide_struct Tryd.underlying55 hv
  obtain ⟨fuel, hf⟩ := h
  obtain ⟨xs, f, _, hd, _, hxl, hg⟩ := DataW.trod_struct Tryd.underlying55 hf
  rw [cells55] at hcs
  obtain ⟨l⟩ := cs
  match l, hcs with
  | [v0, v1, v2, v3, v4, v5], _ =>
    have g0 := hg 0 _ rfl
    have g1 := hg 1 _ rfl
    have g2 := hg 2 _ rfl
    have g3 := hg 3 _ rfl
    have g4 := hg 4 _ rfl
    have g5 := hg 5 _ rfl
    simp [Value.cells, cells03, cells04, cells09] at g0 g1 g2 g3 g4 g5
    match xs, hxl with
    | [y0, y1, y2, y3, y4, y5], _ =>
      simp at g0 g1 g2 g3 g4 g5
      obtain ⟨a0, e0, _⟩ := DataW.trod_int Tryd.underlying3 g0
      obtain ⟨a1, e1, _⟩ := DataW.trod_string Tryd.underlying9 g1
      obtain ⟨a2, e2, _⟩ := DataW.trod_string Tryd.underlying9 g2
      obtain ⟨a3, e3, _⟩ := DataW.trod_string Tryd.underlying9 g3
      obtain ⟨a4, e4, _⟩ := DataW.trod_bool Tryd.underlying4 g4
      obtain ⟨a5, e5, _⟩ := DataW.trod_int Tryd.underlying3 g5
      cases e0; cases e1; cases e2; cases e3; cases e4; cases e5
      exact ⟨a0, a5, a1, a2, a3, a4, rfl⟩
theorem own21 : ownKnob Tryd.prog.godebug = none := by kernel_rfl
theorem laidOut21 : laidOutB Tryd.prog = true := by kernel_rfl

set_option maxRecDepth 100000 in
theorem hnob_lifted (os : Os) (started : os.Started) (H : Type) (enc : TypeId × Value → H) :
    ReturnsInHanded {} Tryd.checked os 11 .any (fun w args => (Rows.headNobodySpec.pre enc Tryd.prog Tryd.f11 Rows.headNobodyRow.domain false w args ∧ laidMetH Tryd.prog laidL5 w) ∧ sizedMet enc Tryd.prog Tryd.f11 (OpenSpec.ofChange Rows.headNobodySpec) false w args)
      (Rows.headNobodySpec.post enc Tryd.prog Tryd.f11 false true false false) := by
  refine returns_shaped (C := Tryd.checked) (X := fun w _ => laidMetH Tryd.prog laidL5 w) (fun _ _ _ hh h => h.of_heap hh) own21 started (by kernel_rfl) Tryd.func11
    (ChangeSpec.witness_shaped (enc := enc) (C := Tryd.checked) (os := os) (X := fun w _ => laidMetH Tryd.prog laidL5 w) false (World.laidAll Tryd.prog os laidL5) #[.agg #[.int .i64 0, .string ⟨#[]⟩, .string ⟨#[]⟩, .string ⟨#[]⟩, .bool false, .int .i64 0]] 8 (World.laidAll_os _ _ _)
      (World.shaped_of_ZipB (by kernel_rfl) (by kernel_rfl)) (by kernel_rfl) (by kernel_rfl) (by kernel_rfl)
      (by rw [MakeChecks.laidMetH_plain _ _ _ (by kernel_rfl)]; exact laidMet_laidAll _ (by kernel_rfl) (by kernel_rfl))) ?_
  intro W base args ds gs before hval0 hW _ hsz0 hL hSh _
  have hsz : (DataW.weightsEach Tryd.prog (Tryd.f11.params.toList ++ Rows.headNobodySpec.plain.varTypes Tryd.prog) (ds ++ gs)).all (· ≤ reachBytes) = true := hsz0
  clear hsz0
  have hval : ∀ (j : Nat) t v, Tryd.f11.params[j]? = some t → args[j]? = some v → Value.okWide Tryd.prog W .any base t v := hval0
  have hW' := hW
  obtain ⟨p, q, hA0, hV, rfl, _, _⟩ := hW
  have hA : DataW.TrodAll enc Tryd.prog W 0 (fun _ => true) true Tryd.f11.params.toList args.toList ds p := hA0
  rw [Tryd.params11] at hA hval hsz
  obtain ⟨v0, d0, rfl, rfl, h0⟩ := trodAll_one hA
  obtain ⟨rfl, rfl⟩ := trodVars_none hV
  obtain ⟨k, n, s, t, u, r, rfl⟩ := open_act (hval 0 55 v0 rfl rfl) h0
  refine (hnobody_any k n s t u r W (tabs_of_laid5 hL hSh)).mono fun e W' ⟨he, hb⟩ => ?_
  exact ⟨_, he, law_post (tb := 4) laidOut21 (by kernel_rfl) rfl Tryd.underlying4 rfl rfl hW' hb⟩

theorem hnob_holds : Rows.HeadNobodySaid :=
  OpenClaim.holds_of_wide 11 Tryd.f11 rfl rfl rfl rfl rfl rfl rfl ⟨rfl, rfl, rfl, rfl, rfl⟩ rfl rfl rfl rfl rfl (by kernel_rfl) Tryd.func11 (by kernel_rfl)
    (of_decide_eq_true (by kernel_rfl)) (by unfold Func.isWrapper; first | (rw [if_pos (by decide +kernel)]; kernel_rfl) | (rw [if_neg (by decide +kernel)]; exact ⟨rfl, rfl⟩))
    (fun os started H enc _ => hnob_lifted os started H enc)
theorem hnob_card : Rows.HeadNobodyCardSaid :=
  Claim7.holds_tied_plain_at .later [] [.data, .data, .data, .sentinel, .sentinel] true (true, "0f28513d91e244bd6e3b98480db103aa4afb0ffb6050d2a94a7924f61ccbc748") true hnob_holds (fun _ h => by cases h) (by kernel_rfl) (fun _ h => by cases h) headNobody_row_tie rfl ⟨rfl, rfl⟩ (by kernel_rfl) rfl
    (fun f fn hf hfn => by
      obtain rfl : f = 11 := Option.some.inj ((show Tryd.prog.funcNamed "ostler/ostlerlaw11.HeadNobody" = some 11 by kernel_rfl).symm.trans hf) |>.symm
      obtain rfl : fn = Tryd.f11 := (Option.some.inj (Tryd.func11.symm.trans hfn)).symm
      exact ⟨by kernel_rfl, fun j t ht => by
        rw [Tryd.params11] at ht
        have hm : t ∈ [55] := by simpa using Array.mem_of_getElem? ht
        have hall : ([55].all fun u => !Tryd.prog.wantsStandIn u) = true := by kernel_rfl
        exact (show Tryd.prog.wantsStandIn t = false by simpa using List.all_eq_true.1 hall t hm)⟩)
    (by kernel_rfl)
end Go.Proofs.YthnhpnmopjbaoaaDoor
