/-
  JSON: the walk of the law's alive.
  JSON: the walk of the law JsonWrites.
  What the row's cell 'laid' and the world's shape give the walks of chapters 13 and 14.
  What the row's cell 'laid' and the world's shape give JSON's walks.
-/
import Derived.Test.YtnaefnojmiolbaaGreatDoorJw18
import Derived.Test.YtnaefnojmiolbaaGreatDoorJw31
import Derived.Test.YtnaefnojmiolbaaGreatDoorJw24
import Derived.Test.YtnaefnojmiolbaaGreatDoorJw8
import Derived.Test.YtnaefnojmiolbaaGreatDoorRows
import Derived.Lib.LaidU8T
import Derived.PinnedBridge
import Derived.Stop.LaidErr
import Derived.Lib.LaidTab
import Derived.LaidMore
import Derived.Lay
import Derived.Handed
import Derived.HandedShaped
import Derived.Shelf.Vars
import Derived.Test.YtnaefnojmiolbaaGreatDoorJw13
namespace Go.Proofs.YtnaefnojmiolbaaGreatDoor
open Go.RowKit Go.Shelf

attribute [local go_sem] yld_undef
/-- Rows lie in a block that holds them. -/
theorem lies_flat {w : World} {g : Nat} {ty : TypeId} {fr : Nat × Nat} {size : Nat} {rows : List (List Value)} (h : w.heap[g]? = some (.cells rows.flatten.toArray ty fr)) (hl : ∀ r ∈ rows, r.length = size) : Lies w size (some ⟨g, 0, none⟩) rows := by
  intro i r hr
  refine ⟨g, 0, rfl, lt_of_block h, hl r (List.mem_of_getElem? hr), fun j u hu => ?_⟩
  have hj : j < size := by
    have := (List.getElem?_eq_some_iff.1 hu).1
    rw [hl r (List.mem_of_getElem? hr)] at this
    exact this
  have := flatten_get size rows hl i r j hr hj
  rw [cell_blk h, Nat.zero_add]
  rw [hu] at this
  simpa using this
/-- Leaves lie in a block that holds them. -/
theorem vin_flat {w : World} {g : Nat} {xs : List It} (h : w.heap[g]? = some (.cells (rowsV xs (fun _ => .slice none 0 0)).flatten.toArray 64 (0, 0))) (hx : ∀ x ∈ xs, x.2.xs = []) (hl : xs.length ≤ 140737488355328) (cap : Nat) : VIn w (.slice (some ⟨g, 0, none⟩) xs.length cap) xs :=
  .mk (some ⟨g, 0, none⟩) cap xs (fun _ => .slice none 0 0) (lies_flat h (fun r hr => by
    obtain ⟨i, hi, rfl⟩ := List.getElem_of_mem hr
    simp [rowsV, itCells_len])) (fun _ _ _ _ => trivial) hl (fun j hj => by rw [hx _ (List.getElem_mem hj)]; exact VAt.nil _ _ _ _)
def aliveX : VT := .mk 3 0 ⟨#[195, 169, 47]⟩ []
def aliveJ : VT := .mk 4 6 ⟨#[]⟩ [(⟨false, 5, ⟨#[]⟩⟩, aliveX)]
theorem alive_enc : encP aliveJ = (⟨#[123, 34, 53, 34, 58, 34, 92, 117, 48, 48, 101, 57, 92, 47, 34, 125]⟩, 0) := by kernel_rfl
theorem alive_dec : decodeP (⟨#[32]⟩ ++ ⟨#[123, 34, 53, 34, 58, 34, 92, 117, 48, 48, 101, 57, 92, 47, 34, 125]⟩) = .ok aliveJ := by kernel_rfl
theorem alive_bad : decodeP ⟨#[91, 49, 46, 53, 93]⟩ = .error (11, 1) := by kernel_rfl
abbrev AO1 : Obj := .cells #[.bool false, .int .i64 5, .string ⟨#[]⟩, .int .i64 3, .int .i64 0, .string ⟨#[195, 169, 47]⟩, .slice none 0 0] 64
abbrev AO2 (S : Nat) : Obj := .cells #[.int .i64 4, .int .i64 6, .string ⟨#[]⟩, .slice (some ⟨S, 0, none⟩) 1 1] 24
set_option maxHeartbeats 6400000 in
set_option maxRecDepth 100000 in
theorem jalive_any (w : World) (ht : TabsJ w) : Calls Tryz.prog 11 #[] w (BoolPost w true) := by
  have HB : Below w.heap.size w ((w.alloc AO1).alloc (AO2 w.heap.size)) := ((Below.refl _ w).alloc (Nat.le_refl _) _).alloc (by simp) _
  have B1 : ((w.alloc AO1).alloc (AO2 w.heap.size)).heap[w.heap.size]? = some (.cells #[.bool false, .int .i64 5, .string ⟨#[]⟩, .int .i64 3, .int .i64 0, .string ⟨#[195, 169, 47]⟩, .slice none 0 0] 64 (0, 0)) := alloc_blk (heap_alloc_new w AO1) _
  have B2 : ((w.alloc AO1).alloc (AO2 w.heap.size)).heap[w.heap.size + 1]? = some (.cells #[.int .i64 4, .int .i64 6, .string ⟨#[]⟩, .slice (some ⟨w.heap.size, 0, none⟩) 1 1] 24 (0, 0)) := by
    have := heap_alloc_new (w.alloc AO1) (AO2 w.heap.size)
    rw [World.size_alloc] at this
    exact this
  have HT := Lib.hid ht
  obtain ⟨W, hW⟩ : ∃ W, W = (w.alloc AO1).alloc (AO2 w.heap.size) := ⟨_, rfl⟩
  rw [← hW] at HB B1 B2
  have V1 : Hid (VIn W (.slice (some ⟨w.heap.size, 0, none⟩) 1 1) aliveJ.xs) := Lib.hid (vin_flat (xs := aliveJ.xs) B1 (fun x hx => by
    have hx : x ∈ [((⟨false, 5, ⟨#[]⟩⟩ : K), aliveX)] := hx
    rw [List.mem_singleton.1 hx]; rfl) (by decide) 1)
  have HW := Lib.hid hW
  have HBB := Lib.hid HB
  have HB2 := Lib.hid B2
  obtain ⟨a0, a1, a2, a3⟩ := vb4 B2
  obtain ⟨-, -, hgood, -⟩ := decode_fit alive_dec
  have HE : Calls Tryz.prog 9 #[.agg #[.int .i64 4, .int .i64 6, .string ⟨#[]⟩, .slice (some ⟨w.heap.size, 0, none⟩) 1 1]] W (EncPost W (encP aliveJ)) := encode_any aliveJ hgood W _ V1.out (HT.out.mono HBB.out)
  rw [alive_enc] at HE
  clear HB B1 B2 hW ht hgood
  go_enter Tryz.func11, Tryz.ntmps11
  go_wp2_with fail
  rw [← HW.out]
  refine HE.mono ?_
  rintro _ w1 ⟨rfl, hb1⟩
  have HB1 := Lib.hid (HBB.out.trans (hb1.mono HBB.out.size))
  have C2 := Lib.hid ((hb1.block _ (lt_of_block HB2.out)).trans HB2.out)
  have V1b := Lib.hid (V1.out.under hb1)
  have HD := decode_any (⟨#[32]⟩ ++ ⟨#[123, 34, 53, 34, 58, 34, 92, 117, 48, 48, 101, 57, 92, 47, 34, 125]⟩) (by decide) w1 (HT.out.mono HB1.out).tab
  rw [alive_dec] at HD
  have hst : ((⟨#[123, 34, 53, 34, 58, 34, 92, 117, 48, 48, 101, 57, 92, 47, 34, 125]⟩ : ByteArray).toList == [123, 34, 53, 34, 58, 34, 92, 117, 48, 48, 101, 57, 92, 47, 34, 125]) = true := by rw [ByteArray.toList_eq]; decide
  clear hb1 HE V1 HBB HB2 a0 a1 a2 a3
  go_wp2_with fail
  refine HD.mono ?_
  rintro _ w2 ⟨hb2, co, cc, rfl, hvt⟩
  have HB2 := Lib.hid (HB1.out.trans (hb2.mono HB1.out.size))
  have hbz : Below w2.heap.size w2 ((w2.alloc (.cells #[.int .i64 4, .int .i64 6, .string ⟨#[]⟩, .slice co 1 cc] 24)).alloc (.cells #[.int .i64 0, .int .i64 0] 33)) := ((Below.refl _ w2).alloc (Nat.le_refl _) _).alloc (by simp) _
  obtain ⟨w3, hw3⟩ : ∃ w3, w3 = (w2.alloc (.cells #[.int .i64 4, .int .i64 6, .string ⟨#[]⟩, .slice co 1 cc] 24)).alloc (.cells #[.int .i64 0, .int .i64 0] 33) := ⟨_, rfl⟩
  rw [← hw3] at hbz
  have D4 : w3.heap[w2.heap.size]? = some (.cells #[.int .i64 4, .int .i64 6, .string ⟨#[]⟩, .slice co 1 cc] 24 (0, 0)) := by rw [hw3]; exact alloc_blk (heap_alloc_new w2 _) _
  have D5 : w3.heap[w2.heap.size + 1]? = some (.cells #[.int .i64 0, .int .i64 0] 33 (0, 0)) := by
    rw [hw3]
    have := heap_alloc_new (w2.alloc (.cells #[.int .i64 4, .int .i64 6, .string ⟨#[]⟩, .slice co 1 cc] 24)) (.cells #[.int .i64 0, .int .i64 0] 33)
    rw [World.size_alloc] at this
    exact this
  have HB3 := Lib.hid (HB2.out.trans (hbz.mono HB2.out.size))
  have H3 := Lib.hid (⟨(hbz.block _ (Nat.lt_of_lt_of_le (lt_of_block C2.out) hb2.size)).trans ((hb2.block _ (lt_of_block C2.out)).trans C2.out), D4, D5, (V1b.out.under hb2).under hbz, hvt.any.under hbz⟩ : _ ∧ _ ∧ _ ∧ _ ∧ _)
  have HW3 := Lib.hid hw3
  have HD2 := decode_any ⟨#[91, 49, 46, 53, 93]⟩ (by decide) w3 (HT.out.mono HB3.out).tab
  rw [alive_bad] at HD2
  clear HD hb2 hvt hbz hw3 D4 D5 C2 V1b
  dsimp only [VT.v, VT.k, VT.n, VT.t, VT.xs, aliveJ, List.length]
  go_wp2_with fail
  rw [← HW3.out]
  refine HD2.mono ?_
  rintro _ w4 ⟨hb4, rfl⟩
  have hby : Below w4.heap.size w4 ((w4.alloc (.cells #[.int .i64 0, .int .i64 0, .string ⟨#[]⟩, .slice none 0 0] 24)).alloc (.cells #[.int .i64 11, .int .i64 1] 33)) := ((Below.refl _ w4).alloc (Nat.le_refl _) _).alloc (by simp) _
  obtain ⟨w5, hw5⟩ : ∃ w5, w5 = (w4.alloc (.cells #[.int .i64 0, .int .i64 0, .string ⟨#[]⟩, .slice none 0 0] 24)).alloc (.cells #[.int .i64 11, .int .i64 1] 33) := ⟨_, rfl⟩
  rw [← hw5] at hby
  have D7 : w5.heap[w4.heap.size + 1]? = some (.cells #[.int .i64 11, .int .i64 1] 33 (0, 0)) := by
    rw [hw5]
    have := heap_alloc_new (w4.alloc (.cells #[.int .i64 0, .int .i64 0, .string ⟨#[]⟩, .slice none 0 0] 24)) (.cells #[.int .i64 11, .int .i64 1] 33)
    rw [World.size_alloc] at this
    exact this
  have HB5 : Hid (Below w.heap.size w w5) := Lib.hid ((HB3.out.trans (hb4.mono HB3.out.size)).trans (hby.mono (by have := HB3.out.size; have := hb4.size; omega)))
  have kk : ∀ {k : Nat} {o : Obj}, w3.heap[k]? = some o → w5.heap[k]? = some o := fun h => (hby.block _ (Nat.lt_of_lt_of_le (lt_of_block h) hb4.size)).trans ((hb4.block _ (lt_of_block h)).trans h)
  obtain ⟨c2, c4, c5, cv, cx⟩ := H3.out
  have HR := raw_same aliveJ w5 (.slice (some ⟨w.heap.size, 0, none⟩) 1 1) (.slice co 1 cc) ((cv.under hb4).under hby) ((cx.under hb4).under hby)
  have HR : Calls Tryz.prog 32 #[.agg #[.int .i64 4, .int .i64 6, .string ⟨#[]⟩, .slice (some ⟨w.heap.size, 0, none⟩) 1 1], .agg #[.int .i64 4, .int .i64 6, .string ⟨#[]⟩, .slice co 1 cc]] w5 (BoolPost w5 true) := HR
  have HK := Lib.hid (⟨kk c5, D7⟩ : _ ∧ _)
  obtain ⟨a0, a1, a2, a3⟩ := vb4 (kk c2)
  obtain ⟨b0, b1, b2, b3⟩ := vb4 (kk c4)
  have q0 := cell_blk (kk c5) 0
  have q1 := cell_blk (kk c5) 1
  have r0 := cell_blk D7 0
  have r1 := cell_blk D7 1
  have HW5 := Lib.hid hw5
  clear hw5 hby hb4 kk c2 c4 c5 cv cx D7 H3 HD2 HW3
  dsimp only [VT.v, VT.k, VT.n, VT.t, VT.xs]
  have a0' := a0; have a1' := a1; have a2' := a2; have a3' := a3
  rw [HW5.out] at a0 a1 a2 a3 b0 b1 b2 b3 q0 q1 r0 r1
  go_wp2_with fail
  rw [← HW5.out]
  refine HR.mono ?_
  rintro _ w6 ⟨rfl, hb6⟩
  have s0 := cell_blk ((hb6.block _ (lt_of_block HK.out.1)).trans HK.out.1) 0
  have s1 := cell_blk ((hb6.block _ (lt_of_block HK.out.1)).trans HK.out.1) 1
  have u0 := cell_blk ((hb6.block _ (lt_of_block HK.out.2)).trans HK.out.2) 0
  have u1 := cell_blk ((hb6.block _ (lt_of_block HK.out.2)).trans HK.out.2) 1
  have HB6 := Lib.hid (HB5.out.trans (hb6.mono HB5.out.size))
  clear hb6 a0 a1 a2 a3 b0 b1 b2 b3 q0 q1 r0 r1 HR
  go_wp2_with fail
  go_ret
  exact ⟨rfl, HB6.out⟩
end Go.Proofs.YtnaefnojmiolbaaGreatDoor

namespace Go.Proofs.YtnaefnojmiolbaaGreatDoor
open Go.RowKit Go.Shelf

attribute [local go_sem] yld_undef
set_option maxHeartbeats 3200000 in
set_option maxRecDepth 100000 in
theorem jwrites_any (v : VT) (hg : GoodS v) (w : World) (c : Value) (hv : VCap w c v.xs) (ht : TabsJ w) : Calls Tryz.prog 3 #[v.v c] w (BoolPost w true) := by
  obtain ⟨ao, cap, rfl, -⟩ := hv.form
  have A0 : Hid (At1 w (w.alloc (VB v (.slice ao v.xs.length cap))) w.heap.size (VB v (.slice ao v.xs.length cap))) := Lib.hid (at1_start w _)
  have HE := Lib.hid (fun W (hW : Below w.heap.size w W) => encode_any v hg W _ (hv.vin.under hW) (ht.mono hW))
  have HF := Lib.hid (fun W (hW : Below w.heap.size w W) => rencode_any v hg W _ (hv.under hW) (ht.mono hW))
  rw [encR_eq] at HF
  obtain ⟨a0, a1, a2, a3⟩ := vb_cells A0.out.a
  have HT := Lib.hid ht
  obtain ⟨x, hx⟩ : ∃ x, x = encP v := ⟨_, rfl⟩
  rw [← hx] at HE HF
  clear hx hv ht hg
  obtain ⟨s, e⟩ := x
  have hss : (s.toList == s.toList) = true := by simp
  have hee : (e == e) = true := by simp
  simp only [VT.v] at HE HF ⊢
  go_enter Tryz.func3, Tryz.ntmps3
  go_wp2_with fail
  refine (HE.out _ A0.out.below).mono ?_
  rintro _ w1 ⟨rfl, hb1⟩
  have A1 := Lib.hid (A0.out.mono hb1)
  clear hb1
  obtain ⟨a0, a1, a2, a3⟩ := vb_cells A1.out.a
  go_wp2_with fail
  refine (HF.out _ A1.out.below).mono ?_
  rintro _ w2 ⟨rfl, hb2⟩
  have A2 := Lib.hid (A1.out.mono hb2)
  clear hb2 a0 a1 a2 a3
  go_wp2_with fail
  refine (jalive_any _ (HT.out.mono A2.out.below)).mono ?_
  rintro _ w3 ⟨rfl, hb3⟩
  go_wp2_with fail
  go_ret
  exact ⟨rfl, A2.out.below.trans (hb3.mono A2.out.below.size)⟩
end Go.Proofs.YtnaefnojmiolbaaGreatDoor

namespace Go.Proofs.YtnaefnojmiolbaaGreatDoor
open Go.RowKit Go.Shelf

abbrev laidL : List (String × DataW Unit) := [("math/bits.deBruijn32tab", Rows.laid_math_bits_deBruijn32tab), ("math/bits.deBruijn64tab", Rows.laid_math_bits_deBruijn64tab), ("internal/strconv.uint64pow10", Rows.laid_internal_strconv_uint64pow10), ("unicode/utf8.acceptRanges", Rows.laid_unicode_utf8_acceptRanges), ("strconv.ErrRange", Rows.laid_strconv_ErrRange), ("strconv.ErrSyntax", Rows.laid_strconv_ErrSyntax), ("unicode/utf8.first", Rows.laid_unicode_utf8_first)]
theorem tSyn : (Tryz.prog.globals[4]?).map (·.type) = some 84 := by kernel_rfl
theorem tRng : (Tryz.prog.globals[5]?).map (·.type) = some 84 := by kernel_rfl
theorem tPow : (Tryz.prog.globals[3]?).map (·.type) = some 198 := by kernel_rfl
theorem starE : "*" ++ "errors.errorString" = "*errors.errorString" := by decide
theorem rowE (u : TypeId) (h : Tryz.prog.typeName? 3 u = some "*errors.errorString") : u = 212 :=
  typeName_ptr_named (nm := "errors.errorString") (by rw [starE]; kernel_rfl) (by kernel_rfl) (by decide) u (by rw [starE]; exact h)
theorem pow_data : (Rows.laid_internal_strconv_uint64pow10 : DataW Unit) = Lib.tabData .u64 Lib.pow10Tab := by kernel_rfl
theorem mlen_of_shape {W : World} (h : W.ShapedOpen Tryz.prog) : ∃ m, W.cell? ⟨2, 0, none⟩ = some (.int .i64 m) :=
  cell_of_shapedOpen_int (t := 3) (zero := #[.int .i64 0]) h (of_decide_eq_true (by kernel_rfl)) (by kernel_rfl) rfl (by kernel_rfl) (by kernel_rfl) Tryz.underlying3
/-- The tables of UTF-8 are the variables 0 and 1 here. -/
def renU : Ren := ⟨fun n => n, fun | 119 => 120 | 138 => 122 | 139 => 123 | n => n, fun | 3 => 0 | 4 => 1 | n => n⟩
theorem typesU : U8Types Tryz.prog renU := { t5 := Tryz.underlying5, t119 := Tryz.underlying120, t138 := Tryz.underlying122, t139 := Tryz.underlying123 }
theorem extraU : U8Extra Tryz.prog renU := { n3 := by kernel_rfl, n4 := by kernel_rfl, y3 := by kernel_rfl, y4 := by kernel_rfl, c5 := by kernel_rfl, c119 := by kernel_rfl, c138 := by kernel_rfl }
theorem accept_data : (Rows.laid_unicode_utf8_acceptRanges : DataW Unit) = Lib.acceptData := by kernel_rfl
theorem first_data : (Rows.laid_unicode_utf8_first : DataW Unit) = Lib.firstData := Pinned.utf8First_eq
theorem tabs_of_laid {W : World} (hL0 : laidMetH Tryz.prog laidL W) (hS : W.ShapedOpen Tryz.prog) : Tabs W := by
  rw [MakeChecks.laidMetH_plain _ _ _ (by kernel_rfl)] at hL0
  have h1 := hL0.tail.tail
  have hu : Lib.Utf8Tabs 0 1 W := utf8Tabs_of_readsT typesU extraU
    (Lib.laidMet.reads hL0 (by rw [← first_data]; simp)) (Lib.laidMet.reads hL0 (by rw [← accept_data]; simp))
  have hp : Lib.TabIs Tryz.prog W "internal/strconv.uint64pow10" .u64 Lib.pow10Tab := by
    rw [pow_data] at h1
    exact Lib.tabIs_of_head g3 tPow Tryz.underlying198 Tryz.underlying153 (by kernel_rfl) (by kernel_rfl) h1
  have h2 := h1.tail.tail
  obtain ⟨a0, s0, hv0, -, -, -⟩ := laid_sentinel h2 g5 tRng Tryz.underlying84 rowE Tryz.underlying212 Tryz.underlying214 rfl rfl Tryz.underlying9 (by kernel_rfl) (by kernel_rfl)
  obtain ⟨a1, s1, hv1, -, -, -⟩ := laid_sentinel h2.tail g4 tSyn Tryz.underlying84 rowE Tryz.underlying212 Tryz.underlying214 rfl rfl Tryz.underlying9 (by kernel_rfl) (by kernel_rfl)
  exact ⟨hp, ⟨_, _, hv0⟩, ⟨_, _, hv1⟩, mlen_of_shape hS, hu⟩

end Go.Proofs.YtnaefnojmiolbaaGreatDoor

namespace Go.Proofs.YtnaefnojmiolbaaGreatDoor
open Go.RowKit Go.Shelf

theorem tBrn : (Tryz.prog.globals[7]?).map (·.type) = some 216 := by kernel_rfl
theorem brn_data : (Rows.laid_math_bits_deBruijn64tab : DataW Unit) = Lib.tabData .u8 [0, 1, 56, 2, 57, 49, 28, 3, 61, 58, 42, 50, 38, 29, 17, 4, 62, 47, 59, 36, 45, 43, 51, 22, 53, 39, 33, 30, 24, 18, 12, 5, 63, 55, 48, 27, 60, 41, 37, 16, 46, 35, 44, 21, 52, 32, 23, 11, 54, 26, 40, 15, 34, 20, 31, 10, 25, 14, 19, 9, 13, 8, 7, 6] := by kernel_rfl
theorem g7J : Tryz.prog.globalNamed "math/bits.deBruijn64tab" = some 7 := by kernel_rfl
theorem tabsJ_of_laid {W : World} (hL : laidMetH Tryz.prog laidL W) (hS : W.ShapedOpen Tryz.prog) : TabsJ W := by
  refine ⟨tabs_of_laid hL hS, ?_⟩
  rw [MakeChecks.laidMetH_plain _ _ _ (by kernel_rfl)] at hL
  have h1 := hL.tail
  rw [brn_data] at h1
  have ht := Lib.tabIs_of_head g7J tBrn Tryz.underlying216 Tryz.underlying5 (by kernel_rfl) (by kernel_rfl) h1
  have := ht.cell g7J 15 (by decide)
  simpa using this
end Go.Proofs.YtnaefnojmiolbaaGreatDoor
