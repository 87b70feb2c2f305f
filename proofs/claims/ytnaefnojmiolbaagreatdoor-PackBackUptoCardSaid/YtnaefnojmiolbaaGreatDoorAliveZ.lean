/-
  The walk of the law's alive.
-/
import Derived.Test.YtnaefnojmiolbaaGreatDoorPureWZ
import Derived.Test.YtnaefnojmiolbaaGreatDoorPackAllZ
import Derived.Test.YtnaefnojmiolbaaGreatDoorUnpackZ
import Derived.Test.YtnaefnojmiolbaaGreatDoorRawZ
namespace Go.Proofs.YtnaefnojmiolbaaGreatDoor
open Go.RowKit

attribute [local go_sem] yld_undef
theorem alive_packs : packP aliveV aliveF = (aliveT, 0) := (read_pack (by decide) alive_read).1
theorem alive_unpacks : unpackP aliveT = .ok (aliveV, aliveF) := by
  unfold unpackP
  rw [if_neg (by decide), alive_read]
theorem alive_good : GoodS aliveV ∧ ∀ th ∈ aliveF, th.1.size ≤ 1073741824 ∧ ∀ x ∈ th.2, KG x.1 ∧ GoodS x.2 := by
  obtain ⟨-, -, h1, h2, -⟩ := read_pack (by decide) alive_read
  refine ⟨h1, fun th hm => ⟨?_, fun x hx => ?_⟩⟩
  · rw [List.mem_singleton.1 hm]
    decide
  · obtain ⟨_, _, _, _, a, b⟩ := (h2 th hm).at_ x hx
    exact ⟨a, b⟩
/-- Rows lie in a block that holds them. -/
theorem lies_flat {w : World} {g : Nat} {ty : TypeId} {fr : Nat × Nat} {size : Nat} {rows : List (List Value)} (h : w.heap[g]? = some (.cells rows.flatten.toArray ty fr)) (hl : ∀ r ∈ rows, r.length = size) : Lies w size (some ⟨g, 0, none⟩) rows := by
  intro i r hr
  refine ⟨g, 0, rfl, lt_of_block h, hl r (List.mem_of_getElem? hr), fun j u hu => ?_⟩
  have hj : j < size := by
    have := (List.getElem?_eq_some_iff.1 hu).1
    rw [hl r (List.mem_of_getElem? hr)] at this
    exact this
  have := flatten_get size rows hl i r j hr hj
  rw [cell_blk h, Nat.zero_add]
  rw [hu] at this
  simpa using this
/-- Leaves lie in a block that holds them. -/
theorem vin_flat {w : World} {g : Nat} {xs : List It} (h : w.heap[g]? = some (.cells (rowsV xs (fun _ => .slice none 0 0)).flatten.toArray 64 (0, 0))) (hx : ∀ x ∈ xs, x.2.xs = []) (hl : xs.length ≤ 140737488355328) (cap : Nat) : VIn w (.slice (some ⟨g, 0, none⟩) xs.length cap) xs :=
  .mk (some ⟨g, 0, none⟩) cap xs (fun _ => .slice none 0 0) (lies_flat h (fun r hr => by
    obtain ⟨i, hi, rfl⟩ := List.getElem_of_mem hr
    simp [rowsV, itCells_len])) (fun _ _ _ _ => trivial) hl (fun j hj => by rw [hx _ (List.getElem_mem hj)]; exact VAt.nil _ _ _ _)
theorem alive_text : aliveT.toList = [97, 58, 50, 58, 123, 105, 58, 48, 59, 79, 58, 49, 58, 34, 65, 34, 58, 49, 58, 123, 115, 58, 49, 58, 34, 98, 34, 59, 98, 58, 49, 59, 125, 105, 58, 49, 59, 114, 58, 49, 59, 125] := str_toList [97, 58, 50, 58, 123, 105, 58, 48, 59, 79, 58, 49, 58, 34, 65, 34, 58, 49, 58, 123, 115, 58, 49, 58, 34, 98, 34, 59, 98, 58, 49, 59, 125, 105, 58, 49, 59, 114, 58, 49, 59, 125]
set_option maxHeartbeats 6400000 in
set_option maxRecDepth 100000 in
theorem alive_any (w : World) (ht : Tabs w) : Calls Tryz.prog 16 #[] w (BoolPost w true) := by
  have HB : Below w.heap.size w (((((w.alloc (.cells #[.int .i64 5, .int .i64 1, .string ⟨#[]⟩, .slice none 0 0] 24)).alloc (.cells #[.bool false, .int .i64 0, .string ⟨#[]⟩, .int .i64 5, .int .i64 1, .string ⟨#[]⟩, .slice none 0 0, .bool false, .int .i64 1, .string ⟨#[]⟩, .int .i64 5, .int .i64 1, .string ⟨#[]⟩, .slice none 0 0] 64)).alloc (.cells #[.int .i64 4, .int .i64 2, .string ⟨#[]⟩, .slice (some ⟨w.heap.size + 1, 0, none⟩) 2 2] 24)).alloc (.cells #[.bool true, .int .i64 0, .string ⟨#[98]⟩, .int .i64 1, .int .i64 1, .string ⟨#[]⟩, .slice none 0 0] 64)).alloc (.cells #[.string ⟨#[65]⟩, .slice (some ⟨w.heap.size + 1 + 1 + 1, 0, none⟩) 1 1] 48)) :=
    (((((Below.refl _ w).alloc (Nat.le_refl _) _).alloc (by simp) _).alloc (by simp; omega) _).alloc (by simp; omega) _).alloc (by simp; omega) _
  have h1 : (w.alloc (.cells #[.int .i64 5, .int .i64 1, .string ⟨#[]⟩, .slice none 0 0] 24)).heap.size = w.heap.size + 1 := by simp
  have h2 : ((w.alloc (.cells #[.int .i64 5, .int .i64 1, .string ⟨#[]⟩, .slice none 0 0] 24)).alloc (.cells #[.bool false, .int .i64 0, .string ⟨#[]⟩, .int .i64 5, .int .i64 1, .string ⟨#[]⟩, .slice none 0 0, .bool false, .int .i64 1, .string ⟨#[]⟩, .int .i64 5, .int .i64 1, .string ⟨#[]⟩, .slice none 0 0] 64)).heap.size = w.heap.size + 1 + 1 := by simp
  have h3 : (((w.alloc (.cells #[.int .i64 5, .int .i64 1, .string ⟨#[]⟩, .slice none 0 0] 24)).alloc (.cells #[.bool false, .int .i64 0, .string ⟨#[]⟩, .int .i64 5, .int .i64 1, .string ⟨#[]⟩, .slice none 0 0, .bool false, .int .i64 1, .string ⟨#[]⟩, .int .i64 5, .int .i64 1, .string ⟨#[]⟩, .slice none 0 0] 64)).alloc (.cells #[.int .i64 4, .int .i64 2, .string ⟨#[]⟩, .slice (some ⟨w.heap.size + 1, 0, none⟩) 2 2] 24)).heap.size = w.heap.size + 1 + 1 + 1 := by simp
  have h4 : ((((w.alloc (.cells #[.int .i64 5, .int .i64 1, .string ⟨#[]⟩, .slice none 0 0] 24)).alloc (.cells #[.bool false, .int .i64 0, .string ⟨#[]⟩, .int .i64 5, .int .i64 1, .string ⟨#[]⟩, .slice none 0 0, .bool false, .int .i64 1, .string ⟨#[]⟩, .int .i64 5, .int .i64 1, .string ⟨#[]⟩, .slice none 0 0] 64)).alloc (.cells #[.int .i64 4, .int .i64 2, .string ⟨#[]⟩, .slice (some ⟨w.heap.size + 1, 0, none⟩) 2 2] 24)).alloc (.cells #[.bool true, .int .i64 0, .string ⟨#[98]⟩, .int .i64 1, .int .i64 1, .string ⟨#[]⟩, .slice none 0 0] 64)).heap.size = w.heap.size + 1 + 1 + 1 + 1 := by simp
  have B1 := alloc_blk (alloc_blk (alloc_blk (heap_alloc_new (w.alloc (.cells #[.int .i64 5, .int .i64 1, .string ⟨#[]⟩, .slice none 0 0] 24)) (.cells #[.bool false, .int .i64 0, .string ⟨#[]⟩, .int .i64 5, .int .i64 1, .string ⟨#[]⟩, .slice none 0 0, .bool false, .int .i64 1, .string ⟨#[]⟩, .int .i64 5, .int .i64 1, .string ⟨#[]⟩, .slice none 0 0] 64)) (.cells #[.int .i64 4, .int .i64 2, .string ⟨#[]⟩, .slice (some ⟨w.heap.size + 1, 0, none⟩) 2 2] 24)) (.cells #[.bool true, .int .i64 0, .string ⟨#[98]⟩, .int .i64 1, .int .i64 1, .string ⟨#[]⟩, .slice none 0 0] 64)) (.cells #[.string ⟨#[65]⟩, .slice (some ⟨w.heap.size + 1 + 1 + 1, 0, none⟩) 1 1] 48)
  have B2 := alloc_blk (alloc_blk (heap_alloc_new ((w.alloc (.cells #[.int .i64 5, .int .i64 1, .string ⟨#[]⟩, .slice none 0 0] 24)).alloc (.cells #[.bool false, .int .i64 0, .string ⟨#[]⟩, .int .i64 5, .int .i64 1, .string ⟨#[]⟩, .slice none 0 0, .bool false, .int .i64 1, .string ⟨#[]⟩, .int .i64 5, .int .i64 1, .string ⟨#[]⟩, .slice none 0 0] 64)) (.cells #[.int .i64 4, .int .i64 2, .string ⟨#[]⟩, .slice (some ⟨w.heap.size + 1, 0, none⟩) 2 2] 24)) (.cells #[.bool true, .int .i64 0, .string ⟨#[98]⟩, .int .i64 1, .int .i64 1, .string ⟨#[]⟩, .slice none 0 0] 64)) (.cells #[.string ⟨#[65]⟩, .slice (some ⟨w.heap.size + 1 + 1 + 1, 0, none⟩) 1 1] 48)
  have B3 := alloc_blk (heap_alloc_new (((w.alloc (.cells #[.int .i64 5, .int .i64 1, .string ⟨#[]⟩, .slice none 0 0] 24)).alloc (.cells #[.bool false, .int .i64 0, .string ⟨#[]⟩, .int .i64 5, .int .i64 1, .string ⟨#[]⟩, .slice none 0 0, .bool false, .int .i64 1, .string ⟨#[]⟩, .int .i64 5, .int .i64 1, .string ⟨#[]⟩, .slice none 0 0] 64)).alloc (.cells #[.int .i64 4, .int .i64 2, .string ⟨#[]⟩, .slice (some ⟨w.heap.size + 1, 0, none⟩) 2 2] 24)) (.cells #[.bool true, .int .i64 0, .string ⟨#[98]⟩, .int .i64 1, .int .i64 1, .string ⟨#[]⟩, .slice none 0 0] 64)) (.cells #[.string ⟨#[65]⟩, .slice (some ⟨w.heap.size + 1 + 1 + 1, 0, none⟩) 1 1] 48)
  have B4 := heap_alloc_new ((((w.alloc (.cells #[.int .i64 5, .int .i64 1, .string ⟨#[]⟩, .slice none 0 0] 24)).alloc (.cells #[.bool false, .int .i64 0, .string ⟨#[]⟩, .int .i64 5, .int .i64 1, .string ⟨#[]⟩, .slice none 0 0, .bool false, .int .i64 1, .string ⟨#[]⟩, .int .i64 5, .int .i64 1, .string ⟨#[]⟩, .slice none 0 0] 64)).alloc (.cells #[.int .i64 4, .int .i64 2, .string ⟨#[]⟩, .slice (some ⟨w.heap.size + 1, 0, none⟩) 2 2] 24)).alloc (.cells #[.bool true, .int .i64 0, .string ⟨#[98]⟩, .int .i64 1, .int .i64 1, .string ⟨#[]⟩, .slice none 0 0] 64)) (.cells #[.string ⟨#[65]⟩, .slice (some ⟨w.heap.size + 1 + 1 + 1, 0, none⟩) 1 1] 48)
  rw [h1] at B1
  rw [h2] at B2
  rw [h3] at B3
  rw [h4] at B4
  have HT := Lib.hid ht
  clear ht h1 h2 h3 h4
  go_enter Tryz.func16, Tryz.ntmps16
  go_wp2_with fail
  generalize (((((w.alloc (.cells #[.int .i64 5, .int .i64 1, .string ⟨#[]⟩, .slice none 0 0] 24)).alloc (.cells #[.bool false, .int .i64 0, .string ⟨#[]⟩, .int .i64 5, .int .i64 1, .string ⟨#[]⟩, .slice none 0 0, .bool false, .int .i64 1, .string ⟨#[]⟩, .int .i64 5, .int .i64 1, .string ⟨#[]⟩, .slice none 0 0] 64)).alloc (.cells #[.int .i64 4, .int .i64 2, .string ⟨#[]⟩, .slice (some ⟨w.heap.size + 1, 0, none⟩) 2 2] 24)).alloc (.cells #[.bool true, .int .i64 0, .string ⟨#[98]⟩, .int .i64 1, .int .i64 1, .string ⟨#[]⟩, .slice none 0 0] 64)).alloc (.cells #[.string ⟨#[65]⟩, .slice (some ⟨w.heap.size + 1 + 1 + 1, 0, none⟩) 1 1] 48)) = W at HB B1 B2 B3 B4 ⊢
  have HBB := Lib.hid HB
  have V1 : Hid (VIn W (.slice (some ⟨w.heap.size + 1, 0, none⟩) 2 2) aliveV.xs) := Lib.hid (vin_flat (xs := aliveV.xs) B1 (fun x hx => by
    have hx : x ∈ [((⟨false, 0, ⟨#[]⟩⟩ : K), aliveO), (⟨false, 1, ⟨#[]⟩⟩, aliveO)] := hx
    simp at hx
    rcases hx with rfl | rfl <;> rfl) (by decide) 2)
  have V3 : Hid (VIn W (.slice (some ⟨w.heap.size + 1 + 1 + 1, 0, none⟩) 1 1) aliveP) := Lib.hid (vin_flat (xs := aliveP) B3 (fun x hx => by
    have hx : x ∈ [((⟨true, 0, ⟨#[98]⟩⟩ : K), VT.mk 1 1 ⟨#[]⟩ [])] := hx
    simp at hx
    rw [hx]; rfl) (by decide) 1)
  have TH : Hid (ThAt W (.slice (some ⟨w.heap.size + 1 + 1 + 1 + 1, 0, none⟩) 1 1) aliveF) := Lib.hid ⟨_, _, rfl, by decide, fun i hi => by
    have hi : i < 1 := hi
    obtain rfl : i = 0 := by omega
    exact ⟨_, 0, _, rfl, lt_of_block B4, V3.out, cell_blk B4 0, cell_blk B4 1⟩⟩
  have HP := pack_any aliveF TH.out alive_good.1 V1.out alive_good.2 (HT.out.mono HBB.out)
  rw [alive_packs] at HP
  have HB2 := Lib.hid B2
  clear HB B1 B2 B3 B4
  refine Calls.mono (show Calls Tryz.prog 17 #[.agg #[.int .i64 4, .int .i64 2, .string ⟨#[]⟩, .slice (some ⟨w.heap.size + 1, 0, none⟩) 2 2], .slice (some ⟨w.heap.size + 1 + 1 + 1 + 1, 0, none⟩) 1 1] W (PackPost W (aliveT, 0)) from HP) ?_
  rintro e w1 ⟨rfl, hb1⟩
  have HU := unpack_any aliveT (by decide) w1 (HT.out.mono (HBB.out.trans (hb1.mono HBB.out.size)))
  rw [alive_unpacks] at HU
  have HB1 := Lib.hid (HBB.out.trans (hb1.mono HBB.out.size))
  have C2 := Lib.hid ((hb1.block _ (lt_of_block HB2.out)).trans HB2.out)
  have V1b := Lib.hid (V1.out.under hb1)
  have hst : (aliveT.toList == [97, 58, 50, 58, 123, 105, 58, 48, 59, 79, 58, 49, 58, 34, 65, 34, 58, 49, 58, 123, 115, 58, 49, 58, 34, 98, 34, 59, 98, 58, 49, 59, 125, 105, 58, 49, 59, 114, 58, 49, 59, 125]) = true := by rw [alive_text]; exact beq_self_eq_true _
  generalize aliveT = T at HU hst ⊢
  clear HP hb1 TH V3 V1 HBB HB2
  dsimp only
  go_wp2_with fail
  refine HU.mono ?_
  rintro e w2 ⟨hb2, co, cm, cc, ao, cap, ths, rfl, hvt, hown, hval, htp⟩
  have hlen : ths.length = 1 := by have := congrArg List.length htp; simpa [aliveF] using this
  have HB3 : Hid (Below w.heap.size w ((w2.alloc (.cells #[.int .i64 4, .int .i64 2, .string ⟨#[]⟩, .slice co cm cc] 24)).alloc (.cells #[.int .i64 0, .int .i64 0] 33))) := Lib.hid (((HB1.out.trans (hb2.mono HB1.out.size)).alloc (by have := HB1.out.size; have := hb2.size; omega) _).alloc (by have := HB1.out.size; have := hb2.size; simp; omega) _)
  have hbz : Below w2.heap.size w2 ((w2.alloc (.cells #[.int .i64 4, .int .i64 2, .string ⟨#[]⟩, .slice co cm cc] 24)).alloc (.cells #[.int .i64 0, .int .i64 0] 33)) := ((Below.refl _ w2).alloc (Nat.le_refl _) _).alloc (by simp) _
  have D2 := (hbz.block _ (Nat.lt_of_lt_of_le (lt_of_block C2.out) hb2.size)).trans ((hb2.block _ (lt_of_block C2.out)).trans C2.out)
  have D5 : ((w2.alloc (.cells #[.int .i64 4, .int .i64 2, .string ⟨#[]⟩, .slice co cm cc] 24)).alloc (.cells #[.int .i64 0, .int .i64 0] 33)).heap[w2.heap.size]? = some (.cells #[.int .i64 4, .int .i64 2, .string ⟨#[]⟩, .slice co cm cc] 24 (0, 0)) := alloc_blk (heap_alloc_new w2 _) _
  have D7 : ((w2.alloc (.cells #[.int .i64 4, .int .i64 2, .string ⟨#[]⟩, .slice co cm cc] 24)).alloc (.cells #[.int .i64 0, .int .i64 0] 33)).heap[w2.heap.size + 1]? = some (.cells #[.int .i64 0, .int .i64 0] 33 (0, 0)) := by have := heap_alloc_new (w2.alloc (.cells #[.int .i64 4, .int .i64 2, .string ⟨#[]⟩, .slice co cm cc] 24)) (.cells #[.int .i64 0, .int .i64 0] 33); simpa using this
  have HR := raw_same aliveV _ (.slice (some ⟨w.heap.size + 1, 0, none⟩) 2 2) (.slice co cm cc) ((V1b.out.under hb2).under hbz) ((VAt.any hvt).under hbz)
  have HR : Calls Tryz.prog 32 #[.agg #[.int .i64 4, .int .i64 2, .string ⟨#[]⟩, .slice (some ⟨w.heap.size + 1, 0, none⟩) 2 2], .agg #[.int .i64 4, .int .i64 2, .string ⟨#[]⟩, .slice co cm cc]] ((w2.alloc (.cells #[.int .i64 4, .int .i64 2, .string ⟨#[]⟩, .slice co cm cc] 24)).alloc (.cells #[.int .i64 0, .int .i64 0] 33)) (BoolPost ((w2.alloc (.cells #[.int .i64 4, .int .i64 2, .string ⟨#[]⟩, .slice co cm cc] 24)).alloc (.cells #[.int .i64 0, .int .i64 0] 33)) true) := HR
  obtain ⟨a0, a1, a2, a3⟩ := vb4 D2
  obtain ⟨c0, c1, c2, c3⟩ := vb4 D5
  have q0 := cell_blk D7 0
  have q1 := cell_blk D7 1
  have HD7 := Lib.hid D7
  rw [hlen]
  clear HU hvt hown hval htp hb2 hbz D2 D5 D7
  simp only [VT.v, VT.k, VT.n, VT.t, aliveV]
  go_wp2_with fail
  refine HR.mono ?_
  rintro e w3 ⟨rfl, hb3⟩
  have E7 := (hb3.block _ (lt_of_block HD7.out)).trans HD7.out
  have q0 := cell_blk E7 0
  have q1 := cell_blk E7 1
  go_wp2_with fail
  go_ret
  exact ⟨rfl, HB3.out.trans (hb3.mono HB3.out.size)⟩
end Go.Proofs.YtnaefnojmiolbaaGreatDoor
