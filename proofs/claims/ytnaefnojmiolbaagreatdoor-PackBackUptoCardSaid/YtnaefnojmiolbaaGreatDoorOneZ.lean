/-
  The walk of PackOne.
-/
import Derived.Test.YtnaefnojmiolbaaGreatDoorAliveZ
namespace Go.Proofs.YtnaefnojmiolbaaGreatDoor
open Go.RowKit

attribute [local go_sem] yld_undef
/-- Things that a call owns lie behind its slice value. -/
theorem th_of_owns {w : World} {ao : Option Addr} {cap : Nat} {ths : List Th} (hle : ths.length ≤ 65536) (ho : Owns w 48 2 (.slice ao ths.length cap) (ths.map Th.row)) (hv : ∀ t ∈ ths, VT64 w t.c t.xs) : ThAt w (.slice ao ths.length cap) (ths.map Th.tp) := by
  obtain ⟨ao', cap', hv', hlen, hcm, hlies, -, -⟩ := ho.any
  simp only [List.length_map] at hv'
  cases hv'
  refine ⟨ao, cap, by rw [List.length_map], by rw [List.length_map]; omega, fun i hi => ?_⟩
  · rw [List.length_map] at hi
    obtain ⟨g, off, e, hg, -, hc⟩ := hlies i [.string ths[i].cls, ths[i].c] (by simp [hi, Th.row])
    refine ⟨g, off, ths[i].c, e, hg, ?_, ?_, ?_⟩
    · rw [List.getElem_map]
      exact (hv _ (List.getElem_mem hi)).any
    · rw [List.getElem_map]
      have := hc 0 _ rfl
      simpa [Th.tp] using this
    · have := hc 1 _ rfl
      simpa using this
/-- What is told of a text. -/
structure OneF (s : ByteArray) (v : VT) (F : List TP) : Prop where
  pack : packP v F = (s, 0)
  pos : 0 < s.size
  good : GoodS v
  goods : ∀ th ∈ F, th.1.size ≤ 1073741824 ∧ ∀ x ∈ th.2, KG x.1 ∧ GoodS x.2
  len : F.length ≤ 65536
  beg : ∀ s' c, Beg s s' c → c < s.size → unpackP s' = .error (10, c)
theorem name_size {l : Bs} (h : nameP l = true) : l.length ≤ 64 := by
  unfold nameP at h
  rw [Bool.and_eq_true, decide_eq_true_eq] at h
  exact h.1
theorem one_facts {s : ByteArray} {v : VT} {F : List TP} (h : unpackP s = .ok (v, F)) : OneF s v F := by
  unfold unpackP at h
  split at h
  · cases h
  · rename_i hs
    have hs : s.size ≤ 65536 := by omega
    obtain ⟨h1, h2, h3, h4, h5⟩ := read_pack hs h
    obtain ⟨m, hg⟩ := read_parts h hs
    have hl := gvalP_len s 64 _ _ _ _ hg
    simp only [List.length_nil] at hl
    refine ⟨h1, h2, h3, fun th hm => ⟨?_, fun x hx => ?_⟩, by omega, fun s' c b hc => ?_⟩
    · have := name_size (h4 th hm).name
      rw [size_toList] at this
      omega
    · obtain ⟨_, _, _, _, a, b⟩ := (h4 th hm).at_ x hx
      exact ⟨a, b⟩
    · unfold unpackP
      rw [if_neg (by rw [b.size]; omega)]
      exact read_beg hs h b hc
theorem one_err {s : ByteArray} {c : Int} {a : Nat} (h : unpackP s = .error (c, a)) : a ≤ s.size ∧ c ≠ 0 := by
  unfold unpackP at h
  split at h
  · cases h; exact ⟨Nat.zero_le _, by decide⟩
  · rename_i hs
    exact read_err (by omega) h
/-- Where a text is cut. -/
theorem cut_at (cut : Int) {n : Nat} (h0 : 0 < n) (h1 : n ≤ 140737488351232) : ∃ c : Nat, (wrap64 (cut.tmod (n : Int) + (n : Int))).tmod (n : Int) = (c : Int) ∧ c < n := by
  have a := Int.natAbs_tmod cut (n : Int)
  have b : cut.natAbs % n < n := Nat.mod_lt _ h0
  rw [show (n : Int).natAbs = n from rfl] at a
  have hw : wrap64 (cut.tmod (n : Int) + (n : Int)) = cut.tmod (n : Int) + (n : Int) := wr64 (by omega) (by omega)
  have hp : 0 ≤ cut.tmod (n : Int) + (n : Int) := by omega
  refine ⟨((cut.tmod (n : Int) + (n : Int)) % (n : Int)).toNat, ?_, ?_⟩
  · rw [hw, Int.tmod_eq_emod_of_nonneg hp]
    have := Int.emod_nonneg (cut.tmod (n : Int) + (n : Int)) (show (n : Int) ≠ 0 by omega)
    omega
  · have := Int.emod_nonneg (cut.tmod (n : Int) + (n : Int)) (show (n : Int) ≠ 0 by omega)
    have := Int.emod_lt_of_pos (cut.tmod (n : Int) + (n : Int)) (show 0 < (n : Int) by omega)
    omega
theorem beg_extract (s : ByteArray) {c : Nat} (h : c ≤ s.size) : Beg s (s.extract 0 c) c := ⟨by
  have : (s.extract 0 c).toList = (s.toList.take c).drop 0 := numText_list s 0 c
  rw [this, List.drop_zero], h⟩
set_option maxHeartbeats 6400000 in
set_option maxRecDepth 100000 in
theorem one_any (s : ByteArray) (hs : s.size ≤ 140737488351232) (cut : Int) (w : World) (ht : Tabs w) : Calls Tryz.prog 8 #[.string s, .int .i64 cut] w (BoolPost w true) := by
  obtain ⟨x, hx⟩ : ∃ x, x = unpackP s := ⟨_, rfl⟩
  have HU := unpack_any s (by omega) w ht
  rw [← hx] at HU
  have HT := Lib.hid ht
  clear ht
  rcases x with ⟨c, a⟩ | ⟨y, F⟩
  · obtain ⟨ha, hc⟩ := one_err hx.symm
    go_enter Tryz.func8, Tryz.ntmps8
    go_wp2_with fail
    refine HU.mono ?_
    rintro e w1 ⟨hb1, rfl⟩
    have HB1 := Lib.hid hb1
    have HB3 : Hid (Below w.heap.size w ((w1.alloc (.cells #[.int .i64 0, .int .i64 0, .string ⟨#[]⟩, .slice none 0 0] 24)).alloc (.cells #[.int .i64 c, .int .i64 a] 33))) := Lib.hid ((HB1.out.alloc HB1.out.size _).alloc (by have := HB1.out.size; simp; omega) _)
    have D7 : ((w1.alloc (.cells #[.int .i64 0, .int .i64 0, .string ⟨#[]⟩, .slice none 0 0] 24)).alloc (.cells #[.int .i64 c, .int .i64 a] 33)).heap[w1.heap.size + 1]? = some (.cells #[.int .i64 c, .int .i64 a] 33 (0, 0)) := by have := heap_alloc_new (w1.alloc (.cells #[.int .i64 0, .int .i64 0, .string ⟨#[]⟩, .slice none 0 0] 24)) (.cells #[.int .i64 c, .int .i64 a] 33); simpa using this
    have q0 := cell_blk D7 0
    have q1 := cell_blk D7 1
    have HA := alive_any _ (HT.out.mono HB3.out)
    have hle : (a : Int) ≤ (s.size : Int) := by omega
    have hge : (0 : Int) ≤ (a : Int) := by omega
    clear hb1 HU hx
    simp only [VT.v, VT.k, VT.n, VT.t]
    go_wp2_with fail
    refine HA.mono ?_
    rintro e w3 ⟨rfl, hb3⟩
    go_wp2_with fail
    go_ret
    exact ⟨rfl, HB3.out.trans (hb3.mono HB3.out.size)⟩
  · have h1 := one_facts hx.symm
    have H1 := Lib.hid h1
    go_enter Tryz.func8, Tryz.ntmps8
    go_wp2_with fail
    refine HU.mono ?_
    rintro e w1 ⟨hb1, co, cm, cc, ao, cap, ths, rfl, hvt, hown, hval, htp⟩
    have HB1 := Lib.hid hb1
    have hbz : Below w1.heap.size w1 ((w1.alloc (.cells #[.int .i64 y.k, .int .i64 y.n, .string y.t, .slice co cm cc] 24)).alloc (.cells #[.int .i64 0, .int .i64 0] 33)) := ((Below.refl _ w1).alloc (Nat.le_refl _) _).alloc (by simp) _
    have HB3 : Hid (Below w.heap.size w ((w1.alloc (.cells #[.int .i64 y.k, .int .i64 y.n, .string y.t, .slice co cm cc] 24)).alloc (.cells #[.int .i64 0, .int .i64 0] 33))) := Lib.hid (HB1.out.trans (hbz.mono HB1.out.size))
    have D5 : ((w1.alloc (.cells #[.int .i64 y.k, .int .i64 y.n, .string y.t, .slice co cm cc] 24)).alloc (.cells #[.int .i64 0, .int .i64 0] 33)).heap[w1.heap.size]? = some (.cells #[.int .i64 y.k, .int .i64 y.n, .string y.t, .slice co cm cc] 24 (0, 0)) := alloc_blk (heap_alloc_new w1 _) _
    have D7 : ((w1.alloc (.cells #[.int .i64 y.k, .int .i64 y.n, .string y.t, .slice co cm cc] 24)).alloc (.cells #[.int .i64 0, .int .i64 0] 33)).heap[w1.heap.size + 1]? = some (.cells #[.int .i64 0, .int .i64 0] 33 (0, 0)) := by have := heap_alloc_new (w1.alloc (.cells #[.int .i64 y.k, .int .i64 y.n, .string y.t, .slice co cm cc] 24)) (.cells #[.int .i64 0, .int .i64 0] 33); simpa using this
    obtain ⟨z0, z1, z2, z3⟩ := vb4 D5
    have q0 := cell_blk D7 0
    have q1 := cell_blk D7 1
    have hln : ths.length ≤ 65536 := by have e : (ths.map Th.tp).length = F.length := congrArg List.length htp; rw [List.length_map] at e; have := h1.len; omega
    have hTH := (th_of_owns hln hown hval).under hbz
    rw [htp] at hTH
    have HP := pack_any F hTH h1.good ((VAt.any hvt).under hbz) h1.goods (HT.out.mono HB3.out)
    rw [h1.pack] at HP
    have hps := h1.pos
    have hne : ((s.size : Int) == 0) = false := by rw [beq_eq_false_iff_ne]; omega
    have hne2 : ¬ ((s.size : Int) = 0) := by omega
    have hne3 : ¬ (s.size = 0) := by omega
    clear hb1 HU hx hvt hown hval htp hbz D5 D7 hTH h1 hln
    simp only [VT.v] at HP ⊢
    go_wp2_with fail
    refine HP.mono ?_
    rintro e w2 ⟨rfl, hb2⟩
    have HB2 := Lib.hid (HB3.out.trans (hb2.mono HB3.out.size))
    clear hb2 HP z0 z1 z2 z3 q0 q1
    obtain ⟨c, hc, hcl⟩ := cut_at cut hps hs
    have hcs : (c : Int) ≤ (s.size : Int) := by omega
    have hcn : (0 : Int) ≤ (c : Int) := by omega
    have hbg := beg_extract s (c := c) (by omega)
    have HU2 := unpack_any (s.extract 0 c) (by have := hbg.size; omega) w2 (HT.out.mono HB2.out)
    rw [H1.out.beg _ c hbg hcl] at HU2
    clear hcl hbg
    dsimp only
    go_wp2_with fail
    refine HU2.mono ?_
    rintro e w3 ⟨hb3, rfl⟩
    have HB4 : Hid (Below w.heap.size w ((w3.alloc (.cells #[.int .i64 0, .int .i64 0, .string ⟨#[]⟩, .slice none 0 0] 24)).alloc (.cells #[.int .i64 10, .int .i64 c] 33))) := Lib.hid (((HB2.out.trans (hb3.mono HB2.out.size)).alloc (by have := HB2.out.size; have := hb3.size; omega) _).alloc (by have := HB2.out.size; have := hb3.size; simp; omega) _)
    have D7 : ((w3.alloc (.cells #[.int .i64 0, .int .i64 0, .string ⟨#[]⟩, .slice none 0 0] 24)).alloc (.cells #[.int .i64 10, .int .i64 c] 33)).heap[w3.heap.size + 1]? = some (.cells #[.int .i64 10, .int .i64 c] 33 (0, 0)) := by have := heap_alloc_new (w3.alloc (.cells #[.int .i64 0, .int .i64 0, .string ⟨#[]⟩, .slice none 0 0] 24)) (.cells #[.int .i64 10, .int .i64 c] 33); simpa using this
    have q0 := cell_blk D7 0
    have q1 := cell_blk D7 1
    have HA := alive_any _ (HT.out.mono HB4.out)
    clear hb3 HU2 D7
    simp only [VT.v, VT.k, VT.n, VT.t]
    go_wp2_with fail
    refine HA.mono ?_
    rintro e w4 ⟨rfl, hb4⟩
    go_wp2_with fail
    go_ret
    exact ⟨rfl, HB4.out.trans (hb4.mono HB4.out.size)⟩
end Go.Proofs.YtnaefnojmiolbaaGreatDoor
