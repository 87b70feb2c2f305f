/-
  The linker's gifts (printed by genGifts17.py).
-/
import Derived.Test.YtobjmajkcfhpoaaDoorAdapts17
namespace Go.Proofs.YtobjmajkcfhpoaaDoor
open Go.RowKit

attribute [local go_sem] yld_undef
theorem gifts1_take {ad : List AdP} {l : List KC} {k : Nat} {t : KC} (h : l[k]? = some t) : gifts1 ad (l.take (k + 1)) = gifts1 ad (l.take k) ++ t.1.ms.filter (fun m => !goneP ad t m) := by
  unfold gifts1
  rw [List.take_add_one, h, List.flatMap_append]
  simp
theorem gifts1_len {ad : List AdP} : ∀ {l : List KC} (_ : ∀ t ∈ l, t.1.ms.length ≤ 1048576), (gifts1 ad l).length ≤ l.length * 1048576
  | [], _ => by simp [gifts1]
  | t :: l, h => by
    have h1 := gifts1_len (ad := ad) (l := l) (fun x hx => h x (by simp [hx]))
    have h2 := h t (by simp)
    have h3 := List.length_filter_le (fun m => !goneP ad t m) t.1.ms
    have e : gifts1 ad (t :: l) = t.1.ms.filter (fun m => !goneP ad t m) ++ gifts1 ad l := rfl
    rw [e, List.length_append, List.length_cons]
    omega
theorem gifts2_take {rs : List KC} {l : List (AdP × SV)} {k : Nat} {a : AdP × SV} (h : l[k]? = some a) : gifts2 ((l.take (k + 1)).map (·.1)) rs = gifts2 ((l.take k).map (·.1)) rs ++ (if emT a.1.sa = true then [] else (meantP rs a.1).map (asP a.1)) := by
  unfold gifts2
  rw [List.take_add_one, h, List.map_append, List.flatMap_append]
  simp
theorem gifts2_len {rs : List KC} (hr : rs.length ≤ 1048576) : ∀ (l : List AdP), (gifts2 l rs).length ≤ l.length * 1048576
  | [] => by simp [gifts2]
  | a :: l => by
    have h1 := gifts2_len hr l
    have h3 : (meantP rs a).length ≤ rs.length := List.length_filter_le _ _
    have e : gifts2 (a :: l) rs = (if emT a.sa = true then [] else (meantP rs a).map (asP a)) ++ gifts2 l rs := rfl
    rw [e, List.length_append, List.length_cons]
    split
    · rw [List.length_nil]; omega
    · rw [List.length_map]; omega
theorem filter_snoc {α : Type} {l : List α} {k : Nat} {x : α} (h : l[k]? = some x) (p : α → Bool) : (l.take (k + 1)).filter p = (l.take k).filter p ++ (if p x = true then [x] else []) := by
  rw [List.take_add_one, h, List.filter_append]
  cases hp : p x <;> simp [hp]
theorem mt_fits {r : List Value} {rows : List (List Value)} (h : rows.length ≤ 2199024304128) : rows.length + ([r] : List (List Value)).length ≤ maxLen ∧ (rows.length + ([r] : List (List Value)).length) * 48 ≤ 140737488355328 := by
  unfold maxLen
  simp only [List.length_cons, List.length_nil]
  omega
/-- What is gathered so far in the first loop. -/
def gA1 (ad : List AdP) (rs : List KC) (t : KC) (k j : Nat) : List MtP := gifts1 ad (rs.take k) ++ (t.1.ms.take j).filter (fun m => !goneP ad t m)
theorem gA1_len {ad : List AdP} {rs : List KC} {t : KC} {k j : Nat} (h : ∀ t ∈ rs, t.1.ms.length ≤ 1048576) (hk : k ≤ 1048576) (hj : j ≤ 1048576) : (gA1 ad rs t k j).length ≤ 2199024304128 := by
  unfold gA1
  have h1 := gifts1_len (ad := ad) (l := rs.take k) (fun x hx => h x (List.mem_of_mem_take hx))
  have h2 := List.length_filter_le (fun m => !goneP ad t m) (t.1.ms.take j)
  rw [List.length_take] at h1 h2
  have h3 : min k rs.length * 1048576 ≤ 1048576 * 1048576 := Nat.mul_le_mul_right _ (by omega)
  rw [List.length_append]
  omega
theorem gA1_in {ad : List AdP} {rs : List KC} {t : KC} {k j : Nat} {m : MtP} (h : t.1.ms[j]? = some m) (hg : goneP ad t m = false) : gA1 ad rs t k (j + 1) = gA1 ad rs t k j ++ [m] := by
  unfold gA1
  rw [filter_snoc h, hg, List.append_assoc]
  rfl
theorem gA1_out {ad : List AdP} {rs : List KC} {t : KC} {k j : Nat} {m : MtP} (h : t.1.ms[j]? = some m) (hg : goneP ad t m = true) : gA1 ad rs t k (j + 1) = gA1 ad rs t k j := by
  unfold gA1
  rw [filter_snoc h, hg]
  simp
theorem gA1_end {ad : List AdP} {rs : List KC} {t : KC} {k : Nat} (h : rs[k]? = some t) : gA1 ad rs t k t.1.ms.length = gifts1 ad (rs.take (k + 1)) := by
  unfold gA1
  rw [List.take_length, gifts1_take h]
/-- What is gathered so far in the second loop. -/
def gA2 (ad : List AdP) (rs : List KC) (xs : List (AdP × SV)) (a : AdP) (k j : Nat) : List MtP := (gifts1 ad rs ++ gifts2 ((xs.take k).map (·.1)) rs) ++ ((meantP rs a).take j).map (asP a)
theorem gA2_len {ad : List AdP} {rs : List KC} {xs : List (AdP × SV)} {a : AdP} {k j : Nat} (h : ∀ t ∈ rs, t.1.ms.length ≤ 1048576) (hr : rs.length ≤ 1048576) (hk : k ≤ 1048576) (hj : j ≤ 1048576) : (gA2 ad rs xs a k j).length ≤ 2199024304128 := by
  unfold gA2
  have h1 := gifts1_len (ad := ad) (l := rs) h
  have h2 := gifts2_len hr ((xs.take k).map (·.1))
  rw [List.length_map, List.length_take] at h2
  have h3 : min k xs.length * 1048576 ≤ 1048576 * 1048576 := Nat.mul_le_mul_right _ (by omega)
  have h4 : rs.length * 1048576 ≤ 1048576 * 1048576 := Nat.mul_le_mul_right _ hr
  rw [List.length_append, List.length_append, List.length_map, List.length_take]
  omega
theorem gA2_in {ad : List AdP} {rs : List KC} {xs : List (AdP × SV)} {a : AdP} {k j : Nat} {t : KC} (h : (meantP rs a)[j]? = some t) : gA2 ad rs xs a k (j + 1) = gA2 ad rs xs a k j ++ [asP a t] := by
  unfold gA2
  rw [List.take_add_one, h, List.map_append, ← List.append_assoc]
  rfl
theorem gA2_end {ad : List AdP} {rs : List KC} {xs : List (AdP × SV)} {a : AdP × SV} {k : Nat} (h : xs[k]? = some a) (he : emT a.1.sa = false) : gA2 ad rs xs a.1 k (meantP rs a.1).length = gifts1 ad rs ++ gifts2 ((xs.take (k + 1)).map (·.1)) rs := by
  unfold gA2
  rw [List.take_length, gifts2_take h, he, List.append_assoc]
  rfl
theorem gA2_no {ad : List AdP} {rs : List KC} {xs : List (AdP × SV)} {a : AdP × SV} {k : Nat} (h : xs[k]? = some a) (he : emT a.1.sa = true) : gifts1 ad rs ++ gifts2 ((xs.take (k + 1)).map (·.1)) rs = gifts1 ad rs ++ gifts2 ((xs.take k).map (·.1)) rs := by
  rw [gifts2_take h, he]
  simp
theorem owns_grown {w w3 : World} {e e' : TypeId} (he : e ≠ e') {size size' : Nat} {v v' : Value} {rows rows' : List (List Value)} (h : Owns w e size v rows) (h' : Owns w e' size' v' rows') (hg : w.grownBy w3 v'.ownBlock) : Owns w3 e size v rows :=
  h.mod ((Mod.refl (fun j => v'.ownBlock = some j) w).grown hg (fun _j e _ => e)) (fun _k e x => own_ne he h h' e x)
theorem mn_at {w0 W : World} {b : Nat} {s : LS} (h : LkO w0 W b s) {x : KC} (hx : x ∈ s.rs) : RIn (NF b s.g s.l) W 6 (.slice x.2.m.o x.2.m.n x.2.m.c) (x.1.ms.map MtP.row) := (tr_at h hx).hm
/-- What a call that gathers methods answers. -/
def MethsPost (w : World) (l : List MtP) (e : Ending) (w' : World) : Prop := ∃ a c, e = .returned (.slice a l.length c) ∧ OR w w' 34 6 (.slice a l.length c) (l.map MtP.row)
set_option maxHeartbeats 25600000 in
set_option maxRecDepth 100000 in
theorem gifts_any {w0 W : World} {b : Nat} {s : LS} (h : LkO w0 W b s) (h7 : W.cell? ⟨b, 7, none⟩ = some (.slice s.d.2.a.o s.d.2.a.n s.d.2.a.c)) (h34 : W.cell? ⟨b, 34, none⟩ = some (.slice s.r.o s.r.n s.r.c)) (hrs : s.rs.length ≤ 1048576) (hms : ∀ t ∈ s.rs, t.1.ms.length ≤ 1048576) (had : s.d.1.ad.length ≤ 1048576) (hot : ∀ a ∈ s.d.1.ad, a.ot.length ≤ 1048576) :
    Calls Tryd.prog 49 #[.pointer (some ⟨b, 0, none⟩)] W (MethsPost W (giftsP s.d.1.ad s.rs)) := by
  obtain ⟨xs, hxs, hxr⟩ := da_rows h
  have HRN : Hid (s.r.n = s.rs.length) := Lib.hid (by have h9 := rin_n (rr_at h); rw [List.length_map] at h9; exact h9)
  have HC : Hid (∀ V, Below W.heap.size W V → V.cell? ⟨b, 7, none⟩ = some (.slice s.d.2.a.o s.d.2.a.n s.d.2.a.c) ∧ V.cell? ⟨b, 34, none⟩ = some (.slice s.r.o s.r.n s.r.c)) := Lib.hid (fun V hV => ⟨(hV.cell (p := ⟨b, 7, none⟩) (cell_lt h7)).trans h7, (hV.cell (p := ⟨b, 34, none⟩) (cell_lt h34)).trans h34⟩)
  have hlx : xs.length = s.d.1.ad.length := by rw [← hxs, List.length_map]
  have HXN : Hid (s.d.2.a.n = xs.length) := Lib.hid (by have h9 := rin_n (hxr W h).1; rw [List.length_map] at h9; exact h9)
  have HO := Lib.hid h
  have HXS := Lib.hid hxs
  have HXR := Lib.hid hxr
  have HXL : Hid (xs.length ≤ 1048576) := Lib.hid (by omega)
  have HAO : Hid (∀ x ∈ s.d.1.ad, x.ot.length ≤ 1073741824) := Lib.hid (fun x hx => Nat.le_trans (hot x hx) (by decide))
  have HAL : Hid (s.d.1.ad.length ≤ 1073741824) := Lib.hid (by omega)
  rw [HRN.out] at h34
  have O0 : Hid (OR W W 34 6 (.slice none 0 0) ((gifts1 s.d.1.ad (s.rs.take 0)).map MtP.row)) := Lib.hid OR.nil
  clear h h7 hxs hxr hlx had hot
  go_enter Tryd.func49, Tryd.ntmps49
  go_wp2_with fail
  clear h34
  go_loopw [3, 5, 7, 19] (fun ov _ _ kv wr => ∃ (k : Nat) (uo : Option Addr) (L uc : Nat), k ≤ s.rs.length ∧ kv = .int .i64 k ∧ ov = .slice uo L uc ∧ Hid (OR W wr 34 6 (.slice uo L uc) ((gifts1 s.d.1.ad (s.rs.take k)).map MtP.row))) (fun _ _ _ kv _ => s.rs.length - (intOf kv).toNat)
  case atStart => exact ⟨0, none, 0, 0, Nat.zero_le _, rfl, rfl, O0⟩
  case round =>
    clear O0
    obtain ⟨k, uo, L, uc, hk, rfl, rfl, HOR⟩ := hrel
    by_cases hlt : k < s.rs.length
    · have hi : (k : Int) < (s.rs.length : Int) := by omega
      obtain ⟨hw', hw⟩ := wr_sm (x := (k : Int) + 1) (by omega) (by omega)
      have HS1 := Lib.hid (HO.out.same HOR.out.below)
      obtain ⟨t, g, off, cp, ht, htm, -, e, hg, -, hc⟩ := kc_cells (rr_at HS1.out) hlt
      simp only [Value.slice.injEq] at e
      obtain ⟨e1, -, -⟩ := e
      obtain ⟨d0, d1, d2, d3, d4, d5, d6, d7, d8, d9, d10⟩ := hc _ (Below.refl _ _)
      have Hkl := Lib.hid hlt
      have HTM := Lib.hid htm
      have HT := Lib.hid ht
      have HTL := Lib.hid (hms t htm)
      have HTN : Hid (t.2.m.n = t.1.ms.length) := Lib.hid (by have h9 := rin_n (mn_at HS1.out htm); rw [List.length_map] at h9; exact h9)
      rw [HTN.out] at d10
      have B1 := Lib.hid (below_alloc1 wr (.cells #[.string t.1.nm, .int .i64 t.1.kd, .bool t.1.ab, .bool t.1.fi, .string t.1.pa, .slice t.2.f.o t.2.f.n t.2.f.c, .slice t.2.t.o t.2.t.n t.2.t.c, .slice t.2.a.o t.2.a.n t.2.a.c, .slice t.2.c.o t.2.c.n t.2.c.c, .slice t.2.p.o t.2.p.n t.2.p.c, .slice t.2.m.o t.1.ms.length t.2.m.c] 29))
      have A1 : Hid (At1 W (wr.alloc (.cells #[.string t.1.nm, .int .i64 t.1.kd, .bool t.1.ab, .bool t.1.fi, .string t.1.pa, .slice t.2.f.o t.2.f.n t.2.f.c, .slice t.2.t.o t.2.t.n t.2.t.c, .slice t.2.a.o t.2.a.n t.2.a.c, .slice t.2.c.o t.2.c.n t.2.c.c, .slice t.2.p.o t.2.p.n t.2.p.c, .slice t.2.m.o t.1.ms.length t.2.m.c] 29)) wr.heap.size (.cells #[.string t.1.nm, .int .i64 t.1.kd, .bool t.1.ab, .bool t.1.fi, .string t.1.pa, .slice t.2.f.o t.2.f.n t.2.f.c, .slice t.2.t.o t.2.t.n t.2.t.c, .slice t.2.a.o t.2.a.n t.2.a.c, .slice t.2.c.o t.2.c.n t.2.c.c, .slice t.2.p.o t.2.p.n t.2.p.c, .slice t.2.m.o t.1.ms.length t.2.m.c] 29)) := Lib.hid ⟨heap_alloc_new wr _, HOR.out.below.trans (B1.out.mono HOR.out.below.size)⟩
      have O1 : Hid (OR W (wr.alloc (.cells #[.string t.1.nm, .int .i64 t.1.kd, .bool t.1.ab, .bool t.1.fi, .string t.1.pa, .slice t.2.f.o t.2.f.n t.2.f.c, .slice t.2.t.o t.2.t.n t.2.t.c, .slice t.2.a.o t.2.a.n t.2.a.c, .slice t.2.c.o t.2.c.n t.2.c.c, .slice t.2.p.o t.2.p.n t.2.p.c, .slice t.2.m.o t.1.ms.length t.2.m.c] 29)) 34 6 (.slice uo L uc) ((gA1 s.d.1.ad s.rs t k 0).map MtP.row)) := Lib.hid (by
        have h9 := HOR.out.same B1.out
        unfold gA1
        rw [List.take_zero, List.filter_nil, List.append_nil]
        exact h9)
      clear hc ht htm hlt hg
      go_wp2_with fail
      clear d0 d1 d2 d3 d4 d5 d6 d7 d8 d9 d10 e1
      obtain ⟨wa, hwa⟩ : ∃ wa, wa = wr := ⟨_, rfl⟩
      subst hwa
      have HU : Hid (uo = uo) := Lib.hid rfl
      go_loopw [3, 7, 26] (fun ov _ jv wr => ∃ (j : Nat) (uo : Option Addr) (L uc : Nat), j ≤ t.1.ms.length ∧ jv = .int .i64 j ∧ ov = .slice uo L uc ∧ Hid (At1 W wr wa.heap.size (.cells #[.string t.1.nm, .int .i64 t.1.kd, .bool t.1.ab, .bool t.1.fi, .string t.1.pa, .slice t.2.f.o t.2.f.n t.2.f.c, .slice t.2.t.o t.2.t.n t.2.t.c, .slice t.2.a.o t.2.a.n t.2.a.c, .slice t.2.c.o t.2.c.n t.2.c.c, .slice t.2.p.o t.2.p.n t.2.p.c, .slice t.2.m.o t.1.ms.length t.2.m.c] 29)) ∧ Hid (OR W wr 34 6 (.slice uo L uc) ((gA1 s.d.1.ad s.rs t k j).map MtP.row))) (fun _ _ jv _ => t.1.ms.length - (intOf jv).toNat)
      case atStart => exact ⟨0, uo, L, uc, Nat.zero_le _, rfl, rfl, A1, O1⟩
      case round =>
        clear O1 A1 HOR B1 HU
        obtain ⟨j, uo, L, uc, hj, rfl, rfl, HA, HOR⟩ := hrel
        have htl := HTL.out
        by_cases hlt : j < t.1.ms.length
        · have hi2 : (j : Int) < (t.1.ms.length : Int) := by omega
          obtain ⟨hw2', hw2⟩ := wr_sm (x := (j : Int) + 1) (by omega) (by omega)
          have HS2 := Lib.hid (HO.out.same HOR.out.below)
          obtain ⟨m, g2, off2, cp2, hm, -, -, e, -, -, hc⟩ := mt_cells (mn_at HS2.out HTM.out) hlt
          simp only [Value.slice.injEq] at e
          obtain ⟨e1, -, -⟩ := e
          obtain ⟨d0, d1, d2, d3, d4, d5⟩ := hc _ (Below.refl _ _)
          have Hlt := Lib.hid hlt
          have HM := Lib.hid hm
          have B2 := Lib.hid (below_alloc1 wr (.cells #[.string m.nm, .bool m.st, .bool m.ab, .bool m.fi, .string m.fr, .int .i64 m.cd] 34))
          have A2 := Lib.hid (HA.out.mono B2.out)
          have O2 := Lib.hid (HOR.out.same B2.out)
          have h7 := (HC.out _ O2.out.below).1
          have M2 : Hid ((wr.alloc (.cells #[.string m.nm, .bool m.st, .bool m.ab, .bool m.fi, .string m.fr, .int .i64 m.cd] 34)).heap[wr.heap.size]? = some (.cells #[.string m.nm, .bool m.st, .bool m.ab, .bool m.fi, .string m.fr, .int .i64 m.cd] 34 (0, 0))) := Lib.hid (heap_alloc_new wr _)
          have HCA := Lib.hid (any_ad70 m.nm t.1.nm wr.heap.size wa.heap.size (cell_blk M2.out 0) (cell_blk A2.out.a 0) (da_at (HO.out.same O2.out.below)) HAO.out HAL.out)
          obtain ⟨z, hz⟩ : ∃ z, z = s.d.1.ad.any (fun x => eqB x.nm m.nm && hasB x.ot t.1.nm) := ⟨_, rfl⟩
          rw [← hz] at HCA
          have HG : Hid (goneP s.d.1.ad t m = z) := Lib.hid hz.symm
          clear hc hm hlt hz
          go_wp2_with fail
          refine HCA.out.mono ?_
          rintro _ w3 ⟨rfl, hb3⟩
          have A3 := Lib.hid (A2.out.mono hb3)
          have O3 := Lib.hid (O2.out.same hb3)
          have M3 : Hid (w3.heap[wr.heap.size]? = some (.cells #[.string m.nm, .bool m.st, .bool m.ab, .bool m.fi, .string m.fr, .int .i64 m.cd] 34 (0, 0))) := Lib.hid ((hb3.block _ (by simp)).trans M2.out)
          clear hb3 HCA e1 d0 d1 d2 d3 d4 d5 h7 B2 A2 O2 M2 HOR HA
          cases z with
          | true =>
            have HRW : Hid (gA1 s.d.1.ad s.rs t k (j + 1) = gA1 s.d.1.ad s.rs t k j) := Lib.hid (gA1_out HM.out HG.out)
            go_wp2_with fail
            go_roundw
            case rel => exact ⟨j + 1, _, _, _, Hlt.out, by go_num, rfl, A3, Lib.hid (by rw [HRW.out]; exact O3.out)⟩
            case measure => have := Hlt.out; simp [intOf]; omega
          | false =>
            have HRW : Hid ((gA1 s.d.1.ad s.rs t k (j + 1)).map MtP.row = (gA1 s.d.1.ad s.rs t k j).map MtP.row ++ [[.string m.nm, .bool m.st, .bool m.ab, .bool m.fi, .string m.fr, .int .i64 m.cd]]) := Lib.hid (by rw [gA1_in HM.out HG.out, List.map_append]; rfl)
            have c0 := cell_blk M3.out 0; have c1 := cell_blk M3.out 1; have c2 := cell_blk M3.out 2; have c3 := cell_blk M3.out 3; have c4 := cell_blk M3.out 4; have c5 := cell_blk M3.out 5
            have B4 := Lib.hid (below_alloc1 w3 (.cells #[.string m.nm, .bool m.st, .bool m.ab, .bool m.fi, .string m.fr, .int .i64 m.cd] 34))
            have O4 := Lib.hid (O3.out.same B4.out)
            have A4 := Lib.hid (A3.out.mono B4.out)
            have hL := Lib.hid (lies_new w3 [.string m.nm, .bool m.st, .bool m.ab, .bool m.fi, .string m.fr, .int .i64 m.cd] 34 (size := 6) rfl)
            have HF : Hid (((gA1 s.d.1.ad s.rs t k j).map MtP.row).length + ([[.string m.nm, .bool m.st, .bool m.ab, .bool m.fi, .string m.fr, .int .i64 m.cd]] : List (List Value)).length ≤ maxLen ∧ (((gA1 s.d.1.ad s.rs t k j).map MtP.row).length + ([[.string m.nm, .bool m.st, .bool m.ab, .bool m.fi, .string m.fr, .int .i64 m.cd]] : List (List Value)).length) * 48 ≤ 140737488355328) := Lib.hid (mt_fits (by rw [List.length_map]; exact gA1_len hms (Nat.le_trans (Nat.le_of_lt Hkl.out) hrs) (Nat.le_trans (Nat.le_of_lt Hlt.out) htl)))
            go_wp2_with (at_builtin; refine wpList_append_rows rfl (.tmp 38) (.tmp 40) 27 rfl 34 _ 6 48 Tryd.underlying27 info34 rfl (by decide) (.slice uo L uc) ((gA1 s.d.1.ad s.rs t k j).map MtP.row) (by rfl) O4.out.own (some ⟨w3.heap.size, 0, none⟩) 1 1 ([[.string m.nm, .bool m.st, .bool m.ab, .bool m.fi, .string m.fr, .int .i64 m.cd]] : List (List Value)) (by rfl) rfl (fun e => by cases e) hL.out (by simp [Value.oneCell']) (by simp) HF.out.1 (by have h := HF.out.2; omega) ?_; intro v3 w5 o3 g3 n3; have A5 := Lib.hid (at1_grown A4.out g3 O4.out.fresh (own_nb (by decide) O4.out.own A4.out.a)); have R7 := O4.out.next o3 g3 n3; rw [← HRW.out] at R7; obtain ⟨a8, L8, c8, hv8, hl8⟩ := R7.slice; subst hv8; have R8 := Lib.hid R7; clear o3 g3 n3 R7 hl8)
            go_roundw
            case rel => exact ⟨j + 1, _, _, _, Hlt.out, by go_num, rfl, A5, R8⟩
            case measure => have := Hlt.out; simp [intOf]; omega
        · obtain rfl : j = t.1.ms.length := by omega
          have O3 : Hid (OR W wr 34 6 (.slice uo L uc) ((gifts1 s.d.1.ad (s.rs.take (k + 1))).map MtP.row)) := Lib.hid (by have h9 := HOR.out; rw [gA1_end HT.out] at h9; exact h9)
          go_wp2_with fail
          go_roundw
          case rel => exact ⟨k + 1, _, _, _, Hkl.out, by go_num, rfl, O3⟩
          case measure => have := Hkl.out; simp [intOf]; omega
    · obtain rfl : k = s.rs.length := by omega
      have O1 : Hid (OR W wr 34 6 (.slice uo L uc) ((gifts1 s.d.1.ad s.rs ++ gifts2 ((xs.take 0).map (·.1)) s.rs).map MtP.row)) := Lib.hid (by
        have h9 := HOR.out
        rw [List.take_length] at h9
        have e9 : gifts1 s.d.1.ad s.rs ++ gifts2 ((xs.take 0).map (·.1)) s.rs = gifts1 s.d.1.ad s.rs := by rw [List.take_zero]; exact List.append_nil _
        rw [e9]
        exact h9)
      have h7 := (HC.out _ O1.out.below).1
      rw [HXN.out] at h7
      go_wp2_with fail
      clear h7 HOR
      obtain ⟨wa, hwa⟩ : ∃ wa, wa = wr := ⟨_, rfl⟩
      subst hwa
      go_loopw [3, 9, 11, 12, 13, 50] (fun ov _ _ _ _ kv wr => ∃ (k : Nat) (uo : Option Addr) (L uc : Nat), k ≤ xs.length ∧ kv = .int .i64 k ∧ ov = .slice uo L uc ∧ Hid (OR W wr 34 6 (.slice uo L uc) ((gifts1 s.d.1.ad s.rs ++ gifts2 ((xs.take k).map (·.1)) s.rs).map MtP.row))) (fun _ _ _ _ _ kv _ => xs.length - (intOf kv).toNat)
      case atStart => exact ⟨0, uo, L, uc, Nat.zero_le _, rfl, rfl, O1⟩
      case round =>
        clear O1
        obtain ⟨k, uo, L, uc, hk, rfl, rfl, HOR⟩ := hrel
        have hxl := HXL.out
        by_cases hlt : k < xs.length
        · have hi : (k : Int) < (xs.length : Int) := by omega
          obtain ⟨hw', hw⟩ := wr_sm (x := (k : Int) + 1) (by omega) (by omega)
          have HS1 := Lib.hid (HO.out.same HOR.out.below)
          obtain ⟨a, g, off, cp, ha, ham, -, e, hg, -, hc⟩ := ad_cells (HXR.out wr HS1.out).1 hlt
          simp only [Value.slice.injEq] at e
          obtain ⟨e1, -, -⟩ := e
          obtain ⟨d0, d1, d2, d3⟩ := hc _ (Below.refl _ _)
          have Hkl := Lib.hid hlt
          have HAA := Lib.hid ha
          have B1 := Lib.hid (below_alloc1 wr (.cells #[.string a.1.tr, .string a.1.nm, .slice a.2.o a.2.n a.2.c, .string a.1.sa] 54))
          have A1 : Hid (At1 W (wr.alloc (.cells #[.string a.1.tr, .string a.1.nm, .slice a.2.o a.2.n a.2.c, .string a.1.sa] 54)) wr.heap.size (.cells #[.string a.1.tr, .string a.1.nm, .slice a.2.o a.2.n a.2.c, .string a.1.sa] 54)) := Lib.hid ⟨heap_alloc_new wr _, HOR.out.below.trans (B1.out.mono HOR.out.below.size)⟩
          have O1 := Lib.hid (HOR.out.same B1.out)
          obtain ⟨p, hp⟩ : ∃ p, a.1.sa.toList.isEmpty = p := ⟨_, rfl⟩
          have HP : Hid (emT a.1.sa = p) := Lib.hid hp
          clear hc ha ham hlt hg
          cases p with
          | true =>
            have HRW := Lib.hid (gA2_no (ad := s.d.1.ad) (rs := s.rs) HAA.out HP.out)
            go_wp2_with fail
            clear e1 d0 d1 d2 d3
            go_roundw
            case rel => exact ⟨k + 1, _, _, _, Hkl.out, by go_num, rfl, Lib.hid (by rw [HRW.out]; exact O1.out)⟩
            case measure => have := Hkl.out; simp [intOf]; omega
          | false =>
            have HMC := Lib.hid (meant_any (HO.out.same O1.out.below) (HC.out _ O1.out.below).2 hrs hms a)
            obtain ⟨q, hq⟩ : ∃ q, q = meantP s.rs a.1 := ⟨_, rfl⟩
            have HQ := Lib.hid hq
            rw [← hq] at HMC
            have HQM : Hid (q.length ≤ 1048576 ∧ ∀ t ∈ q, t ∈ s.rs) := Lib.hid (by rw [hq]; exact ⟨Nat.le_trans (List.length_filter_le _ _) hrs, fun t ht => (List.mem_filter.1 ht).1⟩)
            clear hq
            go_wp2_with fail
            refine HMC.out.mono ?_
            rintro _ w2 ⟨ma, mc, rfl, hor⟩
            have A2 := Lib.hid (A1.out.mono hor.below)
            have O2 : Hid (OR W w2 34 6 (.slice uo L uc) ((gA2 s.d.1.ad s.rs xs a.1 k 0).map MtP.row)) := Lib.hid (by
              have h9 := O1.out.same hor.below
              unfold gA2
              rw [List.take_zero, List.map_nil, List.append_nil]
              exact h9)
            have Q2 := Lib.hid hor.own
            clear hor e1 d0 d1 d2 d3 hp HMC A1 O1 HOR B1
            go_wp2_with fail
            obtain ⟨wb, hwb⟩ : ∃ wb, wb = wr := ⟨_, rfl⟩
            subst hwb
            go_loopw [3, 11, 12, 13, 61] (fun ov _ _ _ jv wr => ∃ (j : Nat) (uo : Option Addr) (L uc : Nat), j ≤ q.length ∧ jv = .int .i64 j ∧ ov = .slice uo L uc ∧ Hid (At1 W wr wb.heap.size (.cells #[.string a.1.tr, .string a.1.nm, .slice a.2.o a.2.n a.2.c, .string a.1.sa] 54)) ∧ Hid (OR W wr 34 6 (.slice uo L uc) ((gA2 s.d.1.ad s.rs xs a.1 k j).map MtP.row)) ∧ Hid (Owns wr 29 11 (.slice ma q.length mc) (q.map KC.row))) (fun _ _ _ _ jv _ => q.length - (intOf jv).toNat)
            case atStart => exact ⟨0, uo, L, uc, Nat.zero_le _, rfl, rfl, A2, O2, Q2⟩
            case round =>
              clear O2 A2 Q2
              obtain ⟨j, uo, L, uc, hj, rfl, rfl, HA, HOR, HQW⟩ := hrel
              have hql := HQM.out.1
              by_cases hlt : j < q.length
              · have hi2 : (j : Int) < (q.length : Int) := by omega
                obtain ⟨hw2', hw2⟩ := wr_sm (x := (j : Int) + 1) (by omega) (by omega)
                obtain ⟨t, g, off, cp, ht, htm, -, e, -, -, hc⟩ := kc_cells (RIn.of_owns (A := AnyB) HQW.out (fun _ _ => trivial)) hlt
                simp only [Value.slice.injEq] at e
                obtain ⟨e1, -, -⟩ := e
                obtain ⟨d0, d1, d2, d3, d4, d5, d6, d7, d8, d9, d10⟩ := hc _ (Below.refl _ _)
                have Hlt := Lib.hid hlt
                have HT := Lib.hid ht
                have B3 := Lib.hid (below_alloc1 wr (.cells #[.string t.1.nm, .int .i64 t.1.kd, .bool t.1.ab, .bool t.1.fi, .string t.1.pa, .slice t.2.f.o t.2.f.n t.2.f.c, .slice t.2.t.o t.2.t.n t.2.t.c, .slice t.2.a.o t.2.a.n t.2.a.c, .slice t.2.c.o t.2.c.n t.2.c.c, .slice t.2.p.o t.2.p.n t.2.p.c, .slice t.2.m.o t.2.m.n t.2.m.c] 29))
                have A3 := Lib.hid (HA.out.mono B3.out)
                have O3 := Lib.hid (HOR.out.same B3.out)
                have HMC := Lib.hid (method_any a.1.nm (tr_at (HO.out.same O3.out.below) (HQM.out.2 t htm)) (Nat.le_trans (hms t (HQM.out.2 t htm)) (by decide)))
                obtain ⟨m, hm⟩ : ∃ m, m = (methP t.1.ms a.1.nm).getD ⟨⟨#[]⟩, false, false, false, ⟨#[]⟩, 0⟩ := ⟨_, rfl⟩
                obtain ⟨is, his⟩ : ∃ is, is = (methP t.1.ms a.1.nm).isSome := ⟨_, rfl⟩
                have HAS : Hid (asP a.1 t = ⟨a.1.sa, m.st, m.ab, m.fi, m.fr, m.cd⟩) := Lib.hid (by rw [hm]; rfl)
                have HMD : Hid (Calls Tryd.prog 6 #[.agg #[.string t.1.nm, .int .i64 t.1.kd, .bool t.1.ab, .bool t.1.fi, .string t.1.pa, .slice t.2.f.o t.2.f.n t.2.f.c, .slice t.2.t.o t.2.t.n t.2.t.c, .slice t.2.a.o t.2.a.n t.2.a.c, .slice t.2.c.o t.2.c.n t.2.c.c, .slice t.2.p.o t.2.p.n t.2.p.c, .slice t.2.m.o t.2.m.n t.2.m.c], .string a.1.nm] (wr.alloc (.cells #[.string t.1.nm, .int .i64 t.1.kd, .bool t.1.ab, .bool t.1.fi, .string t.1.pa, .slice t.2.f.o t.2.f.n t.2.f.c, .slice t.2.t.o t.2.t.n t.2.t.c, .slice t.2.a.o t.2.a.n t.2.a.c, .slice t.2.c.o t.2.c.n t.2.c.c, .slice t.2.p.o t.2.p.n t.2.p.c, .slice t.2.m.o t.2.m.n t.2.m.c] 29)) (fun e w' => Below (wr.alloc (.cells #[.string t.1.nm, .int .i64 t.1.kd, .bool t.1.ab, .bool t.1.fi, .string t.1.pa, .slice t.2.f.o t.2.f.n t.2.f.c, .slice t.2.t.o t.2.t.n t.2.t.c, .slice t.2.a.o t.2.a.n t.2.a.c, .slice t.2.c.o t.2.c.n t.2.c.c, .slice t.2.p.o t.2.p.n t.2.p.c, .slice t.2.m.o t.2.m.n t.2.m.c] 29)).heap.size (wr.alloc (.cells #[.string t.1.nm, .int .i64 t.1.kd, .bool t.1.ab, .bool t.1.fi, .string t.1.pa, .slice t.2.f.o t.2.f.n t.2.f.c, .slice t.2.t.o t.2.t.n t.2.t.c, .slice t.2.a.o t.2.a.n t.2.a.c, .slice t.2.c.o t.2.c.n t.2.c.c, .slice t.2.p.o t.2.p.n t.2.p.c, .slice t.2.m.o t.2.m.n t.2.m.c] 29)) w' ∧ e = .returned (.tuple #[.agg #[.string m.nm, .bool m.st, .bool m.ab, .bool m.fi, .string m.fr, .int .i64 m.cd], .bool is]))) := Lib.hid (by rw [hm, his]; exact HMC.out)
                have x1 := cell_blk A3.out.a 1
                clear hc ht htm hlt hm his HMC
                go_wp2_with fail
                refine HMD.out.mono ?_
                rintro _ w4 ⟨hb4, rfl⟩
                have A4 := Lib.hid (A3.out.mono hb4)
                have O4 := Lib.hid (O3.out.same hb4)
                have Q4 := Lib.hid ((HQW.out.mod (Mod.of_below (F := fun _ => False) B3.out) (fun _ _ x => x)).mod (Mod.of_below (F := fun _ => False) hb4) (fun _ _ x => x))
                clear hb4 d0 d1 d2 d3 d4 d5 d6 d7 d8 d9 d10 e1 HMD x1 B3 A3 O3 HQW HOR HA
                have B5 := Lib.hid (below_alloc1 w4 (.cells #[.string m.nm, .bool m.st, .bool m.ab, .bool m.fi, .string m.fr, .int .i64 m.cd] 34))
                have A5a := Lib.hid (A4.out.mono B5.out)
                have x3 := cell_blk A5a.out.a 3
                go_upto_region 21 with fail
                have B6 := Lib.hid (below_alloc1 w4 (.cells #[.string a.1.sa, .bool m.st, .bool m.ab, .bool m.fi, .string m.fr, .int .i64 m.cd] 34))
                have A6 := Lib.hid (A4.out.mono B6.out)
                have O6 := Lib.hid (O4.out.same B6.out)
                have Q6 := Lib.hid (Q4.out.mod (Mod.of_below (F := fun _ => False) B6.out) (fun _ _ x => x))
                have N6 : Hid ((w4.alloc (.cells #[.string a.1.sa, .bool m.st, .bool m.ab, .bool m.fi, .string m.fr, .int .i64 m.cd] 34)).heap[w4.heap.size]? = some (.cells #[.string a.1.sa, .bool m.st, .bool m.ab, .bool m.fi, .string m.fr, .int .i64 m.cd] 34 (0, 0))) := Lib.hid (heap_alloc_new w4 _)
                obtain ⟨w6, hw6⟩ : ∃ w6, w6 = w4.alloc (.cells #[.string a.1.sa, .bool m.st, .bool m.ab, .bool m.fi, .string m.fr, .int .i64 m.cd] 34) := ⟨_, rfl⟩
                rw [← hw6] at A6 O6 Q6 N6 ⊢
                clear hw6 x3 A5a B5 B6 A4 O4 Q4
                have c0 := cell_blk N6.out 0; have c1 := cell_blk N6.out 1; have c2 := cell_blk N6.out 2; have c3 := cell_blk N6.out 3; have c4 := cell_blk N6.out 4; have c5 := cell_blk N6.out 5
                have B7 := Lib.hid (below_alloc1 w6 (.cells #[.string a.1.sa, .bool m.st, .bool m.ab, .bool m.fi, .string m.fr, .int .i64 m.cd] 34))
                have O7 := Lib.hid (O6.out.same B7.out)
                have A7 := Lib.hid (A6.out.mono B7.out)
                have Q7 := Lib.hid (Q6.out.mod (Mod.of_below (F := fun _ => False) B7.out) (fun _ _ x => x))
                have hL := Lib.hid (lies_new w6 [.string a.1.sa, .bool m.st, .bool m.ab, .bool m.fi, .string m.fr, .int .i64 m.cd] 34 (size := 6) rfl)
                have HRW : Hid ((gA2 s.d.1.ad s.rs xs a.1 k (j + 1)).map MtP.row = (gA2 s.d.1.ad s.rs xs a.1 k j).map MtP.row ++ [[.string a.1.sa, .bool m.st, .bool m.ab, .bool m.fi, .string m.fr, .int .i64 m.cd]]) := Lib.hid (by rw [gA2_in (t := t) (by rw [← HQ.out]; exact HT.out), List.map_append, HAS.out]; rfl)
                have HF : Hid (((gA2 s.d.1.ad s.rs xs a.1 k j).map MtP.row).length + ([[.string a.1.sa, .bool m.st, .bool m.ab, .bool m.fi, .string m.fr, .int .i64 m.cd]] : List (List Value)).length ≤ maxLen ∧ (((gA2 s.d.1.ad s.rs xs a.1 k j).map MtP.row).length + ([[.string a.1.sa, .bool m.st, .bool m.ab, .bool m.fi, .string m.fr, .int .i64 m.cd]] : List (List Value)).length) * 48 ≤ 140737488355328) := Lib.hid (mt_fits (by rw [List.length_map]; exact gA2_len hms hrs (Nat.le_trans (Nat.le_of_lt Hkl.out) hxl) (Nat.le_trans (Nat.le_of_lt Hlt.out) hql)))
                go_wp2_with (at_builtin; refine wpList_append_rows rfl (.tmp 75) (.tmp 77) 27 rfl 34 _ 6 48 Tryd.underlying27 info34 rfl (by decide) (.slice uo L uc) ((gA2 s.d.1.ad s.rs xs a.1 k j).map MtP.row) (by rfl) O7.out.own (some ⟨w6.heap.size, 0, none⟩) 1 1 ([[.string a.1.sa, .bool m.st, .bool m.ab, .bool m.fi, .string m.fr, .int .i64 m.cd]] : List (List Value)) (by rfl) rfl (fun e => by cases e) hL.out (by simp [Value.oneCell']) (by simp) HF.out.1 (by have h := HF.out.2; omega) ?_; intro v3 w5 o3 g3 n3; have Q5 := Lib.hid (owns_grown (by decide) Q7.out O7.out.own g3); have A5 := Lib.hid (at1_grown A7.out g3 O7.out.fresh (own_nb (by decide) O7.out.own A7.out.a)); have R7 := O7.out.next o3 g3 n3; rw [← HRW.out] at R7; obtain ⟨a8, L8, c8, hv8, hl8⟩ := R7.slice; subst hv8; have R8 := Lib.hid R7; clear o3 g3 n3 R7 hl8)
                go_roundw
                case rel => exact ⟨j + 1, _, _, _, Hlt.out, by go_num, rfl, A5, R8, Q5⟩
                case measure => have := Hlt.out; simp [intOf]; omega
              · obtain rfl : j = q.length := by omega
                have O3 : Hid (OR W wr 34 6 (.slice uo L uc) ((gifts1 s.d.1.ad s.rs ++ gifts2 ((xs.take (k + 1)).map (·.1)) s.rs).map MtP.row)) := Lib.hid (by have h9 := HOR.out; rw [HQ.out, gA2_end HAA.out HP.out] at h9; exact h9)
                go_wp2_with fail
                go_roundw
                case rel => exact ⟨k + 1, _, _, _, Hkl.out, by go_num, rfl, O3⟩
                case measure => have := Hkl.out; simp [intOf]; omega
        · obtain rfl : k = xs.length := by omega
          have O3 : Hid (OR W wr 34 6 (.slice uo L uc) ((giftsP s.d.1.ad s.rs).map MtP.row)) := Lib.hid (by have h9 := HOR.out; rw [List.take_length, HXS.out] at h9; exact h9)
          have HLN : Hid (L = (giftsP s.d.1.ad s.rs).length) := Lib.hid (by have h9 := O3.out.len; rw [List.length_map] at h9; exact h9)
          go_wp2_with fail
          go_ret
          have h1 := O3.out
          have h2 := HLN.out
          subst h2
          exact ⟨_, _, rfl, h1⟩
end Go.Proofs.YtobjmajkcfhpoaaDoor
