/-
  The linker's meant (printed by genMeant17.py).
-/
import Derived.Test.YtobjmajkcfhpoaaDoorOne17
import Derived.Deep.Cut
namespace Go.Proofs.YtobjmajkcfhpoaaDoor
open Go.RowKit

attribute [local go_sem] yld_undef
/-- What a call that gathers classes answers. -/
def KindPost (w : World) (l : List KC) (e : Ending) (w' : World) : Prop := ∃ a c, e = .returned (.slice a l.length c) ∧ OR w w' 29 11 (.slice a l.length c) (l.map KC.row)
theorem kc_one (ls : List KC) : ∀ r ∈ ls.map KC.row, ∀ u ∈ r, u.oneCell' = true := by
  intro r hr u hu
  obtain ⟨x, _, rfl⟩ := List.mem_map.1 hr
  simp [KC.row] at hu
  rcases hu with rfl | rfl | rfl | rfl | rfl | rfl | rfl | rfl | rfl | rfl | rfl <;> rfl
theorem drop_at {α : Type} {l : List α} {k : Nat} {x : α} (h : l[k]? = some x) : l.drop k = x :: l.drop (k + 1) := by
  obtain ⟨hk, e⟩ := List.getElem?_eq_some_iff.1 h
  rw [List.drop_eq_getElem_cons hk, e]
theorem rin_n {A : Nat → Prop} {w : World} {size : Nat} {v : SV} {rows : List (List Value)} (h : RIn A w size (.slice v.o v.n v.c) rows) : v.n = rows.length := by
  obtain ⟨ao, cap, e, -⟩ := h
  cases v
  cases e
  rfl
theorem rr_at {w0 W : World} {b : Nat} {s : LS} (h : LkO w0 W b s) : RIn AnyB W 11 (.slice s.r.o s.r.n s.r.c) (s.rs.map KC.row) := RIn.of_owns h.or (fun _ _ => trivial)
/-- A trait, as it lies. -/
theorem tr_at {w0 W : World} {b : Nat} {s : LS} (h : LkO w0 W b s) {x : KC} (hx : x ∈ s.rs) : ClIn (NF b s.g s.l) W x.1 x.2 :=
  (h.rIn x hx).kept fun g hA hg => ⟨h.mod.block g hg hA, Nat.lt_of_lt_of_le hg h.mod.size, hA⟩
theorem take_filter_snoc {l : List KC} {k : Nat} {x : KC} (h : l[k]? = some x) (p : KC → Bool) : (l.take (k + 1)).filter p = (l.take k).filter p ++ (if p x = true then [x] else []) := by
  rw [List.take_add_one, h, List.filter_append]
  cases hp : p x <;> simp [hp]
theorem take_filter_len (l : List KC) (k : Nat) (p : KC → Bool) : ((l.take k).filter p).length ≤ k := Nat.le_trans (List.length_filter_le _ _) (by simp; omega)
theorem OR.len {w wr : World} {e : TypeId} {size : Nat} {a : Option Addr} {L c : Nat} {rows : List (List Value)} (h : OR w wr e size (.slice a L c) rows) : L = rows.length := by
  obtain ⟨a', L', c', e, h9⟩ := h.slice
  cases e
  exact h9
theorem at1_grown {w W W' : World} {B : Nat} {oa : Obj} {v : Value} (h : At1 w W B oa) (hg : W.grownBy W' v.ownBlock) (hf : ∀ g, v.ownBlock = some g → w.heap.size ≤ g) (hB : v.ownBlock ≠ some B) : At1 w W' B oa :=
  ⟨(hg.block _ (lt_of_block h.a) (fun e => hB e.symm)).trans h.a, h.below.trans ⟨hg.os, hg.tape, hg.output, hg.size, fun k hk => hg.block k (Nat.lt_of_lt_of_le hk h.below.size) (fun e => by have := hf k e.symm; omega)⟩⟩
theorem app_fits {r : List Value} {rows : List (List Value)} (h : rows.length ≤ 1048576) : rows.length + ([r] : List (List Value)).length ≤ maxLen ∧ (rows.length + ([r] : List (List Value)).length) * 192 ≤ 140737488355328 := by
  unfold maxLen
  simp only [List.length_cons, List.length_nil]
  omega
set_option maxHeartbeats 12800000 in
set_option maxRecDepth 100000 in
theorem meant_any {w0 W : World} {b : Nat} {s : LS} (h : LkO w0 W b s) (h34 : W.cell? ⟨b, 34, none⟩ = some (.slice s.r.o s.r.n s.r.c)) (hrs : s.rs.length ≤ 1048576) (hms : ∀ t ∈ s.rs, t.1.ms.length ≤ 1048576) (a : AdP × SV) :
    Calls Tryd.prog 66 #[.pointer (some ⟨b, 0, none⟩), .agg #[.string a.1.tr, .string a.1.nm, .slice a.2.o a.2.n a.2.c, .string a.1.sa]] W (KindPost W (meantP s.rs a.1)) := by
  have HN : Hid (s.r.n = s.rs.length) := Lib.hid (by have h9 := rin_n (rr_at h); rw [List.length_map] at h9; exact h9)
  have A0 := Lib.hid (at1_start W (.cells #[.string a.1.tr, .string a.1.nm, .slice a.2.o a.2.n a.2.c, .string a.1.sa] 54))
  have z34 : (W.alloc (.cells #[.string a.1.tr, .string a.1.nm, .slice a.2.o a.2.n a.2.c, .string a.1.sa] 54)).cell? ⟨b, 34, none⟩ = some (.slice s.r.o s.rs.length s.r.c) := by
    rw [HN.out] at h34
    exact (A0.out.below.cell (p := ⟨b, 34, none⟩) (cell_lt h34)).trans h34
  have HO := Lib.hid h
  have O0 : Hid (OR W (W.alloc (.cells #[.string a.1.tr, .string a.1.nm, .slice a.2.o a.2.n a.2.c, .string a.1.sa] 54)) 29 11 (.slice none 0 0) (((s.rs.take 0).filter (meansP a.1)).map KC.row)) := Lib.hid ⟨Owns.empty _ _ _, A0.out.below, fun g e => by cases e⟩
  clear h h34
  go_enter Tryd.func66, Tryd.ntmps66
  go_wp2_with fail
  clear z34
  go_loopw [5, 7, 8, 9, 15] (fun ov _ _ _ kv wr => ∃ (k : Nat) (uo : Option Addr) (L uc : Nat), k ≤ s.rs.length ∧ kv = .int .i64 k ∧ ov = .slice uo L uc ∧ Hid (L = ((s.rs.take k).filter (meansP a.1)).length) ∧ Hid (At1 W wr W.heap.size (.cells #[.string a.1.tr, .string a.1.nm, .slice a.2.o a.2.n a.2.c, .string a.1.sa] 54)) ∧ Hid (OR W wr 29 11 (.slice uo L uc) (((s.rs.take k).filter (meansP a.1)).map KC.row))) (fun _ _ _ _ kv _ => s.rs.length - (intOf kv).toNat)
  case atStart => exact ⟨0, none, 0, 0, Nat.zero_le _, rfl, rfl, Lib.hid (by simp), A0, O0⟩
  case round =>
    clear O0 A0
    obtain ⟨k, uo, L, uc, hk, rfl, rfl, HLL, HA, HOR⟩ := hrel
    by_cases hlt : k < s.rs.length
    · have hi : (k : Int) < (s.rs.length : Int) := by omega
      obtain ⟨hw', hw⟩ := wr_sm (x := (k : Int) + 1) (by omega) (by omega)
      have HS1 := Lib.hid (HO.out.same HA.out.below)
      obtain ⟨t, g, off, cp, ht, htm, -, e, hg, -, hc⟩ := kc_cells (rr_at HS1.out) hlt
      simp only [Value.slice.injEq] at e
      obtain ⟨e1, -, -⟩ := e
      obtain ⟨d0, d1, d2, d3, d4, d5, d6, d7, d8, d9, d10⟩ := hc _ (Below.refl _ _)
      have Hkl := Lib.hid hlt
      have HB1 := Lib.hid (below_alloc1 wr (.cells #[.string t.1.nm, .int .i64 t.1.kd, .bool t.1.ab, .bool t.1.fi, .string t.1.pa, .slice t.2.f.o t.2.f.n t.2.f.c, .slice t.2.t.o t.2.t.n t.2.t.c, .slice t.2.a.o t.2.a.n t.2.a.c, .slice t.2.c.o t.2.c.n t.2.c.c, .slice t.2.p.o t.2.p.n t.2.p.c, .slice t.2.m.o t.2.m.n t.2.m.c] 29))
      have HMC := Lib.hid (method_any a.1.nm (tr_at (HS1.out.same HB1.out) htm) (by have := hms t htm; omega))
      obtain ⟨q, hq⟩ : ∃ q, q = methP t.1.ms a.1.nm := ⟨_, rfl⟩
      rw [← hq] at HMC
      obtain ⟨p1, hp1⟩ : ∃ p, a.1.tr.toList.isEmpty = p := ⟨_, rfl⟩
      obtain ⟨p2, hp2⟩ : ∃ p, (a.1.tr.toList == t.1.nm.toList) = p := ⟨_, rfl⟩
      have HME : Hid (meansP a.1 t = (q.isSome && (p1 || p2))) := Lib.hid (by rw [hq, ← hp1, ← hp2]; rfl)
      have HTF := Lib.hid (take_filter_snoc ht (meansP a.1))
      have z0 := cell_blk HA.out.a 0
      have z1 := cell_blk HA.out.a 1
      have A1 := Lib.hid (HA.out.mono HB1.out)
      have y0 := cell_blk A1.out.a 0
      have y1 := cell_blk A1.out.a 1
      clear hc ht htm hlt hg hq z0 z1
      go_wp2_with fail
      refine HMC.out.mono ?_
      rintro _ w2 ⟨hb2, rfl⟩
      have A2 := Lib.hid (A1.out.mono hb2)
      have T2 : Hid (w2.heap[wr.heap.size]? = some (.cells #[.string t.1.nm, .int .i64 t.1.kd, .bool t.1.ab, .bool t.1.fi, .string t.1.pa, .slice t.2.f.o t.2.f.n t.2.f.c, .slice t.2.t.o t.2.t.n t.2.t.c, .slice t.2.a.o t.2.a.n t.2.a.c, .slice t.2.c.o t.2.c.n t.2.c.c, .slice t.2.p.o t.2.p.n t.2.p.c, .slice t.2.m.o t.2.m.n t.2.m.c] 29 (0, 0))) := Lib.hid ((hb2.block _ (by simp)).trans (heap_alloc_new wr _))
      have O2 := Lib.hid ((HOR.out.same HB1.out).same hb2)
      clear hb2 d0 d1 d2 d3 d4 d5 d6 d7 d8 d9 d10 y0 y1 e1 HMC
      cases q with
      | none =>
        simp only [Option.getD_none, Option.isSome_none, MtP.v]
        have B3 := Lib.hid (below_alloc1 w2 (.cells #[.string ⟨#[]⟩, .bool false, .bool false, .bool false, .string ⟨#[]⟩, .int .i64 0] 34))
        have A3 := Lib.hid (A2.out.mono B3.out)
        have T3 : Hid ((w2.alloc (.cells #[.string ⟨#[]⟩, .bool false, .bool false, .bool false, .string ⟨#[]⟩, .int .i64 0] 34)).heap[wr.heap.size]? = some (.cells #[.string t.1.nm, .int .i64 t.1.kd, .bool t.1.ab, .bool t.1.fi, .string t.1.pa, .slice t.2.f.o t.2.f.n t.2.f.c, .slice t.2.t.o t.2.t.n t.2.t.c, .slice t.2.a.o t.2.a.n t.2.a.c, .slice t.2.c.o t.2.c.n t.2.c.c, .slice t.2.p.o t.2.p.n t.2.p.c, .slice t.2.m.o t.2.m.n t.2.m.c] 29 (0, 0))) := Lib.hid (alloc_blk T2.out _)
        have O3 := Lib.hid (O2.out.same B3.out)
        go_upto_region 6 with fail
        obtain ⟨w3, hw3⟩ : ∃ w3, w3 = w2.alloc (.cells #[.string ⟨#[]⟩, .bool false, .bool false, .bool false, .string ⟨#[]⟩, .int .i64 0] 34) := ⟨_, rfl⟩
        rw [← hw3] at A3 T3 O3 ⊢
        have x0 := cell_blk A3.out.a 0
        have x1 := cell_blk T3.out 0
        clear B3 T2 A2 O2 hw3
        have HTK : Hid ((s.rs.take (k + 1)).filter (meansP a.1) = (s.rs.take k).filter (meansP a.1)) := Lib.hid (by rw [HTF.out, HME.out]; simp)
        go_wp2_with fail
        go_roundw
        case rel => exact ⟨k + 1, _, _, _, Hkl.out, by go_num, rfl, Lib.hid (by rw [HTK.out]; exact HLL.out), A3, Lib.hid (by rw [HTK.out]; exact O3.out)⟩
        case measure => have := Hkl.out; simp [intOf]; omega
      | some m =>
        simp only [Option.getD_some, Option.isSome_some, MtP.v]
        have B3 := Lib.hid (below_alloc1 w2 (.cells #[.string m.nm, .bool m.st, .bool m.ab, .bool m.fi, .string m.fr, .int .i64 m.cd] 34))
        have A3 := Lib.hid (A2.out.mono B3.out)
        have T3 : Hid ((w2.alloc (.cells #[.string m.nm, .bool m.st, .bool m.ab, .bool m.fi, .string m.fr, .int .i64 m.cd] 34)).heap[wr.heap.size]? = some (.cells #[.string t.1.nm, .int .i64 t.1.kd, .bool t.1.ab, .bool t.1.fi, .string t.1.pa, .slice t.2.f.o t.2.f.n t.2.f.c, .slice t.2.t.o t.2.t.n t.2.t.c, .slice t.2.a.o t.2.a.n t.2.a.c, .slice t.2.c.o t.2.c.n t.2.c.c, .slice t.2.p.o t.2.p.n t.2.p.c, .slice t.2.m.o t.2.m.n t.2.m.c] 29 (0, 0))) := Lib.hid (alloc_blk T2.out _)
        have O3 := Lib.hid (O2.out.same B3.out)
        go_upto_region 6 with fail
        obtain ⟨w3, hw3⟩ : ∃ w3, w3 = w2.alloc (.cells #[.string m.nm, .bool m.st, .bool m.ab, .bool m.fi, .string m.fr, .int .i64 m.cd] 34) := ⟨_, rfl⟩
        rw [← hw3] at A3 T3 O3 ⊢
        have x0 := cell_blk A3.out.a 0
        have x1 := cell_blk T3.out 0
        clear B3 T2 A2 O2 hw3
        cases p1 with
        | true =>
          have HTK : Hid ((s.rs.take (k + 1)).filter (meansP a.1) = (s.rs.take k).filter (meansP a.1) ++ [t]) := Lib.hid (by rw [HTF.out, HME.out]; rfl)
          have HRW : Hid (((s.rs.take (k + 1)).filter (meansP a.1)).map KC.row = ((s.rs.take k).filter (meansP a.1)).map KC.row ++ [[.string t.1.nm, .int .i64 t.1.kd, .bool t.1.ab, .bool t.1.fi, .string t.1.pa, .slice t.2.f.o t.2.f.n t.2.f.c, .slice t.2.t.o t.2.t.n t.2.t.c, .slice t.2.a.o t.2.a.n t.2.a.c, .slice t.2.c.o t.2.c.n t.2.c.c, .slice t.2.p.o t.2.p.n t.2.p.c, .slice t.2.m.o t.2.m.n t.2.m.c]]) := Lib.hid (by rw [HTK.out, List.map_append]; rfl)
          have c0 := cell_blk T3.out 0
          have c1 := cell_blk T3.out 1
          have c2 := cell_blk T3.out 2
          have c3 := cell_blk T3.out 3
          have c4 := cell_blk T3.out 4
          have c5 := cell_blk T3.out 5
          have c6 := cell_blk T3.out 6
          have c7 := cell_blk T3.out 7
          have c8 := cell_blk T3.out 8
          have c9 := cell_blk T3.out 9
          have c10 := cell_blk T3.out 10
          have B4 := Lib.hid (below_alloc1 w3 (.cells #[.string t.1.nm, .int .i64 t.1.kd, .bool t.1.ab, .bool t.1.fi, .string t.1.pa, .slice t.2.f.o t.2.f.n t.2.f.c, .slice t.2.t.o t.2.t.n t.2.t.c, .slice t.2.a.o t.2.a.n t.2.a.c, .slice t.2.c.o t.2.c.n t.2.c.c, .slice t.2.p.o t.2.p.n t.2.p.c, .slice t.2.m.o t.2.m.n t.2.m.c] 29))
          have O4 := Lib.hid (O3.out.same B4.out)
          have A4 := Lib.hid (A3.out.mono B4.out)
          have hL := Lib.hid (lies_new w3 [.string t.1.nm, .int .i64 t.1.kd, .bool t.1.ab, .bool t.1.fi, .string t.1.pa, .slice t.2.f.o t.2.f.n t.2.f.c, .slice t.2.t.o t.2.t.n t.2.t.c, .slice t.2.a.o t.2.a.n t.2.a.c, .slice t.2.c.o t.2.c.n t.2.c.c, .slice t.2.p.o t.2.p.n t.2.p.c, .slice t.2.m.o t.2.m.n t.2.m.c] 29 (size := 11) rfl)
          have HR1 : Hid ((((s.rs.take k).filter (meansP a.1)).map KC.row).length + ([[.string t.1.nm, .int .i64 t.1.kd, .bool t.1.ab, .bool t.1.fi, .string t.1.pa, .slice t.2.f.o t.2.f.n t.2.f.c, .slice t.2.t.o t.2.t.n t.2.t.c, .slice t.2.a.o t.2.a.n t.2.a.c, .slice t.2.c.o t.2.c.n t.2.c.c, .slice t.2.p.o t.2.p.n t.2.p.c, .slice t.2.m.o t.2.m.n t.2.m.c]] : List (List Value)).length ≤ maxLen ∧ ((((s.rs.take k).filter (meansP a.1)).map KC.row).length + ([[.string t.1.nm, .int .i64 t.1.kd, .bool t.1.ab, .bool t.1.fi, .string t.1.pa, .slice t.2.f.o t.2.f.n t.2.f.c, .slice t.2.t.o t.2.t.n t.2.t.c, .slice t.2.a.o t.2.a.n t.2.a.c, .slice t.2.c.o t.2.c.n t.2.c.c, .slice t.2.p.o t.2.p.n t.2.p.c, .slice t.2.m.o t.2.m.n t.2.m.c]] : List (List Value)).length) * 192 ≤ 140737488355328) := Lib.hid (app_fits (by rw [List.length_map]; exact Nat.le_trans (take_filter_len _ _ _) (by have := Hkl.out; omega)))
          go_wp2_with (at_builtin; refine wpList_append_rows rfl (.tmp 39) (.tmp 41) 22 rfl 29 _ 11 192 Tryd.underlying22 info29 rfl (by decide) (.slice uo L uc) (((s.rs.take k).filter (meansP a.1)).map KC.row) (by rfl) O4.out.own (some ⟨w3.heap.size, 0, none⟩) 1 1 ([[.string t.1.nm, .int .i64 t.1.kd, .bool t.1.ab, .bool t.1.fi, .string t.1.pa, .slice t.2.f.o t.2.f.n t.2.f.c, .slice t.2.t.o t.2.t.n t.2.t.c, .slice t.2.a.o t.2.a.n t.2.a.c, .slice t.2.c.o t.2.c.n t.2.c.c, .slice t.2.p.o t.2.p.n t.2.p.c, .slice t.2.m.o t.2.m.n t.2.m.c]] : List (List Value)) (by rfl) rfl (fun e => by cases e) hL.out (by simp [Value.oneCell']) (by simp) HR1.out.1 (by have h := HR1.out.2; omega) ?_; intro v3 w5 o3 g3 n3; have A5 := Lib.hid (at1_grown A4.out g3 O4.out.fresh (own_nb (by decide) O4.out.own A4.out.a)); have R7 := O4.out.next o3 g3 n3; rw [← HRW.out] at R7; obtain ⟨a8, L8, c8, hv8, hl8⟩ := R7.slice; subst hv8; have R8 := Lib.hid R7; have HL8 := Lib.hid hl8; clear o3 g3 n3 R7 hl8)
          go_roundw
          case rel => exact ⟨k + 1, _, _, _, Hkl.out, by go_num, rfl, Lib.hid (by rw [HL8.out, List.length_map]), A5, R8⟩
          case measure => have := Hkl.out; simp [intOf]; omega
        | false =>
          cases p2 with
          | true =>
            have HTK : Hid ((s.rs.take (k + 1)).filter (meansP a.1) = (s.rs.take k).filter (meansP a.1) ++ [t]) := Lib.hid (by rw [HTF.out, HME.out]; rfl)
            have HRW : Hid (((s.rs.take (k + 1)).filter (meansP a.1)).map KC.row = ((s.rs.take k).filter (meansP a.1)).map KC.row ++ [[.string t.1.nm, .int .i64 t.1.kd, .bool t.1.ab, .bool t.1.fi, .string t.1.pa, .slice t.2.f.o t.2.f.n t.2.f.c, .slice t.2.t.o t.2.t.n t.2.t.c, .slice t.2.a.o t.2.a.n t.2.a.c, .slice t.2.c.o t.2.c.n t.2.c.c, .slice t.2.p.o t.2.p.n t.2.p.c, .slice t.2.m.o t.2.m.n t.2.m.c]]) := Lib.hid (by rw [HTK.out, List.map_append]; rfl)
            have c0 := cell_blk T3.out 0
            have c1 := cell_blk T3.out 1
            have c2 := cell_blk T3.out 2
            have c3 := cell_blk T3.out 3
            have c4 := cell_blk T3.out 4
            have c5 := cell_blk T3.out 5
            have c6 := cell_blk T3.out 6
            have c7 := cell_blk T3.out 7
            have c8 := cell_blk T3.out 8
            have c9 := cell_blk T3.out 9
            have c10 := cell_blk T3.out 10
            have B4 := Lib.hid (below_alloc1 w3 (.cells #[.string t.1.nm, .int .i64 t.1.kd, .bool t.1.ab, .bool t.1.fi, .string t.1.pa, .slice t.2.f.o t.2.f.n t.2.f.c, .slice t.2.t.o t.2.t.n t.2.t.c, .slice t.2.a.o t.2.a.n t.2.a.c, .slice t.2.c.o t.2.c.n t.2.c.c, .slice t.2.p.o t.2.p.n t.2.p.c, .slice t.2.m.o t.2.m.n t.2.m.c] 29))
            have O4 := Lib.hid (O3.out.same B4.out)
            have A4 := Lib.hid (A3.out.mono B4.out)
            have hL := Lib.hid (lies_new w3 [.string t.1.nm, .int .i64 t.1.kd, .bool t.1.ab, .bool t.1.fi, .string t.1.pa, .slice t.2.f.o t.2.f.n t.2.f.c, .slice t.2.t.o t.2.t.n t.2.t.c, .slice t.2.a.o t.2.a.n t.2.a.c, .slice t.2.c.o t.2.c.n t.2.c.c, .slice t.2.p.o t.2.p.n t.2.p.c, .slice t.2.m.o t.2.m.n t.2.m.c] 29 (size := 11) rfl)
            have HR1 : Hid ((((s.rs.take k).filter (meansP a.1)).map KC.row).length + ([[.string t.1.nm, .int .i64 t.1.kd, .bool t.1.ab, .bool t.1.fi, .string t.1.pa, .slice t.2.f.o t.2.f.n t.2.f.c, .slice t.2.t.o t.2.t.n t.2.t.c, .slice t.2.a.o t.2.a.n t.2.a.c, .slice t.2.c.o t.2.c.n t.2.c.c, .slice t.2.p.o t.2.p.n t.2.p.c, .slice t.2.m.o t.2.m.n t.2.m.c]] : List (List Value)).length ≤ maxLen ∧ ((((s.rs.take k).filter (meansP a.1)).map KC.row).length + ([[.string t.1.nm, .int .i64 t.1.kd, .bool t.1.ab, .bool t.1.fi, .string t.1.pa, .slice t.2.f.o t.2.f.n t.2.f.c, .slice t.2.t.o t.2.t.n t.2.t.c, .slice t.2.a.o t.2.a.n t.2.a.c, .slice t.2.c.o t.2.c.n t.2.c.c, .slice t.2.p.o t.2.p.n t.2.p.c, .slice t.2.m.o t.2.m.n t.2.m.c]] : List (List Value)).length) * 192 ≤ 140737488355328) := Lib.hid (app_fits (by rw [List.length_map]; exact Nat.le_trans (take_filter_len _ _ _) (by have := Hkl.out; omega)))
            go_wp2_with (at_builtin; refine wpList_append_rows rfl (.tmp 39) (.tmp 41) 22 rfl 29 _ 11 192 Tryd.underlying22 info29 rfl (by decide) (.slice uo L uc) (((s.rs.take k).filter (meansP a.1)).map KC.row) (by rfl) O4.out.own (some ⟨w3.heap.size, 0, none⟩) 1 1 ([[.string t.1.nm, .int .i64 t.1.kd, .bool t.1.ab, .bool t.1.fi, .string t.1.pa, .slice t.2.f.o t.2.f.n t.2.f.c, .slice t.2.t.o t.2.t.n t.2.t.c, .slice t.2.a.o t.2.a.n t.2.a.c, .slice t.2.c.o t.2.c.n t.2.c.c, .slice t.2.p.o t.2.p.n t.2.p.c, .slice t.2.m.o t.2.m.n t.2.m.c]] : List (List Value)) (by rfl) rfl (fun e => by cases e) hL.out (by simp [Value.oneCell']) (by simp) HR1.out.1 (by have h := HR1.out.2; omega) ?_; intro v3 w5 o3 g3 n3; have A5 := Lib.hid (at1_grown A4.out g3 O4.out.fresh (own_nb (by decide) O4.out.own A4.out.a)); have R7 := O4.out.next o3 g3 n3; rw [← HRW.out] at R7; obtain ⟨a8, L8, c8, hv8, hl8⟩ := R7.slice; subst hv8; have R8 := Lib.hid R7; have HL8 := Lib.hid hl8; clear o3 g3 n3 R7 hl8)
            go_roundw
            case rel => exact ⟨k + 1, _, _, _, Hkl.out, by go_num, rfl, Lib.hid (by rw [HL8.out, List.length_map]), A5, R8⟩
            case measure => have := Hkl.out; simp [intOf]; omega
          | false =>
            have HTK : Hid ((s.rs.take (k + 1)).filter (meansP a.1) = (s.rs.take k).filter (meansP a.1)) := Lib.hid (by rw [HTF.out, HME.out]; simp)
            go_wp2_with fail
            go_roundw
            case rel => exact ⟨k + 1, _, _, _, Hkl.out, by go_num, rfl, Lib.hid (by rw [HTK.out]; exact HLL.out), A3, Lib.hid (by rw [HTK.out]; exact O3.out)⟩
            case measure => have := Hkl.out; simp [intOf]; omega
    · obtain rfl : k = s.rs.length := by omega
      have HFN : Hid (OR W wr 29 11 (.slice uo L uc) ((meantP s.rs a.1).map KC.row) ∧ L = (meantP s.rs a.1).length) := Lib.hid (by
        have h1 := HOR.out
        have h2 := HLL.out
        rw [List.take_length] at h1 h2
        exact ⟨h1, h2⟩)
      go_wp2_with fail
      go_ret
      obtain ⟨h1, h2⟩ := HFN.out
      subst h2
      exact ⟨_, _, rfl, h1⟩
end Go.Proofs.YtobjmajkcfhpoaaDoor
