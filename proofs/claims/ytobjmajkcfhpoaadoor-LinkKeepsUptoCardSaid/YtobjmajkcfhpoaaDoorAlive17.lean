/-
  alive (printed by genAlive17.py).
-/
import Derived.Test.YtobjmajkcfhpoaaDoorLink17
namespace Go.Proofs.YtobjmajkcfhpoaaDoor
open Go.RowKit

attribute [local go_sem] yld_undef
def alT : ClP := (⟨⟨#[84]⟩, 3, false, false, ⟨#[]⟩, [], [], [], [], [], [⟨⟨#[109]⟩, false, false, false, ⟨#[84]⟩, 7⟩]⟩ : ClP)
def alC : ClP := (⟨⟨#[65]⟩, 1, false, false, ⟨#[]⟩, [], [⟨#[84]⟩], [], [], [], [⟨⟨#[109]⟩, false, false, false, ⟨#[65]⟩, 7⟩]⟩ : ClP)
def alD1 : ClP := (⟨⟨#[84]⟩, 3, false, false, ⟨#[]⟩, [], [], [], [], [], [⟨⟨#[109]⟩, false, false, false, ⟨#[]⟩, 7⟩]⟩ : ClP)
def alD2 : ClP := (⟨⟨#[65]⟩, 1, false, false, ⟨#[]⟩, [], [⟨#[84]⟩], [], [], [], []⟩ : ClP)
theorem al_one : linkP alD1 [] = .ok alT := by kernel_rfl
theorem al_two (V : VS6) : linkP alD2 [(alT, V)] = .ok alC := by kernel_rfl
theorem al_meth : methP alC.ms ⟨#[109]⟩ = some ⟨⟨#[109]⟩, false, false, false, ⟨#[65]⟩, 7⟩ := by kernel_rfl
theorem al_is (V : VS6) : isP [(alC, V)] ⟨#[65]⟩ 2 ⟨#[65]⟩ = true := by kernel_rfl
theorem al_U : SmU [⟨#[109]⟩] := ⟨by decide, fun u hu => by rw [List.mem_singleton.1 hu]; decide⟩
theorem al_sm1 : SmC alD1 := ⟨by decide, by decide, by decide, by decide, by decide, by decide, by decide, by decide, fun _ h => (by cases h), fun _ h => (by cases h), fun _ h => (by cases h), fun _ h => (by cases h), fun x h => (by rw [List.mem_singleton.1 h]; decide), fun _ h => (by cases h)⟩
theorem al_sm2 : SmC alD2 := ⟨by decide, by decide, by decide, by decide, by decide, by decide, by decide, by decide, fun _ h => (by cases h), fun x h => (by rw [List.mem_singleton.1 h]; decide), fun _ h => (by cases h), fun _ h => (by cases h), fun _ h => (by cases h), fun _ h => (by cases h)⟩
theorem al_de1 : DeU [⟨#[109]⟩] alD1 := ⟨fun _ h => (by cases h), fun _ h => (by cases h), fun _ h => (by cases h), fun x h => (by rw [List.mem_singleton.1 h]; exact List.mem_singleton.2 rfl), fun _ h => (by cases h), al_sm1⟩
theorem al_de2 : DeU [⟨#[109]⟩] alD2 := ⟨fun _ h => (by cases h), fun _ h => (by cases h), fun _ h => (by cases h), fun _ h => (by cases h), fun _ h => (by cases h), al_sm2⟩
theorem al_kn : KnU [⟨#[109]⟩] alT := ⟨PIn.nil, PIn.nil, PIn.nil, ⟨by simp [alT], fun n h => by rw [List.mem_singleton.1 h]; exact List.mem_singleton.2 rfl⟩⟩
theorem nt_under {w w' : World} {c : ClP} {V : VS6} (h : ClIn (NT w) w c V) (hb : Below w.heap.size w w') : ClIn (NT w') w' c V :=
  h.kept fun g ⟨c, t, fr, h1, ht⟩ hg => ⟨hb.block g hg, Nat.lt_of_lt_of_le hg hb.size, c, t, fr, (hb.block g hg).trans h1, ht⟩
theorem rin_new {w : World} (r : List Value) (t : TypeId) {size : Nat} (h : r.length = size) : RIn AnyB (w.alloc (.cells r.toArray t)) size (.slice (some ⟨w.heap.size, 0, none⟩) 1 1) [r] :=
  ⟨_, _, rfl, lies_new w r t h, fun _ _ _ _ => trivial, fun e => by cases e⟩
set_option maxHeartbeats 12800000 in
set_option maxRecDepth 100000 in
theorem alive_any (w : World) (ht : Tabs w) : Calls Tryd.prog 8 #[] w (BoolPost w true) := by
  have HT := Lib.hid ht
  have HB0 := Lib.hid (below_alloc1 w (.cells #[.string ⟨#[109]⟩, .bool false, .bool false, .bool false, .string ⟨#[]⟩, .int .i64 7] 34))
  have HC1 : Hid (ClIn AnyB (w.alloc (.cells #[.string ⟨#[109]⟩, .bool false, .bool false, .bool false, .string ⟨#[]⟩, .int .i64 7] 34)) alD1 ⟨⟨none, 0, 0⟩, ⟨none, 0, 0⟩, ⟨none, 0, 0⟩, ⟨none, 0, 0⟩, ⟨none, 0, 0⟩, ⟨some ⟨w.heap.size, 0, none⟩, 1, 1⟩⟩) := Lib.hid ⟨RIn.nil, RIn.nil, AdIn.nil, RIn.nil, RIn.nil, rin_new [.string ⟨#[109]⟩, .bool false, .bool false, .bool false, .string ⟨#[]⟩, .int .i64 7] 34 rfl⟩
  have HL1 := Lib.hid (link_any (A' := AnyB) (B := AnyB) al_U (alD1, ⟨⟨none, 0, 0⟩, ⟨none, 0, 0⟩, ⟨none, 0, 0⟩, ⟨none, 0, 0⟩, ⟨none, 0, 0⟩, ⟨some ⟨w.heap.size, 0, none⟩, 1, 1⟩⟩) ⟨none, 0, 0⟩ [] HC1.out KnIn.zero al_de1 (fun _ h => by cases h) (by decide) (HT.out.mono HB0.out))
  clear ht
  go_enter Tryd.func8, Tryd.ntmps8
  go_wp2_with fail
  refine HL1.out.mono ?_
  intro e1 w1 hp1
  have hp1 : LinkPost _ (linkP alD1 []) e1 w1 := hp1
  rw [al_one] at hp1
  obtain ⟨V, rfl, hb1, hc1⟩ := hp1
  have HB1 := Lib.hid (HB0.out.trans (hb1.mono HB0.out.size))
  have HX1 := Lib.hid hc1
  clear hb1 hc1 HL1 HC1 HB0
  have B2 := Lib.hid (below_alloc1 w1 (.cells #[.string ⟨#[84]⟩, .int .i64 3, .bool false, .bool false, .string ⟨#[]⟩, .slice V.f.o V.f.n V.f.c, .slice V.t.o V.t.n V.t.c, .slice V.a.o V.a.n V.a.c, .slice V.c.o V.c.n V.c.c, .slice V.p.o V.p.n V.p.c, .slice V.m.o V.m.n V.m.c] 29))
  have T2 : Hid ((w1.alloc (.cells #[.string ⟨#[84]⟩, .int .i64 3, .bool false, .bool false, .string ⟨#[]⟩, .slice V.f.o V.f.n V.f.c, .slice V.t.o V.t.n V.t.c, .slice V.a.o V.a.n V.a.c, .slice V.c.o V.c.n V.c.c, .slice V.p.o V.p.n V.p.c, .slice V.m.o V.m.n V.m.c] 29)).heap[w1.heap.size]? = some (.cells #[.string ⟨#[84]⟩, .int .i64 3, .bool false, .bool false, .string ⟨#[]⟩, .slice V.f.o V.f.n V.f.c, .slice V.t.o V.t.n V.t.c, .slice V.a.o V.a.n V.a.c, .slice V.c.o V.c.n V.c.c, .slice V.p.o V.p.n V.p.c, .slice V.m.o V.m.n V.m.c] 29 (0, 0))) := Lib.hid (heap_alloc_new w1 _)
  have HX2 := Lib.hid (nt_under HX1.out B2.out)
  simp only [KC.v, alT]
  go_upto_region 2 with fail
  have HB2 := Lib.hid (HB1.out.trans (B2.out.mono HB1.out.size))
  obtain ⟨w2, hw2⟩ : ∃ w2, w2 = w1.alloc (.cells #[.string ⟨#[84]⟩, .int .i64 3, .bool false, .bool false, .string ⟨#[]⟩, .slice V.f.o V.f.n V.f.c, .slice V.t.o V.t.n V.t.c, .slice V.a.o V.a.n V.a.c, .slice V.c.o V.c.n V.c.c, .slice V.p.o V.p.n V.p.c, .slice V.m.o V.m.n V.m.c] 29) := ⟨_, rfl⟩
  rw [← hw2] at T2 HX2 HB2 ⊢
  clear hw2 B2 HX1 HB1
  have c0 := cell_blk (alloc_blk T2.out (.cells #[.string ⟨#[84]⟩] 9)) 0; have c1 := cell_blk (alloc_blk T2.out (.cells #[.string ⟨#[84]⟩] 9)) 1; have c2 := cell_blk (alloc_blk T2.out (.cells #[.string ⟨#[84]⟩] 9)) 2; have c3 := cell_blk (alloc_blk T2.out (.cells #[.string ⟨#[84]⟩] 9)) 3; have c4 := cell_blk (alloc_blk T2.out (.cells #[.string ⟨#[84]⟩] 9)) 4; have c5 := cell_blk (alloc_blk T2.out (.cells #[.string ⟨#[84]⟩] 9)) 5; have c6 := cell_blk (alloc_blk T2.out (.cells #[.string ⟨#[84]⟩] 9)) 6; have c7 := cell_blk (alloc_blk T2.out (.cells #[.string ⟨#[84]⟩] 9)) 7; have c8 := cell_blk (alloc_blk T2.out (.cells #[.string ⟨#[84]⟩] 9)) 8; have c9 := cell_blk (alloc_blk T2.out (.cells #[.string ⟨#[84]⟩] 9)) 9; have c10 := cell_blk (alloc_blk T2.out (.cells #[.string ⟨#[84]⟩] 9)) 10
  have B3 := Lib.hid (below_alloc1 w2 (.cells #[.string ⟨#[84]⟩] 9))
  have HB3 := Lib.hid (HB2.out.trans (B3.out.mono HB2.out.size))
  have HX3 := Lib.hid (nt_under HX2.out B3.out)
  have HS3 : Hid (RIn AnyB (w2.alloc (.cells #[.string ⟨#[84]⟩] 9)) 1 (.slice (some ⟨w2.heap.size, 0, none⟩) 1 1) ([⟨#[84]⟩].map sR)) := Lib.hid (rin_new [.string ⟨#[84]⟩] 9 rfl)
  have B4 := Lib.hid (below_alloc1 (w2.alloc (.cells #[.string ⟨#[84]⟩] 9)) (.cells #[.string ⟨#[84]⟩, .int .i64 3, .bool false, .bool false, .string ⟨#[]⟩, .slice V.f.o V.f.n V.f.c, .slice V.t.o V.t.n V.t.c, .slice V.a.o V.a.n V.a.c, .slice V.c.o V.c.n V.c.c, .slice V.p.o V.p.n V.p.c, .slice V.m.o V.m.n V.m.c] 29))
  have HB4 := Lib.hid (HB3.out.trans (B4.out.mono HB3.out.size))
  have HX4 := Lib.hid (nt_under HX3.out B4.out)
  have HK4 : Hid (KnIn AnyB (NT ((w2.alloc (.cells #[.string ⟨#[84]⟩] 9)).alloc (.cells #[.string ⟨#[84]⟩, .int .i64 3, .bool false, .bool false, .string ⟨#[]⟩, .slice V.f.o V.f.n V.f.c, .slice V.t.o V.t.n V.t.c, .slice V.a.o V.a.n V.a.c, .slice V.c.o V.c.n V.c.c, .slice V.p.o V.p.n V.p.c, .slice V.m.o V.m.n V.m.c] 29))) ((w2.alloc (.cells #[.string ⟨#[84]⟩] 9)).alloc (.cells #[.string ⟨#[84]⟩, .int .i64 3, .bool false, .bool false, .string ⟨#[]⟩, .slice V.f.o V.f.n V.f.c, .slice V.t.o V.t.n V.t.c, .slice V.a.o V.a.n V.a.c, .slice V.c.o V.c.n V.c.c, .slice V.p.o V.p.n V.p.c, .slice V.m.o V.m.n V.m.c] 29)) (.slice (some ⟨w2.heap.size + 1, 0, none⟩) 1 1) [(alT, V)]) := Lib.hid ⟨by
    have h9 := rin_new (w := w2.alloc (.cells #[.string ⟨#[84]⟩] 9)) [.string ⟨#[84]⟩, .int .i64 3, .bool false, .bool false, .string ⟨#[]⟩, .slice V.f.o V.f.n V.f.c, .slice V.t.o V.t.n V.t.c, .slice V.a.o V.a.n V.a.c, .slice V.c.o V.c.n V.c.c, .slice V.p.o V.p.n V.p.c, .slice V.m.o V.m.n V.m.c] 29 (size := 11) rfl
    have e9 : (w2.alloc (.cells #[.string ⟨#[84]⟩] 9)).heap.size = w2.heap.size + 1 := by simp
    rw [e9] at h9
    exact h9, fun x hx => by rw [List.mem_singleton.1 hx]; exact HX4.out⟩
  have HC4 : Hid (ClIn AnyB ((w2.alloc (.cells #[.string ⟨#[84]⟩] 9)).alloc (.cells #[.string ⟨#[84]⟩, .int .i64 3, .bool false, .bool false, .string ⟨#[]⟩, .slice V.f.o V.f.n V.f.c, .slice V.t.o V.t.n V.t.c, .slice V.a.o V.a.n V.a.c, .slice V.c.o V.c.n V.c.c, .slice V.p.o V.p.n V.p.c, .slice V.m.o V.m.n V.m.c] 29)) alD2 ⟨⟨none, 0, 0⟩, ⟨some ⟨w2.heap.size, 0, none⟩, 1, 1⟩, ⟨none, 0, 0⟩, ⟨none, 0, 0⟩, ⟨none, 0, 0⟩, ⟨none, 0, 0⟩⟩) := Lib.hid ⟨RIn.nil, HS3.out.under B4.out, AdIn.nil, RIn.nil, RIn.nil, RIn.nil⟩
  have HL2 := Lib.hid (link_any al_U (alD2, ⟨⟨none, 0, 0⟩, ⟨some ⟨w2.heap.size, 0, none⟩, 1, 1⟩, ⟨none, 0, 0⟩, ⟨none, 0, 0⟩, ⟨none, 0, 0⟩, ⟨none, 0, 0⟩⟩) ⟨some ⟨w2.heap.size + 1, 0, none⟩, 1, 1⟩ [(alT, V)] HC4.out HK4.out al_de2 (fun x h => by rw [List.mem_singleton.1 h]; exact al_kn) (by show 1 ≤ 1048576; decide) (HT.out.mono HB4.out))
  go_wp2_with fail
  refine HL2.out.mono ?_
  intro e5 w5 hp5
  have hp5 : LinkPost _ (linkP alD2 [(alT, V)]) e5 w5 := hp5
  rw [al_two] at hp5
  obtain ⟨V2, rfl, hb5, hc5⟩ := hp5
  have HB5 := Lib.hid (HB4.out.trans (hb5.mono HB4.out.size))
  have HX5 := Lib.hid hc5
  clear hb5 hc5 HL2 HC4 HK4 HX4 HB4 B4 HS3 HX3 HB3 B3 c0 c1 c2 c3 c4 c5 c6 c7 c8 c9 c10 HX2 T2 HB2
  have B6 := Lib.hid (below_alloc1 w5 (.cells #[.string ⟨#[65]⟩, .int .i64 1, .bool false, .bool false, .string ⟨#[]⟩, .slice V2.f.o V2.f.n V2.f.c, .slice V2.t.o V2.t.n V2.t.c, .slice V2.a.o V2.a.n V2.a.c, .slice V2.c.o V2.c.n V2.c.c, .slice V2.p.o V2.p.n V2.p.c, .slice V2.m.o V2.m.n V2.m.c] 29))
  have T6 : Hid ((w5.alloc (.cells #[.string ⟨#[65]⟩, .int .i64 1, .bool false, .bool false, .string ⟨#[]⟩, .slice V2.f.o V2.f.n V2.f.c, .slice V2.t.o V2.t.n V2.t.c, .slice V2.a.o V2.a.n V2.a.c, .slice V2.c.o V2.c.n V2.c.c, .slice V2.p.o V2.p.n V2.p.c, .slice V2.m.o V2.m.n V2.m.c] 29)).heap[w5.heap.size]? = some (.cells #[.string ⟨#[65]⟩, .int .i64 1, .bool false, .bool false, .string ⟨#[]⟩, .slice V2.f.o V2.f.n V2.f.c, .slice V2.t.o V2.t.n V2.t.c, .slice V2.a.o V2.a.n V2.a.c, .slice V2.c.o V2.c.n V2.c.c, .slice V2.p.o V2.p.n V2.p.c, .slice V2.m.o V2.m.n V2.m.c] 29 (0, 0))) := Lib.hid (heap_alloc_new w5 _)
  have HX6 := Lib.hid (nt_under HX5.out B6.out)
  have HB6 := Lib.hid (HB5.out.trans (B6.out.mono HB5.out.size))
  simp only [KC.v, alC]
  go_upto_region 3 with fail
  obtain ⟨w6, hw6⟩ : ∃ w6, w6 = w5.alloc (.cells #[.string ⟨#[65]⟩, .int .i64 1, .bool false, .bool false, .string ⟨#[]⟩, .slice V2.f.o V2.f.n V2.f.c, .slice V2.t.o V2.t.n V2.t.c, .slice V2.a.o V2.a.n V2.a.c, .slice V2.c.o V2.c.n V2.c.c, .slice V2.p.o V2.p.n V2.p.c, .slice V2.m.o V2.m.n V2.m.c] 29) := ⟨_, rfl⟩
  rw [← hw6] at T6 HX6 HB6 ⊢
  clear hw6 B6 HX5 HB5
  have c0 := cell_blk T6.out 0; have c1 := cell_blk T6.out 1; have c2 := cell_blk T6.out 2; have c3 := cell_blk T6.out 3; have c4 := cell_blk T6.out 4; have c5 := cell_blk T6.out 5; have c6 := cell_blk T6.out 6; have c7 := cell_blk T6.out 7; have c8 := cell_blk T6.out 8; have c9 := cell_blk T6.out 9; have c10 := cell_blk T6.out 10
  have HMC := Lib.hid (method_any (x := (alC, V2)) ⟨#[109]⟩ HX6.out (by show 1 ≤ 1073741824; decide))
  rw [show (alC, V2).1.ms = alC.ms from rfl, al_meth] at HMC
  go_wp2_with fail
  refine HMC.out.mono ?_
  rintro _ w7 ⟨hb7, rfl⟩
  have HB7 := Lib.hid (HB6.out.trans (hb7.mono HB6.out.size))
  have T7 : Hid (w7.heap[w5.heap.size]? = some (.cells #[.string ⟨#[65]⟩, .int .i64 1, .bool false, .bool false, .string ⟨#[]⟩, .slice V2.f.o V2.f.n V2.f.c, .slice V2.t.o V2.t.n V2.t.c, .slice V2.a.o V2.a.n V2.a.c, .slice V2.c.o V2.c.n V2.c.c, .slice V2.p.o V2.p.n V2.p.c, .slice V2.m.o V2.m.n V2.m.c] 29 (0, 0))) := Lib.hid ((hb7.block _ (lt_of_block T6.out)).trans T6.out)
  have HX7 := Lib.hid (nt_under HX6.out hb7)
  clear hb7 HMC T6 HX6 HB6 c0 c1 c2 c3 c4 c5 c6 c7 c8 c9 c10
  simp only [Option.getD_some, Option.isSome_some, MtP.v]
  go_upto_region 4 with fail
  have B8 := Lib.hid (below_alloc1 w7 (.cells #[.string ⟨#[109]⟩, .bool false, .bool false, .bool false, .string ⟨#[65]⟩, .int .i64 7] 34))
  have T8 := Lib.hid (alloc_blk T7.out (.cells #[.string ⟨#[109]⟩, .bool false, .bool false, .bool false, .string ⟨#[65]⟩, .int .i64 7] 34))
  have M8 : Hid ((w7.alloc (.cells #[.string ⟨#[109]⟩, .bool false, .bool false, .bool false, .string ⟨#[65]⟩, .int .i64 7] 34)).heap[w7.heap.size]? = some (.cells #[.string ⟨#[109]⟩, .bool false, .bool false, .bool false, .string ⟨#[65]⟩, .int .i64 7] 34 (0, 0))) := Lib.hid (heap_alloc_new w7 _)
  have HB8 := Lib.hid (HB7.out.trans (B8.out.mono HB7.out.size))
  have HX8 := Lib.hid (nt_under HX7.out B8.out)
  obtain ⟨w8, hw8⟩ : ∃ w8, w8 = w7.alloc (.cells #[.string ⟨#[109]⟩, .bool false, .bool false, .bool false, .string ⟨#[65]⟩, .int .i64 7] 34) := ⟨_, rfl⟩
  rw [← hw8] at T8 M8 HB8 HX8 ⊢
  clear hw8 B8 T7 HX7 HB7 hp1 hp5
  have c0 := cell_blk T8.out 0; have c1 := cell_blk T8.out 1; have c2 := cell_blk T8.out 2; have c3 := cell_blk T8.out 3; have c4 := cell_blk T8.out 4; have c5 := cell_blk T8.out 5; have c6 := cell_blk T8.out 6; have c7 := cell_blk T8.out 7; have c8 := cell_blk T8.out 8; have c9 := cell_blk T8.out 9; have c10 := cell_blk T8.out 10
  have m0 := cell_blk M8.out 0; have m1 := cell_blk M8.out 1; have m2 := cell_blk M8.out 2; have m3 := cell_blk M8.out 3; have m4 := cell_blk M8.out 4; have m5 := cell_blk M8.out 5
  have B9 := Lib.hid (below_alloc1 w8 (.cells #[.string ⟨#[65]⟩, .int .i64 1, .bool false, .bool false, .string ⟨#[]⟩, .slice V2.f.o V2.f.n V2.f.c, .slice V2.t.o V2.t.n V2.t.c, .slice V2.a.o V2.a.n V2.a.c, .slice V2.c.o V2.c.n V2.c.c, .slice V2.p.o V2.p.n V2.p.c, .slice V2.m.o V2.m.n V2.m.c] 29))
  have HB9 := Lib.hid (HB8.out.trans (B9.out.mono HB8.out.size))
  have HIS := Lib.hid (is_any (A := AnyB) (kn := [(alC, V2)]) ⟨#[65]⟩ ⟨#[65]⟩ ⟨rin_new [.string ⟨#[65]⟩, .int .i64 1, .bool false, .bool false, .string ⟨#[]⟩, .slice V2.f.o V2.f.n V2.f.c, .slice V2.t.o V2.t.n V2.t.c, .slice V2.a.o V2.a.n V2.a.c, .slice V2.c.o V2.c.n V2.c.c, .slice V2.p.o V2.p.n V2.p.c, .slice V2.m.o V2.m.n V2.m.c] 29 (size := 11) rfl, fun x hx => by rw [List.mem_singleton.1 hx]; exact nt_under HX8.out B9.out⟩ (by show 1 ≤ 1073741824; decide) (fun x hx => by rw [List.mem_singleton.1 hx]; show 0 ≤ 1073741824; decide))
  rw [show ([(alC, V2)] : List KC).length + 1 = 2 from rfl, al_is] at HIS
  go_wp2_with fail
  refine HIS.out.mono ?_
  rintro _ w9 ⟨rfl, hb9⟩
  have HB10 := Lib.hid (HB9.out.trans (hb9.mono HB9.out.size))
  clear hb9 HIS
  go_wp2_with fail
  go_ret
  exact ⟨rfl, HB10.out⟩
end Go.Proofs.YtobjmajkcfhpoaaDoor
