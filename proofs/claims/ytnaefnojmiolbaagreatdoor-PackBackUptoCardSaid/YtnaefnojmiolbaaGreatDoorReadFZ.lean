/-
  The walk of read.
-/
import Derived.Test.YtnaefnojmiolbaaGreatDoorValLZ
import Derived.Test.YtnaefnojmiolbaaGreatDoorReadZ
import Derived.Test.YtnaefnojmiolbaaGreatDoorCaughtZ
namespace Go.Proofs.YtnaefnojmiolbaaGreatDoor
open Go.RowKit

attribute [local go_sem] yld_undef
/-- What read leaves. -/
def ReadPost (w : World) (x : Except ER (VT × List TP)) (e : Ending) (w' : World) : Prop :=
  Below w.heap.size w w' ∧ match x with
  | .ok (y, tps) => ∃ co cm cc ao cap ths, e = .returned (.tuple #[y.v (.slice co cm cc), .slice ao (List.length ths) cap, .agg #[.int .i64 0, .int .i64 0]]) ∧ VT64 w' (.slice co cm cc) y.xs ∧ Owns w' 48 2 (.slice ao (List.length ths) cap) (ths.map Th.row) ∧ (∀ t ∈ ths, VT64 w' t.c t.xs) ∧ ths.map Th.tp = tps
  | .error (c, a) => ∃ y co cm cc, e = .returned (.tuple #[VT.v y (.slice co cm cc), .slice none 0 0, .agg #[.int .i64 c, .int .i64 a]])
theorem mod_below {w W0 w1 : World} {F : Nat → Prop} {g : Nat} (h : Below g w W0) (m : Mod F W0 w1) (hg : g ≤ W0.heap.size) (hF : ∀ k, F k → g ≤ k) : Below g w w1 :=
  ⟨m.os.trans h.os, m.tape.trans h.tape, m.output.trans h.output, Nat.le_trans h.size m.size, fun k hk => (m.block k (by omega) (fun e => by have := hF k e; omega)).trans (h.block k hk)⟩
theorem rf_none {r g : Nat} (h : g ≤ r) : ∀ k, RF r (.slice none 0 0) k → g ≤ k := fun k e => by
  rcases e with e | e
  · omega
  · simp [Value.ownBlock] at e
theorem five {a b c d e : Prop} (h : a ∧ b ∧ c ∧ d) (k : e) : a ∧ b ∧ c ∧ d ∧ e := ⟨h.1, h.2.1, h.2.2.1, h.2.2.2, k⟩
/-- What the catching leaves of the result's cells. -/
theorem caught_cells {w1 : World} {B F : Nat} {k n c0 a0 : Int} {t : ByteArray} {sv : Value} (hF : w1.heap[F]? = some (.cells #[.int .i64 c0, .int .i64 a0] 33 (0, 0))) (hA : w1.heap[B]? = some (.cells #[.int .i64 k, .int .i64 n, .string t, sv] 24 (0, 0))) (c : Int) (a : Int) :
    let W := ((w1.alloc (.cells #[.int .i64 c, .int .i64 a] 141)).setCell ⟨F, 0, none⟩ (.int .i64 c)).setCell ⟨F, 1, none⟩ (.int .i64 a)
    W.cell? ⟨B, 0, none⟩ = some (.int .i64 k) ∧ W.cell? ⟨B, 1, none⟩ = some (.int .i64 n) ∧ W.cell? ⟨B, 2, none⟩ = some (.string t) ∧ W.cell? ⟨B, 3, none⟩ = some sv ∧ W.cell? ⟨F, 0, none⟩ = some (.int .i64 c) ∧ W.cell? ⟨F, 1, none⟩ = some (.int .i64 a) ∧ ∀ g, g ≤ w1.heap.size → g ≤ F → Below g w1 W := by
  intro W
  have hne : B ≠ F := fun e => by rw [e, hF] at hA; cases hA
  have m : Mod (fun k => k = F) (w1.alloc (.cells #[.int .i64 c, .int .i64 a] 141)) W := ((Mod.refl (fun k => k = F) _).setCell ⟨F, 0, none⟩ _ (fun _ => rfl)).setCell ⟨F, 1, none⟩ _ (fun _ => rfl)
  have hA2 := (m.block B (lt_of_block (alloc_blk hA _)) hne).trans (alloc_blk hA (.cells #[.int .i64 c, .int .i64 a] 141))
  have hF2 : W.heap[F]? = some (.cells #[.int .i64 c, .int .i64 a] 33 (0, 0)) := by
    have := set_blk (set_blk (alloc_blk hF (.cells #[.int .i64 c, .int .i64 a] 141)) 0 (.int .i64 c)) 1 (.int .i64 a)
    simpa using this
  obtain ⟨a1, a2, a3, a4⟩ := vb4 hA2
  exact ⟨a1, a2, a3, a4, cell_blk hF2 0, cell_blk hF2 1, fun g hg h2 => (((Below.refl g w1).alloc hg _).setCell h2 _).setCell h2 _⟩
/-- What lies at read's end. -/
structure RE (w V : World) (s : ByteArray) (p m : Nat) (tv : Value) (ths : List Th) (y : VT) (co : Option Addr) (cm cc : Nat) : Prop where
  rd : Rd V (w.heap.size + 2) s p m tv ths
  a : V.heap[w.heap.size]? = some (.cells #[.int .i64 y.k, .int .i64 y.n, .string y.t, .slice co cm cc] 24 (0, 0))
  f : V.heap[w.heap.size + 1]? = some (.cells #[.int .i64 0, .int .i64 0] 33 (0, 0))
  v : VT64 V (.slice co cm cc) y.xs
  b : Below w.heap.size w V
section
variable {w V : World} {s : ByteArray} {p m : Nat} {tv : Value} {ths : List Th} {y : VT} {co : Option Addr} {cm cc : Nat}
theorem RE.under {V' : World} (h : RE w V s p m tv ths y co cm cc) (hb : Below V.heap.size V V') : RE w V' s p m tv ths y co cm cc :=
  ⟨h.rd.under hb, (hb.block _ (lt_of_block h.a)).trans h.a, (hb.block _ (lt_of_block h.f)).trans h.f, VT64.under h.v hb, h.b.trans (hb.mono h.b.size)⟩
theorem RE.set24 (h : RE w V s p m tv ths y co cm cc) (h6 : 6 ≤ w.heap.size) : RE w ((((V.setCell ⟨w.heap.size, 0, none⟩ (.int .i64 y.k)).setCell ⟨w.heap.size, 1, none⟩ (.int .i64 y.n)).setCell ⟨w.heap.size, 2, none⟩ (.string y.t)).setCell ⟨w.heap.size, 3, none⟩ (.slice co cm cc)) s p m tv ths y co cm cc :=
  have m3 := set4_mod V w.heap.size (.int .i64 y.k) (.int .i64 y.n) (.string y.t) (.slice co cm cc)
  ⟨h.rd.store (B := w.heap.size) (by omega) (fun e => by
      obtain ⟨cur, hc⟩ := owns_blk h.rd.own e
      rw [h.a] at hc; cases hc) (blk_no64 h.a (by decide)) h6 m3, set4 h.a _ _ _ _, (m3.block (w.heap.size + 1) (lt_of_block h.f) (fun e => by have h3 : w.heap.size + 1 = w.heap.size := e; omega)).trans h.f,
    VT64.mod h.v m3 (fun g x => by rw [show g = w.heap.size from x]; exact blk_no64 h.a (by decide)), mod_below h.b m3 h.b.size (fun k e => by have h3 : k = w.heap.size := e; omega)⟩
theorem RE.set33 (h : RE w V s p m tv ths y co cm cc) (h6 : 6 ≤ w.heap.size) : RE w ((V.setCell ⟨w.heap.size + 1, 0, none⟩ (.int .i64 0)).setCell ⟨w.heap.size + 1, 1, none⟩ (.int .i64 0)) s p m tv ths y co cm cc :=
  have m4 : Mod (fun k => k = w.heap.size + 1) V ((V.setCell ⟨w.heap.size + 1, 0, none⟩ (.int .i64 0)).setCell ⟨w.heap.size + 1, 1, none⟩ (.int .i64 0)) := ((Mod.refl (fun k => k = w.heap.size + 1) V).setCell ⟨w.heap.size + 1, 0, none⟩ (.int .i64 0) (fun _ => rfl)).setCell ⟨w.heap.size + 1, 1, none⟩ (.int .i64 0) (fun _ => rfl)
  ⟨h.rd.store (B := w.heap.size + 1) (by omega) (fun e => by
      obtain ⟨cur, hc⟩ := owns_blk h.rd.own e
      rw [h.f] at hc; cases hc) (blk_no64 h.f (by decide)) (by omega) m4, (m4.block w.heap.size (lt_of_block h.a) (fun e => by have h3 : w.heap.size = w.heap.size + 1 := e; omega)).trans h.a,
    (by have := set_blk (set_blk h.f 0 (.int .i64 0)) 1 (.int .i64 0); simpa using this),
    VT64.mod h.v m4 (fun g x => by rw [show g = w.heap.size + 1 from x]; exact blk_no64 h.f (by decide)), mod_below h.b m4 h.b.size (fun k e => by have h3 : k = w.heap.size + 1 := e; omega)⟩
theorem RE.five (h : RE w V s p m tv ths y co cm cc) : V.cell? ⟨w.heap.size, 0, none⟩ = some (.int .i64 y.k) ∧ V.cell? ⟨w.heap.size, 1, none⟩ = some (.int .i64 y.n) ∧ V.cell? ⟨w.heap.size, 2, none⟩ = some (.string y.t) ∧ V.cell? ⟨w.heap.size, 3, none⟩ = some (.slice co cm cc) ∧ V.cell? ⟨w.heap.size + 2, 3, none⟩ = some tv :=
  Go.Proofs.YtnaefnojmiolbaaGreatDoor.five (vb4 h.a) h.rd.cells.2.2.2
end
set_option maxHeartbeats 6400000 in
set_option maxRecDepth 100000 in
theorem read_any (s : ByteArray) (hs : s.size ≤ 65536) (w : World) (ht : Tabs w) : Calls Tryz.prog 49 #[.string s] w (ReadPost w (readP s)) := by
  obtain ⟨x, hx⟩ : ∃ x, x = readP s := ⟨_, rfl⟩
  rw [← hx]
  unfold readP at hx
  have hb3 : Below w.heap.size w (((w.alloc V0).alloc (.cells #[.int .i64 0, .int .i64 0] 33)).alloc (.cells #[.string s, .int .i64 0, .int .i64 0, .slice none 0 0] 116)) :=
    (((Below.refl _ w).alloc (Nat.le_refl _) _).alloc (by simp) _).alloc (by simp; omega) _
  have HB := Lib.hid hb3
  have HR : Hid (Rd (((w.alloc V0).alloc (.cells #[.int .i64 0, .int .i64 0] 33)).alloc (.cells #[.string s, .int .i64 0, .int .i64 0, .slice none 0 0] 116)) (w.heap.size + 2) s 0 0 (.slice none 0 0) []) := Lib.hid
    ⟨(by have := heap_alloc_new ((w.alloc V0).alloc (.cells #[.int .i64 0, .int .i64 0] 33)) (.cells #[.string s, .int .i64 0, .int .i64 0, .slice none 0 0] 116); simpa using this),
      Owns.empty _ _ _, (by simp [Value.ownBlock]), (fun t h => by cases h), Nat.zero_le _, hs, (by omega), ht.mono hb3, (by have := ht.lt; omega), (fun g e => by simp [Value.ownBlock] at e)⟩
  have HA : Hid ((((w.alloc V0).alloc (.cells #[.int .i64 0, .int .i64 0] 33)).alloc (.cells #[.string s, .int .i64 0, .int .i64 0, .slice none 0 0] 116)).heap[w.heap.size]? = some V0) := Lib.hid (alloc_blk (alloc_blk (heap_alloc_new w _) _) _)
  have HF : Hid ((((w.alloc V0).alloc (.cells #[.int .i64 0, .int .i64 0] 33)).alloc (.cells #[.string s, .int .i64 0, .int .i64 0, .slice none 0 0] 116)).heap[w.heap.size + 1]? = some (.cells #[.int .i64 0, .int .i64 0] 33 (0, 0))) := Lib.hid (alloc_blk (by have := heap_alloc_new (w.alloc V0) (.cells #[.int .i64 0, .int .i64 0] 33); simpa using this) _)
  have HV := value_rd s (w.heap.size + 2) 64 (Nat.le_refl _) HR.out (Nat.zero_le _)
  rw [show (64 - ((64 : Nat) : Int)) = 0 by omega] at HV
  obtain ⟨x1, hx1⟩ : ∃ x1, x1 = gvalP s 64 0 0 [] := ⟨_, rfl⟩
  rw [show List.map Th.tp [] = [] from rfl, ← hx1] at HV
  rw [← hx1] at hx
  have HT := Lib.hid ht
  clear hx1 hb3 ht
  rcases x1 with ⟨c, a⟩ | ⟨y, p, m, tps⟩
  · have hxe : x = .error (c, a) := hx
    subst hxe
    clear hx
    go_enter_defers Tryz.func49, Tryz.ntmps49
    go_wp2_with fail
    refine HV.mono ?_
    rintro e w1 ⟨rfl, hm⟩
    go_wp2_with fail
    have HF1 := cell_kept HR.out hm HF.out (by decide) (by decide)
    have HA1 := cell_kept HR.out hm HA.out (by decide) (by decide)
    refine leaves_cons (f := 81) (args := #[.pointer (some ⟨w.heap.size + 1, 0, none⟩)]) (by simp) (by simp [go_sem]) ?_
    refine (caught_panicking (w.heap.size + 1) c a 0 0 _ HF1).mono ?_
    rintro e u' w2 ⟨rfl, rfl, rfl⟩
    obtain ⟨z0, z1, z2, z3, q0, q1, hb⟩ := caught_cells HF1 HA1 c a
    refine ⟨.tuple #[VT.v (.mk 0 0 ⟨#[]⟩ []) (.slice none 0 0), .slice none 0 0, .agg #[.int .i64 c, .int .i64 a]], by simp [results, Tryz.results49, go_sem, VT.v, VT.k, VT.n, VT.t, z0, z1, z2, z3, q0, q1], (mod_below HB.out hm HB.out.size (rf_none (by omega))).trans (hb _ (Nat.le_trans HB.out.size hm.size) (Nat.le_succ _)), .mk 0 0 ⟨#[]⟩ [], _, _, _, rfl⟩
  · have HV' : Calls Tryz.prog 84 #[.pointer (some ⟨w.heap.size + 2, 0, none⟩), .int .i64 0] (((w.alloc V0).alloc (.cells #[.int .i64 0, .int .i64 0] 33)).alloc (.cells #[.string s, .int .i64 0, .int .i64 0, .slice none 0 0] 116)) (fun e w' => (∃ co cm cc tv2 ths2, e = .returned (.agg #[.int .i64 y.k, .int .i64 y.n, .string y.t, .slice co cm cc]) ∧ VT64 w' (.slice co cm cc) y.xs ∧ Rd w' (w.heap.size + 2) s p m tv2 ths2 ∧ ths2.map Th.tp = tps ∧ Fresh (((w.alloc V0).alloc (.cells #[.int .i64 0, .int .i64 0] 33)).alloc (.cells #[.string s, .int .i64 0, .int .i64 0, .slice none 0 0] 116)) (.slice none 0 0) tv2 ∧ ths2.length ≤ p) ∧ Mod (RF (w.heap.size + 2) (.slice none 0 0)) (((w.alloc V0).alloc (.cells #[.int .i64 0, .int .i64 0] 33)).alloc (.cells #[.string s, .int .i64 0, .int .i64 0, .slice none 0 0] 116)) w') := HV
    dsimp only at hx
    have HX := Lib.hid hx
    clear HV hx
    go_enter_defers Tryz.func49, Tryz.ntmps49
    go_wp2_with fail
    refine HV'.mono ?_
    rintro e w1 ⟨⟨co, cm, cc, tv2, ths2, rfl, hvt, hrd, htp, -, hth⟩, hm⟩
    have HF1 := Lib.hid (cell_kept HR.out hm HF.out (by decide) (by decide))
    have HA1 := Lib.hid (cell_kept HR.out hm HA.out (by decide) (by decide))
    have HD1 := Lib.hid hrd
    have HVT := Lib.hid hvt
    have HTP := Lib.hid htp
    have HM := Lib.hid hm
    have m2 := set4_mod w1 w.heap.size (.int .i64 y.k) (.int .i64 y.n) (.string y.t) (.slice co cm cc)
    have HD2 := Lib.hid (HD1.out.store (B := w.heap.size) (by omega) (fun e => by
      obtain ⟨cur, hc⟩ := owns_blk HD1.out.own e
      rw [HA1.out] at hc; cases hc) (blk_no64 HA1.out (by decide)) HT.out.lt m2)
    have HM2 := Lib.hid m2
    obtain ⟨ao, cap, hv, -⟩ := hrd.own.any
    rw [List.length_map] at hv
    subst hv
    obtain ⟨y0, y1, y2, y3⟩ := vb4 HA1.out
    have f0 := free_blk HA1.out 0; have f1 := free_blk HA1.out 1; have f2 := free_blk HA1.out 2; have f3 := free_blk HA1.out 3
    have HF2 := Lib.hid ((m2.block (w.heap.size + 1) (lt_of_block HF1.out) (fun e => by have h3 : w.heap.size + 1 = w.heap.size := e; omega)).trans HF1.out)
    have HA2 := Lib.hid (set4 HA1.out (.int .i64 y.k) (.int .i64 y.n) (.string y.t) (.slice co cm cc))
    obtain ⟨c0, c1, c2, c3⟩ := HD2.out.cells
    have hpl := hrd.hp
    clear hvt hrd htp hth hm HV' m2
    obtain ⟨b, hb⟩ : ∃ b, decide ((p : Int) < (s.size : Int)) = b := ⟨_, rfl⟩
    go_upto_region 4 with fail
    go_cut [17] from 9 to 17 (fun s17 wx => s17 = .bool b ∧ Hid (Rd wx (w.heap.size + 2) s p m (.slice ao ths2.length cap) ths2 ∧ wx.heap[w.heap.size]? = some (.cells #[.int .i64 y.k, .int .i64 y.n, .string y.t, .slice co cm cc] 24 (0, 0)) ∧ wx.heap[w.heap.size + 1]? = some (.cells #[.int .i64 0, .int .i64 0] 33 (0, 0)) ∧ VT64 wx (.slice co cm cc) y.xs ∧ Below w.heap.size w wx))
    case first =>
      go_wp2_with fail
      go_meet
      exact ⟨by rw [← hb]; simp, Lib.hid ⟨HD2.out, HA2.out, HF2.out, VT64.mod HVT.out HM2.out (fun g x => by rw [show g = w.heap.size from x]; exact blk_no64 HA1.out (by decide)), mod_below (mod_below HB.out HM.out HB.out.size (rf_none (by omega))) HM2.out (Nat.le_trans HB.out.size HM.out.size) (fun k e => by have h3 : k = w.heap.size := e; omega)⟩⟩
    case rest =>
      obtain ⟨rfl, HC⟩ := hcut
      have HBB := Lib.hid hb
      have HP := Lib.hid hpl
      clear HD2 HA2 HF2 HM2 y0 y1 y2 y3 f0 f1 f2 f3 c0 c1 c2 c3 hb hpl
      obtain ⟨y0, y1, y2, y3⟩ := vb4 HC.out.2.1
      obtain ⟨c0, c1, c2, c3⟩ := HC.out.1.cells
      cases b
      · have hxe : x = .ok (y, tps) := HX.out.trans (if_neg (by have := of_decide_eq_false HBB.out; omega))
        subst hxe
        go_wp2_with fail
        have HS0 := Lib.hid (five (vb4 HC.out.2.1) HC.out.1.cells.2.2.2)
        have f0 := free_blk HC.out.2.1 0; have f1 := free_blk HC.out.2.1 1; have f2 := free_blk HC.out.2.1 2; have f3 := free_blk HC.out.2.1 3
        have k0 := free_blk HC.out.2.2.1 0; have k1 := free_blk HC.out.2.2.1 1; have k2 := cell_blk HC.out.2.2.1 0; have k3 := cell_blk HC.out.2.2.1 1
        have E2 : RE w wc s p m (.slice ao ths2.length cap) ths2 y co cm cc := ⟨HC.out.1, HC.out.2.1, HC.out.2.2.1, HC.out.2.2.2.1, HC.out.2.2.2.2⟩
        have E3 := Lib.hid ((E2.set24 HT.out.lt).under (Below.refl _ _).drew)
        have E4 := Lib.hid (((E2.set24 HT.out.lt).set33 HT.out.lt).under (Below.refl _ _).drew)
        have E4n := Lib.hid ((E2.set24 HT.out.lt).set33 HT.out.lt)
        clear E2
        refine wp_region_noPanic ?_
        refine wp_region_held_drew (S := (fun V => V.cell? ⟨w.heap.size, 0, none⟩ = some (.int .i64 y.k) ∧ V.cell? ⟨w.heap.size, 1, none⟩ = some (.int .i64 y.n) ∧ V.cell? ⟨w.heap.size, 2, none⟩ = some (.string y.t) ∧ V.cell? ⟨w.heap.size, 3, none⟩ = some (.slice co cm cc) ∧ V.cell? ⟨w.heap.size + 2, 3, none⟩ = some (.slice ao ths2.length cap))) (by kernel_rfl) (by exact HS0.out) (fun hHeld => ?_)
        refine wpAnyH_take (i := 0) (oi := ?o0) (v := ?v0) ?hi0 (by kernel_rfl) (by kernel_rfl) (by kernel_rfl) (fun _ _ _ h => h) ?hy0 (by assumption) ?rest0
        case hi0 => simp only [gA, gZ]; rfl
        case hy0 =>
          refine Or.inl ⟨by rfl, ?_⟩
          intro w hSw; (try dsimp only at hSw); go_simp <;> (with_reducible rfl)
        (try simp only [Act.put, pA, pZ, pS])
        refine wpAnyH_take (i := 1) (oi := ?o1) (v := ?v1) ?hi1 (by kernel_rfl) (by kernel_rfl) (by kernel_rfl) (fun _ _ _ h => h) ?hy1 (by assumption) ?rest1
        case hi1 => simp only [gA, gS, gZ]; rfl
        case hy1 =>
          refine Or.inl ⟨by rfl, ?_⟩
          intro w hSw; (try dsimp only at hSw); go_simp <;> (with_reducible rfl)
        (try simp only [Act.put, pA, pZ, pS])
        refine wpAnyH_take (i := 2) (oi := ?o2) (v := ?v2) ?hi2 (by kernel_rfl) (by kernel_rfl) (by kernel_rfl) (fun _ _ _ h => h) ?hy2 (by assumption) ?rest2
        case hi2 => simp only [gA, gS, gZ]; rfl
        case hy2 =>
          refine Or.inl ⟨by rfl, ?_⟩
          intro w hSw; (try dsimp only at hSw); go_simp <;> (with_reducible rfl)
        (try simp only [Act.put, pA, pZ, pS])
        refine wpAnyH_take (i := 3) (oi := ?o3) (v := ?v3) ?hi3 (by kernel_rfl) (by kernel_rfl) (by kernel_rfl) (fun _ _ _ h => h) ?hy3 (by assumption) ?rest3
        case hi3 => simp only [gA, gS, gZ]; rfl
        case hy3 =>
          refine Or.inl ⟨by rfl, ?_⟩
          intro w hSw; (try dsimp only at hSw); go_simp <;> (with_reducible rfl)
        (try simp only [Act.put, pA, pZ, pS])
        refine wpAnyH_take (i := 4) (oi := ?o4) (v := ?v4) ?hi4 (by kernel_rfl) (by kernel_rfl) (by kernel_rfl) (fun _ _ _ h => h) ?hy4 (by assumption) ?rest4
        case hi4 => simp only [gA, gS, gZ]; rfl
        case hy4 =>
          refine Or.inl ⟨by rfl, ?_⟩
          intro w hSw; (try dsimp only at hSw); go_simp <;> (with_reducible rfl)
        (try simp only [Act.put, pA, pZ, pS])
        refine wpAnyH_take (i := 5) (oi := ?o5) (v := ?v5) ?hi5 (by kernel_rfl) (by kernel_rfl) (by kernel_rfl) (fun _ _ _ h => h) ?hy5 (by assumption) ?rest5
        case hi5 => simp only [gA, gS, gZ]; rfl
        case hy5 =>
          refine Or.inl ⟨by rfl, ?_⟩
          intro w hSw; (try dsimp only at hSw); go_simp <;> (with_reducible rfl)
        (try simp only [Act.put, pA, pZ, pS])
        refine wpAnyH_ready (rs := [6]) (by kernel_rfl) (by simp) ?_
        refine AllReadyH.cons rfl (fun K hK => ?_) AllReadyH.nil
        go_simp
        skip
        refine hK.out _ _ E3.out.five (fun hHeld6 => ?_)
        clear hK K
        (try simp only [Act.put, pA, pZ, pS])
        refine wpAnyH_take (i := 7) (oi := ?o7) (v := ?v7) ?hi7 (by kernel_rfl) (by kernel_rfl) (by kernel_rfl) (fun _ _ _ h => h) ?hy7 (by assumption) ?rest7
        case hi7 => simp only [gA, gS, gZ]; rfl
        case hy7 =>
          refine Or.inl ⟨by rfl, ?_⟩
          intro w hSw; (try dsimp only at hSw); go_simp <;> (with_reducible rfl)
        (try simp only [Act.put, pA, pZ, pS])
        refine wpAnyH_ready (rs := [8]) (by kernel_rfl) (by simp) ?_
        refine AllReadyH.cons rfl (fun K hK => ?_) AllReadyH.nil
        go_simp
        skip
        refine hK.out _ _ E4.out.five (fun hHeld8 => ?_)
        clear hK K
        (try simp only [Act.put, pA, pZ, pS])
        refine wpAnyH_done (by kernel_rfl) ?_ _
        refine NoPanic.normal ?_
        go_wp2_with fail
        refine leaves_cons (f := 81) (args := #[.pointer (some ⟨w.heap.size + 1, 0, none⟩)]) (by simp) (by simp [go_sem]) ?_
        refine (caught_idle (w.heap.size + 1) _).mono ?_
        rintro e u' w4 ⟨rfl, rfl, rfl⟩
        have E5 := E4.out.under (below_alloc1 _ (.cells #[.int .i64 0, .int .i64 0] 141))
        have E6 := E4n.out.under (below_alloc1 _ (.cells #[.int .i64 0, .int .i64 0] 141))
        obtain ⟨z0, z1, z2, z3, -⟩ := E6.five
        have q0 := cell_blk E6.f 0
        have q1 := cell_blk E6.f 1
        exact ⟨.tuple #[y.v (.slice co cm cc), .slice ao ths2.length cap, .agg #[.int .i64 0, .int .i64 0]], by simp [results, Tryz.results49, go_sem, VT.v, z0, z1, z2, z3, q0, q1], E5.b, co, cm, cc, ao, cap, ths2, rfl, E5.v, E5.rd.own, E5.rd.val, HTP.out⟩
      · have hps : p < s.size := by have := of_decide_eq_true HBB.out; omega
        have hxe : x = .error (wrongC s p, p) := HX.out.trans (if_pos hps)
        subst hxe
        have HW := wrong_any HC.out.1
        go_wp2_with fail
        refine HW.mono ?_
        rintro e w3 ⟨rfl, hb⟩
        go_wp2_with fail
        have HF3 := (hb.block _ (lt_of_block HC.out.2.2.1)).trans HC.out.2.2.1
        have HA3 := (hb.block _ (lt_of_block HC.out.2.1)).trans HC.out.2.1
        refine leaves_cons (f := 81) (args := #[.pointer (some ⟨w.heap.size + 1, 0, none⟩)]) (by simp) (by simp [go_sem]) ?_
        refine (caught_panicking (w.heap.size + 1) (wrongC s p) p 0 0 _ HF3).mono ?_
        rintro e u' w4 ⟨rfl, rfl, rfl⟩
        obtain ⟨z0, z1, z2, z3, q0, q1, hb4⟩ := caught_cells HF3 HA3 (wrongC s p) p
        have hb2 := HC.out.2.2.2.2
        refine ⟨.tuple #[VT.v y (.slice co cm cc), .slice none 0 0, .agg #[.int .i64 (wrongC s p), .int .i64 p]], by simp [results, Tryz.results49, go_sem, VT.v, z0, z1, z2, z3, q0, q1], (hb2.trans (hb.mono hb2.size)).trans (hb4 _ (Nat.le_trans hb2.size hb.size) (Nat.le_succ _)), y, _, _, _, rfl⟩
end Go.Proofs.YtnaefnojmiolbaaGreatDoor
