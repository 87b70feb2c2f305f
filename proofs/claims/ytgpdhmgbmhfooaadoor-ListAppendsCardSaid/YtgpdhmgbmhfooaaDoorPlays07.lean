/-
  ListPlays: the walk.
-/
import Derived.Test.YtgpdhmgbmhfooaaDoorStands07
namespace Go.Proofs.YtgpdhmgbmhfooaaDoor
open Go.RowKit

def A.cells (a : A) : List Value := [.int .i64 a.kind, .int .i64 a.n, .bool a.k.b, .int .i64 a.k.n, .string a.k.t]
/-- Both lists of a law's call that began at w, and what had come in. -/
structure PL (w W : World) (b rb ro : Nat) (p : Pt) (l : LS) (ao : Option Addr) (acts : List A) : Prop where
  tabs : Tabs w
  duo : Duo w.heap.size W b rb ro p l l
  below : Below w.heap.size w W
  lies : Lies w 5 ao (acts.map A.cells)
  good : ∀ a ∈ acts, a.Good
theorem PL.tabs' {w W : World} {b rb ro : Nat} {p : Pt} {l : LS} {ao : Option Addr} {acts : List A} (h : PL w W b rb ro p l ao acts) : ∀ W', Below w.heap.size W W' → Tabs W' := fun _ hb => h.tabs.mono (h.below.trans hb)
theorem PL.mono {w W W' : World} {b rb ro : Nat} {p : Pt} {l : LS} {ao : Option Addr} {acts : List A} (h : PL w W b rb ro p l ao acts) (hb : Below W.heap.size W W') : PL w W' b rb ro p l ao acts :=
  ⟨h.tabs, ⟨h.duo.lst.below hb, h.duo.ref.below hb, h.duo.nb, h.duo.nv, h.duo.nm, h.duo.nr⟩, h.below.trans (hb.mono h.below.size), h.lies, h.good⟩
theorem PL.act {w W : World} {b rb ro : Nat} {p : Pt} {l : LS} {ao : Option Addr} {acts : List A} (h : PL w W b rb ro p l ao acts) {k : Nat} (hk : k < acts.length) : ∃ g off, ao = some ⟨g, off, none⟩ ∧ acts[k].Good ∧
    W.cell? ⟨g, off + k * 5, none⟩ = some (.int .i64 acts[k].kind) ∧ W.cell? ⟨g, off + k * 5 + 1, none⟩ = some (.int .i64 acts[k].n) ∧ W.cell? ⟨g, off + k * 5 + 2, none⟩ = some (.bool acts[k].k.b) ∧ W.cell? ⟨g, off + k * 5 + 3, none⟩ = some (.int .i64 acts[k].k.n) ∧ W.cell? ⟨g, off + k * 5 + 4, none⟩ = some (.string acts[k].k.t) := by
  obtain ⟨g, off, e, hg, _, hc⟩ := h.lies k (A.cells acts[k]) (by simp [hk])
  have hb : ∀ i, W.cell? ⟨g, i, none⟩ = w.cell? ⟨g, i, none⟩ := fun i => h.below.cell (p := ⟨g, i, none⟩) hg
  exact ⟨g, off, e, h.good _ (List.getElem_mem hk), (hb _).trans (hc 0 _ rfl), (hb _).trans (hc 1 _ rfl), (hb _).trans (hc 2 _ rfl), (hb _).trans (hc 3 _ rfl), (hb _).trans (hc 4 _ rfl)⟩
theorem PL.does {w W W' : World} {b rb ro : Nat} {p : Pt} {l l' : LS} {ao : Option Addr} {acts : List A} (h : PL w W b rb ro p l ao acts) {q : Pt} (d : Duo w.heap.size W' b rb ro q l' l') (m : Mod (fun k => Foot b p.sh p.v p.mb k ∨ k = rb) W W') : PL w W' b rb ro q l' ao acts :=
  ⟨h.tabs, d, h.below.trans (m.belowB (fun k hk hf => by
    rcases hf with (hf | ⟨_, hf | hf⟩) | hf
    · have := h.duo.nb; omega
    · have := h.duo.nv k hf; omega
    · have := h.duo.nm; omega
    · have := h.duo.nr; omega) h.below.size), h.lies, h.good⟩
theorem PL.stands {w W W' : World} {b rb ro : Nat} {p : Pt} {l : LS} {ao : Option Addr} {acts : List A} (h : PL w W b rb ro p l ao acts) (i : ListIs W' b true p.v p.mb l) (j : RefAt W' rb ro p.c p.rv l) (m : Mod (fun k => k = b) W W') : PL w W' b rb ro ⟨true, p.v, p.mb, p.c, p.rv⟩ l ao acts :=
  ⟨h.tabs, ⟨i, j, h.duo.nb, h.duo.nv, h.duo.nm, h.duo.nr⟩, h.below.trans (m.belowB (fun k hk hf => by have := h.duo.nb; omega) h.below.size), h.lies, h.good⟩
abbrev R00 : Obj := .cells #[.slice none 0 0, .int .i64 0] 47 (0, 0)
theorem PL.new {w W : World} {b mb : Nat} {ao : Option Addr} {acts : List A} (ht : Tabs w) (i : ListIs W b false (.slice none 0 0) mb LS.new) (hb : w.heap.size ≤ b) (hm : w.heap.size ≤ mb) (hB : Below w.heap.size w W) (hl : Lies w 5 ao (acts.map A.cells)) (hg : ∀ a ∈ acts, a.Good) :
    PL w (W.alloc R00) b W.heap.size 0 ⟨false, .slice none 0 0, mb, #[.slice none 0 0, .int .i64 0], .slice none 0 0⟩ LS.new ao acts :=
  ⟨ht, ⟨i.below (below_alloc1 _ _), ⟨heap_alloc_new _ _, rfl, rfl, Owns.empty _ _ _, LS.new_ok⟩, hb, fun g e => (by cases e), hm, hB.size⟩, hB.trans ((below_alloc1 _ _).mono hB.size), hl, hg⟩

set_option maxRecDepth 100000 in
set_option maxHeartbeats 3200000 in
theorem plays_any (cap : Nat) (ao : Option Addr) (acts : List A) (w : World) (hl : Lies w 5 ao (acts.map A.cells)) (hg : ∀ a ∈ acts, a.Good) (hn : acts.length ≤ 9223372036854775807) (ht : Tabs w) :
    Calls Tryd.prog 5 #[.slice ao acts.length cap] w (BoolPost w true) := by
  have HT := Lib.hid (⟨ht, hl, hg⟩ : _ ∧ _ ∧ _)
  clear ht hl hg
  go_enter Tryd.func5, Tryd.ntmps5
  go_wp2_with fail
  refine (lnew_any _).mono ?_
  rintro e w1 ⟨b, mb, rfl, i1, hb1, hm1, hbel⟩
  have P1 := Lib.hid (PL.new HT.out.1 i1 hb1 hm1 hbel HT.out.2.1 HT.out.2.2)
  clear i1 hb1 hm1 hbel
  have HA := lalive_any _ (P1.out.tabs' _ (Below.refl _ _))
  go_wp2_with fail
  refine HA.mono ?_
  rintro e w2 ⟨rfl, hb⟩
  have P2 := Lib.hid (P1.out.mono hb)
  clear P1 hb HA
  go_wp2_with fail
  go_loopw [17] (fun i wr => ∃ k : Nat, k ≤ acts.length ∧ i = .int .i64 k ∧ ∃ q l, Hid (PL w wr b w1.heap.size 0 q l ao acts)) (fun i _ => acts.length - (intOf i).toNat)
  case atStart => exact ⟨0, Nat.zero_le _, rfl, _, _, P2⟩
  case round =>
    obtain ⟨k, hk, rfl, q, l, HP⟩ := hrel
    clear P2
    by_cases hlt : k < acts.length
    · obtain ⟨g, off, rfl, hgood, d0, d1, d2, d3, d4⟩ := HP.out.act hlt
      have hi1 : (k : Int) < (acts.length : Int) := by omega
      have hw : IntKind.i64.wrap ((k : Int) + 1) = (k : Int) + 1 := wrap_in (by omega) (by omega)
      have hw' : wrap64 ((k : Int) + 1) = (k : Int) + 1 := wrap64_in' (by omega) (by omega)
      obtain ⟨a, ha⟩ : ∃ a, a = acts[k] := ⟨_, rfl⟩
      rw [← ha] at d0 d1 d2 d3 d4 hgood
      have P3 := Lib.hid (HP.out.mono (below_alloc1 wr (AB a)))
      have HD := does_any a hgood _ P3.out.below.size P3.out.tabs' P3.out.duo
      clear ha HP hgood
      go_wp2_with fail
      refine HD.mono ?_
      rintro e w3 ⟨rfl, q4, D4, m4, -⟩
      have P4 := Lib.hid (P3.out.does D4 m4)
      have HS := stands_any w3 P4.out.below.size P4.out.tabs' P4.out.duo
      clear D4 m4 P3 HD d0 d1 d2 d3 d4
      go_wp2_with fail
      refine HS.mono ?_
      rintro e w4 ⟨rfl, i5, j5, m5⟩
      have P5 := Lib.hid (P4.out.stands i5 j5 m5)
      clear i5 j5 m5 P4 HS
      go_wp2_with fail
      go_roundw
      case rel => exact ⟨k + 1, hlt, by go_num, _, _, P5⟩
      case measure => exact Nat.sub_lt_sub_left hlt (Nat.lt_succ_self k)
    · obtain rfl : k = acts.length := by omega
      have HS := stands_any wr HP.out.below.size HP.out.tabs' HP.out.duo
      go_wp2_with fail
      refine HS.mono ?_
      rintro e w4 ⟨rfl, i5, j5, m5⟩
      have P5 := Lib.hid (HP.out.stands i5 j5 m5)
      clear i5 j5 m5 HS
      go_wp2_with fail
      go_ret
      exact ⟨rfl, P5.out.below⟩
end Go.Proofs.YtgpdhmgbmhfooaaDoor
