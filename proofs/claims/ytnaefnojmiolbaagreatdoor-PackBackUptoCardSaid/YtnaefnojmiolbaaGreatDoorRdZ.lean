/-
  A reader of packed graphs in memory; the walks of now, fail, wrong.
-/
import Derived.Test.YtnaefnojmiolbaaGreatDoorAllZ
import Derived.Test.YtnaefnojmiolbaaGreatDoorNameZ
namespace Go.Proofs.YtnaefnojmiolbaaGreatDoor
open Go.RowKit

theorem var_same {P : Program} {w w' : World} {n : String} {cs : Array Value} {g : Nat} (hg : P.globalNamed n = some g) (h : w.var? P n = some cs) (hb : w'.heap[g]? = w.heap[g]?) : w'.var? P n = some cs := by
  unfold World.var? at h ⊢
  rw [hg] at h ⊢
  simp only [Option.bind_some] at h ⊢
  rw [hb]
  exact h
theorem g3 : Tryz.prog.globalNamed "internal/strconv.uint64pow10" = some 3 := by kernel_rfl
theorem g4 : Tryz.prog.globalNamed "strconv.ErrSyntax" = some 4 := by kernel_rfl
theorem g5 : Tryz.prog.globalNamed "strconv.ErrRange" = some 5 := by kernel_rfl
theorem Tabs.lt {w : World} (h : Tabs w) : 6 ≤ w.heap.size := by
  obtain ⟨tp, p, hr⟩ := h.rng
  unfold World.var? at hr
  rw [g5] at hr
  simp only [Option.bind_some] at hr
  rcases Nat.lt_or_ge 5 w.heap.size with hl | hl
  · omega
  · rw [Array.getElem?_eq_none hl] at hr; cases hr
/-- The tables abide what turns no variable. -/
theorem Tabs.mod {Z : Nat → Prop} {w w' : World} (h : Tabs w) (m : Mod Z w w') (hz : ∀ k, Z k → 6 ≤ k) : Tabs w' := by
  have hl := h.lt
  have hb : ∀ k, k < 6 → w'.heap[k]? = w.heap[k]? := fun k hk => m.block k (by omega) (fun x => by have := hz k x; omega)
  refine ⟨var_same g3 h.pow (hb 3 (by omega)), ?_, ?_, ?_, ?_⟩
  · obtain ⟨a, b, e⟩ := h.rng; exact ⟨a, b, var_same g5 e (hb 5 (by omega))⟩
  · obtain ⟨a, b, e⟩ := h.syn; exact ⟨a, b, var_same g4 e (hb 4 (by omega))⟩
  · obtain ⟨x, e⟩ := h.len; exact ⟨x, (World.cell?_of_block (w := w) (hb 2 (by omega))).trans e⟩
  · exact ⟨fun c hc => (World.cell?_of_block (w := w) (hb 0 (by omega))).trans (h.utf.1 c hc), fun i hi => ⟨(World.cell?_of_block (w := w) (hb 1 (by omega))).trans (h.utf.2 i hi).1, (World.cell?_of_block (w := w) (hb 1 (by omega))).trans (h.utf.2 i hi).2⟩⟩
/-- A thing: its class, its items, the slice value before them. -/
structure Th where
  cls : ByteArray
  xs : List It
  c : Value
def Th.row (t : Th) : List Value := [.string t.cls, t.c]
/-- A reader in memory. -/
structure Rd (w : World) (r : Nat) (s : ByteArray) (p m : Nat) (tv : Value) (ths : List Th) : Prop where
  blk : w.heap[r]? = some (.cells #[.string s, .int .i64 p, .int .i64 m, tv] 116 (0, 0))
  own : Owns w 48 2 tv (ths.map Th.row)
  ne : tv.ownBlock ≠ some r
  val : ∀ t ∈ ths, VT64 w t.c t.xs
  hp : p ≤ s.size
  hs : s.size ≤ 65536
  hm : m ≤ 2049
  tab : Tabs w
  r6 : 6 ≤ r
  t6 : ∀ g, tv.ownBlock = some g → 6 ≤ g
/-- The blocks that a reader turns. -/
def RF (r : Nat) (tv : Value) (k : Nat) : Prop := k = r ∨ tv.ownBlock = some k
section
variable {w w' : World} {r : Nat} {s : ByteArray} {p m : Nat} {tv : Value} {ths : List Th}
theorem Rd.under (h : Rd w r s p m tv ths) (hb : Below w.heap.size w w') : Rd w' r s p m tv ths :=
  ⟨(hb.block _ (lt_of_block h.blk)).trans h.blk, h.own.kept fun g e => hb.block g (h.own.lt e), h.ne, fun t ht => VT64.under (h.val t ht) hb, h.hp, h.hs, h.hm, h.tab.mono hb, h.r6, h.t6⟩
theorem Rd.no64 (h : Rd w r s p m tv ths) {k : Nat} (hk : RF r tv k) : ¬ B64 w k := by
  rintro ⟨cs, fr, hc⟩
  rcases hk with rfl | hk
  · rw [h.blk] at hc; cases hc
  · obtain ⟨cur, h2⟩ := owns_type h.own hk
    rw [h2] at hc; cases hc
theorem Rd.cells (h : Rd w r s p m tv ths) : w.cell? ⟨r, 0, none⟩ = some (.string s) ∧ w.cell? ⟨r, 1, none⟩ = some (.int .i64 p) ∧ w.cell? ⟨r, 2, none⟩ = some (.int .i64 m) ∧ w.cell? ⟨r, 3, none⟩ = some tv :=
  ⟨cell_blk h.blk 0, cell_blk h.blk 1, cell_blk h.blk 2, cell_blk h.blk 3⟩
theorem Rd.setAt (h : Rd w r s p m tv ths) {q : Nat} (hq : q ≤ s.size) {v : Int} (hv : v = (q : Int)) : Rd (w.setCell ⟨r, 1, none⟩ (.int .i64 v)) r s q m tv ths :=
  hv ▸ ⟨by have := set_blk h.blk 1 (.int .i64 q); simpa using this, h.own.kept fun g e => Below.heap_setCell _ _ _ _ (fun c => h.ne (by rw [e, c])), h.ne,
    fun t ht => VT64.mod (h.val t ht) ((Mod.refl (fun k => k = r) w).setCell _ _ (fun _ => rfl)) (fun g e => h.no64 (.inl e)), hq, h.hs, h.hm, h.tab.mod ((Mod.refl (fun k => k = r) w).setCell _ _ (fun _ => rfl)) (fun k e => by rw [show k = r from e]; exact h.r6), h.r6, h.t6⟩
theorem set_mod (w : World) (r i : Nat) (v : Value) (tv : Value) : Mod (RF r tv) w (w.setCell ⟨r, i, none⟩ v) := (Mod.refl _ w).setCell _ _ (fun _ => .inl rfl)
end
/-- The byte at the place; 0 behind the end. -/
def nowP (s : ByteArray) (p : Nat) : UInt8 := s.toList[p]?.getD 0
theorem nowP_lt {s : ByteArray} {p : Nat} (h : p < s.size) : nowP s p = s[p] := by
  unfold nowP
  rw [List.getElem?_eq_getElem (by rw [size_toList]; exact h), toList_at h]
  rfl
theorem nowP_end {s : ByteArray} {p : Nat} (h : ¬ p < s.size) : nowP s p = 0 := by
  unfold nowP
  rw [List.getElem?_eq_none (by rw [size_toList]; omega)]
  rfl
set_option maxRecDepth 100000 in
theorem now_any {w : World} {r : Nat} {s : ByteArray} {p m : Nat} {tv : Value} {ths : List Th} (h : Rd w r s p m tv ths) : Calls Tryz.prog 113 #[.pointer (some ⟨r, 0, none⟩)] w fun e w' => e = .returned (.int .u8 (nowP s p).toNat) ∧ Below w.heap.size w w' := by
  obtain ⟨c0, c1, c2, c3⟩ := h.cells
  by_cases hlt : p < s.size
  · rw [nowP_lt hlt]
    have hi : (p : Int) < (s.size : Int) := by omega
    clear h
    go_enter Tryz.func113, Tryz.ntmps113
    go_wp2_with fail
    go_quiet (fail)
    go_wp2_with fail
    go_quiet (fail)
    go_wp2_with fail
    go_ret
    exact ⟨rfl, belowN (belowN (Below.refl _ _) _) _⟩
  · rw [nowP_end hlt]
    have hi : decide ((p : Int) < (s.size : Int)) = false := by simp; omega
    clear h
    go_enter Tryz.func113, Tryz.ntmps113
    go_wp2_with fail
    go_quiet (fail)
    go_wp2_with fail
    go_ret
    exact ⟨rfl, belowN (Below.refl _ _) _⟩
/-- How a reader gives up. -/
abbrev stopE (c : Int) (a : Nat) : Ending := .panicked [{ v := .iface 141 (.agg #[.int .i64 c, .int .i64 a]), recovered := false }]
theorem fail_any (c : Int) (a : Nat) (w : World) : Calls Tryz.prog 117 #[.int .i64 c, .int .i64 a] w fun e w' => e = stopE c a ∧ w = w' := by
  go_enter Tryz.func117, Tryz.ntmps117
  go_wp2_with fail
  exact ⟨rfl, rfl, rfl⟩
/-- What wrong tells: nothing stands there, or something else. -/
def wrongC (s : ByteArray) (p : Nat) : Int := if p < s.size then 7 else 10
set_option maxRecDepth 100000 in
theorem wrong_any {w : World} {r : Nat} {s : ByteArray} {p m : Nat} {tv : Value} {ths : List Th} (h : Rd w r s p m tv ths) : Calls Tryz.prog 85 #[.pointer (some ⟨r, 0, none⟩)] w fun e w' => e = stopE (wrongC s p) p ∧ Below w.heap.size w w' := by
  obtain ⟨c0, c1, c2, c3⟩ := h.cells
  have hp := h.hp
  unfold wrongC
  by_cases hlt : p < s.size
  · rw [if_pos hlt]
    have hi : decide ((s.size : Int) ≤ (p : Int)) = false := by simp; omega
    have HF := fail_any 7 p
    clear h
    go_enter Tryz.func85, Tryz.ntmps85
    go_wp2_with fail
    go_quiet (fail)
    go_wp2_with fail
    refine (HF _).mono ?_
    rintro e w1 ⟨rfl, rfl⟩
    go_wp2_with fail
    exact ⟨rfl, rfl, belowN (Below.refl _ _) _⟩
  · obtain rfl : p = s.size := by omega
    rw [if_neg hlt]
    have hi : decide ((s.size : Int) ≤ (s.size : Int)) = true := by simp
    have HF := fail_any 10 s.size
    clear h
    go_enter Tryz.func85, Tryz.ntmps85
    go_wp2_with fail
    go_quiet (fail)
    go_wp2_with fail
    refine (HF _).mono ?_
    rintro e w1 ⟨rfl, rfl⟩
    go_wp2_with fail
    exact ⟨rfl, rfl, belowN (Below.refl _ _) _⟩
/-- Some bytes that must stand at a place: the place behind them, or a number and a place. -/
def mustP (s : ByteArray) : Bs → Nat → Except (Int × Nat) Nat
  | [], p => .ok p
  | c :: t, p => if p < s.size ∧ nowP s p = c then mustP s t (p + 1) else .error (wrongC s p, p)
theorem mustP_le {s : ByteArray} : ∀ {t : Bs} {p q : Nat}, mustP s t p = .ok q → q = p + t.length ∧ (p ≤ s.size → q ≤ s.size)
  | [], p, q, h => by cases h; exact ⟨rfl, fun h => h⟩
  | c :: t, p, q, h => by
    rw [mustP] at h
    split at h
    · rename_i hc
      obtain ⟨h1, h2⟩ := mustP_le h
      exact ⟨by simp; omega, fun _ => h2 hc.1⟩
    · cases h
/-- What a reader's call leaves, whatever comes of it. -/
def RPost {α : Type} (w : World) (r : Nat) (tv : Value) (x : Except (Int × Nat) α) (ok : α → Ending → World → Prop) (e : Ending) (w' : World) : Prop :=
  match x with
  | .ok a => ok a e w' ∧ Mod (RF r tv) w w'
  | .error (c, a) => e = stopE c a ∧ Mod (RF r tv) w w'
set_option maxHeartbeats 1600000 in
set_option maxRecDepth 100000 in
theorem must_any (t : ByteArray) (ht : t.size ≤ 1000) {w : World} {r : Nat} {s : ByteArray} {p m : Nat} {tv : Value} {ths : List Th} (h : Rd w r s p m tv ths) :
    Calls Tryz.prog 114 #[.pointer (some ⟨r, 0, none⟩), .string t] w (RPost w r tv (mustP s t.toList p) fun q e w' => e = .returned (.tuple #[]) ∧ Rd w' r s q m tv ths) := by
  obtain ⟨x, hx⟩ : ∃ x, x = mustP s t.toList p := ⟨_, rfl⟩
  rw [← hx]
  have HX : Hid (x = mustP s (t.toList.drop 0) (p + 0)) := Lib.hid hx
  have HD := Lib.hid h
  have hsz := h.hs
  have hpl := h.hp
  clear hx h
  go_enter Tryz.func114, Tryz.ntmps114
  go_wp2_with fail
  go_loopw [4, 7] (fun _ kv wr => ∃ j : Nat, j ≤ t.size ∧ kv = .int .i64 j ∧ Hid (x = mustP s (t.toList.drop j) (p + j)) ∧ Hid (Rd wr r s (p + j) m tv ths) ∧ Hid (Mod (RF r tv) w wr)) (fun _ kv _ => t.size - (intOf kv).toNat)
  case atStart => exact ⟨0, Nat.zero_le _, rfl, HX, HD, Lib.hid (Mod.refl _ _)⟩
  case round =>
    obtain ⟨j, hj, rfl, HXj, HR, HM⟩ := hrel
    clear HX HD
    obtain ⟨q, hq⟩ : ∃ q, q = p + j := ⟨_, rfl⟩
    have HQ := Lib.hid hq
    rw [← hq] at HXj HR
    clear hq
    obtain ⟨c0, c1, c2, c3⟩ := HR.out.cells
    have hpj := HR.out.hp
    by_cases hlt : j < t.size
    · have hi : (j : Int) < (t.size : Int) := by omega
      obtain ⟨hw', hw⟩ := wr_sm (x := (j : Int) + 1) (by omega) (by omega)
      obtain ⟨hq', hqw⟩ := wr_sm (x := (q : Int) + 1) (by omega) (by omega)
      have hX2 := HXj.out
      rw [List.drop_eq_getElem_cons (by rw [size_toList]; exact hlt), toList_at hlt, mustP] at hX2
      by_cases hps : q < s.size
      · have hi2 : (q : Int) < (s.size : Int) := by omega
        have hg : decide ((s.size : Int) ≤ (q : Int)) = false := by simp; omega
        rw [nowP_lt hps] at hX2
        by_cases hc : s[q] = t[j]
        · have hneq : ((s[q].toNat : Int) != (t[j].toNat : Int)) = false := by simp [hc]
          rw [if_pos ⟨hps, hc⟩] at hX2
          have HX2 := Lib.hid hX2
          have HPS := Lib.hid hps
          have HLT := Lib.hid hlt
          have ff := free_blk HR.out.blk 1
          clear hX2 hc HXj
          go_wp2_with fail
          go_quiet (fail)
          go_wp2_with fail
          go_roundw
          case rel => exact ⟨j + 1, HLT.out, by go_num, Lib.hid (by rw [HX2.out]; rw [HQ.out]; rfl), Lib.hid (by rw [show p + (j + 1) = q + 1 by have := HQ.out; omega]; exact (HR.out.under (belowN (Below.refl _ wr) _)).setAt HPS.out (by omega)), Lib.hid ((HM.out.trans (Mod.of_below (belowN (Below.refl _ wr) _))).trans (set_mod _ r 1 _ tv))⟩
          case measure => have := HLT.out; simp [intOf]; omega
        · have hneq : ((s[q].toNat : Int) != (t[j].toNat : Int)) = true := by
            rw [bne_iff_ne]; intro e; exact hc (UInt8.toNat_inj.1 (by omega))
          rw [if_neg (fun e => hc e.2)] at hX2
          subst hX2
          have HW := fun n => wrong_any (HR.out.under (belowN (Below.refl _ wr) n))
          clear hc HXj
          go_wp2_with fail
          go_quiet (fail)
          go_wp2_with fail
          refine (HW _).mono ?_
          rintro e w1 ⟨rfl, hb⟩
          go_wp2_with fail
          exact ⟨rfl, rfl, (HM.out.trans (Mod.of_below (belowN (Below.refl _ wr) _))).trans (Mod.of_below hb)⟩
      · have hg : decide ((s.size : Int) ≤ (q : Int)) = true := by simp; omega
        rw [if_neg (fun e => hps e.1)] at hX2
        subst hX2
        have HW := fun n => wrong_any (HR.out.under (belowN (Below.refl _ wr) n))
        clear HXj
        go_wp2_with fail
        go_quiet (fail)
        go_wp2_with fail
        refine (HW _).mono ?_
        rintro e w1 ⟨rfl, hb⟩
        go_wp2_with fail
        exact ⟨rfl, rfl, (HM.out.trans (Mod.of_below (belowN (Below.refl _ wr) _))).trans (Mod.of_below hb)⟩
    · obtain rfl : j = t.size := by omega
      have hX2 := HXj.out
      rw [List.drop_of_length_le (by rw [size_toList]; exact Nat.le_refl _), mustP] at hX2
      subst hX2
      go_wp2_with fail
      first | go_end0 | (refine bodyPost_ret (results_none rfl _ _ _) rfl ?_)
      exact ⟨⟨rfl, HR.out⟩, HM.out⟩
end Go.Proofs.YtnaefnojmiolbaaGreatDoor
