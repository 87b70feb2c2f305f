/-
  The walk of small.
-/
import Derived.Test.YthnhpnmopjbaoaaDoorCut11
import Derived.Lib.OthersKept
import Derived.Laws.RangeAny
namespace Go.Proofs.YthnhpnmopjbaoaaDoor
open Go.RowKit

def lowC (c : UInt8) : UInt8 := if 65 ≤ c.toNat ∧ c.toNat ≤ 90 then UInt8.ofNat (c.toNat + 32) else c
theorem lowC_up {c : UInt8} (h0 : 65 ≤ c.toNat) (h1 : c.toNat ≤ 90) : (lowC c).toNat = c.toNat + 32 := by
  unfold lowC
  rw [if_pos ⟨h0, h1⟩, ofNat_toNat (by omega)]
theorem lowC_id {c : UInt8} (h : ¬ (65 ≤ c.toNat ∧ c.toNat ≤ 90)) : lowC c = c := by unfold lowC; rw [if_neg h]
theorem next_lit (w : World) (k : Nat) (s : ByteArray) (pos : Nat) (x y : Int) (hk : w.heap[k]? = some (.stringIter s pos)) (h : pos < s.size) (ha : (s[pos]'h).toNat < 128) (hx : ((s[pos]'h).toNat : Int) = x) (hy : (pos : Int) = y) (ty : TypeId) :
    (Instr.next (.pointer (some ⟨k, 0, none⟩)) true ty).run Tryd.prog w = .ok (.tuple #[.bool true, .int .i64 y, .int .i32 x]) (w.iterAt k s (pos + 1)) := by
  subst hx hy; exact Lib.run_next_ascii_at w k s pos ty hk h ha
theorem mod_iter (w : World) (k : Nat) (s : ByteArray) (pos : Nat) : Mod (fun q => q = k) w (w.iterAt k s pos) :=
  ⟨rfl, rfl, rfl, by simp [World.iterAt], fun j _ hne => Lib.iterAt_other w k j s pos hne⟩
theorem ownsB_type {w : World} {v : Value} {l : Bs} (o : OwnsB w 5 v l) {g : Nat} (hg : v.ownBlock = some g) : ∃ cur, w.heap[g]? = some (.cells cur 5 (0, 0)) := by
  rcases Owns.row o |>.2 with ⟨rfl, _⟩ | ⟨g', cap, cur, rfl, _, hgg, _⟩
  · simp [Value.ownBlock] at hg
  · simp [Value.ownBlock] at hg; subst hg; exact ⟨cur, hgg⟩
/-- While the text is gone over. -/
structure SmallI (w wr : World) (t : ByteArray) (p : Nat) (pv v : Value) : Prop where
  bld : BuildIs wr w.heap.size pv v ((t.toList.take p).map lowC)
  it : wr.heap[w.heap.size + 1]? = some (.stringIter t p)
  below : Below w.heap.size w wr
  fresh : ∀ g, v.ownBlock = some g → w.heap.size ≤ g
theorem take_low {t : ByteArray} {p : Nat} (h : p < t.size) : (t.toList.take (p + 1)).map lowC = (t.toList.take p).map lowC ++ [lowC t[p]] := by
  rw [← List.take_append_getElem (by rw [size_toList]; exact h), List.map_append, toList_at h]
  rfl
/-- A byte goes in. -/
theorem SmallI.write {w W1 W2 : World} {t : ByteArray} {p : Nat} {pv v v2 : Value} (hlt : p < t.size) (i1 : BuildIs W1 w.heap.size pv v ((t.toList.take p).map lowC)) (k1 : W1.heap[w.heap.size + 1]? = some (.stringIter t (p + 1))) (b1 : Below w.heap.size w W1) (f1 : ∀ g, v.ownBlock = some g → w.heap.size ≤ g)
    (i2 : BuildIs W2 w.heap.size (.pointer (some ⟨w.heap.size, 0, none⟩)) v2 ((t.toList.take p).map lowC ++ [lowC t[p]])) (m2 : Mod (fun k => k = w.heap.size ∨ v.ownBlock = some k) W1 W2) (n2 : v2.ownBlock = v.ownBlock ∨ ∃ g, v2.ownBlock = some g ∧ W1.heap.size ≤ g) :
    SmallI w W2 t (p + 1) (.pointer (some ⟨w.heap.size, 0, none⟩)) v2 := by
  have hs := b1.size
  refine ⟨by rw [take_low hlt]; exact i2, m2.blk k1 (fun e => ?_), b1.trans (m2.belowB (fun k hk e => ?_) hs), fun g e => ?_⟩
  · rcases e with e | e
    · omega
    · obtain ⟨cur, hc⟩ := ownsB_type i1.own e
      rw [k1] at hc; cases hc
  · rcases e with e | e
    · omega
    · have := f1 k e; omega
  · rcases n2 with h | ⟨g', h, hg⟩
    · exact f1 g (h ▸ e)
    · rw [h] at e; cases e; omega
theorem SmallI.next {w wr : World} {t : ByteArray} {p : Nat} {pv v : Value} (h : SmallI w wr t p pv v) :
    BuildIs (wr.iterAt (w.heap.size + 1) t (p + 1)) w.heap.size pv v ((t.toList.take p).map lowC) ∧ (wr.iterAt (w.heap.size + 1) t (p + 1)).heap[w.heap.size + 1]? = some (.stringIter t (p + 1)) ∧ Below w.heap.size w (wr.iterAt (w.heap.size + 1) t (p + 1)) := by
  have m1 := mod_iter wr (w.heap.size + 1) t (p + 1)
  refine ⟨h.bld.mod m1 (by omega) (fun g e x => ?_), Lib.iterAt_heap wr (w.heap.size + 1) t p (p + 1) h.it, h.below.trans (m1.belowB (fun k hk e => by have e' : k = w.heap.size + 1 := e; omega) h.below.size)⟩
  obtain ⟨cur, hc⟩ := ownsB_type h.bld.own e
  have x' : g = w.heap.size + 1 := x
  rw [x', h.it] at hc; cases hc
theorem belowN {B : Nat} {a w : World} (h : Below B a w) (n : Nat) : Below B a (w.drewN n) := ⟨h.os, h.tape, h.output, h.size, h.block⟩
/-- A name in small letters: up to the first byte that is not ASCII. -/
def smallL : Bs → Bs
  | [] => []
  | c :: l => if c.toNat < 128 then lowC c :: smallL l else c :: l
theorem smallL_ascii : ∀ {l : Bs}, (∀ c ∈ l, c.toNat < 128) → smallL l = l.map lowC
  | [], _ => rfl
  | c :: l, h => by
    unfold smallL
    rw [if_pos (h c (by simp)), smallL_ascii (fun d hd => h d (by simp [hd]))]
    rfl
theorem smallL_split : ∀ {l : Bs} {p : Nat} (h : p < l.length), (∀ j (hj : j < l.length), j < p → l[j].toNat < 128) → ¬ l[p].toNat < 128 → smallL l = (l.take p).map lowC ++ l.drop p
  | [], _, h, _, _ => by simp at h
  | c :: l, 0, _, _, hb => by
    unfold smallL
    rw [if_neg (show ¬ c.toNat < 128 from hb)]
    rfl
  | c :: l, p + 1, h, ha, hb => by
    have h0 := ha 0 (by simp) (by omega)
    unfold smallL
    rw [if_pos (show c.toNat < 128 from h0), smallL_split (l := l) (p := p) (by simpa using h) (fun j hj hp => ha (j + 1) (by simp; omega) (by omega)) hb]
    rfl
theorem next_high (w : World) (k : Nat) (s : ByteArray) (pos : Nat) (x y : Int) (hk : w.heap[k]? = some (.stringIter s pos)) (h : pos < s.size) (hx : ((Utf8.decode s pos).1 : Int) = x) (hy : (pos : Int) = y) (ty : TypeId) :
    (Instr.next (.pointer (some ⟨k, 0, none⟩)) true ty).run Tryd.prog w = .ok (.tuple #[.bool true, .int .i64 y, .int .i32 x]) (w.iterAt k s (pos + (Utf8.decode s pos).2)) := by
  subst hx hy; exact Lib.run_next_any_at w k s pos ty hk h
theorem bs_drop (t : ByteArray) (E : Nat) : (t.extract E t.size).toList = t.toList.drop E := by
  rw [ByteArray.toList_eq, ByteArray.data_extract, Array.toList_extract, ← ByteArray.toList_eq]
  have : t.size = t.toList.length := (size_toList t).symm
  rw [this, List.extract_eq_take_drop, ← List.length_drop, List.take_length]
theorem bs_drop' (t : ByteArray) (E : Nat) : t.extract E t.size = str (t.toList.drop E) := by rw [← bs_drop, str_of]
theorem SmallI.nextHigh {w wr : World} {t : ByteArray} {p n : Nat} {pv v : Value} (h : SmallI w wr t p pv v) :
    BuildIs (wr.iterAt (w.heap.size + 1) t n) w.heap.size pv v ((t.toList.take p).map lowC) ∧ Below w.heap.size w (wr.iterAt (w.heap.size + 1) t n) := by
  have m1 := mod_iter wr (w.heap.size + 1) t n
  refine ⟨h.bld.mod m1 (by omega) (fun g e x => ?_), h.below.trans (m1.belowB (fun k hk e => by have e' : k = w.heap.size + 1 := e; omega) h.below.size)⟩
  obtain ⟨cur, hc⟩ := ownsB_type h.bld.own e
  have x' : g = w.heap.size + 1 := x
  rw [x', h.it] at hc; cases hc
set_option maxHeartbeats 3200000 in
set_option maxRecDepth 100000 in
theorem small_any (t : ByteArray) (hs : t.size ≤ 140737488351232) (w : World) : Calls Tryd.prog 55 #[.string t] w fun e w' => e = .returned (.string (str (smallL t.toList))) ∧ Below w.heap.size w w' := by
  generalize hres : smallL t.toList = res
  have HRES := Lib.hid hres
  clear hres
  have HN : ∀ ty (wr : World) (p : Nat), wr.heap[w.heap.size + 1]? = some (.stringIter t p) → ¬ p < t.size → (Instr.next (.pointer (some ⟨w.heap.size + 1, 0, none⟩)) true ty).run Tryd.prog wr = .ok (.tuple #[.bool false]) wr := fun ty wr p hk h => Lib.run_next_end_at wr _ t p ty hk h
  obtain ⟨W0, hW0⟩ : ∃ W0, W0 = (w.alloc (.cells #[.pointer none, .slice none 0 0] 112)).iter t 0 := ⟨_, rfl⟩
  have S0 : Hid (SmallI w W0 t 0 (.pointer none) (.slice none 0 0)) := Lib.hid (by
    have k0 : W0.heap[(w.alloc (.cells #[.pointer none, .slice none 0 0] 112)).heap.size]? = some (.stringIter t 0) := by rw [hW0]; exact World.iter_heap _ t 0
    have hb0 : Below (w.alloc (.cells #[.pointer none, .slice none 0 0] 112)).heap.size (w.alloc (.cells #[.pointer none, .slice none 0 0] 112)) W0 := by rw [hW0]; exact (Below.refl _ _).alloc (Nat.le_refl _) _
    have y0 := (hb0.block _ (lt_of_block (heap_alloc_new w (.cells #[.pointer none, .slice none 0 0] 112)))).trans (heap_alloc_new w (.cells #[.pointer none, .slice none 0 0] 112))
    rw [World.size_alloc] at k0
    exact ⟨⟨y0, Owns.empty _ _ _, by simp [Value.ownBlock], .inl rfl⟩, k0, (below_alloc1 w _).trans (hb0.mono (below_alloc1 w _).size), fun g e => by cases e⟩)
  have HW0 := Lib.hid hW0
  clear hW0
  go_enter Tryd.func55, Tryd.ntmps55
  go_wp2_with fail
  rw [← HW0.out]
  clear HW0
  go_loopw [4, 5] (fun _ _ wr => ∃ (p : Nat) (pv v : Value), p ≤ t.size ∧ Hid (SmallI w wr t p pv v) ∧ Hid (∀ j (h : j < t.size), j < p → t[j].toNat < 128)) (fun _ _ wr => t.size - wr.iterPos (w.heap.size + 1))
  case atStart => exact ⟨0, _, _, Nat.zero_le _, S0, fun j _ h => absurd h (Nat.not_lt_zero j)⟩
  case round =>
    obtain ⟨p, pv, v, hp, HS, HA⟩ := hrel
    clear S0
    have HMU : Hid (wr.iterPos (w.heap.size + 1) = p) := Lib.hid (by simp [World.iterPos, HS.out.it])
    by_cases hlt : p < t.size
    · by_cases h128 : t[p].toNat < 128
      · have HA2 : Hid (∀ j (h : j < t.size), j < p + 1 → t[j].toNat < 128) := Lib.hid (fun j h hj => by
          rcases Nat.lt_succ_iff_lt_or_eq.1 hj with h' | rfl
          · exact HA.out j h h'
          · exact h128)
        obtain ⟨x, hx⟩ : ∃ x : Int, (t[p].toNat : Int) = x := ⟨_, rfl⟩
        have hnext : ∀ ty, (Instr.next (.pointer (some ⟨w.heap.size + 1, 0, none⟩)) true ty).run Tryd.prog wr = _ := fun ty => next_lit wr (w.heap.size + 1) t p x p HS.out.it hlt h128 hx rfl ty
        have N1 := Lib.hid HS.out.next
        have FR := Lib.hid HS.out.fresh
        generalize wr.iterAt (w.heap.size + 1) t (p + 1) = W1 at hnext N1
        have hlen : ((t.toList.take p).map lowC).length ≤ 140737488351232 := by rw [List.length_map, List.length_take]; omega
        obtain ⟨q, hq⟩ : ∃ q, q = lowC t[p] := ⟨_, rfl⟩
        have HSW : Hid (∀ W2 v2, BuildIs W2 w.heap.size (.pointer (some ⟨w.heap.size, 0, none⟩)) v2 ((t.toList.take p).map lowC ++ [q]) → Mod (fun k => k = w.heap.size ∨ v.ownBlock = some k) W1 W2 → (v2.ownBlock = v.ownBlock ∨ ∃ g, v2.ownBlock = some g ∧ W1.heap.size ≤ g) → SmallI w W2 t (p + 1) (.pointer (some ⟨w.heap.size, 0, none⟩)) v2) := Lib.hid (fun W2 v2 i2 m2 n2 => by
          rw [hq] at i2
          exact SmallI.write hlt N1.out.1 N1.out.2.1 N1.out.2.2 FR.out i2 m2 n2)
        by_cases hup : 65 ≤ t[p].toNat ∧ t[p].toNat ≤ 90
        · have d1 : decide (65 ≤ x) = true := by simp; omega
          have d2 : decide (x ≤ 90) = true := by simp; omega
          have hw : IntKind.i32.wrap (x + 32) = x + 32 := by unfold IntKind.wrap; simp [IntKind.bits]; omega
          have HWr := wrune_ascii N1.out.1 (lowC t[p]) (by rw [lowC_up hup.1 hup.2]; omega) hlen
          rw [show (((lowC t[p]).toNat : Nat) : Int) = x + 32 by rw [lowC_up hup.1 hup.2]; omega, ← hq] at HWr
          have HLT := Lib.hid hlt
          clear hup h128 hx HS hlen hq hlt
          go_wp2_with fail
          refine HWr.mono ?_
          rintro e W2 ⟨rfl, v2, i2, m2, n2⟩
          have S2 := Lib.hid (HSW.out _ _ i2 m2 n2)
          clear i2 m2 n2 HWr N1 FR hnext HSW
          go_wp2_with fail
          go_roundw
          case rel => exact ⟨p + 1, _, _, HLT.out, S2, HA2⟩
          case measure => rw [HMU.out]; have := HLT.out; simp [World.iterPos, S2.out.it]; omega
        · have hd : (decide (65 ≤ x) = false) ∨ (decide (65 ≤ x) = true ∧ decide (x ≤ 90) = false) := by
            by_cases h65 : 65 ≤ x
            · exact .inr ⟨by simp [h65], by simp; omega⟩
            · exact .inl (by simp [h65])
          have d3 : decide (x < 128) = true := by simp; omega
          have HWr := wrune_ascii N1.out.1 (lowC t[p]) (by rw [lowC_id hup]; exact h128) hlen
          rw [show (((lowC t[p]).toNat : Nat) : Int) = x by rw [lowC_id hup]; exact hx, ← hq] at HWr
          have HLT := Lib.hid hlt
          clear hup h128 hx HS hlen hq hlt
          rcases hd with d1 | ⟨d1, d2⟩
          all_goals
            go_wp2_with fail
            refine HWr.mono ?_
            rintro e W2 ⟨rfl, v2, i2, m2, n2⟩
            have S2 := Lib.hid (HSW.out _ _ i2 m2 n2)
            clear i2 m2 n2 HWr N1 FR hnext HSW
            go_wp2_with fail
            go_roundw
            case rel => exact ⟨p + 1, _, _, HLT.out, S2, HA2⟩
            case measure => rw [HMU.out]; have := HLT.out; simp [World.iterPos, S2.out.it]; omega
      · have hge := (decode_high t p hlt (by omega)).1
        obtain ⟨x, hx⟩ : ∃ x : Int, ((Utf8.decode t p).1 : Int) = x := ⟨_, rfl⟩
        have hnext : ∀ ty, (Instr.next (.pointer (some ⟨w.heap.size + 1, 0, none⟩)) true ty).run Tryd.prog wr = _ := fun ty => next_high wr (w.heap.size + 1) t p x p HS.out.it hlt hx rfl ty
        have N1 := Lib.hid (HS.out.nextHigh (n := p + (Utf8.decode t p).2))
        have FR := Lib.hid HS.out.fresh
        generalize wr.iterAt (w.heap.size + 1) t (p + (Utf8.decode t p).2) = W1 at hnext N1
        have HB := fun n => bstring_any (N1.out.1.mod ((Mod.refl (fun _ => False) W1).drewN n) (fun x => x) (fun _ _ x => x)) (Nat.le_refl _) FR.out
        obtain ⟨L, hL⟩ : ∃ L, L = str ((t.toList.take p).map lowC) := ⟨_, rfl⟩
        have sL : L.size ≤ 140737488351232 := by rw [hL, str_size, List.length_map, List.length_take]; omega
        have sR : (t.extract p t.size).size ≤ 140737488351232 := by rw [ByteArray.size_extract]; omega
        rw [← hL] at HB
        have E1 : Hid (str res = L ++ t.extract p t.size) := Lib.hid (by
          rw [hL, bs_drop', str_append, ← HRES.out]
          exact congrArg str (smallL_split (by rw [size_toList]; exact hlt) (fun j hj hjp => by
            have hj' : j < t.size := by rw [← size_toList]; exact hj
            have := HA.out j hj' hjp
            rw [← toList_at hj'] at this
            exact this) (by rw [toList_at hlt]; exact h128)))
        have d1 : decide (65 ≤ x) = true := by simp; omega
        have d2 : decide (x ≤ 90) = false := by simp; omega
        have d3 : decide (x < 128) = false := by simp; omega
        have g1 : (p : Int) ≤ (t.size : Int) := by omega
        have HLT := Lib.hid hlt
        clear hge hx HS h128 hlt hL
        go_wp2_with fail
        go_region_with (go_at_call 75; refine (HB _).mono ?_; rintro e W2 ⟨rfl, hb⟩; have B2 := Lib.hid ((belowN N1.out.2 _).trans hb); clear hb)
        all_goals
          go_wp2_with fail
          go_ret
          exact ⟨by rw [E1.out]; rfl, B2.out⟩
    · obtain rfl : p = t.size := by omega
      have hend := fun ty => HN ty wr _ HS.out.it hlt
      have HB := bstring_any HS.out.bld (Nat.le_refl _) HS.out.fresh
      rw [List.take_of_length_le (by rw [size_toList]; exact Nat.le_refl _), ← smallL_ascii (l := t.toList) (fun c hc => by obtain ⟨j, hj, rfl⟩ := List.getElem_of_mem hc; have hj' : j < t.size := (by rw [← size_toList]; exact hj); rw [toList_at hj']; exact HA.out j hj' hj'), HRES.out] at HB
      clear HN
      go_wp2_with fail
      refine HB.mono ?_
      rintro e W2 ⟨rfl, hb⟩
      have B2 := Lib.hid (HS.out.below.trans hb)
      clear hb HB HS hend
      go_wp2_with fail
      go_ret
      exact ⟨rfl, B2.out⟩
theorem small_ascii (t : ByteArray) (hs : t.size ≤ 140737488351232) (ha : ∀ j (h : j < t.size), t[j].toNat < 128) (w : World) : Calls Tryd.prog 55 #[.string t] w fun e w' => e = .returned (.string (str (t.toList.map lowC))) ∧ Below w.heap.size w w' := by
  have h := small_any t hs w
  rw [smallL_ascii (fun c hc => by obtain ⟨j, hj, rfl⟩ := List.getElem_of_mem hc; have hj' : j < t.size := (by rw [← size_toList]; exact hj); rw [toList_at hj']; exact ha j hj')] at h
  exact h
end Go.Proofs.YthnhpnmopjbaoaaDoor
