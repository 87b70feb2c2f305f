/-
  JSON: the walk of quote (printed by genJQuoZ.py).
-/
import Derived.Test.YtnaefnojmiolbaaGreatDoorJw13
import Derived.Test.YtnaefnojmiolbaaGreatDoorJw15
import Derived.Test.YtnaefnojmiolbaaGreatDoorJw4
import Derived.Lib.OthersKept
import Derived.Laws.RangeAny
import Derived.Maps.Own
import Derived.Maps.StringElems
import Derived.Lib.TrimUEq
namespace Go.Proofs.YtnaefnojmiolbaaGreatDoor
open Go.RowKit Go.Maps

theorem rune_wf {n : Int} (h0 : -2147483648 ≤ n) (h1 : n ≤ 2147483647) : (Lit.int .i32 n).wf = true := by
  have e1 : IntKind.i32.min = -2147483648 := rfl
  have e2 : IntKind.i32.max = 2147483647 := rfl
  simp [Lit.wf, e1, e2]
  omega
theorem zero9 (w : World) : (zeroValue 9).run Tryz.prog w = .ok (.string ⟨#[]⟩) w := by kernel_rfl
/-- map[rune]string. -/
noncomputable def mRS : MSpec Int ByteArray where
  M := 124
  k := 21
  e := 9
  kv := fun n => .int .i32 n
  kl := fun n => .int .i32 n
  good := fun n => -2147483648 ≤ n ∧ n ≤ 2147483647
  keyed := int_keyed Tryz.underlying21
  und := Tryz.underlying124
  keyOf := fun _ h => keyOf_int_mk Tryz.underlying21 (rune_wf h.1 h.2)
  inj := fun c d _ _ h => by injection h
  ev := fun s => .string s
  ed := fun s => .lit (.string s.data.toList)
  ge := fun s => s.size ≤ maxLen
  pe := plainElem (H := Unit) Tryz.prog 9
  pe_ev := fun _ h => plainElem_string Tryz.underlying9 h
  pe_inv := fun _ a _ h => by
    obtain ⟨s, rfl, hz⟩ := plainElem_string_inv Tryz.underlying9 h
    have := congrArg Prod.fst hz.1
    simp only [DataW.lit.injEq, Lit.string.injEq] at this
    rw [← str_data s, ← str_data a, this]
  z := ⟨#[]⟩
  gz := by decide
  zero := zero9
/-- The escapes of one letter, by the rune's number. -/
def shortI (n : Int) : Option ByteArray := if n = 34 then some ⟨#[92, 34]⟩ else if n = 92 then some ⟨#[92, 92]⟩ else if n = 47 then some ⟨#[92, 47]⟩ else if n = 8 then some ⟨#[92, 98]⟩ else if n = 12 then some ⟨#[92, 102]⟩ else if n = 10 then some ⟨#[92, 110]⟩ else if n = 13 then some ⟨#[92, 114]⟩ else if n = 9 then some ⟨#[92, 116]⟩ else none
theorem shortI_W (c : Nat) : shortI (c : Int) = (shortW c).map fun d => ⟨#[92, d]⟩ := by
  unfold shortI shortW
  by_cases h34 : c = 34
  · subst h34; rfl
  rw [if_neg (by omega : ¬ (c : Int) = 34), if_neg h34]
  by_cases h92 : c = 92
  · subst h92; rfl
  rw [if_neg (by omega : ¬ (c : Int) = 92), if_neg h92]
  by_cases h47 : c = 47
  · subst h47; rfl
  rw [if_neg (by omega : ¬ (c : Int) = 47), if_neg h47]
  by_cases h8 : c = 8
  · subst h8; rfl
  rw [if_neg (by omega : ¬ (c : Int) = 8), if_neg h8]
  by_cases h12 : c = 12
  · subst h12; rfl
  rw [if_neg (by omega : ¬ (c : Int) = 12), if_neg h12]
  by_cases h10 : c = 10
  · subst h10; rfl
  rw [if_neg (by omega : ¬ (c : Int) = 10), if_neg h10]
  by_cases h13 : c = 13
  · subst h13; rfl
  rw [if_neg (by omega : ¬ (c : Int) = 13), if_neg h13]
  by_cases h9 : c = 9
  · subst h9; rfl
  rw [if_neg (by omega : ¬ (c : Int) = 9), if_neg h9]
  rfl
theorem ite_le8 {p : Prop} [Decidable p] {a b k : Nat} (h1 : a ≤ k) (h2 : b ≤ k) : (if p then a else b) ≤ k := by split <;> assumption
/-- While a text is quoted. -/
structure QI (w0 : World) (b : Nat) (w W : World) (t : ByteArray) (p mb it : Nat) (l : Bs) : Prop where
  jb : WJB w0 b W l
  kw : KW b w W
  mp : ∃ n, mRS.Is W mb shortI n
  itr : W.heap[it]? = some (.stringIter t p)
  hmb : w.heap.size ≤ mb
  hit : w.heap.size ≤ it
theorem mRS_block {w : World} {mb n : Nat} {F : Int → Option ByteArray} (h : mRS.Is w mb F n) : ∃ es clock, w.heap[mb]? = some (.map es clock) := by
  obtain ⟨D, ⟨es, clock, h1, -⟩, -⟩ := h
  exact ⟨es, clock, h1⟩
theorem not_by {b k : Nat} {w : World} {o : Obj} (h : w.heap[k]? = some o) (hn : ∀ cs ty fr, o ≠ .cells cs ty fr) : ¬ BY b w k := by
  rintro ⟨-, cs, ty, fr, h2, -⟩
  rw [h] at h2
  exact hn cs ty fr (Option.some.inj h2)
section
variable {w0 w W W' : World} {b p mb it : Nat} {t : ByteArray} {l l' : Bs}
theorem QI.write (h : QI w0 b w W t p mb it l) (hj : WJB w0 b W' l') (hk : KW b W W') : QI w0 b w W' t p mb it l' := by
  obtain ⟨n, hn⟩ := h.mp
  obtain ⟨es, clock, hb⟩ := mRS_block hn
  exact ⟨hj, h.kw.trans hk, ⟨n, hn.mod hk (not_by hb (fun _ _ _ e => by cases e))⟩, hk.blk h.itr (not_by h.itr (fun _ _ _ e => by cases e)), h.hmb, h.hit⟩
theorem QI.next (h : QI w0 b w W t p mb it l) (hb : b < w.heap.size) (hne : mb ≠ it) (q : Nat) : QI w0 b w (W.iterAt it t q) t q mb it l := by
  have m : Mod (fun k => k = it) W (W.iterAt it t q) := ⟨rfl, rfl, rfl, by simp [World.iterAt], fun j _ hne => Lib.iterAt_other W it j t q hne⟩
  obtain ⟨n, hn⟩ := h.mp
  refine ⟨⟨h.jb.tab, h.jb.hb, h.jb.bel.trans (m.belowB (fun k _ e => by have e : k = it := e; have := h.hit; have := h.jb.hb; omega) h.jb.bel.size), h.jb.bb.mod m ?_⟩, Mod.trans' h.kw m ?_, ⟨n, hn.mod m (fun e => hne e)⟩, Lib.iterAt_heap W it t p q h.itr, h.hmb, h.hit⟩
  · intro k cs ty fr e hc _
    have e : k = it := e
    subst e
    rw [h.itr] at hc
    cases hc
  · intro i hi e
    have e : i = it := e
    have := h.hit
    omega
end
theorem next_rune (w : World) (k : Nat) (s : ByteArray) (pos : Nat) (x y : Int) (q : Nat) (hk : w.heap[k]? = some (.stringIter s pos)) (h : pos < s.size) (hx : ((Utf8.decode s pos).1 : Int) = x) (hy : (pos : Int) = y) (hq : pos + (Utf8.decode s pos).2 = q) (ty : TypeId) :
    (Instr.next (.pointer (some ⟨k, 0, none⟩)) true ty).run Tryz.prog w = .ok (.tuple #[.bool true, .int .i64 y, .int .i32 x]) (w.iterAt k s q) := by
  subst hx hy hq; exact Lib.run_next_any_at w k s pos ty hk h
theorem grown_belowQ {B mb : Nat} {w0 w w' : World} (hb : Below B w0 w) (g : w.grownBy w' (some mb)) (h : B ≤ mb) (hB : B ≤ w.heap.size) : Below B w0 w' :=
  ⟨g.os.trans hb.os, g.tape.trans hb.tape, g.output.trans hb.output, Nat.le_trans hb.size g.size, fun k hk => (g.block k (Nat.lt_of_lt_of_le hk hB) (fun e => by have := Option.some.inj e; omega)).trans (hb.block k hk)⟩
/-- The runes of a text, one of them at hand. -/
theorem decode_at {t : ByteArray} {pre r : List Nat} {c : Nat} (h : t.toList = flatR (pre ++ c :: r)) (hc : IsRune c) : (flatR pre).length < t.size ∧ Utf8.decode t (flatR pre).length = (c, (Lib.encodeRune c).length) ∧ (flatR pre).length + (Lib.encodeRune c).length = (flatR (pre ++ [c])).length := by
  have h1 : t.data.toList = flatR pre ++ (Lib.encodeRune c ++ flatR r) := by rw [← ByteArray.toList_eq, h, flatR_append, flatR_cons]
  have hl := (rune_len c).1
  refine ⟨?_, ?_, by rw [flatR_append, List.length_append]; simp [flatR]⟩
  · have := size_toList t
    rw [h, flatR_append, flatR_cons] at this
    simp only [List.length_append] at this
    omega
  · rw [← Lib.decodeL_drop, h1, List.drop_left, decode_rune hc]
set_option maxHeartbeats 6400000 in
set_option maxRecDepth 100000 in
theorem quote_any {w0 w : World} {b : Nat} {l0 : Bs} (h : WJB w0 b w l0) (t : ByteArray) (hv : Lib.validD t.toList = true) (hl : l0.length + (quoteP t.toList).length ≤ 140737488350000) :
    Calls Tryz.prog 57 #[.pointer (some ⟨b, 0, none⟩), .string t] w (WJP w0 b w (l0 ++ quoteP t.toList) (.tuple #[])) := by
  obtain ⟨cs, hcs, hte⟩ := valid_flat t.toList hv
  have hqe := quote_flat hcs
  rw [hte, hqe] at hl ⊢
  have hL : l0.length + (escs cs).length + 2 ≤ 140737488350000 := by simp only [List.length_cons, List.length_append, List.length_nil] at hl; omega
  have hbw : b < w.heap.size := h.bb.lt
  have hmm := @run_makeMap Tryz.prog
  have m0 := MSpec.made (S := mRS) w
  have c0 : Below w.heap.size w (w.alloc (.map #[] 0)) := below_alloc1 w _
  obtain ⟨w1, hp1, m1, g1⟩ := m0.put (by unfold maxLen; omega) (x := 34) ⟨by decide, by decide⟩ (a := ⟨#[92, 34]⟩) (by show 2 ≤ maxLen; decide)
  have hu1 : (Instr.mapUpdate 124 (.map (some w.heap.size)) (.int .i32 34) (.string ⟨#[92, 34]⟩)).run Tryz.prog (w.alloc (.map #[] 0)) = .ok () w1 := hp1
  obtain ⟨n1, hn1, m1⟩ : ∃ k, k ≤ 1 ∧ mRS.Is w1 w.heap.size _ k := ⟨_, ite_le8 (by omega) (by omega), m1⟩
  have c1 : Below w.heap.size w w1 := grown_belowQ c0 g1 (Nat.le_refl _) c0.size
  obtain ⟨w2, hp2, m2, g2⟩ := m1.put (by unfold maxLen; omega) (x := 92) ⟨by decide, by decide⟩ (a := ⟨#[92, 92]⟩) (by show 2 ≤ maxLen; decide)
  have hu2 : (Instr.mapUpdate 124 (.map (some w.heap.size)) (.int .i32 92) (.string ⟨#[92, 92]⟩)).run Tryz.prog w1 = .ok () w2 := hp2
  obtain ⟨n2, hn2, m2⟩ : ∃ k, k ≤ 2 ∧ mRS.Is w2 w.heap.size _ k := ⟨_, ite_le8 (by omega) (by omega), m2⟩
  have c2 : Below w.heap.size w w2 := grown_belowQ c1 g2 (Nat.le_refl _) c1.size
  obtain ⟨w3, hp3, m3, g3⟩ := m2.put (by unfold maxLen; omega) (x := 47) ⟨by decide, by decide⟩ (a := ⟨#[92, 47]⟩) (by show 2 ≤ maxLen; decide)
  have hu3 : (Instr.mapUpdate 124 (.map (some w.heap.size)) (.int .i32 47) (.string ⟨#[92, 47]⟩)).run Tryz.prog w2 = .ok () w3 := hp3
  obtain ⟨n3, hn3, m3⟩ : ∃ k, k ≤ 3 ∧ mRS.Is w3 w.heap.size _ k := ⟨_, ite_le8 (by omega) (by omega), m3⟩
  have c3 : Below w.heap.size w w3 := grown_belowQ c2 g3 (Nat.le_refl _) c2.size
  obtain ⟨w4, hp4, m4, g4⟩ := m3.put (by unfold maxLen; omega) (x := 8) ⟨by decide, by decide⟩ (a := ⟨#[92, 98]⟩) (by show 2 ≤ maxLen; decide)
  have hu4 : (Instr.mapUpdate 124 (.map (some w.heap.size)) (.int .i32 8) (.string ⟨#[92, 98]⟩)).run Tryz.prog w3 = .ok () w4 := hp4
  obtain ⟨n4, hn4, m4⟩ : ∃ k, k ≤ 4 ∧ mRS.Is w4 w.heap.size _ k := ⟨_, ite_le8 (by omega) (by omega), m4⟩
  have c4 : Below w.heap.size w w4 := grown_belowQ c3 g4 (Nat.le_refl _) c3.size
  obtain ⟨w5, hp5, m5, g5⟩ := m4.put (by unfold maxLen; omega) (x := 12) ⟨by decide, by decide⟩ (a := ⟨#[92, 102]⟩) (by show 2 ≤ maxLen; decide)
  have hu5 : (Instr.mapUpdate 124 (.map (some w.heap.size)) (.int .i32 12) (.string ⟨#[92, 102]⟩)).run Tryz.prog w4 = .ok () w5 := hp5
  obtain ⟨n5, hn5, m5⟩ : ∃ k, k ≤ 5 ∧ mRS.Is w5 w.heap.size _ k := ⟨_, ite_le8 (by omega) (by omega), m5⟩
  have c5 : Below w.heap.size w w5 := grown_belowQ c4 g5 (Nat.le_refl _) c4.size
  obtain ⟨w6, hp6, m6, g6⟩ := m5.put (by unfold maxLen; omega) (x := 10) ⟨by decide, by decide⟩ (a := ⟨#[92, 110]⟩) (by show 2 ≤ maxLen; decide)
  have hu6 : (Instr.mapUpdate 124 (.map (some w.heap.size)) (.int .i32 10) (.string ⟨#[92, 110]⟩)).run Tryz.prog w5 = .ok () w6 := hp6
  obtain ⟨n6, hn6, m6⟩ : ∃ k, k ≤ 6 ∧ mRS.Is w6 w.heap.size _ k := ⟨_, ite_le8 (by omega) (by omega), m6⟩
  have c6 : Below w.heap.size w w6 := grown_belowQ c5 g6 (Nat.le_refl _) c5.size
  obtain ⟨w7, hp7, m7, g7⟩ := m6.put (by unfold maxLen; omega) (x := 13) ⟨by decide, by decide⟩ (a := ⟨#[92, 114]⟩) (by show 2 ≤ maxLen; decide)
  have hu7 : (Instr.mapUpdate 124 (.map (some w.heap.size)) (.int .i32 13) (.string ⟨#[92, 114]⟩)).run Tryz.prog w6 = .ok () w7 := hp7
  obtain ⟨n7, hn7, m7⟩ : ∃ k, k ≤ 7 ∧ mRS.Is w7 w.heap.size _ k := ⟨_, ite_le8 (by omega) (by omega), m7⟩
  have c7 : Below w.heap.size w w7 := grown_belowQ c6 g7 (Nat.le_refl _) c6.size
  obtain ⟨w8, hp8, m8, g8⟩ := m7.put (by unfold maxLen; omega) (x := 9) ⟨by decide, by decide⟩ (a := ⟨#[92, 116]⟩) (by show 2 ≤ maxLen; decide)
  have hu8 : (Instr.mapUpdate 124 (.map (some w.heap.size)) (.int .i32 9) (.string ⟨#[92, 116]⟩)).run Tryz.prog w7 = .ok () w8 := hp8
  obtain ⟨n8, hn8, m8⟩ : ∃ k, k ≤ 8 ∧ mRS.Is w8 w.heap.size _ k := ⟨_, ite_le8 (by omega) (by omega), m8⟩
  have c8 : Below w.heap.size w w8 := grown_belowQ c7 g8 (Nat.le_refl _) c7.size
  have M8 : mRS.Is w8 w.heap.size shortI n8 := m8.congr fun k _ => by
    unfold shortI
    by_cases e34 : k = 34
    · subst e34; rfl
    by_cases e92 : k = 92
    · subst e92; rfl
    by_cases e47 : k = 47
    · subst e47; rfl
    by_cases e8 : k = 8
    · subst e8; rfl
    by_cases e12 : k = 12
    · subst e12; rfl
    by_cases e10 : k = 10
    · subst e10; rfl
    by_cases e13 : k = 13
    · subst e13; rfl
    by_cases e9 : k = 9
    · subst e9; rfl
    simp [*]
  have J8 : WJB w0 b w8 l0 := h.under c8
  have l34 : (⟨#[34]⟩ : ByteArray).toList = [34] := by rw [ByteArray.toList_eq]
  have HS8 := J8.str ⟨#[34]⟩ (by rw [l34]; decide) (by show _ + 1 ≤ _; omega)
  rw [l34] at HS8
  have HLEN := Lib.hid hL
  have HCS := Lib.hid (⟨hcs, hte⟩ : _ ∧ _)
  have H8 := Lib.hid (⟨c8, M8, J8⟩ : _ ∧ _ ∧ _)
  have HBW := Lib.hid hbw
  clear h hv hqe hcs hte hl hL hbw m0 c0 hp1 m1 g1 hn1 c1 hp2 m2 g2 hn2 c2 hp3 m3 g3 hn3 c3 hp4 m4 g4 hn4 c4 hp5 m5 g5 hn5 c5 hp6 m6 g6 hn6 c6 hp7 m7 g7 hn7 c7 hp8 m8 g8 hn8 c8 M8 J8
  go_enter Tryz.func57, Tryz.ntmps57
  go_wp2_with fail
  refine HS8.mono ?_
  rintro _ w9 ⟨rfl, j9, k9⟩
  obtain ⟨W0, hW0⟩ : ∃ W0, W0 = w9.iter t 0 := ⟨_, rfl⟩
  have Q0 : Hid (QI w0 b w W0 t 0 w.heap.size w9.heap.size (l0 ++ 34 :: escs []) ∧ w.heap.size < w9.heap.size) := Lib.hid (by
    obtain ⟨c8, M8, J8⟩ := H8.out
    have hb0 : Below w9.heap.size w9 W0 := by rw [hW0]; exact (Below.refl _ _).alloc (Nat.le_refl _) _
    have k0 : W0.heap[w9.heap.size]? = some (.stringIter t 0) := by rw [hW0]; exact World.iter_heap _ t 0
    have kw9 : KW b w w9 := (KW.of_below c8).trans k9
    obtain ⟨es, clock, hb⟩ := mRS_block M8
    have m9 : mRS.Is w9 w.heap.size shortI n8 := M8.mod k9 (not_by hb (fun _ _ _ e => by cases e))
    exact ⟨⟨j9.under hb0, kw9.trans (KW.of_below hb0), ⟨_, m9.under hb0⟩, k0, Nat.le_refl _, kw9.size⟩, m9.lt⟩)
  have HN : ∀ ty (wr : World) (p : Nat), wr.heap[w9.heap.size]? = some (.stringIter t p) → ¬ p < t.size → (Instr.next (.pointer (some ⟨w9.heap.size, 0, none⟩)) true ty).run Tryz.prog wr = .ok (.tuple #[.bool false]) wr := fun ty wr p hk h => Lib.run_next_end_at wr _ t p ty hk h
  have HW0 := Lib.hid hW0
  clear hW0 HS8 j9 k9
  go_wp2_with fail
  rw [← HW0.out]
  clear HW0
  go_loopw [6, 7, 8] (fun _ _ _ wr => ∃ (pre r : List Nat) (p : Nat), Hid (cs = pre ++ r ∧ p = (flatR pre).length ∧ QI w0 b w wr t p w.heap.size w9.heap.size (l0 ++ 34 :: escs pre) ∧ w.heap.size < w9.heap.size)) (fun _ _ _ wr => t.size - wr.iterPos w9.heap.size)
  case atStart => exact ⟨[], cs, 0, Lib.hid ⟨rfl, rfl, Q0.out.1, Q0.out.2⟩⟩
  case round =>
    obtain ⟨pre, r, p, HR⟩ := hrel
    clear Q0
    have HMU : Hid (wr.iterPos w9.heap.size = p) := Lib.hid (by simp [World.iterPos, HR.out.2.2.1.itr])
    have HD : Hid (p + (flatR r).length = t.size) := Lib.hid (by
      have h1 := size_toList t
      rw [HCS.out.2, HR.out.1, flatR_append, List.length_append] at h1
      have := HR.out.2.1
      omega)
    cases r with
    | nil =>
      have hpt := HD.out
      have hnn : ¬ p < t.size := by simp [flatR] at hpt; omega
      have hn := fun ty => HN ty wr p HR.out.2.2.1.itr hnn
      have HW := HR.out.2.2.1.jb.str ⟨#[34]⟩ (by rw [l34]; decide) (by
        have h1 := HR.out.1
        have h2 := HLEN.out
        rw [h1, List.append_nil] at h2
        show (l0 ++ 34 :: escs pre).length + 1 ≤ _
        simp only [List.length_append, List.length_cons]
        omega)
      rw [l34] at HW
      have HE : Hid (QI w0 b w wr t p w.heap.size w9.heap.size (l0 ++ 34 :: escs pre) ∧ (l0 ++ 34 :: escs pre) ++ [34] = l0 ++ 34 :: (escs cs ++ [34])) := Lib.hid ⟨HR.out.2.2.1, by rw [HR.out.1]; simp⟩
      clear hpt hnn HD HR HMU
      go_wp2_with fail
      refine HW.mono ?_
      rintro _ w2 ⟨rfl, j2, k2⟩
      go_wp2_with fail
      go_end0
      rw [HE.out.2] at j2
      exact ⟨rfl, j2, HE.out.1.kw.trans k2⟩
    | cons c r =>
      have hcr : IsRune c := HCS.out.1 c (by rw [HR.out.1]; simp)
      obtain ⟨hp1, hp2, hp3⟩ := decode_at (t := t) (pre := pre) (r := r) (c := c) (by rw [HCS.out.2, HR.out.1]) hcr
      rw [← HR.out.2.1] at hp1 hp2 hp3
      obtain ⟨q, hq⟩ : ∃ q, q = p + (Lib.encodeRune c).length := ⟨_, rfl⟩
      obtain ⟨x, hx⟩ : ∃ x : Int, x = (c : Int) := ⟨_, rfl⟩
      have hnext : ∀ ty, (Instr.next (.pointer (some ⟨w9.heap.size, 0, none⟩)) true ty).run Tryz.prog wr = .ok (.tuple #[.bool true, .int .i64 p, .int .i32 x]) (wr.iterAt w9.heap.size t q) := fun ty => next_rune wr w9.heap.size t p x p q HR.out.2.2.1.itr hp1 (by rw [hp2, hx]) rfl (by rw [hp2, hq]) ty
      have N1 := Lib.hid (HR.out.2.2.1.next HBW.out (by have := HR.out.2.2.2; omega) q)
      generalize wr.iterAt w9.heap.size t q = W1 at hnext N1
      obtain ⟨nn, hn⟩ := N1.out.mp
      have hxb : -2147483648 ≤ x ∧ x ≤ 2147483647 := by unfold IsRune at hcr; omega
      have hlk := hn.look (x := x) hxb
      rw [hx, shortI_W, ← hx] at hlk
      have HLL : Hid ((l0 ++ 34 :: escs pre).length + (escR c).length + (escs r).length + 1 ≤ 140737488350000) := Lib.hid (by
        have h2 := HLEN.out
        rw [HR.out.1] at h2
        have e : escs (pre ++ c :: r) = escs pre ++ (escR c ++ escs r) := by simp [escs]
        rw [e] at h2
        simp only [List.length_append, List.length_cons] at h2 ⊢
        omega)
      have HREL : Hid (∀ W2, WJB w0 b W2 ((l0 ++ 34 :: escs pre) ++ escR c) → KW b W1 W2 → (∃ (pre' r' : List Nat) (p' : Nat), Hid (cs = pre' ++ r' ∧ p' = (flatR pre').length ∧ QI w0 b w W2 t p' w.heap.size w9.heap.size (l0 ++ 34 :: escs pre') ∧ w.heap.size < w9.heap.size)) ∧ W2.iterPos w9.heap.size = q) := Lib.hid (fun W2 hj hk => by
        have e : l0 ++ 34 :: escs (pre ++ [c]) = (l0 ++ 34 :: escs pre) ++ escR c := by simp [escs]
        have hw := N1.out.write hj hk
        refine ⟨⟨pre ++ [c], r, q, Lib.hid ⟨by rw [HR.out.1]; simp, by rw [hq, hp3], ?_, HR.out.2.2.2⟩⟩, by simp [World.iterPos, hw.itr]⟩
        rw [e]
        exact hw)
      have HQP : Hid (p < q ∧ p < t.size) := Lib.hid ⟨by have := (rune_len c).1; omega, hp1⟩
      have HX := Lib.hid (⟨hx, hcr⟩ : _ ∧ _)
      have HMU2 := HMU
      clear hn hp1 hp2 hp3 hq hx hcr HD HR HN HMU
      cases hs : shortW c with
      | some d =>
        have hlk2 : (Instr.lookup 124 (.map (some w.heap.size)) (.int .i32 x) true).run Tryz.prog W1 = .ok (.tuple #[.string ⟨#[92, d]⟩, .bool true]) W1 := by
          rw [hs] at hlk
          exact hlk
        have ld : (⟨#[92, d]⟩ : ByteArray).toList = [92, d] := by rw [ByteArray.toList_eq]
        have he : escR c = [92, d] := by unfold escR; rw [hs]
        have HW := N1.out.jb.str ⟨#[92, d]⟩ (by rw [ld]; simp) (by have := HLL.out; rw [he] at this; show _ + 2 ≤ _; simp only [List.length_cons, List.length_nil] at this; omega)
        rw [ld] at HW
        have HEE := Lib.hid he
        clear hlk hs ld he
        go_wp2_with fail
        refine HW.mono ?_
        rintro _ W2 ⟨rfl, j2, k2⟩
        rw [← HEE.out] at j2
        have HF := Lib.hid (HREL.out W2 j2 k2)
        clear j2 k2 HW
        go_wp2_with fail
        go_roundw
        case rel => exact HF.out.1
        case measure => rw [HF.out.2, HMU2.out]; have := HQP.out; omega
      | none =>
        have hlk2 : (Instr.lookup 124 (.map (some w.heap.size)) (.int .i32 x) true).run Tryz.prog W1 = .ok (.tuple #[.string ⟨#[]⟩, .bool false]) W1 := by
          rw [hs] at hlk
          exact hlk
        clear hlk
        by_cases h1 : 32 ≤ c ∧ c < 127
        · have d1 : decide (32 ≤ x) = true := by have := HX.out.1; simp; omega
          have d2 : decide (x < 127) = true := by have := HX.out.1; simp; omega
          have he : escR c = Lib.encodeRune x := by unfold escR; rw [hs]; simp only; rw [if_pos h1, HX.out.1, rune_ascii (by omega)]
          have HW := N1.out.jb.rune x hxb.1 hxb.2 (by have := HLL.out; omega)
          rw [← he] at HW
          clear hs h1 he hxb
          go_wp2_with fail
          refine HW.mono ?_
          rintro _ W2 ⟨rfl, j2, k2⟩
          have HF := Lib.hid (HREL.out W2 j2 k2)
          clear j2 k2 HW
          go_wp2_with fail
          go_roundw
          case rel => exact HF.out.1
          case measure => rw [HF.out.2, HMU2.out]; have := HQP.out; omega
        · obtain ⟨g1, hg1⟩ : ∃ g, decide (32 ≤ x) = g := ⟨_, rfl⟩
          obtain ⟨g2, hg2⟩ : ∃ g, decide (x < 127) = g := ⟨_, rfl⟩
          have hg : (g1 && g2) = false := by
            have := HX.out.1
            rw [← hg1, ← hg2]
            simp
            omega
          by_cases h2 : 65535 < c
          · have d3 : decide (65535 < x) = true := by have := HX.out.1; simp; omega
            have hcb := HX.out.2
            have hxc := HX.out.1
            obtain ⟨n1, hn1⟩ : ∃ n, n = 55296 + (c - 65536) / 1024 := ⟨_, rfl⟩
            obtain ⟨n2, hn2⟩ : ∃ n, n = 56320 + (c - 65536) % 1024 := ⟨_, rfl⟩
            have he : escR c = uniB n1 ++ uniB n2 := by unfold escR; rw [hs]; simp only; rw [if_neg h1, if_pos h2, hn1, hn2]
            obtain ⟨y, hy⟩ : ∃ y : Int, y = x - 65536 := ⟨_, rfl⟩
            have hcb2 : c ≤ 1114111 := by unfold IsRune at hcb; omega
            have e1 : IntKind.i32.wrap (x - 65536) = y := by rw [wr32_sm (by omega) (by omega), hy]
            obtain ⟨u, hu⟩ : ∃ u : Int, u = y / 1024 := ⟨_, rfl⟩
            have e2 : y / 1024 = u := hu.symm
            have e3 : IntKind.i32.wrap (55296 + u) = (n1 : Int) := by rw [wr32_sm (by omega) (by omega)]; omega
            obtain ⟨m, hm⟩ : ∃ m : Int, m = y % 1024 := ⟨_, rfl⟩
            have e4 : bits .and .i32 y 1023 = m := by
              have h := bits_mask .i32 31 (by decide) (fun n h0 h1 => wr32_sm (by omega) (by omega)) 10 (by decide) y (by omega) (by omega)
              have h : bits .and .i32 y 1023 = y % 1024 := h
              rw [h, hm]
            have e5 : IntKind.i32.wrap (56320 + m) = (n2 : Int) := by rw [wr32_sm (by omega) (by omega)]; omega
            have HB := Lib.hid (⟨(by omega : n1 < 65536), (by omega : n2 < 65536)⟩ : _ ∧ _)
            have HW := wunit_any N1.out.jb n1 HB.out.1 (by have := HLL.out; omega)
            have HLE : Hid ((l0 ++ 34 :: escs pre ++ uniB n1).length ≤ 140737488351232) := Lib.hid (by have := HLL.out; rw [he] at this; simp only [List.length_append] at this ⊢; omega)
            have HEE := Lib.hid he
            clear hs h1 h2 he hxb hcb hxc hn1 hn2 hcb2 hy hu hm
            cases g1 <;> cases g2 <;> first | (cases hg; done) | skip
            all_goals
              go_wp2_with fail
              refine HW.mono ?_
              rintro _ W2 ⟨rfl, j2, k2⟩
              have H2 := Lib.hid (⟨j2, k2⟩ : _ ∧ _)
              clear j2 k2
              go_wp2_with fail
              refine (wunit_any H2.out.1 n2 HB.out.2 HLE.out).mono ?_
              rintro _ W3 ⟨rfl, j3, k3⟩
              rw [List.append_assoc, ← HEE.out] at j3
              have HF := Lib.hid (HREL.out W3 j3 (H2.out.2.trans k3))
              clear j3 k3 H2
              go_wp2_with fail
              go_roundw
              case rel => exact HF.out.1
              case measure => rw [HF.out.2, HMU2.out]; have := HQP.out; omega
          · have d3 : decide (65535 < x) = false := by have := HX.out.1; simp; omega
            have he : escR c = uniB c := by unfold escR; rw [hs]; simp only; rw [if_neg h1, if_neg h2]
            have HW := wunit_any N1.out.jb c (by omega) (by have := HLL.out; omega)
            rw [← he, ← HX.out.1] at HW
            clear hs h1 h2 he hxb
            cases g1 <;> cases g2 <;> first | (cases hg; done) | skip
            all_goals
              go_wp2_with fail
              refine HW.mono ?_
              rintro _ W2 ⟨rfl, j2, k2⟩
              have HF := Lib.hid (HREL.out W2 j2 k2)
              clear j2 k2
              go_wp2_with fail
              go_roundw
              case rel => exact HF.out.1
              case measure => rw [HF.out.2, HMU2.out]; have := HQP.out; omega
end Go.Proofs.YtnaefnojmiolbaaGreatDoor
