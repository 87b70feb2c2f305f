/-
  JSON, the document's side: the walk of quoted (printed by genQuoRZ.py).
-/
import Derived.Test.YtnaefnojmiolbaaGreatDoorJw13
import Derived.Test.YtnaefnojmiolbaaGreatDoorJw18
namespace Go.Proofs.YtnaefnojmiolbaaGreatDoor
open Go.RowKit Go.Shelf

/-- Bytes of a call's own, nothing else turned. -/
structure QR (w W : World) (v : Value) (l : Bs) : Prop where
  own : OwnsB W 5 v l
  below : Below w.heap.size w W
  fresh : ∀ g, v.ownBlock = some g → w.heap.size ≤ g
theorem QR.next {w wr w1 w3 : World} {v v3 : Value} {l q : Bs} (i : QR w wr v l) (m1 : Below wr.heap.size wr w1) (o3 : OwnsB w3 5 v3 (l ++ q)) (g3 : w1.grownBy w3 v.ownBlock) (n3 : v3.ownBlock = v.ownBlock ∨ ∃ g, v3.ownBlock = some g ∧ w1.heap.size ≤ g) : QR w w3 v3 (l ++ q) := by
  have hs := i.below.size
  have hb1 := i.below.trans (m1.mono hs)
  refine ⟨o3, hb1.trans ?_, fun g e => ?_⟩
  · exact ⟨g3.os, g3.tape, g3.output, g3.size, fun k hk => g3.block k (Nat.lt_of_lt_of_le hk hb1.size) (fun e => by have := i.fresh k e.symm; omega)⟩
  · rcases n3 with h | ⟨g', h, hg⟩
    · exact i.fresh g (h ▸ e)
    · rw [h] at e; cases e
      have := hb1.size
      omega
theorem QR.same {w wr w1 : World} {v : Value} {l : Bs} (i : QR w wr v l) (m1 : Below wr.heap.size wr w1) : OwnsB w1 5 v l := Owns.mod i.own (Mod.of_below (F := fun _ => False) m1) (fun _ _ x => x)
theorem slice_of {w : World} {v : Value} {l : Bs} (h : OwnsB w 5 v l) : ∃ a L c, v = .slice a L c := by
  obtain ⟨a, c, hv, -⟩ := OwnsB.any h
  exact ⟨a, _, c, hv⟩
theorem lies_cells (w : World) (xs : List Value) (t : TypeId) : Lies (w.alloc (.cells xs.toArray t)) 1 (some ⟨w.heap.size, 0, none⟩) (xs.map fun x => [x]) := by
  have hbk : (w.alloc (.cells xs.toArray t)).heap[w.heap.size]? = some (.cells xs.toArray t (0, 0)) := heap_alloc_new w _
  intro i r hi
  rw [List.getElem?_map] at hi
  cases hx : xs[i]? with
  | none => rw [hx] at hi; cases hi
  | some x =>
    rw [hx] at hi
    cases hi
    refine ⟨_, _, rfl, lt_of_block hbk, rfl, fun j u hj => ?_⟩
    match j, hj with
    | 0, hj =>
      cases hj
      rw [cell_blk hbk]
      simpa using hx
theorem owns_two (w : World) (x : Value) (hx : x.oneCell' = true) : Owns (w.alloc (.cells #[x] 5)) 5 1 (.slice (some ⟨w.heap.size, 0, none⟩) 1 1) [[x]] := owns_one w _ 5 (by simpa using hx)
/-- The rune at hand. -/
theorem runeR_at {t : ByteArray} {pre r : List Nat} {c : Nat} (h : t.toList = flatR (pre ++ c :: r)) (hc : IsRune c) : runeR (t.toList.drop (flatR pre).length) = (c, (Lib.encodeRune (c : Int)).length) := by
  have hl := (rune_len c).1
  have e : t.toList.drop (flatR pre).length = Lib.encodeRune (c : Int) ++ flatR r := by rw [h, flatR_append, flatR_cons, List.drop_left]
  rw [e]
  have hne : Lib.encodeRune (c : Int) ++ flatR r ≠ [] := fun h => by have := congrArg List.length h; rw [List.length_append, List.length_nil] at this; omega
  rw [runeR_eq hne, decode_rune hc, if_neg]
  rintro ⟨h1, h2⟩
  have h1 : c = 65533 := h1
  have h2 : (Lib.encodeRune (c : Int)).length = 1 := h2
  subst h1
  revert h2
  decide +kernel
theorem shortW_none {c : Nat} (h1 : c ≠ 34) (h2 : c ≠ 92) (h3 : c ≠ 47) (h4 : c ≠ 8) (h5 : c ≠ 12) (h6 : c ≠ 10) (h7 : c ≠ 13) (h8 : c ≠ 9) : shortW c = none := by
  unfold shortW
  rw [if_neg h1, if_neg h2, if_neg h3, if_neg h4, if_neg h5, if_neg h6, if_neg h7, if_neg h8]
theorem escR_none {c : Nat} (h : shortW c = none) : escR c = if 32 ≤ c ∧ c < 127 then [c.toUInt8] else if 65535 < c then uniB (55296 + (c - 65536) / 1024) ++ uniB (56320 + (c - 65536) % 1024) else uniB c := by unfold escR; rw [h]
theorem not_plain {c : Nat} (h : ¬ (32 ≤ c ∧ c < 127)) : (decide ((32 : Int) ≤ (c : Int)) && decide ((c : Int) < 127)) = false := by
  simp
  omega
theorem big_facts {c : Nat} {x : Int} (hx : (c : Int) = x) (hb : 65535 < c) (hc : IsRune c) : ∃ y q m n1 n2 : Nat, decide ((65535 : Int) < x) = true ∧ x - 65536 = (y : Int) ∧ (wrap64 (y : Int) = (y : Int) ∧ IntKind.i64.wrap (y : Int) = (y : Int)) ∧ (y : Int) / 1024 = (q : Int) ∧ bits .and .i64 (y : Int) 1023 = (m : Int) ∧ (55296 : Int) + (q : Int) = (n1 : Int) ∧ (56320 : Int) + (m : Int) = (n2 : Int) ∧ (wrap64 (n1 : Int) = (n1 : Int) ∧ IntKind.i64.wrap (n1 : Int) = (n1 : Int)) ∧ (wrap64 (n2 : Int) = (n2 : Int) ∧ IntKind.i64.wrap (n2 : Int) = (n2 : Int)) ∧ n1 < 65536 ∧ n2 < 65536 ∧ n1 = 55296 + (c - 65536) / 1024 ∧ n2 = 56320 + (c - 65536) % 1024 := by
  unfold IsRune at hc
  have hm : bits .and .i64 ((c - 65536 : Nat) : Int) 1023 = (((c - 65536) % 1024 : Nat) : Int) := by have := and_mask (k := c - 65536) (i := 10) (by decide) (by omega); simpa using this
  refine ⟨c - 65536, (c - 65536) / 1024, (c - 65536) % 1024, 55296 + (c - 65536) / 1024, 56320 + (c - 65536) % 1024, by simp; omega, by omega, wr_sm (by omega) (by omega), by omega, hm, by omega, by omega, wr_sm (by omega) (by omega), wr_sm (by omega) (by omega), by omega, by omega, rfl, rfl⟩
theorem uniB_size (n : Nat) : (str (uniB n)).size = 6 := by rw [str_size]; rfl
set_option maxHeartbeats 6400000 in
set_option maxRecDepth 100000 in
theorem rquoted_any (t : ByteArray) (hv : Lib.validD t.toList = true) (hz : t.size ≤ 1073741824) (w : World) : Calls Tryz.prog 62 #[.string t] w (fun e w' => e = .returned (.string (str (quoteP t.toList))) ∧ Below w.heap.size w w') := by
  obtain ⟨cs, hcs, hte⟩ := valid_flat t.toList hv
  have hqe := quote_flat hcs
  rw [hte, hqe]
  have HS := Lib.hid hz
  have HCS := Lib.hid (⟨hcs, hte⟩ : _ ∧ _)
  have HLQ : Hid ((escs cs).length ≤ 6442450944) := Lib.hid (by
    have h1 := escs_le hcs
    have h2 := size_toList t
    rw [hte] at h2
    omega)
  have Q0 : Hid (QR w (w.alloc (.cells #[.int .u8 34] 5)) (.slice (some ⟨w.heap.size, 0, none⟩) 1 1) (34 :: escs [])) := Lib.hid ⟨owns_two w (.int .u8 34) rfl, below_alloc1 w _, fun g e => by cases e; exact Nat.le_refl _⟩
  have HRU := Lib.hid (fun (i : Nat) (hi : i ≤ 140737488355328) (W : World) => rrune_any t i hi (by omega) W)
  have HFO := Lib.hid (fun (n : Nat) (h : n < 65536) (W : World) => rfour_any n h W)
  have HTS : Hid (t.size = (flatR cs).length) := Lib.hid (by rw [← size_toList, hte])
  clear hv hz hqe hcs hte
  go_enter Tryz.func62, Tryz.ntmps62
  go_wp2_with fail
  go_loopw [3, 4, 5, 6, 25, 41, 46, 51, 56, 61, 66, 78] (fun v kv _ _ _ _ _ _ _ _ _ _ wr => ∃ (pre r : List Nat) (ao : Option Addr) (L cap p : Nat), v = .slice ao L cap ∧ kv = .int .i64 p ∧ p ≤ t.size ∧ Hid (cs = pre ++ r ∧ p = (flatR pre).length ∧ L = (34 :: escs pre).length) ∧ Hid (QR w wr (.slice ao L cap) (34 :: escs pre))) (fun _ kv _ _ _ _ _ _ _ _ _ _ _ => t.size - (intOf kv).toNat)
  case atStart => exact ⟨[], cs, some ⟨w.heap.size, 0, none⟩, 1, 1, 0, rfl, rfl, Nat.zero_le _, Lib.hid ⟨rfl, rfl, rfl⟩, Q0⟩
  case round =>
    obtain ⟨pre, r, ao, L, cap, p, rfl, rfl, hp, HR, HI⟩ := hrel
    clear Q0
    by_cases hlt : p < t.size
    · have hi : (p : Int) < (t.size : Int) := by omega
      cases r with
      | nil =>
        exfalso
        have h1 := HR.out
        have h2 := HTS.out
        rw [h1.1, List.append_nil] at h2
        omega
      | cons c r =>
        have hcr : IsRune c := HCS.out.1 c (by rw [HR.out.1]; simp)
        have hru := runeR_at (t := t) (pre := pre) (r := r) (by rw [HCS.out.2, HR.out.1]) hcr
        rw [← HR.out.2.1] at hru
        obtain ⟨n, hn⟩ : ∃ n, n = (Lib.encodeRune (c : Int)).length := ⟨_, rfl⟩
        rw [← hn] at hru
        have HCALL : Hid (∀ W, Calls Tryz.prog 93 #[.string t, .int .i64 p] W (fun e w' => e = .returned (.tuple #[.int .i64 c, .int .i64 n]) ∧ W = w')) := Lib.hid (fun W => (HRU.out p (by have := HS.out; omega) W).mono fun e w' h => by rw [hru] at h; exact ⟨h.1, h.2.symm⟩)
        have hfl : (flatR (pre ++ [c])).length = p + n := by rw [flatR_append, List.length_append, HR.out.2.1, hn]; simp [flatR]
        have hnl : p + n ≤ t.size := by
          have h2 := HTS.out
          rw [HR.out.1, show pre ++ c :: r = (pre ++ [c]) ++ r by simp, flatR_append, List.length_append] at h2
          omega
        have hn0 : 0 < n := by rw [hn]; exact (rune_len c).1
        have HNX : Hid (cs = (pre ++ [c]) ++ r ∧ p + n = (flatR (pre ++ [c])).length ∧ p + n ≤ t.size ∧ 0 < n) := Lib.hid ⟨by rw [HR.out.1]; simp, hfl.symm, hnl, hn0⟩
        obtain ⟨hw', hw⟩ : wrap64 ((p : Int) + n) = (p : Int) + n ∧ IntKind.i64.wrap ((p : Int) + n) = (p : Int) + n := wr_sm (by omega) (by have := HS.out; omega)
        have HLE : Hid (L ≤ 6442450950) := Lib.hid (by
          have h1 := HR.out.2.2
          have h2 := HLQ.out
          rw [HR.out.1] at h2
          have h3 : escs (pre ++ c :: r) = escs pre ++ escs (c :: r) := by unfold escs; rw [List.flatMap_append]
          rw [h3, List.length_append] at h2
          rw [h1, List.length_cons]
          omega)
        have HES : Hid (34 :: escs (pre ++ [c]) = (34 :: escs pre) ++ escR c) := Lib.hid (by unfold escs; rw [List.flatMap_append]; simp)
        have HLEN : Hid (L = (34 :: escs pre).length) := Lib.hid HR.out.2.2
        have HDN : Hid (∀ w3 v3, QR w w3 v3 ((34 :: escs pre) ++ escR c) → ∃ ao3 L3 cap3, v3 = .slice ao3 L3 cap3 ∧ L3 = (34 :: escs (pre ++ [c])).length ∧ QR w w3 (.slice ao3 L3 cap3) (34 :: escs (pre ++ [c]))) := Lib.hid (fun w3 v3 q => by
          rw [← HES.out] at q
          obtain ⟨a, cp, hv, -⟩ := OwnsB.any q.own
          exact ⟨a, _, cp, hv, rfl, by rw [← hv]; exact q⟩)
        clear hru hfl hnl hn0 hn hlt hp
        have HNR : Hid (IsRune c) := Lib.hid hcr
        clear hcr
        have HPL : Hid (p < t.size) := Lib.hid (by omega)
        by_cases h34 : c = 34
        · subst h34
          have hcv : IntKind.u8.wrap 34 = 34 := by decide
          have HQ1 : Hid (escR 34 = [92, 34]) := Lib.hid rfl
          have HB1 := Lib.hid (below_alloc1 wr (.cells #[.int .u8 92, .int .u8 34] 5))
          have hO : Hid (Owns (wr.alloc (.cells #[.int .u8 92, .int .u8 34] 5)) 5 1 (.slice ao L cap) (bRows (34 :: escs pre))) := Lib.hid (HI.out.same HB1.out)
          have hL : Hid (Lies (wr.alloc (.cells #[.int .u8 92, .int .u8 34] 5)) 1 (some ⟨wr.heap.size, 0, none⟩) ([[.int .u8 92], [.int .u8 34]] : List (List Value))) := Lib.hid (lies_cells wr [.int .u8 92, .int .u8 34] 5)
          have hr1 : Hid ((bRows (34 :: escs pre)).length + ([[.int .u8 92], [.int .u8 34]] : List (List Value)).length ≤ maxLen) := by show _ ≤ _; rw [bRows_len, ← HLEN.out]; have := HLE.out; unfold maxLen; simp; omega
          have hr2 : Hid (((bRows (34 :: escs pre)).length + ([[.int .u8 92], [.int .u8 34]] : List (List Value)).length) * 1 ≤ 140737488355328) := by show _ ≤ _; rw [bRows_len, ← HLEN.out]; have := HLE.out; simp; omega
          go_wp2_with fail
          refine (HCALL.out _).mono ?_
          rintro _ wq ⟨rfl, rfl⟩
          go_wp2_with (at_builtin; refine wpList_append_rows rfl (.tmp 36) (.tmp 39) 54 rfl 5 _ 1 1 Tryz.underlying54 info5 rfl (by decide) (.slice ao L cap) (bRows (34 :: escs pre)) (by rfl) hO.out (some ⟨wr.heap.size, 0, none⟩) 2 2 ([[.int .u8 92], [.int .u8 34]] : List (List Value)) (by rfl) rfl (fun e => by cases e) hL.out (by simp [Value.oneCell']) (by simp) hr1.out (by have h := hr2.out; omega) ?_; intro v3 w3 o3 g3 n3; obtain ⟨a7, L7, c7, hv7, hl7, R7⟩ := HDN.out _ _ (HI.out.next HB1.out (by rw [HQ1.out]; unfold OwnsB; rw [bRows_append]; exact o3) g3 n3); subst hv7; have R3 := Lib.hid R7; have HL7 := Lib.hid hl7; clear o3 g3 n3 R7 hl7)
          go_roundw
          case rel => exact ⟨pre ++ [34], r, _, _, _, p + n, rfl, by go_num, HNX.out.2.2.1, Lib.hid ⟨HNX.out.1, HNX.out.2.1, HL7.out⟩, R3⟩
          case measure => have := HNX.out; have := HPL.out; simp [intOf]; omega
        by_cases h92 : c = 92
        · subst h92
          have hcv : IntKind.u8.wrap 92 = 92 := by decide
          have HQ1 : Hid (escR 92 = [92, 92]) := Lib.hid rfl
          have HB1 := Lib.hid (below_alloc1 wr (.cells #[.int .u8 92, .int .u8 92] 5))
          have hO : Hid (Owns (wr.alloc (.cells #[.int .u8 92, .int .u8 92] 5)) 5 1 (.slice ao L cap) (bRows (34 :: escs pre))) := Lib.hid (HI.out.same HB1.out)
          have hL : Hid (Lies (wr.alloc (.cells #[.int .u8 92, .int .u8 92] 5)) 1 (some ⟨wr.heap.size, 0, none⟩) ([[.int .u8 92], [.int .u8 92]] : List (List Value))) := Lib.hid (lies_cells wr [.int .u8 92, .int .u8 92] 5)
          have hr1 : Hid ((bRows (34 :: escs pre)).length + ([[.int .u8 92], [.int .u8 92]] : List (List Value)).length ≤ maxLen) := by show _ ≤ _; rw [bRows_len, ← HLEN.out]; have := HLE.out; unfold maxLen; simp; omega
          have hr2 : Hid (((bRows (34 :: escs pre)).length + ([[.int .u8 92], [.int .u8 92]] : List (List Value)).length) * 1 ≤ 140737488355328) := by show _ ≤ _; rw [bRows_len, ← HLEN.out]; have := HLE.out; simp; omega
          go_wp2_with fail
          refine (HCALL.out _).mono ?_
          rintro _ wq ⟨rfl, rfl⟩
          go_wp2_with (at_builtin; refine wpList_append_rows rfl (.tmp 36) (.tmp 39) 54 rfl 5 _ 1 1 Tryz.underlying54 info5 rfl (by decide) (.slice ao L cap) (bRows (34 :: escs pre)) (by rfl) hO.out (some ⟨wr.heap.size, 0, none⟩) 2 2 ([[.int .u8 92], [.int .u8 92]] : List (List Value)) (by rfl) rfl (fun e => by cases e) hL.out (by simp [Value.oneCell']) (by simp) hr1.out (by have h := hr2.out; omega) ?_; intro v3 w3 o3 g3 n3; obtain ⟨a7, L7, c7, hv7, hl7, R7⟩ := HDN.out _ _ (HI.out.next HB1.out (by rw [HQ1.out]; unfold OwnsB; rw [bRows_append]; exact o3) g3 n3); subst hv7; have R3 := Lib.hid R7; have HL7 := Lib.hid hl7; clear o3 g3 n3 R7 hl7)
          go_roundw
          case rel => exact ⟨pre ++ [92], r, _, _, _, p + n, rfl, by go_num, HNX.out.2.2.1, Lib.hid ⟨HNX.out.1, HNX.out.2.1, HL7.out⟩, R3⟩
          case measure => have := HNX.out; have := HPL.out; simp [intOf]; omega
        by_cases h47 : c = 47
        · subst h47
          have hcv : IntKind.u8.wrap 47 = 47 := by decide
          have HQ1 : Hid (escR 47 = [92, 47]) := Lib.hid rfl
          have HB1 := Lib.hid (below_alloc1 wr (.cells #[.int .u8 92, .int .u8 47] 5))
          have hO : Hid (Owns (wr.alloc (.cells #[.int .u8 92, .int .u8 47] 5)) 5 1 (.slice ao L cap) (bRows (34 :: escs pre))) := Lib.hid (HI.out.same HB1.out)
          have hL : Hid (Lies (wr.alloc (.cells #[.int .u8 92, .int .u8 47] 5)) 1 (some ⟨wr.heap.size, 0, none⟩) ([[.int .u8 92], [.int .u8 47]] : List (List Value))) := Lib.hid (lies_cells wr [.int .u8 92, .int .u8 47] 5)
          have hr1 : Hid ((bRows (34 :: escs pre)).length + ([[.int .u8 92], [.int .u8 47]] : List (List Value)).length ≤ maxLen) := by show _ ≤ _; rw [bRows_len, ← HLEN.out]; have := HLE.out; unfold maxLen; simp; omega
          have hr2 : Hid (((bRows (34 :: escs pre)).length + ([[.int .u8 92], [.int .u8 47]] : List (List Value)).length) * 1 ≤ 140737488355328) := by show _ ≤ _; rw [bRows_len, ← HLEN.out]; have := HLE.out; simp; omega
          go_wp2_with fail
          refine (HCALL.out _).mono ?_
          rintro _ wq ⟨rfl, rfl⟩
          go_wp2_with (at_builtin; refine wpList_append_rows rfl (.tmp 36) (.tmp 39) 54 rfl 5 _ 1 1 Tryz.underlying54 info5 rfl (by decide) (.slice ao L cap) (bRows (34 :: escs pre)) (by rfl) hO.out (some ⟨wr.heap.size, 0, none⟩) 2 2 ([[.int .u8 92], [.int .u8 47]] : List (List Value)) (by rfl) rfl (fun e => by cases e) hL.out (by simp [Value.oneCell']) (by simp) hr1.out (by have h := hr2.out; omega) ?_; intro v3 w3 o3 g3 n3; obtain ⟨a7, L7, c7, hv7, hl7, R7⟩ := HDN.out _ _ (HI.out.next HB1.out (by rw [HQ1.out]; unfold OwnsB; rw [bRows_append]; exact o3) g3 n3); subst hv7; have R3 := Lib.hid R7; have HL7 := Lib.hid hl7; clear o3 g3 n3 R7 hl7)
          go_roundw
          case rel => exact ⟨pre ++ [47], r, _, _, _, p + n, rfl, by go_num, HNX.out.2.2.1, Lib.hid ⟨HNX.out.1, HNX.out.2.1, HL7.out⟩, R3⟩
          case measure => have := HNX.out; have := HPL.out; simp [intOf]; omega
        by_cases h8 : c = 8
        · subst h8
          have HQ1 : Hid (escR 8 = (⟨#[92, 98]⟩ : ByteArray).toList) := Lib.hid (by rw [ByteArray.toList_eq]; rfl)
          have HB1 := Lib.hid (Below.refl wr.heap.size wr)
          have hO : Hid (OwnsB wr 5 (.slice ao L cap) (34 :: escs pre)) := Lib.hid HI.out.own
          have hr : Hid ((34 :: escs pre).length + (⟨#[92, 98]⟩ : ByteArray).size ≤ 140737488355328) := Lib.hid (by rw [← HLEN.out]; have := HLE.out; show _ + 2 ≤ _; omega)
          go_wp2_with fail
          refine (HCALL.out _).mono ?_
          rintro _ wq ⟨rfl, rfl⟩
          go_wp2_with (at_builtin; refine wpList_append_str rfl (.tmp 44) (.const (.string ⟨#[92, 98]⟩)) 54 9 rfl 5 Tryz.underlying54 Tryz.underlying9 info5 (.slice ao L cap) (34 :: escs pre) (by rfl) hO.out ⟨#[92, 98]⟩ (by rfl) hr.out ?_; intro v3 w3 o3 g3 n3; obtain ⟨a7, L7, c7, hv7, hl7, R7⟩ := HDN.out _ _ (HI.out.next HB1.out (by rw [HQ1.out]; exact o3) g3 n3); subst hv7; have R3 := Lib.hid R7; have HL7 := Lib.hid hl7; clear o3 g3 n3 R7 hl7)
          go_roundw
          case rel => exact ⟨pre ++ [8], r, _, _, _, p + n, rfl, by go_num, HNX.out.2.2.1, Lib.hid ⟨HNX.out.1, HNX.out.2.1, HL7.out⟩, R3⟩
          case measure => have := HNX.out; have := HPL.out; simp [intOf]; omega
        by_cases h12 : c = 12
        · subst h12
          have HQ1 : Hid (escR 12 = (⟨#[92, 102]⟩ : ByteArray).toList) := Lib.hid (by rw [ByteArray.toList_eq]; rfl)
          have HB1 := Lib.hid (Below.refl wr.heap.size wr)
          have hO : Hid (OwnsB wr 5 (.slice ao L cap) (34 :: escs pre)) := Lib.hid HI.out.own
          have hr : Hid ((34 :: escs pre).length + (⟨#[92, 102]⟩ : ByteArray).size ≤ 140737488355328) := Lib.hid (by rw [← HLEN.out]; have := HLE.out; show _ + 2 ≤ _; omega)
          go_wp2_with fail
          refine (HCALL.out _).mono ?_
          rintro _ wq ⟨rfl, rfl⟩
          go_wp2_with (at_builtin; refine wpList_append_str rfl (.tmp 49) (.const (.string ⟨#[92, 102]⟩)) 54 9 rfl 5 Tryz.underlying54 Tryz.underlying9 info5 (.slice ao L cap) (34 :: escs pre) (by rfl) hO.out ⟨#[92, 102]⟩ (by rfl) hr.out ?_; intro v3 w3 o3 g3 n3; obtain ⟨a7, L7, c7, hv7, hl7, R7⟩ := HDN.out _ _ (HI.out.next HB1.out (by rw [HQ1.out]; exact o3) g3 n3); subst hv7; have R3 := Lib.hid R7; have HL7 := Lib.hid hl7; clear o3 g3 n3 R7 hl7)
          go_roundw
          case rel => exact ⟨pre ++ [12], r, _, _, _, p + n, rfl, by go_num, HNX.out.2.2.1, Lib.hid ⟨HNX.out.1, HNX.out.2.1, HL7.out⟩, R3⟩
          case measure => have := HNX.out; have := HPL.out; simp [intOf]; omega
        by_cases h10 : c = 10
        · subst h10
          have HQ1 : Hid (escR 10 = (⟨#[92, 110]⟩ : ByteArray).toList) := Lib.hid (by rw [ByteArray.toList_eq]; rfl)
          have HB1 := Lib.hid (Below.refl wr.heap.size wr)
          have hO : Hid (OwnsB wr 5 (.slice ao L cap) (34 :: escs pre)) := Lib.hid HI.out.own
          have hr : Hid ((34 :: escs pre).length + (⟨#[92, 110]⟩ : ByteArray).size ≤ 140737488355328) := Lib.hid (by rw [← HLEN.out]; have := HLE.out; show _ + 2 ≤ _; omega)
          go_wp2_with fail
          refine (HCALL.out _).mono ?_
          rintro _ wq ⟨rfl, rfl⟩
          go_wp2_with (at_builtin; refine wpList_append_str rfl (.tmp 54) (.const (.string ⟨#[92, 110]⟩)) 54 9 rfl 5 Tryz.underlying54 Tryz.underlying9 info5 (.slice ao L cap) (34 :: escs pre) (by rfl) hO.out ⟨#[92, 110]⟩ (by rfl) hr.out ?_; intro v3 w3 o3 g3 n3; obtain ⟨a7, L7, c7, hv7, hl7, R7⟩ := HDN.out _ _ (HI.out.next HB1.out (by rw [HQ1.out]; exact o3) g3 n3); subst hv7; have R3 := Lib.hid R7; have HL7 := Lib.hid hl7; clear o3 g3 n3 R7 hl7)
          go_roundw
          case rel => exact ⟨pre ++ [10], r, _, _, _, p + n, rfl, by go_num, HNX.out.2.2.1, Lib.hid ⟨HNX.out.1, HNX.out.2.1, HL7.out⟩, R3⟩
          case measure => have := HNX.out; have := HPL.out; simp [intOf]; omega
        by_cases h13 : c = 13
        · subst h13
          have HQ1 : Hid (escR 13 = (⟨#[92, 114]⟩ : ByteArray).toList) := Lib.hid (by rw [ByteArray.toList_eq]; rfl)
          have HB1 := Lib.hid (Below.refl wr.heap.size wr)
          have hO : Hid (OwnsB wr 5 (.slice ao L cap) (34 :: escs pre)) := Lib.hid HI.out.own
          have hr : Hid ((34 :: escs pre).length + (⟨#[92, 114]⟩ : ByteArray).size ≤ 140737488355328) := Lib.hid (by rw [← HLEN.out]; have := HLE.out; show _ + 2 ≤ _; omega)
          go_wp2_with fail
          refine (HCALL.out _).mono ?_
          rintro _ wq ⟨rfl, rfl⟩
          go_wp2_with (at_builtin; refine wpList_append_str rfl (.tmp 59) (.const (.string ⟨#[92, 114]⟩)) 54 9 rfl 5 Tryz.underlying54 Tryz.underlying9 info5 (.slice ao L cap) (34 :: escs pre) (by rfl) hO.out ⟨#[92, 114]⟩ (by rfl) hr.out ?_; intro v3 w3 o3 g3 n3; obtain ⟨a7, L7, c7, hv7, hl7, R7⟩ := HDN.out _ _ (HI.out.next HB1.out (by rw [HQ1.out]; exact o3) g3 n3); subst hv7; have R3 := Lib.hid R7; have HL7 := Lib.hid hl7; clear o3 g3 n3 R7 hl7)
          go_roundw
          case rel => exact ⟨pre ++ [13], r, _, _, _, p + n, rfl, by go_num, HNX.out.2.2.1, Lib.hid ⟨HNX.out.1, HNX.out.2.1, HL7.out⟩, R3⟩
          case measure => have := HNX.out; have := HPL.out; simp [intOf]; omega
        by_cases h9 : c = 9
        · subst h9
          have HQ1 : Hid (escR 9 = (⟨#[92, 116]⟩ : ByteArray).toList) := Lib.hid (by rw [ByteArray.toList_eq]; rfl)
          have HB1 := Lib.hid (Below.refl wr.heap.size wr)
          have hO : Hid (OwnsB wr 5 (.slice ao L cap) (34 :: escs pre)) := Lib.hid HI.out.own
          have hr : Hid ((34 :: escs pre).length + (⟨#[92, 116]⟩ : ByteArray).size ≤ 140737488355328) := Lib.hid (by rw [← HLEN.out]; have := HLE.out; show _ + 2 ≤ _; omega)
          go_wp2_with fail
          refine (HCALL.out _).mono ?_
          rintro _ wq ⟨rfl, rfl⟩
          go_wp2_with (at_builtin; refine wpList_append_str rfl (.tmp 64) (.const (.string ⟨#[92, 116]⟩)) 54 9 rfl 5 Tryz.underlying54 Tryz.underlying9 info5 (.slice ao L cap) (34 :: escs pre) (by rfl) hO.out ⟨#[92, 116]⟩ (by rfl) hr.out ?_; intro v3 w3 o3 g3 n3; obtain ⟨a7, L7, c7, hv7, hl7, R7⟩ := HDN.out _ _ (HI.out.next HB1.out (by rw [HQ1.out]; exact o3) g3 n3); subst hv7; have R3 := Lib.hid R7; have HL7 := Lib.hid hl7; clear o3 g3 n3 R7 hl7)
          go_roundw
          case rel => exact ⟨pre ++ [9], r, _, _, _, p + n, rfl, by go_num, HNX.out.2.2.1, Lib.hid ⟨HNX.out.1, HNX.out.2.1, HL7.out⟩, R3⟩
          case measure => have := HNX.out; have := HPL.out; simp [intOf]; omega
        have hsn := shortW_none h34 h92 h47 h8 h12 h10 h13 h9
        have hen := escR_none hsn
        obtain ⟨x, hx⟩ : ∃ x : Int, (c : Int) = x := ⟨_, rfl⟩
        have k34 : (x == 34) = false := by rw [← hx]; simp; omega
        have k92 : (x == 92) = false := by rw [← hx]; simp; omega
        have k47 : (x == 47) = false := by rw [← hx]; simp; omega
        have k8 : (x == 8) = false := by rw [← hx]; simp; omega
        have k12 : (x == 12) = false := by rw [← hx]; simp; omega
        have k10 : (x == 10) = false := by rw [← hx]; simp; omega
        have k13 : (x == 13) = false := by rw [← hx]; simp; omega
        have k9 : (x == 9) = false := by rw [← hx]; simp; omega
        clear h34 h92 h47 h8 h12 h10 h13 h9 hsn
        have HX := Lib.hid hx
        have HCX : Hid (∀ W, Calls Tryz.prog 93 #[.string t, .int .i64 p] W (fun e w' => e = .returned (.tuple #[.int .i64 x, .int .i64 n]) ∧ W = w')) := Lib.hid (fun W => by rw [← HX.out]; exact HCALL.out W)
        clear HCALL
        have HCALL := HCX
        by_cases hpl : 32 ≤ c ∧ c < 127
        · rw [if_pos hpl] at hen
          have hd1 : decide ((32 : Int) ≤ x) = true := by simp; omega
          have hd2 : decide (x < 127) = true := by simp; omega
          have hcv : IntKind.u8.wrap x = x := by unfold IntKind.wrap; simp [IntKind.bits]; omega
          obtain ⟨d, hd⟩ : ∃ d : UInt8, d = c.toUInt8 := ⟨_, rfl⟩
          have hdx : (d.toNat : Int) = x := by rw [hd, ← hx]; simp; omega
          have HQ0 : Hid (escR c = [d]) := Lib.hid (by rw [hen, hd])
          have hbr : bRows [d] = [[.int .u8 x]] := by unfold bRows bts; simp [hdx]
          have HBR := Lib.hid hbr
          clear hpl hen hd hdx hx hbr
          have HB1 := Lib.hid (below_alloc1 wr (.cells #[.int .u8 x] 5))
          have hO : Hid (Owns (wr.alloc (.cells #[.int .u8 x] 5)) 5 1 (.slice ao L cap) (bRows (34 :: escs pre))) := Lib.hid (HI.out.same HB1.out)
          have hL : Hid (Lies (wr.alloc (.cells #[.int .u8 x] 5)) 1 (some ⟨wr.heap.size, 0, none⟩) ([[.int .u8 x]] : List (List Value))) := Lib.hid (lies_cells wr [.int .u8 x] 5)
          have hr1 : Hid ((bRows (34 :: escs pre)).length + ([[.int .u8 x]] : List (List Value)).length ≤ maxLen) := by show _ ≤ _; rw [bRows_len, ← HLEN.out]; have := HLE.out; unfold maxLen; simp; omega
          have hr2 : Hid (((bRows (34 :: escs pre)).length + ([[.int .u8 x]] : List (List Value)).length) * 1 ≤ 140737488355328) := by show _ ≤ _; rw [bRows_len, ← HLEN.out]; have := HLE.out; simp; omega
          go_wp2_with fail
          refine (HCALL.out _).mono ?_
          rintro _ wq ⟨rfl, rfl⟩
          go_wp2_with (at_builtin; refine wpList_append_rows rfl (.tmp 73) (.tmp 76) 54 rfl 5 _ 1 1 Tryz.underlying54 info5 rfl (by decide) (.slice ao L cap) (bRows (34 :: escs pre)) (by rfl) hO.out (some ⟨wr.heap.size, 0, none⟩) 1 1 ([[.int .u8 x]] : List (List Value)) (by rfl) rfl (fun e => by cases e) hL.out (by simp [Value.oneCell']) (by simp) hr1.out (by have h := hr2.out; omega) ?_; intro v3 w3 o3 g3 n3; obtain ⟨a7, L7, c7, hv7, hl7, R7⟩ := HDN.out _ _ (HI.out.next HB1.out (by rw [HQ0.out]; unfold OwnsB; rw [bRows_append, HBR.out]; exact o3) g3 n3); subst hv7; have R3 := Lib.hid R7; have HL7 := Lib.hid hl7; clear o3 g3 n3 R7 hl7)
          go_roundw
          case rel => exact ⟨pre ++ [c], r, _, _, _, p + n, rfl, by go_num, HNX.out.2.2.1, Lib.hid ⟨HNX.out.1, HNX.out.2.1, HL7.out⟩, R3⟩
          case measure => have := HNX.out; have := HPL.out; simp [intOf]; omega
        rw [if_neg hpl] at hen
        obtain ⟨g1, hg1⟩ : ∃ g, decide ((32 : Int) ≤ x) = g := ⟨_, rfl⟩
        obtain ⟨g2, hg2⟩ : ∃ g, decide (x < 127) = g := ⟨_, rfl⟩
        have hgg : (g1 && g2) = false := by rw [← hg1, ← hg2, ← hx]; exact not_plain hpl
        clear hpl
        by_cases hbig : 65535 < c
        · rw [if_pos hbig] at hen
          obtain ⟨y, yq, ym, n1, n2, hd3, hy2, ⟨hs1, hs2⟩, hyq, hym, e1, e2, ⟨hu1, hu2⟩, ⟨hu3, hu4⟩, hk1, hk2, hn1, hn2⟩ := big_facts hx hbig HNR.out
          obtain ⟨s1, hs1e⟩ : ∃ s1 : ByteArray, s1 = str (uniB n1) := ⟨_, rfl⟩
          obtain ⟨s2, hs2e⟩ : ∃ s2 : ByteArray, s2 = str (uniB n2) := ⟨_, rfl⟩
          have HF1 : Hid (∀ W, Calls Tryz.prog 94 #[.int .i64 n1] W (fun e w' => e = .returned (.string s1) ∧ Below W.heap.size W w')) := Lib.hid (fun W => by rw [hs1e]; exact HFO.out n1 hk1 W)
          have HF2 : Hid (∀ W, Calls Tryz.prog 94 #[.int .i64 n2] W (fun e w' => e = .returned (.string s2) ∧ Below W.heap.size W w')) := Lib.hid (fun W => by rw [hs2e]; exact HFO.out n2 hk2 W)
          have HQ1 : Hid (escR c = s1.toList ++ s2.toList ∧ s1.size = 6 ∧ s2.size = 6) := Lib.hid ⟨by rw [hen, hs1e, hs2e, str_toList, str_toList, hn1, hn2], by rw [hs1e]; exact uniB_size _, by rw [hs2e]; exact uniB_size _⟩
          clear hen hbig hk1 hk2 hn1 hn2 hs1e hs2e hx
          cases g1 <;> cases g2 <;> first | (cases hgg; done) | skip
          all_goals
            go_wp2_with fail
            refine (HCALL.out _).mono ?_
            rintro _ wq ⟨rfl, rfl⟩
            go_wp2_with fail
            refine (HF1.out _).mono ?_
            rintro _ wa ⟨rfl, hba⟩
            have HB1 := Lib.hid hba
            have hO : Hid (OwnsB wa 5 (.slice ao L cap) (34 :: escs pre)) := Lib.hid (HI.out.same hba)
            have hr : Hid ((34 :: escs pre).length + s1.size ≤ 140737488355328) := Lib.hid (by rw [← HLEN.out]; have := HLE.out; have := HQ1.out.2.1; omega)
            clear hba
            go_wp2_with (at_builtin; refine wpList_append_str rfl (.tmp 81) (.tmp 86) 54 9 rfl 5 Tryz.underlying54 Tryz.underlying9 info5 (.slice ao L cap) (34 :: escs pre) (by rfl) hO.out s1 (by rfl) hr.out ?_; intro v3 w3 o3 g3 n3; have R7 := HI.out.next HB1.out o3 g3 n3; obtain ⟨a8, L8, c8, hv8⟩ := slice_of R7.own; subst hv8; have R8 := Lib.hid R7; clear o3 g3 n3 R7)
            refine (HF2.out _).mono ?_
            rintro _ wb ⟨rfl, hbb⟩
            have HB2 := Lib.hid hbb
            have hO2 := Lib.hid (R8.out.same hbb)
            have hr2 : Hid (((34 :: escs pre) ++ s1.toList).length + s2.size ≤ 140737488355328) := Lib.hid (by rw [List.length_append, ← HLEN.out, size_toList]; have := HLE.out; have := HQ1.out.2; omega)
            clear hbb
            go_wp2_with (at_builtin; refine wpList_append_str rfl (.tmp 88) (.tmp 93) 54 9 rfl 5 Tryz.underlying54 Tryz.underlying9 info5 (.slice a8 L8 c8) ((34 :: escs pre) ++ s1.toList) (by rfl) hO2.out s2 (by rfl) hr2.out ?_; intro v3 w3 o3 g3 n3; obtain ⟨a7, L7, c7, hv7, hl7, R7⟩ := HDN.out _ _ (by have h := R8.out.next HB2.out o3 g3 n3; rw [List.append_assoc, ← HQ1.out.1] at h; exact h); subst hv7; have R3 := Lib.hid R7; have HL7 := Lib.hid hl7; clear o3 g3 n3 R7 hl7)
            go_roundw
            case rel => exact ⟨pre ++ [c], r, _, _, _, p + n, rfl, by go_num, HNX.out.2.2.1, Lib.hid ⟨HNX.out.1, HNX.out.2.1, HL7.out⟩, R3⟩
            case measure => have := HNX.out; have := HPL.out; simp [intOf]; omega
        rw [if_neg hbig] at hen
        have hd3 : decide ((65535 : Int) < x) = false := by simp; omega
        obtain ⟨s1, hs1e⟩ : ∃ s1 : ByteArray, s1 = str (uniB c) := ⟨_, rfl⟩
        have HF1 : Hid (∀ W, Calls Tryz.prog 94 #[.int .i64 x] W (fun e w' => e = .returned (.string s1) ∧ Below W.heap.size W w')) := Lib.hid (fun W => by rw [hs1e, ← hx]; exact HFO.out c (by omega) W)
        have HQ1 : Hid (escR c = s1.toList ∧ s1.size = 6) := Lib.hid ⟨by rw [hen, hs1e, str_toList], by rw [hs1e]; exact uniB_size _⟩
        clear hen hbig hs1e hx
        cases g1 <;> cases g2 <;> first | (cases hgg; done) | skip
        all_goals
          go_wp2_with fail
          refine (HCALL.out _).mono ?_
          rintro _ wq ⟨rfl, rfl⟩
          go_wp2_with fail
          refine (HF1.out _).mono ?_
          rintro _ wa ⟨rfl, hba⟩
          have HB1 := Lib.hid hba
          have hO : Hid (OwnsB wa 5 (.slice ao L cap) (34 :: escs pre)) := Lib.hid (HI.out.same hba)
          have hr : Hid ((34 :: escs pre).length + s1.size ≤ 140737488355328) := Lib.hid (by rw [← HLEN.out]; have := HLE.out; have := HQ1.out.2; omega)
          clear hba
          go_wp2_with (at_builtin; refine wpList_append_str rfl (.tmp 21) (.tmp 23) 54 9 rfl 5 Tryz.underlying54 Tryz.underlying9 info5 (.slice ao L cap) (34 :: escs pre) (by rfl) hO.out s1 (by rfl) hr.out ?_; intro v3 w3 o3 g3 n3; obtain ⟨a7, L7, c7, hv7, hl7, R7⟩ := HDN.out _ _ (HI.out.next HB1.out (by rw [HQ1.out.1]; exact o3) g3 n3); subst hv7; have R3 := Lib.hid R7; have HL7 := Lib.hid hl7; clear o3 g3 n3 R7 hl7)
          go_roundw
          case rel => exact ⟨pre ++ [c], r, _, _, _, p + n, rfl, by go_num, HNX.out.2.2.1, Lib.hid ⟨HNX.out.1, HNX.out.2.1, HL7.out⟩, R3⟩
          case measure => have := HNX.out; have := HPL.out; simp [intOf]; omega
    · obtain rfl : p = t.size := by omega
      have hr0 : r = [] := by
        cases r with
        | nil => rfl
        | cons c r =>
          exfalso
          have h1 := HR.out
          have h2 := HTS.out
          have hl := (rune_len c).1
          rw [h1.1, flatR_append, flatR_cons, List.length_append, List.length_append] at h2
          omega
      subst hr0
      have HE : Hid (cs = pre) := Lib.hid (by rw [HR.out.1, List.append_nil])
      have HLE : Hid (L = (34 :: escs pre).length ∧ L ≤ 6442450950) := Lib.hid ⟨HR.out.2.2, by have h1 := HR.out.2.2; have h2 := HLQ.out; rw [HE.out] at h2; rw [h1, List.length_cons]; omega⟩
      have HB1 := Lib.hid (below_alloc1 wr (.cells #[.int .u8 34] 5))
      have hO : Hid (Owns (wr.alloc (.cells #[.int .u8 34] 5)) 5 1 (.slice ao L cap) (bRows (34 :: escs pre))) := Lib.hid (HI.out.same HB1.out)
      have hL : Hid (Lies (wr.alloc (.cells #[.int .u8 34] 5)) 1 (some ⟨wr.heap.size, 0, none⟩) ([[.int .u8 34]] : List (List Value))) := Lib.hid (lies_cells wr [.int .u8 34] 5)
      have hr1 : Hid ((bRows (34 :: escs pre)).length + ([[.int .u8 34]] : List (List Value)).length ≤ maxLen) := by show _ ≤ _; rw [bRows_len, ← HLE.out.1]; have := HLE.out.2; unfold maxLen; simp; omega
      have hr2 : Hid (((bRows (34 :: escs pre)).length + ([[.int .u8 34]] : List (List Value)).length) * 1 ≤ 140737488355328) := by show _ ≤ _; rw [bRows_len, ← HLE.out.1]; have := HLE.out.2; simp; omega
      clear hlt hp
      go_wp2_with (at_builtin; refine wpList_append_rows rfl (.tmp 95) (.tmp 96) 54 rfl 5 _ 1 1 Tryz.underlying54 info5 rfl (by decide) (.slice ao L cap) (bRows (34 :: escs pre)) (by rfl) hO.out (some ⟨wr.heap.size, 0, none⟩) 1 1 ([[.int .u8 34]] : List (List Value)) (by rfl) rfl (fun e => by cases e) hL.out (by simp [Value.oneCell']) (by simp) hr1.out (by have h := hr2.out; omega) ?_; intro v3 w3 o3 g3 n3; have R7 := HI.out.next (q := [34]) HB1.out (by unfold OwnsB; rw [bRows_append]; exact o3) g3 n3; obtain ⟨a7, L7, c7, hv7⟩ := slice_of R7.own; subst hv7; have R3 := Lib.hid R7; have hconv := run_back (P := Tryz.prog) (src := 54) (dst := 9) R3.out.own Tryz.underlying54 Tryz.underlying5 Tryz.underlying9; clear o3 g3 n3 R7)
      go_wp2_with fail
      go_ret
      exact ⟨by rw [HE.out]; rfl, R3.out.below⟩
end Go.Proofs.YtnaefnojmiolbaaGreatDoor
