/-
  Runes and their bytes; what is valid. Of no program.
  JSON: a text as it is written, and that it is read back; what is read is valid. Of no program.
  JSON: strconv.FormatInt at base 16; the walk of the writer's unit.
-/
import Derived.Lib.MapLaws
import Derived.Lib.ValidLaws
import Derived.Lib.TrimUEq
import Derived.Lib.RuneBytes
import Derived.Test.YtnaefnojmiolbaaGreatDoorJp13
import Derived.Test.YtnaefnojmiolbaaGreatDoorJp11
import Derived.Test.YtnaefnojmiolbaaGreatDoorShelfR
import Derived.Lib.EndianBits
import Derived.LoopN
namespace Go.Proofs.YtnaefnojmiolbaaGreatDoor
open Go.Lib

/-- A number that stands for itself in UTF-8. -/
def IsRune (c : Nat) : Prop := c < 55296 ∨ (57343 < c ∧ c ≤ 1114111)
theorem byte_num {x : Int} (_h0 : 0 ≤ x) (h1 : x < 256) : x.toNat.toUInt8.toNat = x.toNat := by
  simp
  omega
theorem decode_rune {c : Nat} (h : IsRune c) (t : List UInt8) : decodeL (encodeRune c ++ t) = (c, (encodeRune c).length) := by
  unfold IsRune at h
  by_cases h1 : c < 128
  · have e : encodeRune c = [c.toUInt8] := by simp [encodeRune, encodeRuneZ_one (r := (c : Int)) (by omega) (by omega)]
    have hb : c.toUInt8.toNat = c := by simp; omega
    rw [e]
    show decodeL (c.toUInt8 :: t) = _
    rw [decodeL_ascii _ _ (by omega), hb]
    rfl
  by_cases h2 : c < 2048
  · have e : encodeRune c = [(192 + (c : Int) / 64).toNat.toUInt8, (128 + (c : Int) % 64).toNat.toUInt8] := by simp [encodeRune, encodeRuneZ_two (r := (c : Int)) (by omega) (by omega)]
    rw [e, decodeL_N]
    have b0 := byte_num (x := 192 + (c : Int) / 64) (by omega) (by omega)
    have b1 := byte_num (x := 128 + (c : Int) % 64) (by omega) (by omega)
    simp only [List.cons_append, List.nil_append, List.getD_cons_zero, List.getD_cons_succ, List.length_cons, List.length_nil]
    rw [b0, b1]
    unfold decodeN
    rw [if_neg (by omega), if_pos ⟨by omega, by omega, by omega⟩, if_pos (by omega)]
    congr 1
    omega
  by_cases h3 : c < 65536
  · have e : encodeRune c = [(224 + (c : Int) / 4096).toNat.toUInt8, (128 + (c : Int) / 64 % 64).toNat.toUInt8, (128 + (c : Int) % 64).toNat.toUInt8] := by simp [encodeRune, encodeRuneZ_three (r := (c : Int)) (by omega)]
    rw [e, decodeL_N]
    have b0 := byte_num (x := 224 + (c : Int) / 4096) (by omega) (by omega)
    have b1 := byte_num (x := 128 + (c : Int) / 64 % 64) (by omega) (by omega)
    have b2 := byte_num (x := 128 + (c : Int) % 64) (by omega) (by omega)
    simp only [List.cons_append, List.nil_append, List.getD_cons_zero, List.getD_cons_succ, List.length_cons, List.length_nil]
    rw [b0, b1, b2]
    unfold decodeN
    rw [if_neg (by omega), if_neg (by omega), if_pos ⟨by omega, ⟨by omega, by omega⟩, by omega, by omega⟩, if_pos (by omega)]
    congr 1
    omega
  · have e : encodeRune c = [(240 + (c : Int) / 262144).toNat.toUInt8, (128 + (c : Int) / 4096 % 64).toNat.toUInt8, (128 + (c : Int) / 64 % 64).toNat.toUInt8, (128 + (c : Int) % 64).toNat.toUInt8] := by
      simp [encodeRune, encodeRuneZ_four (r := (c : Int)) (by omega) (by omega)]
    rw [e, decodeL_N]
    have b0 := byte_num (x := 240 + (c : Int) / 262144) (by omega) (by omega)
    have b1 := byte_num (x := 128 + (c : Int) / 4096 % 64) (by omega) (by omega)
    have b2 := byte_num (x := 128 + (c : Int) / 64 % 64) (by omega) (by omega)
    have b3 := byte_num (x := 128 + (c : Int) % 64) (by omega) (by omega)
    simp only [List.cons_append, List.nil_append, List.getD_cons_zero, List.getD_cons_succ, List.length_cons, List.length_nil]
    rw [b0, b1, b2, b3]
    unfold decodeN
    rw [if_neg (by omega), if_neg (by omega), if_neg (by omega), if_pos ⟨by omega, ⟨by omega, by omega⟩, ⟨by omega, by omega⟩, by omega, by omega⟩, if_pos (by omega)]
    congr 1
    omega
theorem rune_len (c : Nat) : 1 ≤ (encodeRune c).length ∧ (encodeRune c).length ≤ 4 := by
  have := runeCells_le c
  rw [runeCells_length] at this
  exact this
theorem rune_ne (c : Nat) : encodeRune c ≠ [] := by
  intro e
  have := (rune_len c).1
  rw [e] at this
  simp at this
theorem rune_ascii {c : Nat} (h : c < 128) : encodeRune c = [c.toUInt8] := by simp [encodeRune, encodeRuneZ_one (r := (c : Int)) (by omega) (by omega)]
/-- What is decoded, and is no fault, is a rune. -/
theorem decode_is {l : List UInt8} (_hv : ¬ ((decodeL l).1 = 65533 ∧ (decodeL l).2 = 1)) : IsRune (decodeL l).1 := by
  rw [decodeL_N]
  have k0 := (l.getD 0 0).toNat_lt
  unfold IsRune
  rcases decodeN_shape l.length (l.getD 0 0).toNat (l.getD 1 0).toNat (l.getD 2 0).toNat (l.getD 3 0).toNat with ⟨c, e⟩ | ⟨c1, c2, c3, cv, e⟩ | ⟨c1, c2, c3, c4, cv, cs, e⟩ | ⟨c1, c2, c3, c4, c5, cv, cw, e⟩ | e
  all_goals (rw [e]; dsimp only)
  all_goals omega
/-- The runes of a text. -/
def runesF : Nat → List UInt8 → List Nat
  | 0, _ => []
  | k + 1, l => if l = [] then [] else (decodeL l).1 :: runesF k (l.drop (decodeL l).2)
def flatR (cs : List Nat) : List UInt8 := cs.flatMap fun c : Nat => encodeRune (c : Int)
theorem flatR_cons (c : Nat) (cs : List Nat) : flatR (c :: cs) = encodeRune c ++ flatR cs := rfl
theorem flatR_append (a b : List Nat) : flatR (a ++ b) = flatR a ++ flatR b := by simp [flatR]
theorem flatR_len : ∀ cs : List Nat, cs.length ≤ (flatR cs).length
  | [] => by simp
  | c :: cs => by
    have := (rune_len c).1
    have := flatR_len cs
    rw [flatR_cons, List.length_append, List.length_cons]
    omega
theorem runes_flat : ∀ (cs : List Nat) (k : Nat), (∀ c ∈ cs, IsRune c) → cs.length ≤ k → runesF k (flatR cs) = cs
  | [], k, _, _ => by cases k <;> simp [runesF, flatR]
  | c :: cs, 0, _, h => by simp at h
  | c :: cs, k + 1, hc, h => by
    have hd := decode_rune (hc c (by simp)) (flatR cs)
    rw [flatR_cons, runesF, if_neg (by simp [rune_ne]), hd]
    simp only
    rw [List.drop_left, runes_flat cs k (fun x hx => hc x (by simp [hx])) (by simpa using h)]
theorem flat_valid : ∀ cs : List Nat, (∀ c ∈ cs, IsRune c) → validD (flatR cs) = true
  | [], _ => validD_nil
  | c :: cs, hc => by
    have hd := decode_rune (hc c (by simp)) (flatR cs)
    rw [flatR_cons, validD_step _ (by simp [rune_ne]), hd, if_neg, List.drop_left]
    · exact flat_valid cs fun x hx => hc x (by simp [hx])
    · rintro ⟨e, h1⟩
      simp only at e h1
      subst e
      exact absurd h1 (by decide)
theorem valid_flat (l : List UInt8) (h : validD l = true) : ∃ cs : List Nat, (∀ c ∈ cs, IsRune c) ∧ l = flatR cs := by
  generalize hn : l.length = n
  induction n using Nat.strongRecOn generalizing l with
  | ind n ih =>
    by_cases hl : l = []
    · exact ⟨[], by simp, by simp [hl, flatR]⟩
    · rw [validD_step l hl] at h
      split at h
      · cases h
      · rename_i hv
        have hw := decodeL_width l
        have h0 : 0 < l.length := List.length_pos_iff.2 hl
        obtain ⟨cs, hc, he⟩ := ih (l.drop (decodeL l).2).length (by rw [List.length_drop]; omega) _ h rfl
        refine ⟨(decodeL l).1 :: cs, ?_, ?_⟩
        · intro c hm
          rcases List.mem_cons.1 hm with rfl | hm
          · exact decode_is hv
          · exact hc c hm
        · rw [flatR_cons, encode_decode l hl hv, ← he, List.take_append_drop]
end Go.Proofs.YtnaefnojmiolbaaGreatDoor

namespace Go.Proofs.YtnaefnojmiolbaaGreatDoor
open Go.RowKit

section
variable {s : ByteArray}
theorem size_of_list {a : Bs} (h : s.toList = a) : s.size = a.length := by rw [← h, size_toList]
theorem now_at {a l b : Bs} (h : s.toList = a ++ (l ++ b)) {i : Nat} {c : UInt8} (hi : l[i]? = some c) : nowP s (a.length + i) = c ∧ a.length + i < s.size := by
  obtain ⟨hl, rfl⟩ := List.getElem?_eq_some_iff.1 hi
  refine ⟨?_, by rw [size_of_list h]; simp; omega⟩
  unfold nowP
  rw [h, List.getElem?_append_right (by omega), show a.length + i - a.length = i by omega, List.getElem?_append_left hl, List.getElem?_eq_getElem hl]
  rfl
theorem now_of {a b : Bs} {c : UInt8} (h : s.toList = a ++ c :: b) : nowP s a.length = c ∧ a.length < s.size := now_at (l := [c]) (b := b) (i := 0) (by rw [h]; rfl) rfl
theorem rd_must : ∀ {l a b : Bs}, s.toList = a ++ (l ++ b) → mustP s l a.length = .ok (a ++ l).length
  | [], a, b, h => by rw [mustP]; simp
  | c :: l, a, b, h => by
    obtain ⟨h1, h2⟩ := now_of (b := l ++ b) h
    rw [mustP, if_pos ⟨h2, h1⟩]
    have := rd_must (l := l) (a := a ++ [c]) (b := b) (by rw [h]; simp)
    rw [List.length_append, List.length_cons, List.length_nil] at this
    rw [this]
    simp
end
/-! How a text is written. -/
def hexD (n : Nat) : UInt8 := if n < 10 then (48 + n).toUInt8 else (87 + n).toUInt8
def hex4 (n : Nat) : Bs := [hexD (n / 4096 % 16), hexD (n / 256 % 16), hexD (n / 16 % 16), hexD (n % 16)]
def uniB (n : Nat) : Bs := 92 :: 117 :: hex4 n
/-- The letter of a short escape. -/
def shortW (c : Nat) : Option UInt8 :=
  if c = 34 then some 34 else if c = 92 then some 92 else if c = 47 then some 47 else if c = 8 then some 98 else if c = 12 then some 102
  else if c = 10 then some 110 else if c = 13 then some 114 else if c = 9 then some 116 else none
def escR (c : Nat) : Bs := match shortW c with
  | some d => [92, d]
  | none => if 32 ≤ c ∧ c < 127 then [c.toUInt8] else if 65535 < c then uniB (55296 + (c - 65536) / 1024) ++ uniB (56320 + (c - 65536) % 1024) else uniB c
def escs (cs : List Nat) : Bs := cs.flatMap escR
theorem escs_cons (c : Nat) (cs : List Nat) : escs (c :: cs) = escR c ++ escs cs := rfl
def quoteP (t : Bs) : Bs := 34 :: (escs (runesF t.length t) ++ [34])
theorem hexV_hexD : ∀ n : Fin 16, hexV (hexD n.val) = some n.val := by decide +kernel
theorem hexV_D {n : Nat} (h : n < 16) : hexV (hexD n) = some n := hexV_hexD ⟨n, h⟩
theorem shortR_W : ∀ c : Fin 128, ∀ d, shortW c.val = some d → shortR d = some c.val.toUInt8 ∧ d ≠ 117 := by decide +kernel
theorem shortW_lt {c : Nat} {d : UInt8} (h : shortW c = some d) : c < 128 := by
  unfold shortW at h
  repeat' split at h
  all_goals first | omega | (cases h)
section
variable {s : ByteArray}
theorem rd_hex {a b : Bs} {n : Nat} (h : s.toList = a ++ (hex4 n ++ b)) (hn : n < 65536) : hexP s 4 0 a.length = .ok (n, a.length + 4) := by
  have h0 := (now_at h (i := 0) (c := hexD (n / 4096 % 16)) rfl).1
  have h1 := (now_at h (i := 1) (c := hexD (n / 256 % 16)) rfl).1
  have h2 := (now_at h (i := 2) (c := hexD (n / 16 % 16)) rfl).1
  have h3 := (now_at h (i := 3) (c := hexD (n % 16)) rfl).1
  rw [Nat.add_zero] at h0
  simp only [hexP]
  rw [h0, hexV_D (by omega)]
  simp only
  rw [h1, hexV_D (by omega)]
  simp only
  rw [show a.length + 1 + 1 = a.length + 2 by omega, h2, hexV_D (by omega)]
  simp only
  rw [show a.length + 2 + 1 = a.length + 3 by omega, h3, hexV_D (by omega)]
  simp only
  congr 2
  omega
theorem rd_uni {f : Nat} {a b : Bs} {n : Nat} (h : s.toList = a ++ (hex4 n ++ b)) (hn : n < 65536) (hs : n < 55296 ∨ 57343 < n) : unitP s f a.length = .ok (n, a.length + 4) := by
  unfold unitP
  rw [rd_hex h hn]
  simp only
  rw [if_pos hs]
theorem rd_pair {f : Nat} {a b : Bs} {n m : Nat} (h : s.toList = a ++ (hex4 n ++ (uniB m ++ b))) (h0 : 55296 ≤ n) (h1 : n < 56320) (h2 : 56320 ≤ m) (h3 : m ≤ 57343) :
    unitP s f a.length = .ok (65536 + (n - 55296) * 1024 + (m - 56320), a.length + 10) := by
  have hu : s.toList = (a ++ hex4 n) ++ (uniB m ++ b) := by rw [h]; simp
  have e4 : (a ++ hex4 n).length = a.length + 4 := by simp [hex4]
  have p0 := now_at hu (i := 0) (c := 92) rfl
  have p1 := now_at hu (i := 1) (c := 117) rfl
  rw [e4] at p0 p1
  rw [Nat.add_zero] at p0
  have hx : s.toList = (a ++ hex4 n ++ [92, 117]) ++ (hex4 m ++ b) := by rw [h]; simp [uniB]
  have e6 : (a ++ hex4 n ++ [92, 117]).length = a.length + 6 := by simp [hex4]
  have hh := rd_hex hx (by omega)
  rw [e6] at hh
  unfold unitP
  rw [rd_hex h (by omega)]
  simp only
  rw [if_neg (by omega), if_neg (by omega), if_neg (by simpa using p0.2), if_neg (by simp [p0.1]), if_neg (by simpa using p1.2), if_neg (by simp [p1.1]), show a.length + 4 + 2 = a.length + 6 by omega, hh]
  simp only
  rw [if_neg (by omega)]
theorem rd_rune {a b : Bs} {c k : Nat} {acc : Bs} (hc : IsRune c) (h : s.toList = a ++ (escR c ++ b)) : jtextL s (k + 1) acc a.length = jtextL s k (acc ++ Lib.encodeRune c) (a ++ escR c).length := by
  unfold IsRune at hc
  rw [jtextL]
  unfold escR at h ⊢
  cases hs : shortW c with
  | some d =>
    rw [hs] at h
    simp only at h ⊢
    have hlt := shortW_lt hs
    obtain ⟨hr, hd⟩ := shortR_W ⟨c, hlt⟩ d hs
    obtain ⟨p0, q0⟩ := now_at h (i := 0) (c := 92) rfl
    obtain ⟨p1, q1⟩ := now_at h (i := 1) (c := d) rfl
    rw [Nat.add_zero] at p0 q0
    rw [if_neg (by rw [p0]; decide), if_neg (by rw [p0]; rintro (x | x); exact x q0; exact absurd x (by decide)), if_pos p0]
    unfold escP
    rw [if_neg (by simpa using q1), p1, if_neg hd, hr]
    simp only
    rw [rune_ascii hlt]
    simp
  | none =>
    rw [hs] at h
    simp only at h ⊢
    by_cases h1 : 32 ≤ c ∧ c < 127
    · rw [if_pos h1] at h ⊢
      have hb : c.toUInt8.toNat = c := by simp; omega
      obtain ⟨p0, q0⟩ := now_at h (i := 0) (c := c.toUInt8) rfl
      rw [Nat.add_zero] at p0 q0
      have hne : ∀ x : UInt8, c ≠ x.toNat → c.toUInt8 ≠ x := fun x hx e => hx (by rw [← e, hb])
      have h34 : c ≠ 34 := fun e => by subst e; exact absurd hs (by decide)
      have h92 : c ≠ 92 := fun e => by subst e; exact absurd hs (by decide)
      have hd : decAt s a.length = (c, 1) := by
        show Lib.decodeL (s.toList.drop a.length) = _
        rw [h, List.drop_left]
        show Lib.decodeL (c.toUInt8 :: b) = _
        rw [Lib.decodeL_ascii _ _ (by omega), hb]
      rw [p0, if_neg (hne 34 h34), if_neg, if_neg (hne 92 h92), hd, if_neg (by simp; omega), rune_ascii (by omega)]
      · simp
      · rintro (x | x)
        · exact x q0
        · rw [UInt8.lt_iff_toNat_lt, hb] at x
          have : (32 : UInt8).toNat = 32 := rfl
          omega
    · rw [if_neg h1] at h ⊢
      by_cases h2 : 65535 < c
      · rw [if_pos h2] at h ⊢
        have hn1 : 56320 ≤ 56320 + (c - 65536) % 1024 := by omega
        have hn2 : 56320 + (c - 65536) % 1024 ≤ 57343 := by omega
        have hn3 : 55296 + (c - 65536) / 1024 < 56320 := by omega
        obtain ⟨n, hn⟩ : ∃ n, n = 55296 + (c - 65536) / 1024 := ⟨_, rfl⟩
        obtain ⟨m, hm⟩ : ∃ m, m = 56320 + (c - 65536) % 1024 := ⟨_, rfl⟩
        rw [← hn, ← hm] at h ⊢
        rw [← hm] at hn1 hn2
        rw [← hn] at hn3
        obtain ⟨p0, q0⟩ := now_at h (i := 0) (c := 92) rfl
        obtain ⟨p1, q1⟩ := now_at h (i := 1) (c := 117) rfl
        rw [Nat.add_zero] at p0 q0
        have hp := rd_pair (f := a.length) (s := s) (a := a ++ [92, 117]) (n := n) (m := m) (b := b) (by rw [h]; simp [uniB]) (by omega) hn3 hn1 hn2
        rw [show (a ++ ([92, 117] : Bs)).length = a.length + 2 by simp] at hp
        rw [if_neg (by rw [p0]; decide), if_neg (by rw [p0]; rintro (x | x); exact x q0; exact absurd x (by decide)), if_pos p0]
        unfold escP
        rw [if_neg (by simpa using q1), if_pos p1, hp]
        simp only
        rw [show 65536 + (n - 55296) * 1024 + (m - 56320) = c by omega]
        simp [uniB, hex4]
      · rw [if_neg h2] at h ⊢
        obtain ⟨p0, q0⟩ := now_at h (i := 0) (c := 92) rfl
        obtain ⟨p1, q1⟩ := now_at h (i := 1) (c := 117) rfl
        rw [Nat.add_zero] at p0 q0
        have hp := rd_uni (f := a.length) (s := s) (a := a ++ [92, 117]) (n := c) (b := b) (by rw [h]; simp [uniB]) (by omega) (by omega)
        rw [show (a ++ ([92, 117] : Bs)).length = a.length + 2 by simp] at hp
        rw [if_neg (by rw [p0]; decide), if_neg (by rw [p0]; rintro (x | x); exact x q0; exact absurd x (by decide)), if_pos p0]
        unfold escP
        rw [if_neg (by simpa using q1), if_pos p1, hp]
        simp [uniB, hex4]
theorem rd_runes {b : Bs} : ∀ (cs : List Nat) (k : Nat) (a acc : Bs), (∀ c ∈ cs, IsRune c) → s.toList = a ++ (escs cs ++ 34 :: b) → cs.length < k → jtextL s k acc a.length = .ok (acc ++ flatR cs, (a ++ escs cs).length + 1)
  | _, 0, _, _, _, _, hk => by omega
  | [], k + 1, a, acc, _, h, _ => by
    obtain ⟨p0, -⟩ := now_of (s := s) (a := a) (b := b) (c := 34) (by rw [h]; rfl)
    rw [jtextL, if_pos p0]
    simp [escs, flatR]
  | c :: cs, k + 1, a, acc, hc, h, hk => by
    rw [escs_cons] at h
    rw [rd_rune (b := escs cs ++ 34 :: b) (hc c (by simp)) (by rw [h]; simp), rd_runes (b := b) cs k (a ++ escR c) _ (fun x hx => hc x (by simp [hx])) (by rw [h]; simp) (by simpa using hk)]
    simp [escs_cons, flatR_cons]
theorem escR_ne (c : Nat) : escR c ≠ [] := by
  unfold escR
  split
  · simp
  · repeat' split
    all_goals simp [uniB]
theorem escs_len : ∀ cs : List Nat, cs.length ≤ (escs cs).length
  | [] => by simp
  | c :: cs => by
    have := List.length_pos_iff.2 (escR_ne c)
    have := escs_len cs
    rw [escs_cons, List.length_append, List.length_cons]
    omega
theorem quote_flat {cs : List Nat} (hc : ∀ c ∈ cs, IsRune c) : quoteP (flatR cs) = 34 :: (escs cs ++ [34]) := by
  unfold quoteP
  rw [runes_flat cs _ hc (flatR_len cs)]
/-- A text that is valid is read back. -/
theorem rd_jtext {a b t : Bs} (hv : Lib.validD t = true) (h : s.toList = a ++ (quoteP t ++ b)) : jtextP s a.length = .ok (t, (a ++ quoteP t).length) := by
  obtain ⟨cs, hc, rfl⟩ := valid_flat t hv
  rw [quote_flat hc] at h ⊢
  have hm : mustP s [34] a.length = .ok (a ++ [34]).length := rd_must (b := escs cs ++ 34 :: b) (by rw [h]; simp)
  have hl := escs_len cs
  have hs := size_of_list h
  have hr := rd_runes (s := s) (b := b) cs (s.size + 1) (a ++ [34]) [] hc (by rw [h]; simp) (by simp at hs; omega)
  unfold jtextP
  rw [hm]
  simp only
  rw [hr]
  simp
  omega
end
/-! What is read is valid, and no longer than what it was read from. -/
section
variable {s : ByteArray}
theorem hexV_zero : hexV 0 = none := by decide
theorem hexV_lt : ∀ x : Fin 256, ∀ d, hexV (UInt8.ofNat x.val) = some d → d < 16 := by decide +kernel
theorem hexV_lt' {c : UInt8} {d : Nat} (h : hexV c = some d) : d < 16 := by
  have := hexV_lt ⟨c.toNat, c.toNat_lt⟩ d (by simpa using h)
  exact this
theorem hexP_ok : ∀ {k n p : Nat} {a : Nat × Nat}, hexP s k n p = .ok a → a.2 = p + k ∧ a.1 < (n + 1) * 16 ^ k ∧ (0 < k → p + k ≤ s.size)
  | 0, n, p, a, h => by rw [hexP] at h; cases h; exact ⟨rfl, by simp, by omega⟩
  | k + 1, n, p, a, h => by
    rw [hexP] at h
    split at h
    · cases h
    · rename_i d hd
      obtain ⟨h1, h2, h3⟩ := hexP_ok h
      have h16 := hexV_lt' hd
      have hp : p < s.size := by
        by_cases hh : p < s.size
        · exact hh
        · rw [nowP_end hh, hexV_zero] at hd; cases hd
      refine ⟨by omega, Nat.lt_of_lt_of_le h2 ?_, fun _ => ?_⟩
      · rw [Nat.pow_succ, ← Nat.mul_assoc, Nat.mul_right_comm]
        exact Nat.mul_le_mul_right _ (by omega)
      · by_cases hk : 0 < k
        · have := h3 hk; omega
        · omega
theorem unitP_ok {f p : Nat} {a : Nat × Nat} (h : unitP s f p = .ok a) : IsRune a.1 ∧ p + 4 ≤ a.2 ∧ a.2 ≤ s.size ∧ (65535 < a.1 → p + 10 ≤ a.2) := by
  unfold unitP at h
  split at h
  · cases h
  · rename_i n q h1
    obtain ⟨e1, l1, s1⟩ := hexP_ok h1
    simp only at e1 l1
    have s1 := s1 (by omega)
    simp at l1
    unfold IsRune
    repeat' split at h
    all_goals first | (simp only [reduceCtorEq] at h; done) | skip
    · injection h with h; subst h; simp only; omega
    · rename_i m q2 h2 _
      obtain ⟨e2, l2, s2⟩ := hexP_ok h2
      simp only at e2 l2
      have s2 := s2 (by omega)
      simp at l2
      injection h with h
      subst h
      simp only
      omega
theorem escP_ok {p : Nat} {a : Bs × Nat} (h : escP s p = .ok a) : (∃ c, IsRune c ∧ a.1 = Lib.encodeRune c) ∧ p + a.1.length ≤ a.2 ∧ a.2 ≤ s.size := by
  unfold escP at h
  split at h
  · cases h
  · rename_i hp
    split at h
    · split at h
      · cases h
      · rename_i n q h1
        obtain ⟨u1, u2, u3, u4⟩ := unitP_ok h1
        cases h
        simp only at u1 u2 u3 u4
        have := (rune_len n).2
        exact ⟨⟨n, u1, rfl⟩, by simp only; omega, u3⟩
    · split at h
      · cases h
      · rename_i c hc
        cases h
        have : c.toNat < 128 := by
          unfold shortR at hc
          repeat' split at hc
          all_goals first | (cases hc; done) | (injection hc with hc; subst hc; decide)
        refine ⟨⟨c.toNat, .inl (by omega), ?_⟩, by simp, by simp only; omega⟩
        rw [rune_ascii this]
        simp
theorem jtextL_ok : ∀ {k p : Nat} {acc : Bs} {a : Bs × Nat}, jtextL s k acc p = .ok a → p ≤ s.size → (∃ cs, (∀ c ∈ cs, IsRune c) ∧ acc = flatR cs) →
    (∃ cs, (∀ c ∈ cs, IsRune c) ∧ a.1 = flatR cs) ∧ a.1.length + p + 1 ≤ acc.length + a.2 ∧ a.2 ≤ s.size
  | 0, p, acc, a, h, _, _ => by rw [jtextL] at h; cases h
  | k + 1, p, acc, a, h, hp, hc => by
    have snoc : ∀ {c : Nat}, IsRune c → ∃ cs, (∀ c ∈ cs, IsRune c) ∧ acc ++ Lib.encodeRune c = flatR cs := by
      obtain ⟨cs, h1, h2⟩ := hc
      intro c h3
      refine ⟨cs ++ [c], ?_, ?_⟩
      · intro x hx
        rcases List.mem_append.1 hx with hx | hx
        · exact h1 x hx
        · rw [List.mem_singleton.1 hx]; exact h3
      · rw [h2, flatR_append]; simp [flatR]
    rw [jtextL] at h
    split at h
    · rename_i h34
      cases h
      have : p < s.size := by
        by_cases hh : p < s.size
        · exact hh
        · rw [nowP_end hh] at h34; exact absurd h34 (by decide)
      exact ⟨hc, by simp only; omega, this⟩
    · split at h
      · cases h
      · rename_i hlt
        have hlt : p < s.size := Classical.byContradiction fun hx => hlt (.inl hx)
        split at h
        · split at h
          · cases h
          · rename_i l q he
            obtain ⟨⟨c, c1, c2⟩, e2, e3⟩ := escP_ok he
            simp only at c2 e2 e3
            subst c2
            obtain ⟨r1, r2, r3⟩ := jtextL_ok h e3 (snoc c1)
            rw [List.length_append] at r2
            exact ⟨r1, by omega, r3⟩
        · split at h
          · cases h
          · rename_i hv
            have hne : s.toList.drop p ≠ [] := by
              intro e
              have := congrArg List.length e
              rw [List.length_drop, size_toList] at this
              simp at this
              omega
            have hle := Lib.decodeL_le _ hne
            have hen := Lib.encode_decode _ hne hv
            rw [List.length_drop, size_toList] at hle
            obtain ⟨r1, r2, r3⟩ := jtextL_ok h (by show p + (Lib.decodeL (s.toList.drop p)).2 ≤ _; omega) (snoc (decode_is hv))
            rw [List.length_append, hen, List.length_take, List.length_drop, size_toList] at r2
            exact ⟨r1, by have : (decAt s p).2 = (Lib.decodeL (s.toList.drop p)).2 := rfl; omega, r3⟩
theorem mustP_ok : ∀ {l : Bs} {p q : Nat}, mustP s l p = .ok q → q = p + l.length ∧ (p ≤ s.size → q ≤ s.size)
  | [], p, q, h => by rw [mustP] at h; cases h; exact ⟨rfl, id⟩
  | c :: l, p, q, h => by
    rw [mustP] at h
    split at h
    · rename_i h1
      obtain ⟨e1, e2⟩ := mustP_ok h
      exact ⟨by simp; omega, fun _ => e2 h1.1⟩
    · cases h
theorem jtextP_ok {p : Nat} {a : Bs × Nat} (h : jtextP s p = .ok a) (hp : p ≤ s.size) : Lib.validD a.1 = true ∧ p + a.1.length + 2 ≤ a.2 ∧ a.2 ≤ s.size := by
  unfold jtextP at h
  split at h
  · cases h
  · rename_i q hq
    obtain ⟨e1, e2⟩ := mustP_ok hq
    obtain ⟨⟨cs, c1, c2⟩, r2, r3⟩ := jtextL_ok h (e2 hp) ⟨[], by simp, by simp [flatR]⟩
    simp at e1 r2
    exact ⟨by rw [c2]; exact flat_valid cs c1, by omega, r3⟩
end
end Go.Proofs.YtnaefnojmiolbaaGreatDoor

namespace Go.Proofs.YtnaefnojmiolbaaGreatDoor
open Go.RowKit Go.Shelf

/-- What the writer's walks need of the listed variables. -/
structure TabsJ (w : World) : Prop where
  tab : Tabs w
  brn : w.cell? ⟨7, 15, none⟩ = some (.int .u8 4)
theorem TabsJ.mono {w w' : World} (h : TabsJ w) (hb : Below w.heap.size w w') : TabsJ w' := ⟨h.tab.mono hb, (hb.cell (cell_lt h.brn)).trans h.brn⟩
/-- Hexadecimal digits, none too many. -/
def hexS (n : Nat) : Bs := if n < 16 then [hexD n] else if n < 256 then [hexD (n / 16), hexD (n % 16)] else if n < 4096 then [hexD (n / 256), hexD (n / 16 % 16), hexD (n % 16)] else hex4 n
theorem hexD_zero : hexD 0 = 48 := by decide
theorem hexS_pad {n : Nat} (h : n < 65536) : List.replicate (4 - (hexS n).length) 48 ++ hexS n = hex4 n := by
  unfold hexS hex4
  by_cases h1 : n < 16
  · rw [if_pos h1, show n / 4096 % 16 = 0 by omega, show n / 256 % 16 = 0 by omega, show n / 16 % 16 = 0 by omega, show n % 16 = n by omega, hexD_zero]
    rfl
  rw [if_neg h1]
  by_cases h2 : n < 256
  · rw [if_pos h2, show n / 4096 % 16 = 0 by omega, show n / 256 % 16 = 0 by omega, show n / 16 % 16 = n / 16 by omega, hexD_zero]
    rfl
  rw [if_neg h2]
  by_cases h3 : n < 4096
  · rw [if_pos h3, show n / 4096 % 16 = 0 by omega, show n / 256 % 16 = n / 256 by omega, hexD_zero]
    rfl
  rw [if_neg h3]
  rfl
theorem hexS_len (n : Nat) : 1 ≤ (hexS n).length ∧ (hexS n).length ≤ 4 := by
  unfold hexS hex4
  repeat' split
  all_goals simp
theorem pow2_any (w : World) : Calls Tryz.prog 168 #[.int .i64 16] w fun e w' => e = .returned (.bool true) ∧ w' = w := by
  go_enter Tryz.func168, Tryz.ntmps168
  go_wp2_with fail
  go_ret
  exact ⟨rfl, rfl⟩
theorem tz64_any (w : World) (hc : w.cell? ⟨7, 15, none⟩ = some (.int .u8 4)) : Calls Tryz.prog 177 #[.int .u64 16] w fun e w' => e = .returned (.int .i64 4) ∧ w' = w := by
  have h1 : bits .and .u64 16 (IntKind.u64.wrap (-16)) = 16 := by decide
  have h2 : IntKind.u64.wrap (16 * 285870213051353865) = 4573923408821661840 := by decide
  have h3 : (4573923408821661840 : Int) / 288230376151711744 = 15 := by decide
  go_enter Tryz.func177, Tryz.ntmps177
  go_wp2_with fail
  go_ret
  exact ⟨rfl, rfl⟩
theorem tz_any (w : World) (hc : w.cell? ⟨7, 15, none⟩ = some (.int .u8 4)) : Calls Tryz.prog 169 #[.int .u64 16] w fun e w' => e = .returned (.int .i64 4) ∧ w' = w := by
  go_enter Tryz.func169, Tryz.ntmps169
  go_wp2_with fail
  refine (tz64_any w hc).mono ?_
  rintro _ _ ⟨rfl, rfl⟩
  go_wp2_with fail
  go_ret
  exact ⟨rfl, rfl⟩


theorem hex_digs : ∀ n : Fin 16, (⟨#[48, 49, 50, 51, 52, 53, 54, 55, 56, 57, 97, 98, 99, 100, 101, 102, 103, 104, 105, 106, 107, 108, 109, 110, 111, 112, 113, 114, 115, 116, 117, 118, 119, 120, 121, 122]⟩ : ByteArray)[n.val]'(by have := n.isLt; show n.val < 36; omega) = hexD n.val := by decide +kernel
theorem hex_dig {m : Nat} (h : m < 16) (h2 : m < (⟨#[48, 49, 50, 51, 52, 53, 54, 55, 56, 57, 97, 98, 99, 100, 101, 102, 103, 104, 105, 106, 107, 108, 109, 110, 111, 112, 113, 114, 115, 116, 117, 118, 119, 120, 121, 122]⟩ : ByteArray).size) : (⟨#[48, 49, 50, 51, 52, 53, 54, 55, 56, 57, 97, 98, 99, 100, 101, 102, 103, 104, 105, 106, 107, 108, 109, 110, 111, 112, 113, 114, 115, 116, 117, 118, 119, 120, 121, 122]⟩ : ByteArray)[m]'h2 = hexD m := hex_digs ⟨m, h⟩
theorem and15 {n m : Nat} (h : n < 65536) (hm : m = n % 16) : bits .and .u64 (n : Int) 15 = (m : Int) := by
  have h := bits_mask .u64 64 (by decide) wraps_u64 4 (by decide) (n : Int) (by omega) (by omega)
  have h : bits .and .u64 (n : Int) 15 = (n : Int) % 16 := h
  rw [h]
  omega
theorem zero199 : Tryz.zeroCells199.size = 65 ∧ ∀ i, i < 65 → Tryz.zeroCells199[i]? = some (.int .u8 0) := by
  have e : Tryz.zeroCells199 = Array.replicate 65 (.int .u8 0) := by kernel_rfl
  rw [e]
  exact ⟨by simp, fun i hi => by simp [hi]⟩
/-- The bytes behind a place of a block are a text. -/
theorem conv_back (w : World) (cs : Array Value) (k : Nat) (l : Bs) (h : ∀ (j : Nat) (hj : j < l.length), cs[k + j]? = some (.int .u8 (l[j]).toNat)) (cap : Nat) :
    (convert 54 9 (.slice (some ⟨w.heap.size, k, none⟩) l.length cap)).run Tryz.prog (w.alloc (.cells cs 199)) = .ok (.string ⟨l.toArray⟩) (w.alloc (.cells cs 199)) :=
  run_convert_bytes_back (P := Tryz.prog) (w.alloc (.cells cs 199)) 54 9 5 ⟨w.heap.size, k, none⟩ cap l Tryz.underlying54 Tryz.underlying5 Tryz.underlying9 (fun j hj => by
    rw [Lib.add_plain, cell_blk (heap_alloc_new w (.cells cs 199)) (k + j)]
    exact h j hj)
set_option maxHeartbeats 6400000 in
set_option maxRecDepth 100000 in
theorem fbits_any (n : Nat) (hn : n < 65536) (w : World) (hc : w.cell? ⟨7, 15, none⟩ = some (.int .u8 4)) : Calls Tryz.prog 149 #[.slice none 0 0, .int .u64 n, .int .i64 16, .bool false, .bool false] w fun e w' => e = .returned (.tuple #[.slice none 0 0, .string (str (hexS n))]) ∧ Below w.heap.size w w' := by
  have HC : Hid (∀ o, (w.alloc o).cell? ⟨7, 15, none⟩ = some (.int .u8 4)) := Lib.hid (fun o => (below_alloc1 w o).cell (cell_lt hc) |>.trans hc)
  obtain ⟨m0, hm0⟩ : ∃ m, m = n % 16 := ⟨_, rfl⟩
  obtain ⟨q1, hq1⟩ : ∃ q, q = n / 16 := ⟨_, rfl⟩
  obtain ⟨m1, hm1⟩ : ∃ m, m = q1 % 16 := ⟨_, rfl⟩
  obtain ⟨q2, hq2⟩ : ∃ q, q = q1 / 16 := ⟨_, rfl⟩
  obtain ⟨m2, hm2⟩ : ∃ m, m = q2 % 16 := ⟨_, rfl⟩
  obtain ⟨q3, hq3⟩ : ∃ q, q = q2 / 16 := ⟨_, rfl⟩
  by_cases c0 : n < 16
  · have hS : hexS n = [hexD n] := by
      unfold hexS; rw [if_pos c0]
    obtain ⟨zs, zv⟩ := zero199
    have hcv := conv_back w (Tryz.zeroCells199.setIfInBounds 64 (.int .u8 (hexD n).toNat)) 64 [hexD n] (fun j hj => by
      have hj : j < 1 := hj
      match j, hj with
      | 0, _ => simp [zs]
      ) 1
    rw [← hS] at hcv
    have hcv : (convert 54 9 (.slice (some ⟨w.heap.size, 64, none⟩) 1 1)).run Tryz.prog (w.alloc (.cells (Tryz.zeroCells199.setIfInBounds 64 (.int .u8 (hexD n).toNat)) 199)) = .ok (.string (str (hexS n))) (w.alloc (.cells (Tryz.zeroCells199.setIfInBounds 64 (.int .u8 (hexD n).toNat)) 199)) := by
      rw [hS] at hcv ⊢; exact hcv
    have d0 : (16 ≤ n) = False := by simp; omega
    have g0 := fun h => hex_dig (m := n) (by omega) h
    have b0 : n < 36 := by omega
    have e0 : n < 16 := by omega
    have HBW : Hid (∀ o, Below w.heap.size w (w.alloc o)) := Lib.hid (fun o => below_alloc1 w o)
    clear hS zs zv hc hn hm0 hm1 hm2 hq1 hq2 hq3
    go_enter Tryz.func149, Tryz.ntmps149
    go_wp2_with fail
    refine (pow2_any _).mono ?_
    rintro _ _ ⟨rfl, rfl⟩
    go_wp2_with fail
    refine (tz_any _ (HC.out _)).mono ?_
    rintro _ _ ⟨rfl, rfl⟩
    go_wp2_with fail
    refine wp_loop_rounds 1 ?_
    rw [rounds_succ]
    go_wp2_with fail
    go_ret2
    exact ⟨rfl, HBW.out _⟩
  by_cases c1 : q1 < 16
  · have hS : hexS n = [hexD q1, hexD m0] := by
      unfold hexS; rw [if_neg c0, if_pos (by omega), hq1, hm0]
    obtain ⟨zs, zv⟩ := zero199
    have hcv := conv_back w ((Tryz.zeroCells199.setIfInBounds 64 (.int .u8 (hexD m0).toNat)).setIfInBounds 63 (.int .u8 (hexD q1).toNat)) 63 [hexD q1, hexD m0] (fun j hj => by
      have hj : j < 2 := hj
      match j, hj with
      | 0, _ => simp [zs]
      | 1, _ => simp [zs]
      ) 2
    rw [← hS] at hcv
    have hcv : (convert 54 9 (.slice (some ⟨w.heap.size, 63, none⟩) 2 2)).run Tryz.prog (w.alloc (.cells ((Tryz.zeroCells199.setIfInBounds 64 (.int .u8 (hexD m0).toNat)).setIfInBounds 63 (.int .u8 (hexD q1).toNat)) 199)) = .ok (.string (str (hexS n))) (w.alloc (.cells ((Tryz.zeroCells199.setIfInBounds 64 (.int .u8 (hexD m0).toNat)).setIfInBounds 63 (.int .u8 (hexD q1).toNat)) 199)) := by
      rw [hS] at hcv ⊢; exact hcv
    have d0 : (16 ≤ n) = True := by simp; omega
    have a0 := and15 (n := n) (m := m0) (by omega) hm0
    have g0 := fun h => hex_dig (m := m0) (by omega) h
    have s0 : (n : Int) / 16 = (q1 : Int) := by omega
    have b0 : m0 < 36 := by omega
    have d1 : (16 ≤ q1) = False := by simp; omega
    have g1 := fun h => hex_dig (m := q1) (by omega) h
    have b1 : q1 < 36 := by omega
    have e1 : q1 < 16 := by omega
    have HBW : Hid (∀ o, Below w.heap.size w (w.alloc o)) := Lib.hid (fun o => below_alloc1 w o)
    clear hS zs zv hc hn hm0 hm1 hm2 hq1 hq2 hq3
    go_enter Tryz.func149, Tryz.ntmps149
    go_wp2_with fail
    refine (pow2_any _).mono ?_
    rintro _ _ ⟨rfl, rfl⟩
    go_wp2_with fail
    refine (tz_any _ (HC.out _)).mono ?_
    rintro _ _ ⟨rfl, rfl⟩
    go_wp2_with fail
    refine wp_loop_rounds 2 ?_
    rw [rounds_succ]
    go_wp2_with fail
    rw [rounds_succ]
    go_wp2_with fail
    go_ret2
    exact ⟨rfl, HBW.out _⟩
  by_cases c2 : q2 < 16
  · have hS : hexS n = [hexD q2, hexD m1, hexD m0] := by
      unfold hexS; rw [if_neg c0, if_neg (by omega), if_pos (by omega), hq2, hm1, hm0, hq1, show n / 256 = n / 16 / 16 by omega]
    obtain ⟨zs, zv⟩ := zero199
    have hcv := conv_back w (((Tryz.zeroCells199.setIfInBounds 64 (.int .u8 (hexD m0).toNat)).setIfInBounds 63 (.int .u8 (hexD m1).toNat)).setIfInBounds 62 (.int .u8 (hexD q2).toNat)) 62 [hexD q2, hexD m1, hexD m0] (fun j hj => by
      have hj : j < 3 := hj
      match j, hj with
      | 0, _ => simp [zs]
      | 1, _ => simp [zs]
      | 2, _ => simp [zs]
      ) 3
    rw [← hS] at hcv
    have hcv : (convert 54 9 (.slice (some ⟨w.heap.size, 62, none⟩) 3 3)).run Tryz.prog (w.alloc (.cells (((Tryz.zeroCells199.setIfInBounds 64 (.int .u8 (hexD m0).toNat)).setIfInBounds 63 (.int .u8 (hexD m1).toNat)).setIfInBounds 62 (.int .u8 (hexD q2).toNat)) 199)) = .ok (.string (str (hexS n))) (w.alloc (.cells (((Tryz.zeroCells199.setIfInBounds 64 (.int .u8 (hexD m0).toNat)).setIfInBounds 63 (.int .u8 (hexD m1).toNat)).setIfInBounds 62 (.int .u8 (hexD q2).toNat)) 199)) := by
      rw [hS] at hcv ⊢; exact hcv
    have d0 : (16 ≤ n) = True := by simp; omega
    have a0 := and15 (n := n) (m := m0) (by omega) hm0
    have g0 := fun h => hex_dig (m := m0) (by omega) h
    have s0 : (n : Int) / 16 = (q1 : Int) := by omega
    have b0 : m0 < 36 := by omega
    have d1 : (16 ≤ q1) = True := by simp; omega
    have a1 := and15 (n := q1) (m := m1) (by omega) hm1
    have g1 := fun h => hex_dig (m := m1) (by omega) h
    have s1 : (q1 : Int) / 16 = (q2 : Int) := by omega
    have b1 : m1 < 36 := by omega
    have d2 : (16 ≤ q2) = False := by simp; omega
    have g2 := fun h => hex_dig (m := q2) (by omega) h
    have b2 : q2 < 36 := by omega
    have e2 : q2 < 16 := by omega
    have HBW : Hid (∀ o, Below w.heap.size w (w.alloc o)) := Lib.hid (fun o => below_alloc1 w o)
    clear hS zs zv hc hn hm0 hm1 hm2 hq1 hq2 hq3
    go_enter Tryz.func149, Tryz.ntmps149
    go_wp2_with fail
    refine (pow2_any _).mono ?_
    rintro _ _ ⟨rfl, rfl⟩
    go_wp2_with fail
    refine (tz_any _ (HC.out _)).mono ?_
    rintro _ _ ⟨rfl, rfl⟩
    go_wp2_with fail
    refine wp_loop_rounds 3 ?_
    rw [rounds_succ]
    go_wp2_with fail
    rw [rounds_succ]
    go_wp2_with fail
    rw [rounds_succ]
    go_wp2_with fail
    go_ret2
    exact ⟨rfl, HBW.out _⟩
  · have hS : hexS n = [hexD q3, hexD m2, hexD m1, hexD m0] := by
      unfold hexS hex4; rw [if_neg c0, if_neg (by omega), if_neg (by omega), hq3, hm2, hm1, hm0, hq2, hq1, show n / 4096 % 16 = n / 16 / 16 / 16 by omega, show n / 256 % 16 = n / 16 / 16 % 16 by omega]
    obtain ⟨zs, zv⟩ := zero199
    have hcv := conv_back w ((((Tryz.zeroCells199.setIfInBounds 64 (.int .u8 (hexD m0).toNat)).setIfInBounds 63 (.int .u8 (hexD m1).toNat)).setIfInBounds 62 (.int .u8 (hexD m2).toNat)).setIfInBounds 61 (.int .u8 (hexD q3).toNat)) 61 [hexD q3, hexD m2, hexD m1, hexD m0] (fun j hj => by
      have hj : j < 4 := hj
      match j, hj with
      | 0, _ => simp [zs]
      | 1, _ => simp [zs]
      | 2, _ => simp [zs]
      | 3, _ => simp [zs]
      ) 4
    rw [← hS] at hcv
    have hcv : (convert 54 9 (.slice (some ⟨w.heap.size, 61, none⟩) 4 4)).run Tryz.prog (w.alloc (.cells ((((Tryz.zeroCells199.setIfInBounds 64 (.int .u8 (hexD m0).toNat)).setIfInBounds 63 (.int .u8 (hexD m1).toNat)).setIfInBounds 62 (.int .u8 (hexD m2).toNat)).setIfInBounds 61 (.int .u8 (hexD q3).toNat)) 199)) = .ok (.string (str (hexS n))) (w.alloc (.cells ((((Tryz.zeroCells199.setIfInBounds 64 (.int .u8 (hexD m0).toNat)).setIfInBounds 63 (.int .u8 (hexD m1).toNat)).setIfInBounds 62 (.int .u8 (hexD m2).toNat)).setIfInBounds 61 (.int .u8 (hexD q3).toNat)) 199)) := by
      rw [hS] at hcv ⊢; exact hcv
    have d0 : (16 ≤ n) = True := by simp; omega
    have a0 := and15 (n := n) (m := m0) (by omega) hm0
    have g0 := fun h => hex_dig (m := m0) (by omega) h
    have s0 : (n : Int) / 16 = (q1 : Int) := by omega
    have b0 : m0 < 36 := by omega
    have d1 : (16 ≤ q1) = True := by simp; omega
    have a1 := and15 (n := q1) (m := m1) (by omega) hm1
    have g1 := fun h => hex_dig (m := m1) (by omega) h
    have s1 : (q1 : Int) / 16 = (q2 : Int) := by omega
    have b1 : m1 < 36 := by omega
    have d2 : (16 ≤ q2) = True := by simp; omega
    have a2 := and15 (n := q2) (m := m2) (by omega) hm2
    have g2 := fun h => hex_dig (m := m2) (by omega) h
    have s2 : (q2 : Int) / 16 = (q3 : Int) := by omega
    have b2 : m2 < 36 := by omega
    have d3 : (16 ≤ q3) = False := by simp; omega
    have g3 := fun h => hex_dig (m := q3) (by omega) h
    have b3 : q3 < 36 := by omega
    have e3 : q3 < 16 := by omega
    have HBW : Hid (∀ o, Below w.heap.size w (w.alloc o)) := Lib.hid (fun o => below_alloc1 w o)
    clear hS zs zv hc hn hm0 hm1 hm2 hq1 hq2 hq3
    go_enter Tryz.func149, Tryz.ntmps149
    go_wp2_with fail
    refine (pow2_any _).mono ?_
    rintro _ _ ⟨rfl, rfl⟩
    go_wp2_with fail
    refine (tz_any _ (HC.out _)).mono ?_
    rintro _ _ ⟨rfl, rfl⟩
    go_wp2_with fail
    refine wp_loop_rounds 4 ?_
    rw [rounds_succ]
    go_wp2_with fail
    rw [rounds_succ]
    go_wp2_with fail
    rw [rounds_succ]
    go_wp2_with fail
    rw [rounds_succ]
    go_wp2_with fail
    go_ret2
    exact ⟨rfl, HBW.out _⟩
theorem fint0_any (n : Nat) (hn : n < 65536) (w : World) (hc : w.cell? ⟨7, 15, none⟩ = some (.int .u8 4)) : Calls Tryz.prog 122 #[.int .i64 n, .int .i64 16] w fun e w' => e = .returned (.string (str (hexS n))) ∧ Below w.heap.size w w' := by
  have HF := fbits_any n hn w hc
  have h0 : decide ((n : Int) < 0) = false := by simp
  have hw : IntKind.u64.wrap (n : Int) = n := wraps_u64 n (by omega) (by omega)
  clear hc hn
  go_enter Tryz.func122, Tryz.ntmps122
  go_wp2_with fail
  refine HF.mono ?_
  rintro _ w1 ⟨rfl, hb⟩
  go_wp2_with fail
  go_ret
  exact ⟨rfl, hb⟩
theorem fint_any (n : Nat) (hn : n < 65536) (w : World) (hc : w.cell? ⟨7, 15, none⟩ = some (.int .u8 4)) : Calls Tryz.prog 124 #[.int .i64 n, .int .i64 16] w fun e w' => e = .returned (.string (str (hexS n))) ∧ Below w.heap.size w w' := by
  have HF := fint0_any n hn w hc
  clear hc hn
  go_enter Tryz.func124, Tryz.ntmps124
  go_wp2_with fail
  refine HF.mono ?_
  rintro _ w1 ⟨rfl, hb⟩
  go_wp2_with fail
  go_ret
  exact ⟨rfl, hb⟩
/-- Noughts ahead. -/
theorem rep_any (k : Nat) (hk : k ≤ 3) (w : World) : Calls Tryz.prog 108 #[.string ⟨#[48]⟩, .int .i64 k] w fun e w' => e = .returned (.string (str (List.replicate k 48))) ∧ Below w.heap.size w w' := by
  have h := Tryz.strings_Repeat ⟨#[48]⟩ k w (by omega) (by show 1 * k ≤ _; omega)
  have e : Lib.repeatL (⟨#[48]⟩ : ByteArray).data.toList k = List.replicate k 48 := by
    match k, hk with
    | 0, _ => rfl
    | 1, _ => rfl
    | 2, _ => rfl
    | 3, _ => rfl
  rw [e] at h
  exact h
theorem app_list (a b : ByteArray) : (a ++ b).toList = a.toList ++ b.toList := by rw [ByteArray.toList_eq, ByteArray.data_append, Array.toList_append, ← ByteArray.toList_eq, ← ByteArray.toList_eq]
/-- A writer's builder: what lies below it is as it was. -/
structure WJB (w0 : World) (b : Nat) (w : World) (l : Bs) : Prop where
  tab : TabsJ w0
  hb : w0.heap.size ≤ b
  bel : Below w0.heap.size w0 w
  bb : BB w b l
theorem WJB.tabs {w0 w : World} {b : Nat} {l : Bs} (h : WJB w0 b w l) : TabsJ w := h.tab.mono h.bel
theorem WJB.under {w0 w w' : World} {b : Nat} {l : Bs} (h : WJB w0 b w l) (hb : Below w.heap.size w w') : WJB w0 b w' l := ⟨h.tab, h.hb, h.bel.trans (hb.mono h.bel.size), h.bb.below hb⟩
theorem WJB.kw {w0 w w' : World} {b : Nat} {l l' : Bs} (h : WJB w0 b w l) (hk : KW b w w') (hb : BB w' b l') : WJB w0 b w' l' := ⟨h.tab, h.hb, h.bel.trans (hk.belowB (fun k hk x => by have := x.1; have := h.hb; omega) h.bel.size), hb⟩
/-- What a call that writes leaves. -/
def WJP (w0 : World) (b : Nat) (w : World) (l : Bs) (r : Value) (e : Ending) (w' : World) : Prop := e = .returned r ∧ WJB w0 b w' l ∧ KW b w w'
theorem WJB.str {w0 w : World} {b : Nat} {l : Bs} (h : WJB w0 b w l) (s : ByteArray) (hs : s.toList ≠ []) (hl : l.length + s.size ≤ 140737488355328) : Calls Tryz.prog 54 #[.pointer (some ⟨b, 0, none⟩), .string s] w (WJP w0 b w (l ++ s.toList) (.tuple #[.int .i64 s.size, .nilIface])) :=
  (wstrB h.bb s hs hl).mono fun _ _ ⟨h1, h2, h3⟩ => ⟨h1, h.kw h3 h2, h3⟩
theorem WJB.rune {w0 w : World} {b : Nat} {l : Bs} (h : WJB w0 b w l) (r : Int) (h0 : -2147483648 ≤ r) (h1 : r ≤ 2147483647) (hl : l.length ≤ 140737488351232) : Calls Tryz.prog 91 #[.pointer (some ⟨b, 0, none⟩), .int .i32 r] w (WJP w0 b w (l ++ Lib.encodeRune r) (.tuple #[.int .i64 (Lib.encodeRune r).length, .nilIface])) :=
  (wruneB h.bb r h0 h1 hl).mono fun _ _ ⟨h1, h2, h3⟩ => ⟨h1, h.kw h3 h2, h3⟩
theorem WJP.after {w0 w w1 : World} {b : Nat} {l : Bs} {r : Value} {e : Ending} {w' : World} (hk : KW b w w1) (h : WJP w0 b w1 l r e w') : WJP w0 b w l r e w' := ⟨h.1, h.2.1, hk.trans h.2.2⟩
set_option maxHeartbeats 1600000 in
set_option maxRecDepth 100000 in
theorem wunit_any {w0 w : World} {b : Nat} {l : Bs} (h : WJB w0 b w l) (n : Nat) (hn : n < 65536) (hl : l.length ≤ 140737488351232) : Calls Tryz.prog 92 #[.pointer (some ⟨b, 0, none⟩), .int .i32 n] w (WJP w0 b w (l ++ uniB n) (.tuple #[])) := by
  have HF := fint_any n hn w h.tabs.brn
  obtain ⟨k1, k4⟩ := hexS_len n
  obtain ⟨k, hk⟩ : ∃ k, k = 4 - (hexS n).length := ⟨_, rfl⟩
  have hp := hexS_pad hn
  rw [← hk] at hp
  obtain ⟨sx, hsx⟩ : ∃ sx, sx = str (hexS n) := ⟨_, rfl⟩
  have hsz : (sx.size : Int) = 4 - (k : Int) := by rw [hsx, str_size]; omega
  have hsl : sx.toList = hexS n := by rw [hsx, str_toList]
  rw [← hsx] at HF
  rw [← hsl] at hp
  have hw : wrap64 (4 - (4 - (k : Int))) = k := by unfold wrap64; omega
  obtain ⟨hc', hc⟩ := wr_sm (x := (n : Int)) (by omega) (by omega)
  have HP : Hid (∀ (t : ByteArray), t.toList = uniB n → ∀ w1, KW b w w1 → WJB w0 b w1 l → Calls Tryz.prog 54 #[.pointer (some ⟨b, 0, none⟩), .string t] w1 (WJP w0 b w1 (l ++ uniB n) (.tuple #[.int .i64 6, .nilIface]))) := Lib.hid (fun t ht w1 hk hj => by
    have hs : t.size = 6 := by rw [← size_toList, ht]; simp [uniB, hex4]
    have := hj.str t (by rw [ht]; simp [uniB]) (by omega)
    rw [ht, hs] at this
    exact this)
  have HH := Lib.hid (⟨h, hp⟩ : _ ∧ _)
  have hk3 : k ≤ 3 := by omega
  obtain ⟨rx, hrx⟩ : ∃ rx, rx = str (List.replicate k 48) := ⟨_, rfl⟩
  have HRP : ∀ (x : Int), x = (k : Int) → ∀ W, Calls Tryz.prog 108 #[.string ⟨#[48]⟩, .int .i64 x] W fun e w' => e = .returned (.string rx) ∧ Below W.heap.size W w' := fun x hx W => by rw [hx, hrx]; exact rep_any k hk3 W
  have HRX := Lib.hid hrx
  have hr3 : rx.size ≤ 3 := by rw [hrx, str_size, List.length_replicate]; exact hk3
  have hs4 : sx.size ≤ 4 := by omega
  clear h hp hk k1 k4 hn hl hsx hsl hrx
  go_enter Tryz.func92, Tryz.ntmps92
  go_wp2_with fail
  refine HF.mono ?_
  rintro _ w1 ⟨rfl, hb1⟩
  have HJ1 := Lib.hid (HH.out.1.under hb1)
  have HK1 := Lib.hid (KW.of_below (b := b) hb1)
  clear hb1 HF
  go_wp2_with fail
  refine (HRP _ (by omega) _).mono ?_
  rintro _ w2 ⟨rfl, hb2⟩
  have HJ2 := Lib.hid (HJ1.out.under hb2)
  have HK2 := Lib.hid (HK1.out.trans (KW.of_below (b := b) hb2))
  clear hb2 HJ1 HK1
  go_wp2_with fail
  refine (HP.out _ ?_ _ HK2.out HJ2.out).mono ?_
  · rw [app_list, app_list, HRX.out, str_toList, List.append_assoc, HH.out.2, bl_eq]
    rfl
  rintro _ w3 ⟨rfl, hj, hk3'⟩
  go_wp2_with fail
  go_end0
  exact ⟨rfl, hj, HK2.out.trans hk3'⟩
end Go.Proofs.YtnaefnojmiolbaaGreatDoor
