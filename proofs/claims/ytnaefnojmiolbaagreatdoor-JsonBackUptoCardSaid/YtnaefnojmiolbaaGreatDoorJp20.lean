/-
  JSON: what is written of a value, in plain words; what was written is read back. Of no program.
-/
import Derived.Test.YtnaefnojmiolbaaGreatDoorJp17
import Derived.Test.YtnaefnojmiolbaaGreatDoorJp18
import Derived.Test.YtnaefnojmiolbaaGreatDoorJp19
namespace Go.Proofs.YtnaefnojmiolbaaGreatDoor
open Go.RowKit

mutual
/-- Can a value that may be be said? -/
def saidV : VT → Bool
  | .mk k _ t l => (!(decide (k = 5)) && Lib.validD t.toList) && saidL l
def saidL : List (K × VT) → Bool
  | [] => true
  | (q, x) :: r => (Lib.validD q.t.toList && saidV x) && saidL r
end
theorem saidL_cons (x : It) (r : List It) : saidL (x :: r) = ((Lib.validD x.1.t.toList && saidV x.2) && saidL r) := by cases x; rw [saidL]
theorem saidL_iff : ∀ {l : List It}, saidL l = true ↔ ∀ x ∈ l, Lib.validD x.1.t.toList = true ∧ saidV x.2 = true
  | [] => by simp [saidL]
  | x :: r => by rw [saidL_cons, Bool.and_eq_true, Bool.and_eq_true, saidL_iff (l := r)]; simp
/-- Are the keys i, i + 1 and so on? -/
def rowP : Nat → List It → Bool
  | _, [] => true
  | i, x :: r => if x.1.b = true ∨ x.1.n ≠ i then false else rowP (i + 1) r
def keyJ (k : K) : Bs := if k.b = true then k.t.toList else Lib.itoa k.n
/-- What stands ahead of an item. -/
def commaJ (i : Nat) (a : Bs) : Bs := if 0 < i then a ++ [44] else a
def nameJ (plain : Bool) (k : K) (a : Bs) : Bs := if plain = true then a else (a ++ quoteP (keyJ k)) ++ [58]
def openJ (plain : Bool) : UInt8 := if plain = true then 91 else 123
def shutJ (plain : Bool) : UInt8 := if plain = true then 93 else 125
def boolJ (n : Int) : Bs := if n = 1 then [116, 114, 117, 101] else [102, 97, 108, 115, 101]
def leafJ (k n : Int) (t : ByteArray) : Bs := if k = 0 then [110, 117, 108, 108] else if k = 1 then boolJ n else if k = 2 then Lib.itoa n else if k = 3 then quoteP t.toList else []
mutual
/-- What is written behind a text: nothing more where it is too long already. -/
def jpV : VT → Bs → Bs
  | .mk k n t l, a => if 131072 < a.length then a else if k = 4 then jpL (rowP 0 l) 0 l (a ++ [openJ (rowP 0 l)]) ++ [shutJ (rowP 0 l)] else a ++ leafJ k n t
def jpL (plain : Bool) : Nat → List (K × VT) → Bs → Bs
  | _, [], a => a
  | i, (q, x) :: r, a => jpL plain (i + 1) r (jpV x (nameJ plain q (commaJ i a)))
end
mutual
/-- A value's whole text. -/
def jtV : VT → Bs
  | .mk k n t l => if k = 4 then openJ (rowP 0 l) :: (jtL (rowP 0 l) 0 l ++ [shutJ (rowP 0 l)]) else leafJ k n t
def jtL (plain : Bool) : Nat → List (K × VT) → Bs
  | _, [] => []
  | i, (q, x) :: r => nameJ plain q (commaJ i []) ++ (jtV x ++ jtL plain (i + 1) r)
end
theorem jpL_cons (p : Bool) (i : Nat) (x : It) (r : List It) (a : Bs) : jpL p i (x :: r) a = jpL p (i + 1) r (jpV x.2 (nameJ p x.1 (commaJ i a))) := by cases x; rw [jpL]
theorem jtL_cons (p : Bool) (i : Nat) (x : It) (r : List It) : jtL p i (x :: r) = nameJ p x.1 (commaJ i []) ++ (jtV x.2 ++ jtL p (i + 1) r) := by cases x; rw [jtL]
theorem lead_app (p : Bool) (q : K) (i : Nat) (a : Bs) : nameJ p q (commaJ i a) = a ++ nameJ p q (commaJ i []) := by
  unfold nameJ commaJ
  split <;> split <;> simp
/-- What was written stays. -/
theorem jp_adds (v : VT) : ∀ a, ∃ u, jpV v a = a ++ u := by
  refine VT.ind (P := fun v => ∀ a, ∃ u, jpV v a = a ++ u) ?_ v
  intro k n t l ih a
  have hl : ∀ (r : List It), (∀ x ∈ r, x ∈ l) → ∀ p i a, ∃ u, jpL p i r a = a ++ u := by
    intro r
    induction r with
    | nil => intro _ p i a; exact ⟨[], by rw [jpL]; simp⟩
    | cons x r ihr =>
      intro hr p i a
      obtain ⟨u, hu⟩ := ih x (hr x (by simp)) (nameJ p x.1 (commaJ i a))
      obtain ⟨u2, hu2⟩ := ihr (fun y hy => hr y (by simp [hy])) p (i + 1) (jpV x.2 (nameJ p x.1 (commaJ i a)))
      rw [jpL_cons, hu2, hu, lead_app]
      exact ⟨nameJ p x.1 (commaJ i []) ++ (u ++ u2), by simp⟩
  rw [jpV]
  split
  · exact ⟨[], by simp⟩
  · split
    · obtain ⟨u, hu⟩ := hl l (fun _ h => h) (rowP 0 l) 0 (a ++ [openJ (rowP 0 l)])
      rw [hu]
      exact ⟨openJ (rowP 0 l) :: (u ++ [shutJ (rowP 0 l)]), by simp⟩
    · exact ⟨_, rfl⟩
theorem jpL_adds : ∀ (r : List It) (p : Bool) (i : Nat) (a : Bs), ∃ u, jpL p i r a = a ++ u
  | [], p, i, a => ⟨[], by rw [jpL]; simp⟩
  | x :: r, p, i, a => by
    obtain ⟨u, hu⟩ := jp_adds x.2 (nameJ p x.1 (commaJ i a))
    obtain ⟨u2, hu2⟩ := jpL_adds r p (i + 1) (jpV x.2 (nameJ p x.1 (commaJ i a)))
    rw [jpL_cons, hu2, hu, lead_app]
    exact ⟨nameJ p x.1 (commaJ i []) ++ (u ++ u2), by simp⟩
theorem jpL_mono (r : List It) (p : Bool) (i : Nat) (a : Bs) : a.length ≤ (jpL p i r a).length := by
  obtain ⟨u, hu⟩ := jpL_adds r p i a
  rw [hu, List.length_append]; omega
theorem jpV_mono (v : VT) (a : Bs) : a.length ≤ (jpV v a).length := by
  obtain ⟨u, hu⟩ := jp_adds v a
  rw [hu, List.length_append]; omega
/-- What is not too long is the whole. -/
theorem jp_whole (v : VT) : ∀ a, (jpV v a).length ≤ 131072 → jpV v a = a ++ jtV v := by
  refine VT.ind (P := fun v => ∀ a, (jpV v a).length ≤ 131072 → jpV v a = a ++ jtV v) ?_ v
  intro k n t l ih a h
  have hl : ∀ (r : List It), (∀ x ∈ r, x ∈ l) → ∀ p i a, (jpL p i r a).length ≤ 131072 → jpL p i r a = a ++ jtL p i r := by
    intro r
    induction r with
    | nil => intro _ p i a _; rw [jpL, jtL]; simp
    | cons x r ihr =>
      intro hr p i a h
      rw [jpL_cons] at h ⊢
      have h1 := jpL_mono r p (i + 1) (jpV x.2 (nameJ p x.1 (commaJ i a)))
      rw [ihr (fun y hy => hr y (by simp [hy])) p (i + 1) _ h, ih x (hr x (by simp)) _ (by omega), jtL_cons, lead_app]
      simp
  rw [jpV] at h ⊢
  rw [jtV]
  split at h
  · rename_i hc; omega
  · rename_i hc
    rw [if_neg hc]
    split at h
    · rename_i h4
      rw [if_pos h4, if_pos h4]
      rw [List.length_append] at h
      rw [hl l (fun _ h => h) _ 0 _ (by omega)]
      simp
    · rename_i h4
      rw [if_neg h4, if_neg h4]
/-- A whole that is not too long is what is written. -/
theorem jp_short (v : VT) : ∀ a, (a ++ jtV v).length ≤ 131072 → jpV v a = a ++ jtV v := by
  refine VT.ind (P := fun v => ∀ a, (a ++ jtV v).length ≤ 131072 → jpV v a = a ++ jtV v) ?_ v
  intro k n t l ih a h
  have hl : ∀ (r : List It), (∀ x ∈ r, x ∈ l) → ∀ p i a, (a ++ jtL p i r).length ≤ 131072 → jpL p i r a = a ++ jtL p i r := by
    intro r
    induction r with
    | nil => intro _ p i a _; rw [jpL, jtL]; simp
    | cons x r ihr =>
      intro hr p i a h
      rw [jtL_cons] at h ⊢
      simp only [List.length_append] at h
      rw [jpL_cons, lead_app, ih x (hr x (by simp)) _ (by simp only [List.length_append]; omega), ihr (fun y hy => hr y (by simp [hy])) p (i + 1) _ (by simp only [List.length_append]; omega)]
      simp
  have h0 : ¬ 131072 < a.length := by rw [List.length_append] at h; omega
  rw [jpV, if_neg h0]
  rw [jtV] at h ⊢
  split at h
  · rename_i h4
    rw [if_pos h4, if_pos h4, hl l (fun _ h => h) _ 0 _ (by simp only [List.length_append, List.length_cons, List.length_nil] at h ⊢; omega)]
    simp
  · rename_i h4
    rw [if_neg h4, if_neg h4]

/-! What was written is read back. -/
theorem itemsL_all {n d : Int} : ∀ {l : List It} {met : List K}, itemsL n d met l = true → ∀ x ∈ l, mayV x.2 (d + 1) = true ∧ (x.1.b = false → 0 ≤ n → x.1.n < n)
  | [], _, _ => fun x hx => by cases hx
  | y :: l, met, h => by
    rw [itemsL_at] at h
    simp only [Bool.and_eq_true, Bool.not_eq_true'] at h
    obtain ⟨⟨-, b⟩, c, e⟩ := h
    intro x hx
    rcases List.mem_cons.1 hx with rfl | hx
    · refine ⟨b, fun h1 h2 => ?_⟩
      rw [h1] at c
      simp at c
      exact c h2
    · exact itemsL_all e x hx
/-- No key's text in a value is long. -/
inductive KSm : VT → Prop
  | mk (k n : Int) (t : ByteArray) (l : List It) (h : ∀ x ∈ l, x.1.t.size ≤ 1073741824) (hs : ∀ x ∈ l, KSm x.2) : KSm (.mk k n t l)
def GoodS (v : VT) : Prop := v.Good ∧ KSm v
/-- A value that may be, and can be said, within so many lists. -/
inductive JW : Nat → VT → Prop
  | nul (d : Nat) : JW d (.mk 0 0 ⟨#[]⟩ [])
  | bool (d : Nat) (n : Int) (h : n = 0 ∨ n = 1) : JW d (.mk 1 n ⟨#[]⟩ [])
  | int (d : Nat) (n : Int) (h0 : -9223372036854775808 ≤ n) (h1 : n ≤ 9223372036854775807) : JW d (.mk 2 n ⟨#[]⟩ [])
  | text (d : Nat) (t : ByteArray) (hv : Lib.validD t.toList = true) (hz : t.size ≤ 65536) : JW d (.mk 3 0 t [])
  | list (d : Nat) (n : Int) (l : List It) (once : Once l) (norm : ∀ x ∈ l, x.1.Norm) (val : ∀ x ∈ l, Lib.validD x.1.t.toList = true) (sub : ∀ x ∈ l, JW d x.2) : JW (d + 1) (.mk 4 n ⟨#[]⟩ l)
theorem empty_is {t : ByteArray} (h : emptyT t = true) : t = ⟨#[]⟩ := by
  unfold emptyT at h
  apply ba_ext
  rw [List.isEmpty_iff] at h
  rw [h, ByteArray.toList_eq]
theorem jw_of (v : VT) : v.Good → saidV v = true → ∀ k : Nat, mayV v (64 - (k : Int)) = true → JW k v := by
  refine VT.ind (P := fun v => v.Good → saidV v = true → ∀ k : Nat, mayV v (64 - (k : Int)) = true → JW k v) ?_ v
  intro k n t l ih hg hs d hm
  obtain ⟨-, gn, -, gl⟩ := VT.Good.parts hg
  rw [saidV] at hs
  simp only [Bool.and_eq_true, Bool.not_eq_true', decide_eq_false_iff_not] at hs
  obtain ⟨⟨hk, hv⟩, hl⟩ := hs
  rw [mayV] at hm
  split at hm
  · simp only [Bool.and_eq_true, decide_eq_true_eq] at hm
    obtain ⟨rfl, rfl, e⟩ := hm
    rw [empty_is e]; subst k; exact .nul d
  split at hm
  · simp only [Bool.and_eq_true, decide_eq_true_eq] at hm
    obtain ⟨rfl, h, e⟩ := hm
    rw [empty_is e]; subst k; exact .bool d n h
  split at hm
  · simp only [Bool.and_eq_true, decide_eq_true_eq] at hm
    obtain ⟨rfl, e⟩ := hm
    rw [empty_is e]; subst k; exact .int d n gn.1 gn.2
  split at hm
  · simp only [Bool.and_eq_true, decide_eq_true_eq] at hm
    obtain ⟨rfl, rfl, hz⟩ := hm
    subst k; exact .text d t hv hz
  split at hm
  · simp only [Bool.and_eq_true, decide_eq_true_eq] at hm
    obtain ⟨⟨⟨⟨e, -⟩, -⟩, hd⟩, hi⟩ := hm
    obtain ⟨d, rfl⟩ : ∃ e, d = e + 1 := ⟨d - 1, by omega⟩
    obtain ⟨o1, o2⟩ := itemsL_once hi
    have ha := itemsL_all hi
    have hl := saidL_iff.1 hl
    rw [empty_is e]; subst k
    refine .list d n l o1 (fun x hx => ⟨(gl x hx).1, (o2 x hx).1⟩) (fun x hx => (hl x hx).1) fun x hx => ?_
    have := (ha x hx).1
    rw [show (64 : Int) - ((d + 1 : Nat) : Int) + 1 = 64 - (d : Int) by omega] at this
    exact ih x hx (gl x hx).2 (hl x hx).2 d this
  · cases hm

/-- No value's text goes on here. -/
def StopJ (b : Bs) : Prop := ∀ c r, b = c :: r → isDig c = false ∧ isFr c = false ∧ isBl c = false
theorem firstB_facts : ∀ x : Fin 256, firstB (UInt8.ofNat x.val) = true → isBl (UInt8.ofNat x.val) = false ∧ UInt8.ofNat x.val ≠ 93 ∧ UInt8.ofNat x.val ≠ 125 ∧ UInt8.ofNat x.val ≠ 0 := by decide +kernel
theorem firstB_not {c : UInt8} (h : firstB c = true) : isBl c = false ∧ c ≠ 93 ∧ c ≠ 125 ∧ c ≠ 0 := by
  have := firstB_facts ⟨c.toNat, c.toNat_lt⟩ (by simpa using h)
  simpa using this
theorem itoa_first (n : Int) : ∃ c r, Lib.itoa n = c :: r ∧ firstB c = true := by
  rw [itoa_form]
  split
  · exact ⟨45, _, rfl, by decide⟩
  · obtain ⟨x, r, hx⟩ := List.exists_cons_of_ne_nil (decDigits_ne n.natAbs)
    exact ⟨x, r, by rw [hx]; rfl, of_dig x (decDigits_dig n.natAbs x (by rw [hx]; simp))⟩
theorem jt_first {d : Nat} {v : VT} (h : JW d v) : ∃ c r, jtV v = c :: r ∧ firstB c = true := by
  cases h with
  | nul => exact ⟨110, _, by rw [jtV]; rfl, by decide⟩
  | bool _ n hn =>
    rcases hn with rfl | rfl
    · exact ⟨102, _, by rw [jtV]; rfl, by decide⟩
    · exact ⟨116, _, by rw [jtV]; rfl, by decide⟩
  | int _ n _ _ =>
    obtain ⟨c, r, e, hc⟩ := itoa_first n
    exact ⟨c, r, by rw [jtV]; exact e, hc⟩
  | text _ t _ _ => exact ⟨34, _, by rw [jtV]; rfl, by decide⟩
  | list d n l _ _ _ _ =>
    refine ⟨openJ (rowP 0 l), _, by rw [jtV, if_pos rfl], ?_⟩
    unfold openJ
    split <;> decide
section
variable {s : ByteArray}
theorem blank_at {a b : Bs} {c : UInt8} (h : s.toList = a ++ c :: b) (hc : isBl c = false) : blankE s a.length = a.length := by
  obtain ⟨h1, -⟩ := now_of h
  exact blankE_stop (by rw [h1, hc]; decide)
theorem now_stop {a b : Bs} (h : s.toList = a ++ b) : nowP s a.length = b.headD 0 := by
  cases b with
  | nil => exact nowP_end (by rw [size_of_list h]; simp)
  | cons c b => exact (now_of h).1
theorem blank_stop {a b : Bs} (h : s.toList = a ++ b) (hb : StopJ b) : blankE s a.length = a.length := by
  refine blankE_stop ?_
  rw [now_stop h]
  cases b with
  | nil => decide
  | cons c b => rw [List.headD_cons, (hb c b rfl).2.2]; decide
theorem parse_digits : ∀ (ds : Bs) (acc u : Nat), (∀ c ∈ ds, isDig c = true) → dec acc ds = u → u ≤ 9223372036854775808 → Lib.parseUint10 acc ds = .ok u
  | [], acc, u, _, h, _ => by rw [Lib.parseUint10]; exact congrArg _ h
  | c :: ds, acc, u, hd, h, hu => by
    have hc := (isDig_iff c).1 (hd c (by simp))
    have h' : dec (acc * 10 + (c.toNat - 48)) ds = u := h
    have hge := dec_ge ds (acc * 10 + (c.toNat - 48))
    rw [h'] at hge
    rw [Lib.parseUint10, if_pos hc, if_neg (by omega), if_neg (by omega)]
    exact parse_digits ds _ u (fun x hx => hd x (by simp [hx])) h' hu
theorem mag_digits {u : Nat} (hu : u ≤ 9223372036854775808) : Lib.parseMag (Lib.decDigits u) = .ok u := by
  unfold Lib.parseMag
  rw [if_neg (decDigits_ne u)]
  exact parse_digits _ 0 u (decDigits_dig u) (decDigits_dec u) hu
theorem jatoi_itoa {n : Int} (h0 : -9223372036854775808 ≤ n) (h1 : n ≤ 9223372036854775807) : Lib.atoiAll (Lib.itoa n) = .ok n := by
  rcases Int.lt_or_le n 0 with hn | hn
  · have e : Lib.itoa n = 45 :: Lib.decDigits n.natAbs := by unfold Lib.itoa; rw [if_pos hn]
    rw [e]
    unfold Lib.atoiAll
    simp only
    rw [if_pos (.inr (by decide)), mag_digits (by omega)]
    simp only
    rw [if_neg (by rintro ⟨x, -⟩; exact x (by decide)), if_neg (by rintro ⟨-, x⟩; omega), if_pos (by decide)]
    congr 1
    omega
  · have e : Lib.itoa n = Lib.decDigits n.natAbs := by unfold Lib.itoa; rw [if_neg (by omega), show n.toNat = n.natAbs by omega]
    obtain ⟨x, r, hx⟩ := List.exists_cons_of_ne_nil (decDigits_ne n.natAbs)
    have hxd := (isDig_iff x).1 (decDigits_dig n.natAbs x (by rw [hx]; simp))
    have hm := mag_digits (u := n.natAbs) (by omega)
    rw [e, hx]
    rw [hx] at hm
    unfold Lib.atoiAll
    simp only
    rw [if_neg (by omega), hm]
    simp only
    rw [if_neg (by rintro ⟨-, y⟩; omega), if_neg (by rintro ⟨y, -⟩; omega), if_neg (by omega)]
    congr 1
    omega
/-- Where digits end. -/
theorem end_stop {a l b : Bs} (h : s.toList = a ++ (l ++ b)) (hl : ∀ x ∈ l, isDig x = true) (hb : StopJ b) : endP s a.length = (a ++ l).length := by
  unfold endP
  rw [h, List.drop_left, List.takeWhile_append_of_pos hl]
  cases b with
  | nil => simp
  | cons c b => rw [List.takeWhile_cons, (hb c b rfl).1]; simp
theorem dec_lead (u : Nat) : 10 ≤ u → ∀ x r, Lib.decDigits u = x :: r → x ≠ 48 := by
  induction u using Nat.strongRecOn with
  | ind u ih =>
    intro hu x r hx
    rw [Lib.decDigits, dif_neg (by omega)] at hx
    by_cases h : u / 10 < 10
    · rw [Lib.decDigits_one h] at hx
      simp at hx
      rw [← hx.1]
      intro e
      have := congrArg UInt8.toNat e
      simp at this
      omega
    · obtain ⟨y, r', hy⟩ := List.exists_cons_of_ne_nil (decDigits_ne (u / 10))
      rw [hy] at hx
      simp at hx
      rw [← hx.1]
      exact ih (u / 10) (by omega) (by omega) y r' hy
/-- Where a number's digits end: a zero stands alone. -/
theorem jnumE_dec {a b : Bs} {u : Nat} (h : s.toList = a ++ (Lib.decDigits u ++ b)) (hb : StopJ b) : isDig (nowP s a.length) = true ∧ jnumE s a.length = (a ++ Lib.decDigits u).length := by
  obtain ⟨x, r, hx⟩ := List.exists_cons_of_ne_nil (decDigits_ne u)
  have hxd := decDigits_dig u x (by rw [hx]; simp)
  obtain ⟨h1, -⟩ := now_of (s := s) (a := a) (c := x) (b := r ++ b) (by rw [h, hx]; simp)
  refine ⟨by rw [h1]; exact hxd, ?_⟩
  unfold jnumE
  rw [h1]
  split
  · rename_i h48
    have hu : u < 10 := by
      rcases Nat.lt_or_ge u 10 with hu | hu
      · exact hu
      · exact absurd h48 (dec_lead u hu x r hx)
    rw [Lib.decDigits_one hu]
    simp
  · exact end_stop h (decDigits_dig u) hb
theorem fr_stop {a b : Bs} (h : s.toList = a ++ b) (hb : StopJ b) : isFr (nowP s a.length) = false := by
  rw [now_stop h]
  cases b with
  | nil => decide
  | cons c b => exact (hb c b rfl).2.1
theorem take_mid {a l b : Bs} (h : s.toList = a ++ (l ++ b)) : (numText s a.length (a ++ l).length).toList = l := by
  rw [numText_list, h, ← List.append_assoc, List.take_left, List.drop_left]
theorem rd_jnum {a b : Bs} {n : Int} (h : s.toList = a ++ (Lib.itoa n ++ b)) (hb : StopJ b) (h0 : -9223372036854775808 ≤ n) (h1 : n ≤ 9223372036854775807) : jnumP s a.length = .ok (n, (a ++ Lib.itoa n).length) := by
  have hat := jatoi_itoa h0 h1
  have hfr := fr_stop (s := s) (a := a ++ Lib.itoa n) (b := b) (by rw [h]; simp) hb
  have hmid := take_mid h
  have hx : isDig (nowP s (jnumB s a.length)) = true ∧ jnumE s (jnumB s a.length) = (a ++ Lib.itoa n).length := by
    rcases Int.lt_or_le n 0 with hn | hn
    · have e : Lib.itoa n = 45 :: Lib.decDigits n.natAbs := by unfold Lib.itoa; rw [if_pos hn]
      obtain ⟨h2, -⟩ := now_of (s := s) (a := a) (c := 45) (b := Lib.decDigits n.natAbs ++ b) (by rw [h, e]; simp)
      have hB : jnumB s a.length = (a ++ [45]).length := by unfold jnumB; rw [if_pos h2]; simp
      have := jnumE_dec (s := s) (a := a ++ [45]) (b := b) (u := n.natAbs) (by rw [h, e]; simp) hb
      rw [hB, e]
      exact ⟨this.1, by rw [this.2]; simp⟩
    · have e : Lib.itoa n = Lib.decDigits n.natAbs := by unfold Lib.itoa; rw [if_neg (by omega), show n.toNat = n.natAbs by omega]
      rw [e] at h
      have := jnumE_dec h hb
      have hB : jnumB s a.length = a.length := by
        unfold jnumB
        rw [if_neg]
        intro e2
        have := this.1
        rw [e2] at this
        exact absurd this (by decide)
      rw [hB, e]
      exact this
  unfold jnumP
  rw [if_pos hx.1, hx.2, hmid, hat]
  simp only
  rw [hfr]
  simp
end
/-- The same keys, like values. -/
structure RelJ (pre xs : List It) : Prop where
  len : pre.length = xs.length
  key : ∀ (j : Nat) (h1 : j < pre.length) (h2 : j < xs.length), (pre[j]).1 = (xs[j]).1
  alike : ∀ (j : Nat) (h1 : j < pre.length) (h2 : j < xs.length), AlikeV (pre[j]).2 (xs[j]).2
theorem RelJ.nil : RelJ [] [] := ⟨rfl, fun j h => by simp at h, fun j h => by simp at h⟩
theorem RelJ.snoc {pre xs : List It} (h : RelJ pre xs) {q : K} {x y : VT} (hxy : AlikeV x y) : RelJ (pre ++ [(q, x)]) (xs ++ [(q, y)]) := by
  refine ⟨by simp [h.len], fun j h1 h2 => ?_, fun j h1 h2 => ?_⟩
  · rw [List.getElem_append, List.getElem_append]
    simp only [List.length_append, List.length_cons, List.length_nil] at h1 h2
    split
    · rename_i hj
      rw [dif_pos (by have := h.len; omega)]
      exact h.key j hj (by have := h.len; omega)
    · rw [dif_neg (by have := h.len; omega)]
      simp
  · rw [List.getElem_append, List.getElem_append]
    simp only [List.length_append, List.length_cons, List.length_nil] at h1 h2
    split
    · rename_i hj
      rw [dif_pos (by have := h.len; omega)]
      exact h.alike j hj (by have := h.len; omega)
    · rw [dif_neg (by have := h.len; omega)]
      simpa using hxy
theorem RelJ.key_none {pre xs : List It} (h : RelJ pre xs) {q : K} (hq : ∀ x ∈ pre, x.1 ≠ q) : findK q xs = none := by
  rw [findK_none]
  intro x hx
  obtain ⟨j, hj, rfl⟩ := List.getElem_of_mem hx
  have hj' : j < pre.length := by have := h.len; omega
  rw [← h.key j hj' hj]
  exact hq _ (List.getElem_mem hj')
/-- What a text is as a key. -/
theorem norm_keyJ {k : K} (h : k.Norm) : (K.mk true 0 (str (keyJ k))).norm = k := by
  have hs := h.same
  unfold keyJ
  unfold K.norm at hs
  split at hs
  · rename_i hb
    rw [if_pos hb, str_of]
    split at hs
    · rw [← hs] at hb; cases hb
    · rename_i hc
      unfold K.norm
      rw [if_pos rfl]
      simp only
      rw [hc]
      exact hs
  · rename_i hb
    rw [if_neg hb]
    unfold K.norm
    rw [if_pos rfl]
    simp only
    rw [str_toList, canonP_itoa h.lo h.hi]
    exact hs
theorem itoa_ascii (n : Int) : ∀ c ∈ Lib.itoa n, c.toNat < 128 := by
  intro c hc
  rw [itoa_form] at hc
  rcases List.mem_append.1 hc with hc | hc
  · split at hc
    · rw [List.mem_singleton.1 hc]; decide
    · cases hc
  · have := (isDig_iff c).1 (decDigits_dig _ c hc)
    omega
theorem ascii_valid : ∀ l : Bs, (∀ c ∈ l, c.toNat < 128) → Lib.validD l = true
  | [], _ => Lib.validD_nil
  | c :: l, h => by
    have hc := h c (by simp)
    rw [Lib.validD_step _ (by simp), Lib.decodeL_ascii _ _ hc, if_neg (by simp; omega)]
    exact ascii_valid l fun x hx => h x (by simp [hx])
theorem keyJ_valid {k : K} (h : Lib.validD k.t.toList = true) : Lib.validD (keyJ k) = true := by
  unfold keyJ
  split
  · exact h
  · exact ascii_valid _ (itoa_ascii _)
/-- A reading gives what a writing wrote. -/
def BackJ (s : ByteArray) (val : JValF) (v : VT) : Prop := ∀ a b m, s.toList = a ++ (jtV v ++ b) → StopJ b → m + countV v ≤ 2048 → ∃ y, val a.length m = .ok (y, (a ++ jtV v).length, m + countV v) ∧ AlikeV v y
section
variable {s : ByteArray}
theorem stop_cons {c : UInt8} (b : Bs) (h : c = 44 ∨ c = 93 ∨ c = 125) : StopJ (c :: b) := by
  intro x r e
  injection e with e1 e2
  subst e1
  rcases h with rfl | rfl | rfl <;> exact ⟨by decide, by decide, by decide⟩
theorem stop_nil : StopJ [] := fun _ _ e => by cases e
theorem shut_or (p : Bool) : shutJ p = 44 ∨ shutJ p = 93 ∨ shutJ p = 125 := by unfold shutJ; split <;> simp
theorem end_shut (p : Bool) : endC (!p) = shutJ p := by cases p <;> rfl
/-- One round of a list. -/
theorem rd_round {p : Bool} {val : JValF} {x : It} {d : Nat} (hx : JW d x.2) (hk : x.1.Norm) (hkv : Lib.validD x.1.t.toList = true) (hB : BackJ s val x.2) {a b : Bs} {L : LS} {pre : List It} {m : Nat}
    (h : s.toList = a ++ (nameJ p x.1 [] ++ (jtV x.2 ++ b))) (hb : StopJ b) (hm : m + 1 + countV x.2 ≤ 2048) (hR : RelJ pre L.xs) (hlen : pre.length < 2048) (hnew : ∀ y ∈ pre, y.1 ≠ x.1)
    (hp : p = true → L.nx = pre.length ∧ x.1.b = false ∧ x.1.n = pre.length) :
    ∃ L', jroundP s (!p) val L a.length m = .ok (L', (a ++ (nameJ p x.1 [] ++ jtV x.2)).length, m + 1 + countV x.2) ∧ RelJ (pre ++ [x]) L'.xs ∧ (p = true → L'.nx = pre.length + 1) := by
  obtain ⟨q, x⟩ := x
  simp only at hx hk hkv hB h hm hnew hp ⊢
  obtain ⟨c0, r0, hf, hf0⟩ := jt_first hx
  have hnone := hR.key_none hnew
  have hxl : L.xs.length < 2048 := by rw [← hR.len]; exact hlen
  unfold jroundP
  rw [if_neg (by rintro ⟨h1, -⟩; omega)]
  cases p with
  | true =>
    obtain ⟨hn, hqb, hqn⟩ := hp rfl
    have h' : s.toList = a ++ (jtV x ++ b) := by rw [h]; simp [nameJ]
    obtain ⟨y, hy, hay⟩ := hB a b (m + 1) h' hb (by omega)
    have hq : q = ⟨false, (pre.length : Int), ⟨#[]⟩⟩ := by
      have := hk.same
      unfold K.norm at this
      rw [if_neg (by rw [hqb]; decide), hqn] at this
      exact this.symm
    unfold jitemP
    rw [if_neg (by decide), hy]
    simp only
    have hbl := blank_stop (s := s) (a := a ++ jtV x) (b := b) (by rw [h']; simp) hb
    rw [hbl]
    refine ⟨(appendP y L).2, by simp [nameJ], ?_, ?_⟩
    · unfold appendP
      rw [if_neg (by omega)]
      have hset : setP ⟨false, L.nx, ⟨#[]⟩⟩ y L = (0, ⟨L.xs ++ [(q, y)], L.nx + 1⟩) := by
        unfold setP
        rw [K.norm_num, hn, ← hq]
        unfold setN
        rw [hnone]
        simp only
        rw [if_neg (by omega)]
        unfold nextP
        rw [hn, if_pos ⟨hqb, by omega, by rw [hqn]; omega⟩, if_neg (by rw [hqn]; omega), hqn]
      rw [hset]
      simp only [if_true]
      exact hR.snoc hay
    · intro _
      unfold appendP
      rw [if_neg (by omega)]
      have hset : setP ⟨false, L.nx, ⟨#[]⟩⟩ y L = (0, ⟨L.xs ++ [(q, y)], L.nx + 1⟩) := by
        unfold setP
        rw [K.norm_num, hn, ← hq]
        unfold setN
        rw [hnone]
        simp only
        rw [if_neg (by omega)]
        unfold nextP
        rw [hn, if_pos ⟨hqb, by omega, by rw [hqn]; omega⟩, if_neg (by rw [hqn]; omega), hqn]
      rw [hset]
      simp only [if_true]
      rw [hn]
  | false =>
    have hn : nameJ false q [] = quoteP (keyJ q) ++ [58] := rfl
    rw [hn] at h ⊢
    have h1 : s.toList = a ++ (quoteP (keyJ q) ++ 58 :: (jtV x ++ b)) := by rw [h]; simp
    have ht := rd_jtext (keyJ_valid hkv) h1
    have hb1 := blank_at (s := s) (a := a ++ quoteP (keyJ q)) (c := 58) (b := jtV x ++ b) (by rw [h1]; simp) (by decide)
    have hm1 := rd_must (s := s) (l := [58]) (a := a ++ quoteP (keyJ q)) (b := jtV x ++ b) (by rw [h1]; simp)
    have hb2 := blank_at (s := s) (a := a ++ quoteP (keyJ q) ++ [58]) (c := c0) (b := r0 ++ b) (by rw [h1, hf]; simp) (firstB_not hf0).1
    obtain ⟨y, hy, hay⟩ := hB (a ++ quoteP (keyJ q) ++ [58]) b (m + 1) (by rw [h1]; simp) hb (by omega)
    have hb3 := blank_stop (s := s) (a := a ++ quoteP (keyJ q) ++ [58] ++ jtV x) (b := b) (by rw [h1]; simp) hb
    unfold jitemP
    rw [if_pos (by decide), ht]
    simp only
    rw [hb1, hm1]
    simp only
    rw [hb2, hy]
    simp only
    rw [hb3]
    refine ⟨(setP ⟨true, 0, str (keyJ q)⟩ y L).2, by simp, ?_, fun e => by cases e⟩
    unfold setP
    rw [norm_keyJ hk]
    unfold setN
    rw [hnone]
    simp only
    rw [if_neg (by omega)]
    exact hR.snoc hay
theorem jt_pos {d : Nat} {v : VT} (h : JW d v) : 1 ≤ (jtV v).length := by
  obtain ⟨c, r, e, -⟩ := jt_first h
  rw [e]; simp
/-- The rounds behind the first. -/
theorem rd_rest {p : Bool} {val : JValF} {d : Nat} : ∀ (r : List It) {a b : Bs} {L : LS} {pre : List It} {m i k : Nat}, (∀ x ∈ r, JW d x.2 ∧ x.1.Norm ∧ Lib.validD x.1.t.toList = true ∧ BackJ s val x.2) →
    s.toList = a ++ (jtL p (i + 1) r ++ shutJ p :: b) → m + r.length + countL r ≤ 2048 → RelJ pre L.xs → pre.length + r.length ≤ 2048 → Once (pre ++ r) → (p = true → L.nx = pre.length ∧ rowP pre.length r = true) → r.length < k →
    ∃ L', jitemsL s (!p) val k false L a.length m = .ok (L', (a ++ jtL p (i + 1) r).length, m + r.length + countL r) ∧ RelJ (pre ++ r) L'.xs
  | _, _, _, _, _, _, _, 0, _, _, _, _, _, _, _, hk => by omega
  | [], a, b, L, pre, m, i, k + 1, _, h, hm, hR, _, _, _, _ => by
    rw [jtL] at h ⊢
    obtain ⟨h1, -⟩ := now_of (s := s) (a := a) (c := shutJ p) (b := b) (by rw [h]; rfl)
    rw [jitemsL, if_neg (by decide), if_neg (by rw [h1]; unfold shutJ; split <;> decide)]
    exact ⟨L, by simp [countL], by simpa using hR⟩
  | x :: r, a, b, L, pre, m, i, k + 1, hx, h, hm, hR, hlen, ho, hp, hk => by
    obtain ⟨w1, w2, w3, w4⟩ := hx x (by simp)
    obtain ⟨c0, r0, hf, hf0⟩ := jt_first w1
    rw [jtL_cons] at h ⊢
    have hcm : nameJ p x.1 (commaJ (i + 1) []) = 44 :: nameJ p x.1 [] := by
      unfold nameJ commaJ
      split <;> simp
    rw [hcm] at h ⊢
    obtain ⟨h1, -⟩ := now_of (s := s) (a := a) (c := 44) (b := nameJ p x.1 [] ++ (jtV x.2 ++ (jtL p (i + 1 + 1) r ++ shutJ p :: b))) (by rw [h]; simp)
    have hnb : ∃ c1 r1, nameJ p x.1 [] ++ jtV x.2 = c1 :: r1 ∧ isBl c1 = false := by
      unfold nameJ
      split
      · exact ⟨c0, r0, by rw [hf]; rfl, (firstB_not hf0).1⟩
      · exact ⟨34, _, rfl, by decide⟩
    obtain ⟨c1, r1, hn1, hn2⟩ := hnb
    have hbl := blank_at (s := s) (a := a ++ [44]) (c := c1) (b := r1 ++ (jtL p (i + 1 + 1) r ++ shutJ p :: b)) (by
      rw [h]
      have : c1 :: (r1 ++ (jtL p (i + 1 + 1) r ++ shutJ p :: b)) = (nameJ p x.1 [] ++ jtV x.2) ++ (jtL p (i + 1 + 1) r ++ shutJ p :: b) := by rw [hn1]; rfl
      rw [this]
      simp) hn2
    rw [countL_cons, List.length_cons] at hm
    have hnew : ∀ y ∈ pre, y.1 ≠ x.1 := fun y hy => (List.pairwise_append.1 ho).2.2 y hy x (by simp)
    have hstop : StopJ (jtL p (i + 1 + 1) r ++ shutJ p :: b) := by
      cases r with
      | nil => rw [jtL]; exact stop_cons b (shut_or p)
      | cons y r =>
        rw [jtL_cons]
        have : nameJ p y.1 (commaJ (i + 1 + 1) []) = 44 :: nameJ p y.1 [] := by
          unfold nameJ commaJ
          split <;> simp
        rw [this]
        exact stop_cons _ (.inl rfl)
    have hrow : p = true → L.nx = pre.length ∧ x.1.b = false ∧ x.1.n = pre.length ∧ rowP (pre.length + 1) r = true := fun e => by
      obtain ⟨p1, p2⟩ := hp e
      rw [rowP] at p2
      split at p2
      · cases p2
      · rename_i hc
        have hc := not_or.1 hc
        exact ⟨p1, by simpa using hc.1, Classical.not_not.1 hc.2, p2⟩
    obtain ⟨L1, q1, q2, q3⟩ := rd_round (p := p) (L := L) (pre := pre) (m := m) w1 w2 w3 w4 (a := a ++ [44]) (b := jtL p (i + 1 + 1) r ++ shutJ p :: b) (by rw [h]; simp) hstop (by omega) hR (by simp at hlen; omega) hnew (fun e => ⟨(hrow e).1, (hrow e).2.1, (hrow e).2.2.1⟩)
    obtain ⟨L2, t1, t2⟩ := rd_rest (p := p) (val := val) (d := d) r (a := a ++ [44] ++ (nameJ p x.1 [] ++ jtV x.2)) (b := b) (L := L1) (pre := pre ++ [x]) (m := m + 1 + countV x.2) (i := i + 1) (k := k) (fun y hy => hx y (by simp [hy])) (by rw [h]; simp) (by omega) q2
      (by simp at hlen ⊢; omega) (by simpa using ho) (fun e => by simp only [List.length_append, List.length_cons, List.length_nil]; exact ⟨by rw [q3 e]; simp, (hrow e).2.2.2⟩) (by simp at hk; omega)
    rw [jitemsL, if_neg (by decide), if_pos h1]
    rw [show a.length + 1 = (a ++ [44]).length by simp, hbl, q1]
    simp only
    rw [t1]
    have hfin : m + 1 + countV x.2 + r.length + countL r = m + (x :: r).length + countL (x :: r) := by rw [countL_cons, List.length_cons]; omega
    refine ⟨L2, ?_, by simpa using t2⟩
    rw [hfin]
    simp
theorem jtL_len {p : Bool} {d : Nat} : ∀ {r : List It} {i : Nat}, (∀ x ∈ r, JW d x.2) → r.length ≤ (jtL p i r).length
  | [], i, _ => by simp
  | x :: r, i, h => by
    have h1 := jt_pos (h x (by simp))
    have h2 := jtL_len (p := p) (r := r) (i := i + 1) (fun y hy => h y (by simp [hy]))
    rw [jtL_cons]
    simp only [List.length_append, List.length_cons]
    omega
/-- A list's items. -/
theorem rd_items {p : Bool} {val : JValF} {d : Nat} {l : List It} {a b : Bs} {m : Nat} (hx : ∀ x ∈ l, JW d x.2 ∧ x.1.Norm ∧ Lib.validD x.1.t.toList = true ∧ BackJ s val x.2) (h : s.toList = a ++ (jtL p 0 l ++ shutJ p :: b)) (hm : m + l.length + countL l ≤ 2048) (ho : Once l) (hp : p = rowP 0 l) :
    ∃ L', jitemsL s (!p) val (s.size + 2) true LS.new (blankE s a.length) m = .ok (L', (a ++ jtL p 0 l).length, m + l.length + countL l) ∧ RelJ l L'.xs := by
  cases l with
  | nil =>
    rw [jtL] at h ⊢
    have hb := blank_at (s := s) (a := a) (c := shutJ p) (b := b) (by rw [h]; rfl) (by unfold shutJ; split <;> decide)
    obtain ⟨h1, -⟩ := now_of (s := s) (a := a) (c := shutJ p) (b := b) (by rw [h]; rfl)
    rw [hb, jitemsL, if_pos rfl, h1, end_shut, if_pos rfl]
    exact ⟨LS.new, by simp [countL], RelJ.nil⟩
  | cons x r =>
    obtain ⟨w1, w2, w3, w4⟩ := hx x (by simp)
    obtain ⟨c0, r0, hf, hf0⟩ := jt_first w1
    have hlen := size_of_list h
    have hl2 := jtL_len (p := p) (i := 0 + 1) (r := r) (fun y hy => (hx y (by simp [hy])).1)
    rw [jtL_cons] at h hlen ⊢
    have hcm : commaJ 0 [] = [] := rfl
    rw [hcm] at h hlen ⊢
    simp only [List.length_append] at hlen
    have hnb : ∃ c1 r1, nameJ p x.1 [] ++ jtV x.2 = c1 :: r1 ∧ isBl c1 = false ∧ c1 ≠ shutJ p := by
      unfold nameJ
      split
      · rename_i e
        have := firstB_not hf0
        exact ⟨c0, r0, by rw [hf]; rfl, this.1, by rw [e]; exact this.2.1⟩
      · exact ⟨34, _, rfl, by decide, by unfold shutJ; split <;> decide⟩
    obtain ⟨c1, r1, hn1, hn2, hn3⟩ := hnb
    have hnl : s.toList = a ++ c1 :: (r1 ++ (jtL p (0 + 1) r ++ shutJ p :: b)) := by
      have : c1 :: (r1 ++ (jtL p (0 + 1) r ++ shutJ p :: b)) = (nameJ p x.1 [] ++ jtV x.2) ++ (jtL p (0 + 1) r ++ shutJ p :: b) := by rw [hn1]; rfl
      rw [h, this]
      simp
    have hbl := blank_at hnl hn2
    obtain ⟨h1, -⟩ := now_of hnl
    rw [countL_cons, List.length_cons] at hm
    have hstop : StopJ (jtL p (0 + 1) r ++ shutJ p :: b) := by
      cases r with
      | nil => rw [jtL]; exact stop_cons b (shut_or p)
      | cons y r =>
        rw [jtL_cons]
        have : nameJ p y.1 (commaJ (0 + 1) []) = 44 :: nameJ p y.1 [] := by
          unfold nameJ commaJ
          split <;> simp
        rw [this]
        exact stop_cons _ (.inl rfl)
    have hrow : p = true → x.1.b = false ∧ x.1.n = 0 ∧ rowP 1 r = true := fun e => by
      rw [hp, rowP] at e
      split at e
      · cases e
      · rename_i hc
        have hc := not_or.1 hc
        exact ⟨by simpa using hc.1, by have := Classical.not_not.1 hc.2; simpa using this, e⟩
    obtain ⟨L1, q1, q2, q3⟩ := rd_round (p := p) (L := LS.new) (pre := []) (m := m) w1 w2 w3 w4 (a := a) (b := jtL p (0 + 1) r ++ shutJ p :: b) (by rw [h]; simp) hstop (by omega) RelJ.nil (by simp) (by simp) (fun e => ⟨rfl, (hrow e).1, by rw [(hrow e).2.1]; rfl⟩)
    obtain ⟨L2, t1, t2⟩ := rd_rest (p := p) (val := val) (d := d) r (a := a ++ (nameJ p x.1 [] ++ jtV x.2)) (b := b) (L := L1) (pre := [] ++ [x]) (m := m + 1 + countV x.2) (i := 0) (k := s.size + 1) (fun y hy => hx y (by simp [hy])) (by rw [h]; simp) (by omega) q2
      (by simp; omega) (by simpa using ho) (fun e => ⟨by rw [q3 e]; simp, (hrow e).2.2⟩) (by omega)
    rw [hbl, jitemsL, if_pos rfl, if_neg (by rw [h1, end_shut]; exact hn3), q1]
    simp only
    rw [t1]
    have hfin : m + 1 + countV x.2 + r.length + countL r = m + (x :: r).length + countL (x :: r) := by rw [countL_cons, List.length_cons]; omega
    refine ⟨L2, ?_, by simpa using t2⟩
    rw [hfin]
    simp
theorem rd_word {a b w : Bs} {y : VT} {m : Nat} (h : s.toList = a ++ (w ++ b)) : jwordP s w y a.length m = .ok (y, (a ++ w).length, m) := by
  unfold jwordP
  rw [rd_must h]
/-- A value that was written is read back as one that is alike. -/
theorem rd_value (v : VT) : ∀ d, JW d v → BackJ s (jdepth s d) v := by
  refine VT.ind (P := fun v => ∀ d, JW d v → BackJ s (jdepth s d) v) ?_ v
  intro k n t l ih d hw a b m h hb hm
  have hdv : ∀ d, jdepth s d = jvalP s (match d with | 0 => none | e + 1 => some (jdepth s e)) := fun d => by cases d <;> rfl
  have hct : ∀ (k n : Int) (t : ByteArray), countV (.mk k n t []) = 0 := fun k n t => by rw [countV]; simp [countL]
  cases hw with
  | nul =>
    have e : jtV (.mk 0 0 ⟨#[]⟩ []) = [110, 117, 108, 108] := by rw [jtV]; rfl
    rw [e] at h ⊢
    obtain ⟨h1, -⟩ := now_of (s := s) (a := a) (c := 110) (b := [117, 108, 108] ++ b) (by rw [h]; rfl)
    refine ⟨.mk 0 0 ⟨#[]⟩ [], ?_, .plain _ _ _ _ _ (by decide)⟩
    rw [hdv]
    unfold jvalP
    rw [h1, if_neg (by rintro (x | x) <;> exact absurd x (by decide)), if_pos rfl, rd_word h, hct]
    rfl
  | bool _ n hn =>
    rcases hn with rfl | rfl
    · have e : jtV (.mk 1 0 ⟨#[]⟩ []) = [102, 97, 108, 115, 101] := by rw [jtV]; rfl
      rw [e] at h ⊢
      obtain ⟨h1, -⟩ := now_of (s := s) (a := a) (c := 102) (b := [97, 108, 115, 101] ++ b) (by rw [h]; rfl)
      refine ⟨.mk 1 0 ⟨#[]⟩ [], ?_, .plain _ _ _ _ _ (by decide)⟩
      rw [hdv]
      unfold jvalP
      rw [h1, if_neg (by rintro (x | x) <;> exact absurd x (by decide)), if_neg (by decide), if_neg (by decide), if_pos rfl, rd_word h, hct]
      rfl
    · have e : jtV (.mk 1 1 ⟨#[]⟩ []) = [116, 114, 117, 101] := by rw [jtV]; rfl
      rw [e] at h ⊢
      obtain ⟨h1, -⟩ := now_of (s := s) (a := a) (c := 116) (b := [114, 117, 101] ++ b) (by rw [h]; rfl)
      refine ⟨.mk 1 1 ⟨#[]⟩ [], ?_, .plain _ _ _ _ _ (by decide)⟩
      rw [hdv]
      unfold jvalP
      rw [h1, if_neg (by rintro (x | x) <;> exact absurd x (by decide)), if_neg (by decide), if_pos rfl, rd_word h, hct]
      rfl
  | int _ n h0 h9 =>
    have e : jtV (.mk 2 n ⟨#[]⟩ []) = Lib.itoa n := by rw [jtV]; rfl
    rw [e] at h ⊢
    have hr := rd_jnum h hb h0 h9
    refine ⟨.mk 2 n ⟨#[]⟩ [], ?_, .plain _ _ _ _ _ (by decide)⟩
    have hc : nowP s a.length = 45 ∨ isDig (nowP s a.length) = true := by
      rw [itoa_form] at h
      split at h
      · exact .inl (now_of (s := s) (a := a) (c := 45) (b := Lib.decDigits n.natAbs ++ b) (by rw [h]; simp)).1
      · obtain ⟨x, r, hx⟩ := List.exists_cons_of_ne_nil (decDigits_ne n.natAbs)
        right
        rw [(now_of (s := s) (a := a) (c := x) (b := r ++ b) (by rw [h, hx]; simp)).1]
        exact decDigits_dig _ x (by rw [hx]; simp)
    rw [hdv]
    unfold jvalP
    rw [if_pos hc]
    unfold jintP
    rw [hr, hct]
    rfl
  | text _ t hv _ =>
    have e : jtV (.mk 3 0 t []) = quoteP t.toList := by rw [jtV]; rfl
    rw [e] at h ⊢
    have hr := rd_jtext hv h
    obtain ⟨h1, -⟩ := now_of (s := s) (a := a) (c := 34) (b := escs (runesF t.toList.length t.toList) ++ [34] ++ b) (by rw [h]; unfold quoteP; simp)
    refine ⟨.mk 3 0 t [], ?_, .plain _ _ _ _ _ (by decide)⟩
    rw [hdv]
    unfold jvalP
    rw [h1, if_neg (by rintro (x | x) <;> exact absurd x (by decide)), if_neg (by decide), if_neg (by decide), if_neg (by decide), if_neg (by decide), if_neg (by decide), if_pos rfl]
    unfold jstrP
    rw [hr, hct]
    simp only
    rw [str_of]
    rfl
  | list d n l once norm val sub =>
    obtain ⟨p, hp⟩ : ∃ p, p = rowP 0 l := ⟨_, rfl⟩
    have e : jtV (.mk 4 n ⟨#[]⟩ l) = openJ p :: (jtL p 0 l ++ [shutJ p]) := by rw [jtV, if_pos rfl, ← hp]
    have hcv : countV (.mk 4 n ⟨#[]⟩ l) = l.length + countL l := by rw [countV]
    rw [e] at h ⊢
    rw [hcv] at hm ⊢
    obtain ⟨h1, -⟩ := now_of (s := s) (a := a) (c := openJ p) (b := (jtL p 0 l ++ [shutJ p]) ++ b) (by rw [h]; rfl)
    obtain ⟨L, t1, t2⟩ := rd_items (s := s) (p := p) (val := jdepth s d) (d := d) (l := l) (a := a ++ [openJ p]) (b := b) (m := m) (fun x hx => ⟨sub x hx, norm x hx, val x hx, ih x hx d (sub x hx)⟩) (by rw [h]; simp) (by omega) once hp
    obtain ⟨h2, h3⟩ := now_of (s := s) (a := a ++ [openJ p] ++ jtL p 0 l) (c := shutJ p) (b := b) (by rw [h]; simp)
    have hl : jlistP s (!p) (some (jdepth s d)) a.length m = .ok (.mk 4 L.nx ⟨#[]⟩ L.xs, (a ++ openJ p :: (jtL p 0 l ++ [shutJ p])).length, m + (l.length + countL l)) := by
      unfold jlistP
      simp only
      rw [show a.length + 1 = (a ++ [openJ p]).length by simp, t1]
      simp only
      rw [h2, if_pos ⟨(end_shut p).symm, h3⟩]
      congr 2
      simp
      omega
    refine ⟨.mk 4 L.nx ⟨#[]⟩ L.xs, ?_, .list _ _ _ _ _ _ t2.len t2.key t2.alike⟩
    rw [← hl]
    show jvalP s (some (jdepth s d)) a.length m = _
    unfold jvalP
    rw [h1]
    cases p with
    | true =>
      rw [if_neg (by rintro (x | x) <;> exact absurd x (by decide)), if_neg (by decide), if_neg (by decide), if_neg (by decide), if_pos (by decide)]
      rfl
    | false =>
      rw [if_neg (by rintro (x | x) <;> exact absurd x (by decide)), if_neg (by decide), if_neg (by decide), if_neg (by decide), if_neg (by decide), if_pos (by decide)]
      rfl
end
/-- What was said is read back as the same value. -/
theorem said_read {v : VT} (hw : JW 64 v) (hc : countV v ≤ 2048) (hl : (jtV v).length ≤ 65536) : ∃ y, decodeP (str (jtV v)) = .ok y ∧ AlikeV v y := by
  have hs : (str (jtV v)).toList = [] ++ (jtV v ++ []) := by rw [str_toList]; simp
  have hz : (str (jtV v)).size = (jtV v).length := by rw [str_size]
  obtain ⟨c0, r0, hf, hf0⟩ := jt_first hw
  obtain ⟨y, h1, h2⟩ := rd_value (s := str (jtV v)) v 64 hw [] [] 0 hs stop_nil (by omega)
  have hb := blank_at (s := str (jtV v)) (a := []) (c := c0) (b := r0) (by rw [hs, hf]; simp) (firstB_not hf0).1
  have hb2 := blank_stop (s := str (jtV v)) (a := jtV v) (b := []) (by rw [hs]; simp) stop_nil
  refine ⟨y, ?_, h2⟩
  unfold decodeP
  simp only [List.length_nil, List.nil_append] at hb h1
  rw [if_neg (by omega), hb, h1]
  simp only
  rw [hb2, if_neg (by omega)]
end Go.Proofs.YtnaefnojmiolbaaGreatDoor
