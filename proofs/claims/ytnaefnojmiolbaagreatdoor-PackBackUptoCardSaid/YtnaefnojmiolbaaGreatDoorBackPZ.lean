/-
  What was packed is read back: the same graph, its objects numbered as they begin. Of no program but the reader's and the writer's words.
-/
import Derived.Test.YtnaefnojmiolbaaGreatDoorPackAllZ
import Derived.Test.YtnaefnojmiolbaaGreatDoorOneZ
namespace Go.Proofs.YtnaefnojmiolbaaGreatDoor
open Go.RowKit

/-! Reading what stands in a text. -/
section
variable {s : ByteArray}
theorem size_of_list {a : Bs} (h : s.toList = a) : s.size = a.length := by rw [← h, size_toList]
theorem now_of {a b : Bs} {c : UInt8} (h : s.toList = a ++ c :: b) : nowP s a.length = c ∧ a.length < s.size := by
  refine ⟨?_, by rw [size_of_list h]; simp⟩
  unfold nowP
  rw [h, List.getElem?_append_right (Nat.le_refl _), Nat.sub_self]
  rfl
theorem rd_must : ∀ {l a b : Bs}, s.toList = a ++ (l ++ b) → mustP s l a.length = .ok (a ++ l).length
  | [], a, b, h => by rw [mustP]; simp
  | c :: l, a, b, h => by
    obtain ⟨h1, h2⟩ := now_of (b := l ++ b) h
    rw [mustP, if_pos ⟨h2, h1⟩]
    have := rd_must (l := l) (a := a ++ [c]) (b := b) (by rw [h]; simp)
    rw [List.length_append, List.length_cons, List.length_nil] at this
    rw [this]
    simp
theorem dec_dig (u : Nat) : ∀ c ∈ Lib.decDigits u, isDig c = true := by
  induction u using Nat.strongRecOn with
  | ind u ih =>
    intro c hc
    by_cases h : u < 10
    · rw [Lib.decDigits_one h, List.mem_singleton] at hc
      subst hc
      rw [isDig_iff]
      simp
      omega
    · rw [Lib.decDigits, dif_neg h] at hc
      rcases List.mem_append.1 hc with hc | hc
      · exact ih (u / 10) (by omega) c hc
      · rw [List.mem_singleton] at hc
        subst hc
        rw [isDig_iff]
        simp
        omega
theorem dec_ne (u : Nat) : Lib.decDigits u ≠ [] := by
  intro h
  have := congrArg List.length h
  rw [Lib.decDigits_length] at this
  have h2 := Lib.nDigits_pos u
  simp at this
  omega
/-- Where digits end. -/
theorem end_of {a l b : Bs} {c : UInt8} (h : s.toList = a ++ (l ++ c :: b)) (hl : ∀ x ∈ l, isDig x = true) (hc : isDig c = false) : endP s a.length = (a ++ l).length := by
  unfold endP
  rw [h, List.drop_left, List.takeWhile_append_of_pos hl, List.takeWhile_cons, hc]
  simp
theorem rd_number {a b : Bs} {c : UInt8} {n : Int} {sign : Bool} {most : Int} (h : s.toList = a ++ (Lib.itoa n ++ c :: b)) (hc : isDig c = false) (h0 : -9223372036854775808 ≤ n) (h1 : n ≤ 9223372036854775807) (hs : sign = true ∨ (0 ≤ n ∧ n ≤ most)) :
    numberP s sign most a.length = .ok (n, (a ++ Lib.itoa n).length) := by
  obtain ⟨b0, hb0, hb1⟩ : ∃ b0 : Bs, begP s sign a.length = (a ++ b0).length ∧ Lib.itoa n = b0 ++ Lib.decDigits n.natAbs := by
    rcases Int.lt_or_le n 0 with hn | hn
    · have e : Lib.itoa n = [45] ++ Lib.decDigits n.natAbs := by unfold Lib.itoa; rw [if_pos hn]; rfl
      refine ⟨[45], ?_, e⟩
      have hsg : sign = true := by rcases hs with hs | hs; exact hs; omega
      obtain ⟨h2, -⟩ := now_of (s := s) (a := a) (c := 45) (b := Lib.decDigits n.natAbs ++ c :: b) (by rw [h, e]; simp)
      unfold begP
      rw [if_pos ⟨hsg, h2⟩]
      simp
    · have e : Lib.itoa n = Lib.decDigits n.natAbs := by unfold Lib.itoa; rw [if_neg (by omega), show n.toNat = n.natAbs by omega]
      refine ⟨[], ?_, e⟩
      unfold begP
      rw [if_neg, List.append_nil]
      rintro ⟨-, h2⟩
      cases hd : Lib.decDigits n.natAbs with
      | nil => exact dec_ne _ hd
      | cons d r =>
        obtain ⟨h3, -⟩ := now_of (s := s) (a := a) (c := d) (b := r ++ c :: b) (by rw [h, e, hd]; simp)
        rw [h3] at h2
        have := dec_dig n.natAbs d (by rw [hd]; simp)
        rw [h2] at this
        exact absurd this (by decide)
  have hdd := dec_dig n.natAbs
  have he : endP s (a ++ b0).length = (a ++ Lib.itoa n).length := by
    rw [end_of (s := s) (a := a ++ b0) (l := Lib.decDigits n.natAbs) (b := b) (c := c) (by rw [h, hb1]; simp) hdd hc, hb1]
    simp
  have hnow : isDig (nowP s (a ++ b0).length) = true := by
    cases hd : Lib.decDigits n.natAbs with
    | nil => exact absurd hd (dec_ne _)
    | cons d r =>
      obtain ⟨h3, -⟩ := now_of (s := s) (a := a ++ b0) (c := d) (b := r ++ c :: b) (by rw [h, hb1, hd]; simp)
      rw [h3]
      exact hdd d (by rw [hd]; simp)
  have hcut : ((s.toList.take (a ++ Lib.itoa n).length).drop a.length) = Lib.itoa n := by
    rw [h, ← List.append_assoc, List.take_left, List.drop_left]
  unfold numberP
  rw [hb0, if_pos hnow, he, hcut, canonP_itoa h0 h1]
  simp only
  rw [if_neg]
  rintro ⟨hsg, hm⟩
  rcases hs with hs | hs
  · rw [hs] at hsg; cases hsg
  · omega
theorem piece_of {a t b : Bs} (h : s.toList = a ++ (t ++ b)) : s.extract a.length (a ++ t).length = str t := by
  apply ba_ext
  have : (s.extract a.length (a ++ t).length).toList = (s.toList.take (a ++ t).length).drop a.length := numText_list s _ _
  rw [this, str_toList, h, ← List.append_assoc, List.take_left, List.drop_left]
theorem rd_text {a b : Bs} {t : ByteArray} {cls : Bool} (h : s.toList = a ++ (Lib.itoa t.size ++ ([58, 34] ++ (t.toList ++ ([34] ++ b))))) (ht : t.size ≤ 65536) (hn : cls = true → nameP t.toList = true) :
    textP s cls a.length = .ok (t, (a ++ (Lib.itoa t.size ++ ([58, 34] ++ (t.toList ++ [34])))).length) := by
  have h1 : numberP s false 65536 a.length = .ok ((t.size : Int), (a ++ Lib.itoa t.size).length) := rd_number (c := 58) (b := [34] ++ (t.toList ++ ([34] ++ b))) (by rw [h]; simp) (by decide) (by omega) (by omega) (.inr ⟨by omega, by omega⟩)
  have h2 : mustP s [58, 34] (a ++ Lib.itoa t.size).length = .ok (a ++ Lib.itoa t.size ++ [58, 34]).length := rd_must (b := t.toList ++ ([34] ++ b)) (by rw [h]; simp)
  have hsz := size_of_list h
  have hp : s.extract (a ++ Lib.itoa t.size ++ [58, 34]).length (a ++ Lib.itoa t.size ++ [58, 34] ++ t.toList).length = t := by
    rw [piece_of (s := s) (a := a ++ Lib.itoa t.size ++ [58, 34]) (t := t.toList) (b := [34] ++ b) (by rw [h]; simp), str_of]
  have h3 : mustP s [34] (a ++ Lib.itoa t.size ++ [58, 34] ++ t.toList).length = .ok (a ++ Lib.itoa t.size ++ [58, 34] ++ t.toList ++ [34]).length := rd_must (b := b) (by rw [h]; simp)
  have e : (a ++ Lib.itoa t.size ++ [58, 34]).length + (t.size : Int).toNat = (a ++ Lib.itoa t.size ++ [58, 34] ++ t.toList).length := by
    rw [List.length_append (bs := t.toList), size_toList]
    omega
  unfold textP
  rw [h1]
  simp only
  rw [h2]
  simp only
  rw [e, if_neg (by rw [hsz]; simp [size_toList]; omega), hp, if_neg, h3]
  · simp
  · cases cls with
    | false => simp
    | true => rw [hn rfl]; simp
end

/-! What a writer adds. -/
/-- The objects that a writing begins come behind those that began; while the text is short, so does the text. -/
def Adds (S S' : WS) : Prop := (∃ u, S'.o = S.o ++ u) ∧ (S'.t.length ≤ 65536 → ∃ u, S'.t = S.t ++ u)
theorem Adds.refl (S : WS) : Adds S S := ⟨⟨[], by simp⟩, fun _ => ⟨[], by simp⟩⟩
theorem Adds.trans {a b c : WS} (h : Adds a b) (k : Adds b c) : Adds a c := by
  obtain ⟨⟨u, h1⟩, h2⟩ := h
  obtain ⟨⟨v, k1⟩, k2⟩ := k
  refine ⟨⟨u ++ v, by rw [k1, h1, List.append_assoc]⟩, fun hl => ?_⟩
  obtain ⟨x, hx⟩ := k2 hl
  obtain ⟨y, hy⟩ := h2 (by rw [hx] at hl; simp at hl; omega)
  exact ⟨y ++ x, by rw [hx, hy, List.append_assoc]⟩
theorem Adds.app (S : WS) (u : Bs) (o : List Int) : Adds S ⟨S.t ++ u, S.o ++ o⟩ := ⟨⟨o, rfl⟩, fun _ => ⟨u, rfl⟩⟩
theorem itemsW_adds {put : PutF} (hp : ∀ x S S', put x S = .ok S' → Adds S S') : ∀ {l : List It} {S S' : WS}, itemsW put l S = .ok S' → Adds S S'
  | [], S, S', h => by rw [itemsW] at h; cases h; exact Adds.refl _
  | x :: l, S, S', h => by
    rw [itemsW] at h
    split at h
    · cases h
    · rename_i w' h1
      have a := Adds.app S (keyW x.1) []
      rw [List.append_nil] at a
      exact (a.trans (hp _ _ _ h1)).trans (itemsW_adds hp h)
theorem bracesW_adds {sub : Option PutF} (hp : ∀ put, sub = some put → ∀ x S S', put x S = .ok S' → Adds S S') {l : List It} {S S' : WS} (h : bracesW sub l S = .ok S') : Adds S S' := by
  unfold bracesW at h
  split at h
  · cases h
  · rename_i put
    split at h
    · cases h
    · rename_i w' h1
      cases h
      have a := Adds.app S (Lib.itoa l.length ++ [58, 123]) []
      have b := Adds.app w' [125] []
      rw [List.append_nil] at a b
      exact (a.trans (itemsW_adds (hp put rfl) h1)).trans b
theorem valueW_adds {F : List TP} {sub : Option PutF} (hp : ∀ put, sub = some put → ∀ x S S', put x S = .ok S' → Adds S S') {v : VT} {S S' : WS} (h : valueW F sub v S = .ok S') : Adds S S' := by
  have one : ∀ u : Bs, Adds S ⟨S.t ++ u, S.o⟩ := fun u => by have := Adds.app S u []; rwa [List.append_nil] at this
  unfold valueW at h
  split at h
  · cases h; exact one _
  split at h
  · cases h; exact one _
  split at h
  · cases h; exact one _
  split at h
  · cases h; exact one _
  split at h
  · exact (one _).trans (bracesW_adds hp h)
  split at h
  · unfold objectW at h
    split at h
    · cases h; exact one _
    · split at h
      · cases h
      · exact (Adds.app S _ _).trans (bracesW_adds hp h)
  · cases h; exact Adds.refl _
/-- A text that is too long stays too long. -/
theorem itemsW_long {put : PutF} (hp : ∀ x S S', put x S = .ok S' → 65536 < S.t.length → 65536 < S'.t.length) : ∀ {l : List It} {S S' : WS}, itemsW put l S = .ok S' → 65536 < S.t.length → 65536 < S'.t.length
  | [], S, S', h, hl => by rw [itemsW] at h; cases h; exact hl
  | x :: l, S, S', h, hl => by
    rw [itemsW] at h
    split at h
    · cases h
    · rename_i w' h1
      exact itemsW_long hp h (hp _ _ _ h1 (by simp; omega))
theorem bracesW_long {sub : Option PutF} (hp : ∀ put, sub = some put → ∀ x S S', put x S = .ok S' → 65536 < S.t.length → 65536 < S'.t.length) {l : List It} {S S' : WS} (h : bracesW sub l S = .ok S') (hl : 65536 < S.t.length) : 65536 < S'.t.length := by
  unfold bracesW at h
  split at h
  · cases h
  · rename_i put
    split at h
    · cases h
    · rename_i w' h1
      cases h
      have := itemsW_long (hp put rfl) h1 (by simp; omega)
      simp
      omega
theorem graphW_long {F : List TP} {sub : Option PutF} (hp : ∀ put, sub = some put → ∀ x S S', put x S = .ok S' → 65536 < S.t.length → 65536 < S'.t.length) {v : VT} {S S' : WS} (h : graphW F sub v S = .ok S') (hl : 65536 < S.t.length) : 65536 < S'.t.length := by
  unfold graphW at h
  have hc : 65536 < (cutW S.t).length := by
    unfold cutW
    split
    · rw [List.length_replicate]; omega
    · exact hl
  unfold valueW at h
  split at h
  · cases h; simp; omega
  split at h
  · cases h; simp; omega
  split at h
  · cases h; simp; omega
  split at h
  · cases h; simp; omega
  split at h
  · exact bracesW_long hp h (by simp; omega)
  split at h
  · unfold objectW at h
    split at h
    · cases h; simp; omega
    · split at h
      · cases h
      · exact bracesW_long hp h (by simp; omega)
  · cases h; exact hc
theorem gvalW_long (F : List TP) : ∀ (k : Nat) (x : VT) (S S' : WS), gvalW F k x S = .ok S' → 65536 < S.t.length → 65536 < S'.t.length
  | 0, _, _, _, h, hl => graphW_long (fun _ e => by cases e) h hl
  | k + 1, _, _, _, h, hl => graphW_long (sub := some (gvalW F k)) (fun put e => by cases e; exact gvalW_long F k) h hl
theorem graphW_adds {F : List TP} {sub : Option PutF} (hp : ∀ put, sub = some put → ∀ x S S', put x S = .ok S' → Adds S S') (hl : ∀ put, sub = some put → ∀ x S S', put x S = .ok S' → 65536 < S.t.length → 65536 < S'.t.length) {v : VT} {S S' : WS} (h : graphW F sub v S = .ok S') : Adds S S' := by
  by_cases hc : 131072 < S.t.length
  · have h1 := graphW_long hl h (by omega)
    unfold graphW at h
    obtain ⟨a, -⟩ := valueW_adds hp h
    exact ⟨a, fun e => by omega⟩
  · unfold graphW cutW at h
    rw [if_neg hc] at h
    exact valueW_adds hp h
theorem gvalW_adds (F : List TP) : ∀ (k : Nat) (x : VT) (S S' : WS), gvalW F k x S = .ok S' → Adds S S'
  | 0, _, _, _, h => graphW_adds (fun _ e => by cases e) (fun _ e => by cases e) h
  | k + 1, _, _, _, h => graphW_adds (sub := some (gvalW F k)) (fun put e => by cases e; exact gvalW_adds F k) (fun put e => by cases e; exact gvalW_long F k) h
theorem place_prefix {o u : List Int} {n : Int} {i : Nat} (h : placeW o n = some i) : placeW (o ++ u) n = some i := by
  unfold placeW at h ⊢
  rw [List.findIdx?_append, h]
  rfl

/-! What is read of what was written. -/
def nextL (l : List It) (nx : Int) : Int := l.foldl (fun nx x => nextP x.1 nx) nx
mutual
/-- A value as it is read: its objects by their places, its lists' next numbers by their keys. -/
def renV (O : List Int) : VT → VT
  | .mk k n t l => if k = 5 then .mk 5 (((placeW O n).getD 0 : Nat) + 1) ⟨#[]⟩ [] else if k = 4 then .mk 4 (nextL l 0) ⟨#[]⟩ (renL O l) else .mk k n t []
def renL (O : List Int) : List (K × VT) → List (K × VT)
  | [] => []
  | (q, v) :: r => (q, renV O v) :: renL O r
end
theorem renL_cons (O : List Int) (x : It) (r : List It) : renL O (x :: r) = (x.1, renV O x.2) :: renL O r := by cases x; rw [renL]
theorem renL_len (O : List Int) : ∀ l : List It, (renL O l).length = l.length
  | [] => by rw [renL]
  | x :: l => by rw [renL_cons, List.length_cons, List.length_cons, renL_len O l]
theorem renL_keys (O : List Int) : ∀ (l : List It), ∀ x ∈ renL O l, ∃ y ∈ l, x.1 = y.1
  | [], x, hx => by rw [renL] at hx; cases hx
  | y :: l, x, hx => by
    rw [renL_cons] at hx
    rcases List.mem_cons.1 hx with rfl | hx
    · exact ⟨y, by simp, rfl⟩
    · obtain ⟨z, hz, e⟩ := renL_keys O l x hx
      exact ⟨z, by simp [hz], e⟩
/-- The thing of an object. -/
def thW (F : List TP) (x : Int) : TP := (F[(x - 1).toNat]?).getD (⟨#[]⟩, [])
def WW (F : List TP) (o : List Int) : Nat := (o.map fun x => (thW F x).2.length + countL (thW F x).2).sum
theorem WW_append (F : List TP) (a b : List Int) : WW F (a ++ b) = WW F a + WW F b := by unfold WW; rw [List.map_append, List.sum_append]
theorem itemsL_once {n d : Int} : ∀ {l : List It} {met : List K}, itemsL n d met l = true → Once l ∧ ∀ x ∈ l, x.1.norm = x.1 ∧ x.1 ∉ met
  | [], _, _ => ⟨List.Pairwise.nil, fun x hx => by cases hx⟩
  | y :: l, met, h => by
    rw [itemsL_at] at h
    simp only [Bool.and_eq_true, Bool.not_eq_true', decide_eq_false_iff_not] at h
    obtain ⟨⟨⟨a, b⟩, -⟩, -, c⟩ := h
    obtain ⟨ho, hx⟩ := itemsL_once c
    refine ⟨List.pairwise_cons.2 ⟨fun x hm e => (hx x hm).2 (by rw [← e]; simp), ho⟩, fun x hm => ?_⟩
    rcases List.mem_cons.1 hm with rfl | hm
    · exact ⟨K.same_iff.1 a, b⟩
    · exact ⟨(hx x hm).1, fun e => (hx x hm).2 (by simp [e])⟩
/-- Things that may be written and read. -/
structure FRd (N : Nat) (F : List TP) : Prop where
  at_ : ∀ th ∈ F, nameP th.1.toList = true ∧ Once th.2 ∧ ∀ x ∈ th.2, x.1.b = true ∧ x.1.norm = x.1 ∧ I64 x.1.n ∧ (∃ d, mayV x.2 d = true) ∧ WOk N x.2
  few : ∀ th ∈ F, th.1.size ≤ 1073741824 ∧ th.2.length + countL th.2 ≤ 2048
/-- The keys of items: each in its one form, each once. -/
structure KRd (N : Nat) (props : Bool) (l : List It) : Prop where
  once : Once l
  at_ : ∀ x ∈ l, (props = true → x.1.b = true) ∧ x.1.norm = x.1 ∧ I64 x.1.n ∧ (∃ d, mayV x.2 d = true) ∧ WOk N x.2
/-- What a value's reading gives of what a value's writing wrote. -/
def BackAt (F : List TP) (N : Nat) (s : ByteArray) (O : List Int) (val : ValF) (put : PutF) : Prop :=
  ∀ v S S', put v S = .ok S' → WOk N v → (∃ d, mayV v d = true) → S'.t.length ≤ 65536 → (∃ rest, s.toList = S'.t ++ rest) → (∃ u, O = S'.o ++ u) → ∀ (m : Nat) (ths : List TP), ths.length = S.o.length → S.o.length ≤ S.t.length → m + countV v + WW F S'.o ≤ 2048 + WW F S.o →
    ∃ m' ths', val S.t.length m ths = .ok (renV O v, S'.t.length, m', ths') ∧ ths'.length = S'.o.length ∧ (∀ i, i < ths.length → ths'[i]? = ths[i]?) ∧ (∀ i, S.o.length ≤ i → i < S'.o.length → ths'[i]? = (S'.o[i]?).map fun x => ((thW F x).1, renL O (thW F x).2)) ∧ m' + WW F S.o = m + countV v + WW F S'.o
theorem num_key {k : K} (hb : k.b = false) (hn : k.norm = k) : k = ⟨false, k.n, ⟨#[]⟩⟩ := by
  unfold K.norm at hn
  rw [if_neg (by rw [hb]; decide)] at hn
  exact hn.symm
section
variable {s : ByteArray} {N : Nat}
theorem rd_key {a b : Bs} {k : K} {props : Bool} (h : s.toList = a ++ (keyW k ++ b)) (hn : k.norm = k) (hp : props = true → k.b = true) (hk : I64 k.n) (hs : s.size ≤ 65536) :
    ∃ q, keyP s props a.length = .ok (k, q) ∧ mustP s [59] q = .ok (a ++ keyW k).length := by
  have hsz := size_of_list h
  cases hb : k.b
  · have hkk := num_key hb hn
    have hpr : props = false := by cases props with | false => rfl | true => rw [hp rfl] at hb; cases hb
    have e : keyW k = [105, 58] ++ (Lib.itoa k.n ++ [59]) := by unfold keyW; rw [if_neg (by rw [hb]; decide)]
    rw [e] at h ⊢
    obtain ⟨h1, -⟩ := now_of (s := s) (a := a) (c := 105) (b := [58] ++ (Lib.itoa k.n ++ [59]) ++ b) (by rw [h]; simp)
    have h2 := rd_must (s := s) (a := a) (l := [105, 58]) (b := Lib.itoa k.n ++ [59] ++ b) (by rw [h]; simp)
    have h3 := rd_number (s := s) (a := a ++ [105, 58]) (b := b) (c := 59) (n := k.n) (sign := true) (most := 0) (by rw [h]; simp) (by decide) hk.1 hk.2 (.inl rfl)
    have h4 := rd_must (s := s) (a := a ++ [105, 58] ++ Lib.itoa k.n) (l := [59]) (b := b) (by rw [h]; simp)
    refine ⟨_, ?_, by rw [h4]; simp⟩
    unfold keyP
    rw [hpr, if_pos (by simp [h1]), h2]
    simp only
    rw [h3]
    simp only
    rw [← hkk]
  · have hkk := text_key hb hn
    have e : keyW k = textW k.t := by unfold keyW; rw [if_pos hb]
    rw [e] at h ⊢
    unfold textW at h ⊢
    obtain ⟨h1, -⟩ := now_of (s := s) (a := a) (c := 115) (b := [58] ++ (Lib.itoa k.t.size ++ ([58, 34] ++ (k.t.toList ++ [34, 59]))) ++ b) (by rw [h]; simp)
    have h2 := rd_must (s := s) (a := a) (l := [115, 58]) (b := Lib.itoa k.t.size ++ ([58, 34] ++ (k.t.toList ++ [34, 59])) ++ b) (by rw [h]; simp)
    have h3 := rd_text (s := s) (a := a ++ [115, 58]) (b := [59] ++ b) (t := k.t) (cls := false) (by rw [h]; simp) (by rw [e] at hsz; unfold textW at hsz; simp [size_toList] at hsz; omega) (fun e => by cases e)
    have h4 := rd_must (s := s) (a := a ++ [115, 58] ++ (Lib.itoa k.t.size ++ ([58, 34] ++ (k.t.toList ++ [34])))) (l := [59]) (b := b) (by rw [h]; simp)
    refine ⟨_, ?_, by rw [h4]; simp⟩
    unfold keyP
    rw [if_neg (by rw [h1]; simp), h2]
    simp only
    rw [h3]
    simp only
    rw [← hkk]
theorem itemsP_back {F : List TP} {O : List Int} {val : ValF} {put : PutF} {props : Bool} (hs : s.size ≤ 65536) (hLn : Len val) (hB : BackAt F N s O val put) (hA : ∀ x S S', put x S = .ok S' → Adds S S') :
    ∀ {l : List It} {S S' : WS} {L : LS}, itemsW put l S = .ok S' → KRd N props l → (∀ x ∈ l, findK x.1 L.xs = none) → S'.t.length ≤ 65535 → (∃ rest, s.toList = S'.t ++ ([125] ++ rest)) → (∃ u, O = S'.o ++ u) → ∀ (m : Nat) (ths : List TP), ths.length = S.o.length → S.o.length ≤ S.t.length → m + (l.length + countL l) + WW F S'.o ≤ 2048 + WW F S.o →
    ∃ m' ths', itemsP s props val l.length L S.t.length m ths = .ok (⟨L.xs ++ renL O l, nextL l L.nx⟩, (S'.t ++ [125]).length, m', ths') ∧ ths'.length = S'.o.length ∧ (∀ i, i < ths.length → ths'[i]? = ths[i]?) ∧ (∀ i, S.o.length ≤ i → i < S'.o.length → ths'[i]? = (S'.o[i]?).map fun x => ((thW F x).1, renL O (thW F x).2)) ∧ m' + WW F S.o = m + (l.length + countL l) + WW F S'.o
  | [], S, S', L, h, hk, hf, hl, ⟨rest, hr⟩, ho, m, ths, ht, hot, hm => by
    rw [itemsW] at h
    cases h
    refine ⟨m, ths, ?_, ht, fun _ _ => rfl, fun i a b => by omega, by simp [countL]⟩
    rw [List.length_nil, itemsP, rd_must (s := s) (l := [125]) (b := rest) hr]
    simp [renL, nextL]
  | x :: l, S, S', L, h, hk, hf, hl, hr, ho, m, ths, ht, hot, hm => by
    rw [itemsW] at h
    split at h
    · cases h
    · rename_i S1 h1
      obtain ⟨k1, k2, hkey, k3, k4⟩ := hk.at_ x (by simp)
      have hk' : KRd N props l := ⟨(List.pairwise_cons.1 hk.once).2, fun y hy => hk.at_ y (by simp [hy])⟩
      obtain ⟨rest, hrest⟩ := hr
      have ad := itemsW_adds hA h
      obtain ⟨u, hu⟩ := ad.2 (by omega)
      obtain ⟨uo, huo⟩ := ad.1
      have ad1 := hA _ _ _ h1
      have hl1 : S1.t.length ≤ 65536 := by rw [hu] at hl; simp at hl; omega
      obtain ⟨u1, hu1⟩ := ad1.2 hl1
      obtain ⟨uo1, huo1⟩ := ad1.1
      simp only at hu1 huo1
      rw [countL_cons, List.length_cons] at hm
      have w1 := WW_append F S1.o uo
      rw [← huo] at w1
      have w2 := WW_append F S.o uo1
      rw [← huo1] at w2
      obtain ⟨q, q1, q2⟩ := rd_key (s := s) (a := S.t) (b := u1 ++ u ++ ([125] ++ rest)) (k := x.1) (props := props) (by rw [hrest, hu, hu1]; simp) k2 k1 hkey hs
      obtain ⟨m1, ths1, r1, r2, r3, r4, r5⟩ := hB x.2 _ _ h1 k4 k3 hl1 ⟨u ++ ([125] ++ rest), by rw [hrest, hu]; simp⟩ (by obtain ⟨v, hv⟩ := ho; exact ⟨uo ++ v, by rw [hv, huo]; simp⟩) (m + 1) ths ht (by simp only [List.length_append]; omega) (by simp only; omega)
      simp only at r1 r4 r5
      have hln := hLn _ _ _ _ r1
      simp only [List.length_append] at hln
      obtain ⟨m2, ths2, t1, t2, t3, t4, t5⟩ := itemsP_back (L := ⟨L.xs ++ [(x.1, renV O x.2)], nextP x.1 L.nx⟩) hs hLn hB hA h hk' (fun y hy => by
        rw [findK_snoc (hf x (by simp)), if_neg (fun e => (List.pairwise_cons.1 hk.once).1 y hy e.symm)]
        exact hf y (by simp [hy])) hl ⟨rest, hrest⟩ ho m1 ths1 r2 (by omega) (by omega)
      refine ⟨m2, ths2, ?_, t2, fun i hi => ?_, fun i ha hb => ?_, by rw [countL_cons, List.length_cons]; omega⟩
      · rw [List.length_cons, itemsP, q1]
        simp only
        rw [q2]
        simp only
        rw [k2, K.same_self, if_neg (by decide), hf x (by simp), if_neg (by simp), if_neg (by omega), r1]
        simp only
        rw [t1, renL_cons]
        simp [nextL]
      · have hlt : ths.length ≤ ths1.length := by rw [ht, r2, huo1]; simp
        rw [t3 i (by omega), r3 i hi]
      · by_cases hc : i < S1.o.length
        · rw [t3 i (by omega), r4 i ha hc, huo, List.getElem?_append_left hc]
        · exact t4 i (by omega) hb
theorem bracesP_back {F : List TP} {O : List Int} {val : ValF} {put : PutF} {props : Bool} (hs : s.size ≤ 65536) (hLn : Len val) (hB : BackAt F N s O val put) (hA : ∀ x S S', put x S = .ok S' → Adds S S') {l : List It} {T : Bs} {o : List Int} {S' : WS}
    (h : bracesW (some put) l ⟨T, o⟩ = .ok S') (hk : KRd N props l) (hl : S'.t.length ≤ 65536) (hr : ∃ rest, s.toList = S'.t ++ rest) (ho : ∃ u, O = S'.o ++ u) (m : Nat) (ths : List TP) (ht : ths.length = o.length) (hot : o.length ≤ T.length) (hm : m + (l.length + countL l) + WW F S'.o ≤ 2048 + WW F o) (hw : WW F o ≤ WW F S'.o) :
    ∃ m' ths', bracesP s props val T.length m ths = .ok (⟨renL O l, nextL l 0⟩, S'.t.length, m', ths') ∧ ths'.length = S'.o.length ∧ (∀ i, i < ths.length → ths'[i]? = ths[i]?) ∧ (∀ i, o.length ≤ i → i < S'.o.length → ths'[i]? = (S'.o[i]?).map fun x => ((thW F x).1, renL O (thW F x).2)) ∧ m' + WW F o = m + (l.length + countL l) + WW F S'.o := by
  obtain ⟨rest, hr⟩ := hr
  unfold bracesW at h
  simp only at h
  split at h
  · cases h
  · rename_i S1 h1
    cases h
    have ad := itemsW_adds hA h1
    simp only [List.length_append, List.length_cons, List.length_nil] at hl
    obtain ⟨u, hu⟩ := ad.2 (by omega)
    simp only at hr hu hm hw
    have n1 := rd_number (s := s) (a := T) (b := [123] ++ (u ++ [125] ++ rest)) (c := 58) (n := (l.length : Int)) (sign := false) (most := 2048) (by rw [hr, hu]; simp) (by decide) (by omega) (by omega) (.inr ⟨by omega, by omega⟩)
    have n2 := rd_must (s := s) (a := T ++ Lib.itoa l.length) (l := [58, 123]) (b := u ++ [125] ++ rest) (by rw [hr, hu]; simp)
    obtain ⟨m2, ths2, t1, t2, t3, t4, t5⟩ := itemsP_back (s := s) (L := LS.new) (props := props) hs hLn hB hA h1 hk (fun _ _ => rfl) (by omega) ⟨rest, by rw [hr]; simp⟩ ho m ths ht (by simp only [List.length_append]; omega) hm
    refine ⟨m2, ths2, ?_, t2, t3, t4, t5⟩
    unfold bracesP
    rw [n1]
    simp only
    rw [n2]
    simp only
    rw [List.append_assoc, show ((l.length : Int)).toNat = l.length by omega, t1]
    rfl
theorem emptyT_eq {t : ByteArray} (h : emptyT t = true) : t = ⟨#[]⟩ := by
  apply ba_ext
  unfold emptyT at h
  rw [List.isEmpty_iff] at h
  rw [h, ByteArray.toList_eq]
theorem count_leaf (k n : Int) (t : ByteArray) : countV (.mk k n t []) = 0 := by rw [countV]; simp [countL]
theorem ren_leaf (O : List Int) (k n : Int) (t : ByteArray) (l : List It) (h4 : k ≠ 4) (h5 : k ≠ 5) : renV O (.mk k n t l) = .mk k n t [] := by rw [renV, if_neg h5, if_neg h4]
theorem graph_back {F : List TP} {O : List Int} (hs : s.size ≤ 65536) (hF : FRd N F) {subR : Option ValF} {subW : Option PutF} (hsub : ∀ put, subW = some put → ∃ val, subR = some val ∧ BackAt F N s O val put ∧ Len val ∧ Keep val ∧ Grows val) (hA : ∀ put, subW = some put → ∀ x S S', put x S = .ok S' → Adds S S') (hLg : ∀ put, subW = some put → ∀ x S S', put x S = .ok S' → 65536 < S.t.length → 65536 < S'.t.length) :
    BackAt F N s O (graphP s subR) (graphW F subW) := by
  intro v S S' h hw hm hl hr ho m ths ht hot hmm
  have hSl : S.t.length ≤ 65536 := by
    rcases Nat.lt_or_ge 65536 S.t.length with h1 | h1
    · have := graphW_long hLg h h1; omega
    · exact h1
  have had := graphW_adds hA hLg h
  unfold graphW cutW at h
  rw [if_neg (by omega)] at h
  obtain ⟨rest, hr⟩ := hr
  obtain ⟨d, hm⟩ := hm
  have leaf : ∀ (x : VT) (u : Bs), S' = ⟨S.t ++ u, S.o⟩ → countV v = 0 → (graphP s subR) S.t.length m ths = .ok (renV O v, (S.t ++ u).length, m, ths) →
      ∃ m' ths', graphP s subR S.t.length m ths = .ok (renV O v, S'.t.length, m', ths') ∧ ths'.length = S'.o.length ∧ (∀ i, i < ths.length → ths'[i]? = ths[i]?) ∧ (∀ i, S.o.length ≤ i → i < S'.o.length → ths'[i]? = (S'.o[i]?).map fun x => ((thW F x).1, renL O (thW F x).2)) ∧ m' + WW F S.o = m + countV v + WW F S'.o := by
    intro x u e hc hg
    subst e
    exact ⟨m, ths, hg, ht, fun _ _ => rfl, fun i a b => by simp only at b; omega, by rw [hc]; rfl⟩
  cases hw with
  | mk k n t l hk hn hkk ht2 hx hsx hlx =>
  have hk5 : k = 0 ∨ k = 1 ∨ k = 2 ∨ k = 3 ∨ k = 4 ∨ k = 5 := by omega
  rcases hk5 with rfl | rfl | rfl | rfl | rfl | rfl
  · rw [valueW_0] at h
    cases h
    rw [mayV, if_pos rfl] at hm
    simp only [Bool.and_eq_true, decide_eq_true_eq] at hm
    obtain ⟨rfl, rfl, e⟩ := hm
    have et := emptyT_eq e
    subst et
    refine leaf (.mk 0 0 ⟨#[]⟩ []) [78, 59] rfl (count_leaf _ _ _) ?_
    simp only at hr
    obtain ⟨b1, -⟩ := now_of (s := s) (a := S.t) (c := 78) (b := [59] ++ rest) (by rw [hr]; simp)
    have b2 := rd_must (s := s) (a := S.t) (l := [78, 59]) (b := rest) (by rw [hr]; simp)
    unfold graphP nullP
    rw [b1, if_pos rfl, b2, ren_leaf O 0 0 _ _ (by decide) (by decide)]
  · rw [valueW_1] at h
    cases h
    rw [mayV, if_neg (by decide), if_pos rfl] at hm
    simp only [Bool.and_eq_true, decide_eq_true_eq] at hm
    obtain ⟨rfl, hn01, e⟩ := hm
    have et := emptyT_eq e
    subst et
    simp only at hr
    refine leaf (.mk 1 n ⟨#[]⟩ []) _ rfl (count_leaf _ _ _) ?_
    have i1 : Lib.itoa 1 = [49] := by rw [show (1 : Int) = ((1 : Nat) : Int) from rfl, Lib.itoa_nonneg, Lib.decDigits_one (by decide)]; rfl
    have i0 : Lib.itoa 0 = [48] := itoa_zero
    have dd : ∀ c : UInt8, Lib.itoa n = [c] → graphP s subR S.t.length m ths = (if c = 49 then (match mustP s [49, 59] (S.t ++ [98, 58]).length with
      | .error e => .error e
      | .ok q' => .ok (.mk 1 1 ⟨#[]⟩ [], q', m, ths))
    else match mustP s [48, 59] (S.t ++ [98, 58]).length with
      | .error e => .error e
      | .ok q' => .ok (.mk 1 0 ⟨#[]⟩ [], q', m, ths)) := by
      intro c hc
      rw [hc] at hr
      obtain ⟨b1, -⟩ := now_of (s := s) (a := S.t) (c := 98) (b := [58] ++ ([c] ++ [59]) ++ rest) (by rw [hr]; simp)
      have b2 := rd_must (s := s) (a := S.t) (l := [98, 58]) (b := [c] ++ [59] ++ rest) (by rw [hr]; simp)
      obtain ⟨b3, -⟩ := now_of (s := s) (a := S.t ++ [98, 58]) (c := c) (b := [59] ++ rest) (by rw [hr]; simp)
      unfold graphP boolP
      rw [b1, if_neg (by decide), if_pos rfl, b2]
      simp only
      rw [b3]
      rfl
    rcases hn01 with rfl | rfl
    · rw [dd 48 i0, if_neg (by decide), rd_must (s := s) (a := S.t ++ [98, 58]) (l := [48, 59]) (b := rest) (by rw [hr, i0]; simp), ren_leaf O 1 0 _ _ (by decide) (by decide), i0]
      simp
    · rw [dd 49 i1, if_pos rfl, rd_must (s := s) (a := S.t ++ [98, 58]) (l := [49, 59]) (b := rest) (by rw [hr, i1]; simp), ren_leaf O 1 1 _ _ (by decide) (by decide), i1]
      simp
  · rw [valueW_2] at h
    cases h
    rw [mayV, if_neg (by decide), if_neg (by decide), if_pos rfl] at hm
    simp only [Bool.and_eq_true, decide_eq_true_eq] at hm
    obtain ⟨rfl, e⟩ := hm
    have et := emptyT_eq e
    subst et
    simp only at hr
    refine leaf (.mk 2 n ⟨#[]⟩ []) _ rfl (count_leaf _ _ _) ?_
    obtain ⟨b1, -⟩ := now_of (s := s) (a := S.t) (c := 105) (b := [58] ++ (Lib.itoa n ++ [59]) ++ rest) (by rw [hr]; simp)
    have b2 := rd_must (s := s) (a := S.t) (l := [105, 58]) (b := Lib.itoa n ++ [59] ++ rest) (by rw [hr]; simp)
    have b3 := rd_number (s := s) (a := S.t ++ [105, 58]) (b := rest) (c := 59) (n := n) (sign := true) (most := 0) (by rw [hr]; simp) (by decide) hn.1 hn.2 (.inl rfl)
    have b4 := rd_must (s := s) (a := S.t ++ [105, 58] ++ Lib.itoa n) (l := [59]) (b := rest) (by rw [hr]; simp)
    unfold graphP intP
    rw [b1, if_neg (by decide), if_neg (by decide), if_pos rfl, b2]
    simp only
    rw [b3]
    simp only
    rw [b4, ren_leaf O 2 n _ _ (by decide) (by decide)]
    simp
  · rw [valueW_3] at h
    cases h
    rw [mayV, if_neg (by decide), if_neg (by decide), if_neg (by decide), if_pos rfl] at hm
    simp only [Bool.and_eq_true, decide_eq_true_eq] at hm
    obtain ⟨rfl, rfl, e⟩ := hm
    simp only [textW] at hr
    refine leaf (.mk 3 0 t []) _ rfl (count_leaf _ _ _) ?_
    obtain ⟨b1, -⟩ := now_of (s := s) (a := S.t) (c := 115) (b := [58] ++ (Lib.itoa t.size ++ ([58, 34] ++ (t.toList ++ [34, 59]))) ++ rest) (by rw [hr]; simp)
    have b2 := rd_must (s := s) (a := S.t) (l := [115, 58]) (b := Lib.itoa t.size ++ ([58, 34] ++ (t.toList ++ [34, 59])) ++ rest) (by rw [hr]; simp)
    have b3 := rd_text (s := s) (a := S.t ++ [115, 58]) (b := [59] ++ rest) (t := t) (cls := false) (by rw [hr]; simp) e (fun e => by cases e)
    have b4 := rd_must (s := s) (a := S.t ++ [115, 58] ++ (Lib.itoa t.size ++ ([58, 34] ++ (t.toList ++ [34])))) (l := [59]) (b := rest) (by rw [hr]; simp)
    unfold graphP strP
    rw [b1, if_neg (by decide), if_neg (by decide), if_neg (by decide), if_pos rfl, b2]
    simp only
    rw [b3]
    simp only
    rw [b4, ren_leaf O 3 0 _ _ (by decide) (by decide)]
    simp [textW]
  · rw [valueW_4] at h
    rw [mayV, if_neg (by decide), if_neg (by decide), if_neg (by decide), if_neg (by decide), if_neg (by decide), if_pos rfl] at hm
    simp only [Bool.and_eq_true, decide_eq_true_eq] at hm
    obtain ⟨⟨⟨⟨e, -⟩, hll⟩, -⟩, hi⟩ := hm
    cases subW with
    | none => unfold bracesW at h; cases h
    | some put =>
    obtain ⟨val, hval, hB, hLn, hKp, hGr⟩ := hsub put rfl
    subst hval
    have hio := itemsL_once hi
    have hkr : KRd N false l := ⟨hio.1, fun x hx2 => ⟨(fun e => by cases e), (hio.2 x hx2).1, (hx x hx2).2, ⟨_, itemsL_all hi x hx2⟩, hsx x hx2⟩⟩
    have hcv : countV (.mk 4 n t l) = l.length + countL l := by rw [countV]
    rw [hcv] at hmm ⊢
    obtain ⟨uo, huo⟩ := had.1
    have hww := WW_append F S.o uo
    rw [← huo] at hww
    obtain ⟨m2, ths2, t1, t2, t3, t4, t5⟩ := bracesP_back (T := S.t ++ [97, 58]) (o := S.o) (S' := S') (props := false) hs hLn hB (hA put rfl) h hkr hl ⟨rest, hr⟩ ho m ths ht (by simp only [List.length_append]; omega) hmm (by omega)
    obtain ⟨ub, hub⟩ := (bracesW_adds hA h).2 hl
    simp only at hub
    obtain ⟨b1, -⟩ := now_of (s := s) (a := S.t) (c := 97) (b := [58] ++ ub ++ rest) (by rw [hr, hub]; simp)
    have b2 := rd_must (s := s) (a := S.t) (l := [97, 58]) (b := ub ++ rest) (by rw [hr, hub]; simp)
    refine ⟨m2, ths2, ?_, t2, t3, t4, t5⟩
    unfold graphP deepP listP
    rw [b1, if_neg (by decide), if_neg (by decide), if_neg (by decide), if_neg (by decide), if_neg (by decide), if_pos (by decide)]
    simp only
    rw [if_neg (by decide), b2]
    simp only
    rw [t1, renV, if_neg (by decide), if_pos rfl]
  · rw [valueW_5] at h
    rw [mayV, if_neg (by decide), if_neg (by decide), if_neg (by decide), if_neg (by decide), if_pos rfl] at hm
    simp only [Bool.and_eq_true, decide_eq_true_eq] at hm
    obtain ⟨rfl, -, e⟩ := hm
    have hnN := hk rfl
    unfold objectW at h
    split at h
    · rename_i i hp
      cases h
      simp only at hr ho
      have hi : i < S.o.length := (List.findIdx?_eq_some_iff_getElem.1 hp).1
      refine leaf (.mk 5 n t []) _ rfl (count_leaf _ _ _) ?_
      obtain ⟨u, hu⟩ := ho
      have hpO : placeW O n = some i := by rw [hu]; exact place_prefix hp
      have hi2 : i < 65536 := by omega
      obtain ⟨b1, -⟩ := now_of (s := s) (a := S.t) (c := 114) (b := [58] ++ (Lib.itoa ((i : Int) + 1) ++ [59]) ++ rest) (by rw [hr]; simp)
      have b2 := rd_must (s := s) (a := S.t) (l := [114, 58]) (b := Lib.itoa ((i : Int) + 1) ++ [59] ++ rest) (by rw [hr]; simp)
      have b3 := rd_number (s := s) (a := S.t ++ [114, 58]) (b := rest) (c := 59) (n := (i : Int) + 1) (sign := false) (most := 65536) (by rw [hr]; simp) (by decide) (by omega) (by omega) (.inr ⟨by omega, by omega⟩)
      have b4 := rd_must (s := s) (a := S.t ++ [114, 58] ++ Lib.itoa ((i : Int) + 1)) (l := [59]) (b := rest) (by rw [hr]; simp)
      unfold graphP refP
      rw [b1, if_neg (by decide), if_neg (by decide), if_neg (by decide), if_neg (by decide), if_pos rfl, b2]
      simp only
      rw [b3]
      simp only
      rw [if_neg (by omega), b4, renV, if_pos rfl, hpO]
      simp
    · rename_i hp
      split at h
      · cases h
      · rename_i th hth
        obtain ⟨hi0, hth0⟩ := List.getElem?_eq_some_iff.1 hth
        have hmem : th ∈ F := by rw [← hth0]; exact List.getElem_mem _
        obtain ⟨f1, f2, f3⟩ := hF.at_ th hmem
        have htw : thW F n = th := by unfold thW; rw [hth]; rfl
        cases subW with
        | none => unfold bracesW at h; cases h
        | some put =>
        obtain ⟨val, hval, hB, hLn, hKp, hGr⟩ := hsub put rfl
        subst hval
        have hkr : KRd N true th.2 := ⟨f2, fun x hx2 => ⟨fun _ => (f3 x hx2).1, (f3 x hx2).2⟩⟩
        obtain ⟨uo, huo⟩ := (bracesW_adds hA h).1
        simp only at huo
        have w1 := WW_append F (S.o ++ [n]) uo
        rw [← huo] at w1
        have w2 := WW_append F S.o [n]
        have w3 : WW F [n] = th.2.length + countL th.2 := by unfold WW; simp [htw]
        rw [count_leaf] at hmm ⊢
        obtain ⟨ub, hub⟩ := (bracesW_adds hA h).2 hl
        simp only at hub
        have c0 : (ths ++ [(th.1, ([] : List It))]).length = (S.o ++ [n]).length := by simp [ht]
        obtain ⟨m2, ths2, t1, t2, t3, t4, t5⟩ := bracesP_back (T := S.t ++ ([79, 58] ++ (Lib.itoa th.1.size ++ ([58, 34] ++ (th.1.toList ++ [34, 58]))))) (o := S.o ++ [n]) (S' := S') (props := true) hs hLn hB (hA put rfl) h hkr hl ⟨rest, hr⟩ ho m (ths ++ [(th.1, [])]) c0 (by simp only [List.length_append, List.length_cons, List.length_nil]; omega) (by omega) (by omega)
        obtain ⟨b1, -⟩ := now_of (s := s) (a := S.t) (c := 79) (b := [58] ++ (Lib.itoa th.1.size ++ ([58, 34] ++ (th.1.toList ++ [34, 58]))) ++ ub ++ rest) (by rw [hr, hub]; simp)
        have b2 := rd_must (s := s) (a := S.t) (l := [79, 58]) (b := Lib.itoa th.1.size ++ ([58, 34] ++ (th.1.toList ++ [34, 58])) ++ ub ++ rest) (by rw [hr, hub]; simp)
        have hcs := name_size f1
        rw [size_toList] at hcs
        have b3 := rd_text (s := s) (a := S.t ++ [79, 58]) (b := [58] ++ ub ++ rest) (t := th.1) (cls := true) (by rw [hr, hub]; simp) (by omega) (fun _ => f1)
        have b4 := rd_must (s := s) (a := S.t ++ [79, 58] ++ (Lib.itoa th.1.size ++ ([58, 34] ++ (th.1.toList ++ [34])))) (l := [58]) (b := ub ++ rest) (by rw [hr, hub]; simp)
        obtain ⟨u2, hu2⟩ := ho
        have hpO : placeW O n = some S.o.length := by
          rw [hu2, huo]
          refine place_prefix (u := u2) (place_prefix (u := uo) ?_)
          rw [place_snoc hp, if_pos rfl]
        have hlt : ths.length < ths2.length := by rw [t2, huo, ht]; simp
        have hat : ths2[ths.length]? = some (th.1, []) := by rw [t3 _ (by simp)]; simp
        refine ⟨m2, ths2.modify ths.length fun t => (t.1, renL O th.2), ?_, by rw [List.length_modify]; exact t2, fun i hi => ?_, fun i ha hb => ?_, by omega⟩
        · have e4 : (S.t ++ [79, 58] ++ (Lib.itoa th.1.size ++ ([58, 34] ++ (th.1.toList ++ [34]))) ++ [58]) = S.t ++ ([79, 58] ++ (Lib.itoa th.1.size ++ ([58, 34] ++ (th.1.toList ++ [34, 58])))) := by simp
          unfold graphP deepP objectP
          rw [b1, if_neg (by decide), if_neg (by decide), if_neg (by decide), if_neg (by decide), if_neg (by decide), if_pos (by decide)]
          simp only
          rw [if_pos True.intro, b2]
          simp only
          rw [b3]
          simp only
          rw [b4]
          simp only
          rw [e4, t1, renV, if_pos rfl, hpO]
          simp only [Option.getD_some]
          rw [ht]
        · rw [mod_ne (by omega), t3 i (by simp; omega), List.getElem?_append_left hi]
        · by_cases hc : i = S.o.length
          · subst hc
            rw [← ht, mod_eq, hat, ht, huo, List.getElem?_append_left (by simp), List.getElem?_append_right (Nat.le_refl _)]
            simp [htw]
          · rw [mod_ne (by omega)]
            exact t4 i (by simp; omega) hb
theorem gval_back {F : List TP} {O : List Int} (hs : s.size ≤ 65536) (hF : FRd N F) : ∀ k : Nat, BackAt F N s O (gvalP s k) (gvalW F k)
  | 0 => graph_back hs hF (fun _ e => by cases e) (fun _ e => by cases e) (fun _ e => by cases e)
  | k + 1 => graph_back (subR := some (gvalP s k)) (subW := some (gvalW F k)) hs hF (fun put e => by cases e; exact ⟨_, rfl, gval_back hs hF k, gvalP_len s k, gvalP_keep s k, gvalP_grows s k⟩) (fun put e => by cases e; exact gvalW_adds F k) (fun put e => by cases e; exact gvalW_long F k)
end

/-! What was packed may be. -/
theorem leftL_nn_of {l : List It} (ih : ∀ x ∈ l, ∀ n : Int, 0 ≤ leftV x.2 n → leftV x.2 n = n - countV x.2) : ∀ n : Int, 0 ≤ leftL l n → leftL l n = n - countL l := by
  induction l with
  | nil => intro n h; rw [leftL, countL]; omega
  | cons x r hr =>
    intro n h
    rw [leftL_cons] at h ⊢
    split at h
    · omega
    · rename_i hn
      rw [if_neg hn]
      have h1 := leftL_le r (leftV x.2 n)
      have h2 := ih x (by simp) n (by omega)
      have h3 := hr (fun y hy => ih y (by simp [hy])) _ h
      rw [h3, countL_cons, h2]
      omega
theorem left_nn (v : VT) : ∀ n : Int, 0 ≤ leftV v n → leftV v n = n - countV v := by
  refine VT.ind (P := fun v => ∀ n : Int, 0 ≤ leftV v n → leftV v n = n - countV v) ?_ v
  intro k i t l ih n h
  rw [leftV] at h ⊢
  rw [countV, leftL_nn_of ih _ h]
  omega
theorem leftL_nn (l : List It) (n : Int) (h : 0 ≤ leftL l n) : leftL l n = n - countL l := leftL_nn_of (fun x _ => left_nn x.2) n h
theorem met_of {met : List ByteArray} {t : ByteArray} (h : metW met t = false) : t ∉ met := by
  intro hm
  unfold metW at h
  rw [List.any_eq_false] at h
  have := h t hm
  simp at this
theorem propsW_at {N : Int} : ∀ {l : List It} {met : List ByteArray}, propsW N met l = true → Once l ∧ ∀ x ∈ l, x.1.b = true ∧ x.1.norm = x.1 ∧ x.1.t ∉ met ∧ rightV x.2 = true ∧ withinV x.2 N = true
  | [], _, _ => ⟨List.Pairwise.nil, fun x hx => by cases hx⟩
  | x :: l, met, h => by
    rw [propsW] at h
    cases hb : x.1.b <;> cases hn : K.same x.1.norm x.1 <;> cases hm : metW met x.1.t <;> cases hr : rightV x.2 <;> cases hw : withinV x.2 N <;> simp only [hb, hn, hm, hr, hw, Bool.not_true, Bool.not_false, Bool.or_true, Bool.or_false, if_true, Bool.false_eq_true, if_false] at h
    obtain ⟨ho, hx⟩ := propsW_at h
    have hnn := K.same_iff.1 hn
    refine ⟨List.pairwise_cons.2 ⟨fun y hy e => (hx y hy).2.2.1 (by rw [← e]; simp), ho⟩, fun y hy => ?_⟩
    rcases List.mem_cons.1 hy with rfl | hy
    · exact ⟨hb, hnn, met_of hm, hr, hw⟩
    · obtain ⟨a, b, c, d⟩ := hx y hy
      exact ⟨a, b, fun e => c (by simp [e]), d⟩
theorem total_cons (t : TP) (r : List TP) : totalW (t :: r) = t.2.length + countL t.2 + totalW r := by unfold totalW; rw [List.map_cons, List.sum_cons]
theorem thingsW_at {N : Int} : ∀ {F : List TP} {left : Int}, thingsW N left F = true → 0 ≤ left → (totalW F : Int) ≤ left ∧ ∀ t ∈ F, nameP t.1.toList = true ∧ propsW N [] t.2 = true
  | [], left, _, h0 => ⟨h0, fun t ht => by cases ht⟩
  | t :: r, left, h, h0 => by
    rw [thingsW] at h
    split at h
    · cases h
    · rename_i hl
      split at h
      · cases h
      · rename_i hw
        rw [Bool.not_eq_false] at hw
        unfold thingW at hw
        rw [Bool.and_eq_true] at hw
        have h1 := leftL_nn t.2 _ (by omega : 0 ≤ leftL t.2 (left - t.2.length))
        obtain ⟨h2, h3⟩ := thingsW_at h (by omega)
        rw [total_cons]
        refine ⟨by omega, fun y hy => ?_⟩
        rcases List.mem_cons.1 hy with rfl | hy
        · exact hw
        · exact h3 y hy
theorem sum_once (g : Nat → Nat) : ∀ (n : Nat) (o : List Nat), o.Nodup → (∀ x ∈ o, x < n) → (o.map g).sum ≤ ((List.range n).map g).sum
  | 0, o, _, h => by
    cases o with
    | nil => simp
    | cons x r => exact absurd (h x (by simp)) (by omega)
  | n + 1, o, hd, h => by
    rw [List.range_succ, List.map_append, List.sum_append]
    by_cases hm : n ∈ o
    · have hp := List.perm_cons_erase hm
      have h1 := (hp.map g).sum_nat
      have h2 := sum_once g n (o.erase n) (hd.erase n) (fun x hx => by
        have a := h x (List.mem_of_mem_erase hx)
        have b : x ≠ n := fun e => by subst e; exact (hd.not_mem_erase) hx
        omega)
      rw [h1]
      simp
      omega
    · have h2 := sum_once g n o hd (fun x hx => by
        have a := h x hx
        have b : x ≠ n := fun e => hm (e ▸ hx)
        omega)
      omega
theorem WW_total {F : List TP} {o : List Int} (hd : o.Nodup) (hr : ∀ x ∈ o, 1 ≤ x ∧ x ≤ (F.length : Int)) : WW F o ≤ totalW F := by
  have h1 := sum_once (fun i => ((F[i]?).getD (⟨#[]⟩, [])).2.length + countL ((F[i]?).getD (⟨#[]⟩, [])).2) F.length (o.map fun x => (x - 1).toNat)
    (List.pairwise_map.2 (hd.imp_of_mem fun {a b} ha hb hab e => hab (by have := hr a ha; have := hr b hb; omega)))
    (fun x hx => by obtain ⟨y, hy, rfl⟩ := List.mem_map.1 hx; have := hr y hy; omega)
  have h2 : (List.range F.length).map (fun i => ((F[i]?).getD (⟨#[]⟩, [])).2.length + countL ((F[i]?).getD (⟨#[]⟩, [])).2) = F.map fun t => t.2.length + countL t.2 := by
    apply List.ext_getElem
    · simp
    · intro i h1 h2
      simp at h1 h2
      simp [h2]
  rw [h2, List.map_map] at h1
  exact h1
/-- A graph that was packed. -/
structure Packed (v : VT) (F : List TP) (s : ByteArray) (O : List Int) : Prop where
  may : mayV v 0 = true
  within : withinV v F.length = true
  total : countV v + totalW F ≤ 2048
  thing : ∀ t ∈ F, nameP t.1.toList = true ∧ propsW F.length [] t.2 = true
  write : gvalW F 64 v ⟨[], []⟩ = .ok ⟨s.toList, O⟩
  order : O.Nodup ∧ ∀ x ∈ O, 1 ≤ x ∧ x ≤ (F.length : Int)
  few : O.length ≤ 65536
  read : unpackP s = .ok (renV O v, O.map fun x => ((thW F x).1, renL O (thW F x).2))
theorem packR_ok {x : WR} {s : ByteArray} (h : packR x = (s, 0)) (he : ∀ e, x = .error e → e = 4) : ∃ O, x = .ok ⟨s.toList, O⟩ ∧ s.size ≤ 65536 := by
  unfold packR at h
  split at h
  · rename_i e
    have := he e rfl
    cases h
    omega
  · rename_i w
    split at h
    · cases h
    · rename_i hl
      cases h
      exact ⟨w.o, by rw [str_toList], by rw [← size_toList, str_toList]; omega⟩
theorem pack_back {v : VT} {F : List TP} {s : ByteArray} (h : packP v F = (s, 0)) (hg : GoodS v) (hT : ∀ th ∈ F, th.1.size ≤ 1073741824 ∧ th.2.length ≤ 140737488355328 ∧ ∀ x ∈ th.2, KG x.1 ∧ GoodS x.2) (hN : F.length ≤ 140737488355328) : ∃ O, Packed v F s O := by
  unfold packP at h
  split at h
  · cases h
  · rename_i h1
    split at h
    · cases h
    · rename_i h2
      rw [Bool.not_eq_false, Bool.and_eq_true] at h1
      rw [Bool.not_eq_false] at h2
      have hr := h1.1
      unfold rightV at hr
      rw [Bool.and_eq_true, decide_eq_true_eq] at hr
      have hc := left_nn v 2048 hr.1
      obtain ⟨t1, t2⟩ := thingsW_at h2 hr.1
      have hw := wok_of F.length v 0 hg hr.2 h1.2
      have hF := thingsW_wok h2 hT
      obtain ⟨O, hO, hs⟩ := packR_ok h (fun e => gvalW_err hF 64 v _ e hw)
      obtain ⟨-, hOK⟩ := gvalW_len hN hF 64 v _ _ hw ⟨List.nodup_nil, fun x hx => by cases hx⟩ hO
      have hOK : O.Nodup ∧ ∀ x ∈ O, 1 ≤ x ∧ x ≤ (F.length : Int) := hOK
      have hWW := WW_total hOK.1 hOK.2
      have hFR : FRd F.length F := by
        refine ⟨fun th hm => ?_, fun th hm => ⟨(hT th hm).1, ?_⟩⟩
        · obtain ⟨a, b⟩ := t2 th hm
          obtain ⟨c, d⟩ := propsW_at b
          refine ⟨a, c, fun x hx => ?_⟩
          obtain ⟨d1, d2, d3, d4, d5⟩ := d x hx
          have hwx := (hF th hm).2.1 x hx
          unfold rightV at d4
          rw [Bool.and_eq_true] at d4
          exact ⟨d1, d2, hwx.1.2, ⟨0, d4.2⟩, hwx.2⟩
        · have := total_mem hm
          omega
      have e0 : WW F [] = 0 := rfl
      obtain ⟨m', ths', r1, r2, r3, r4, r5⟩ := gval_back (O := O) hs hFR 64 v ⟨[], []⟩ ⟨s.toList, O⟩ hO hw ⟨0, hr.2⟩ (by rw [size_toList]; exact hs) ⟨[], by simp⟩ ⟨[], by simp⟩ 0 [] rfl (by simp) (by simp only [e0]; omega)
      have hfew : O.length ≤ 65536 := by
        have := gvalP_len s 64 _ _ _ _ r1
        simp only [List.length_nil, size_toList] at this
        simp only at r2
        omega
      refine ⟨O, hr.2, h1.2, by omega, t2, hO, hOK, hfew, ?_⟩
      have hths : ths' = O.map fun x => ((thW F x).1, renL O (thW F x).2) := by
        apply List.ext_getElem?
        intro i
        by_cases hi : i < O.length
        · rw [r4 i (Nat.zero_le _) hi, List.getElem?_map]
        · rw [List.getElem?_eq_none (by simp only at r2; omega), List.getElem?_eq_none (by simp; omega)]
      unfold unpackP readP
      rw [if_neg (by omega)]
      simp only [List.length_nil] at r1
      rw [r1]
      simp only
      rw [if_neg (by rw [size_toList]; omega), hths]
end Go.Proofs.YtnaefnojmiolbaaGreatDoor
