/-
  JSON: what was read may be, and can be said; a fault's place lies within the text. Of no program.
  JSON: the walk of the law's alive.
  JSON: the walks of the laws JsonBack and JsonAgain.
-/
import Derived.Test.YtnaefnojmiolbaaGreatDoorJp20
import Derived.Test.YtnaefnojmiolbaaGreatDoorJp23
import Derived.Test.YtnaefnojmiolbaaGreatDoorJp30
namespace Go.Proofs.YtnaefnojmiolbaaGreatDoor
open Go.RowKit

/-- How many items a list has in all. -/
def cntS (l : LS) : Nat := l.xs.length + countL l.xs
/-- A list that was read: it may be, and can be said. -/
structure LJ (e : Int) (l : LS) : Prop where
  ok : l.Ok
  at_ : ∀ x ∈ l.xs, mayV x.2 (e + 1) = true ∧ Lib.validD x.1.t.toList = true ∧ saidV x.2 = true ∧ (GoodS x.2 ∧ x.1.t.size ≤ 1073741824) ∧ (x.1.b = false → 0 ≤ l.nx → x.1.n < l.nx)
theorem LJ.new (e : Int) : LJ e LS.new := ⟨LS.new_ok, by simp [LS.new]⟩
theorem countL_set : ∀ {l : List It} {i : Nat} {x : It}, countL (l.set i x) ≤ countL l + countV x.2
  | [], i, x => by simp [countL]
  | y :: l, 0, x => by rw [List.set_cons_zero, countL_cons, countL_cons]; omega
  | y :: l, i + 1, x => by
    have := countL_set (l := l) (i := i) (x := x)
    rw [List.set_cons_succ, countL_cons, countL_cons]; omega
theorem setN_fit {e : Int} {k : K} {v : VT} {l : LS} (h : LJ e l) (hk : k.Norm) (hkv : Lib.validD k.t.toList = true) (hm : mayV v (e + 1) = true) (hs : saidV v = true) (hg : GoodS v) (hkz : k.t.size ≤ 1073741824) : LJ e (setN k v l).2 ∧ cntS (setN k v l).2 ≤ cntS l + 1 + countV v := by
  have hok := setN_ok (v := v) hk h.ok
  unfold setN at hok ⊢
  cases hf : findK k l.xs with
  | some i =>
    rw [hf] at hok
    simp only at hok ⊢
    have hi := findK_lt hf
    have hat := findK_at hf
    refine ⟨⟨hok, fun x hx => ?_⟩, ?_⟩
    · rcases List.mem_or_eq_of_mem_set hx with hx | rfl
      · exact h.at_ x hx
      · obtain ⟨-, -, -, -, b5⟩ := h.at_ _ (List.getElem_mem hi)
        rw [hat] at b5
        exact ⟨hm, hkv, hs, ⟨hg, hkz⟩, b5⟩
    · have := countL_set (l := l.xs) (i := i) (x := (k, v))
      unfold cntS
      simp only [List.length_set] at this ⊢
      omega
  | none =>
    rw [hf] at hok
    simp only at hok ⊢
    split
    · exact ⟨h, by simp only; omega⟩
    · rename_i hlen
      rw [if_neg hlen] at hok
      refine ⟨⟨hok, fun y hy => ?_⟩, by unfold cntS; simp only [countL_append, countL_cons, List.length_append, List.length_cons, List.length_nil]; simp [countL]; omega⟩
      rcases List.mem_append.1 hy with hy | hy
      · obtain ⟨a1, a2, a3, a4, a5⟩ := h.at_ y hy
        refine ⟨a1, a2, a3, a4, fun e1 e2 => ?_⟩
        have a8 := a5 e1
        simp only at e2 ⊢
        unfold nextP at e2 ⊢
        split
        · rename_i hc
          rw [if_pos hc] at e2
          split
          · rename_i hm; rw [if_pos hm] at e2; omega
          · omega
        · rename_i hc
          rw [if_neg hc] at e2
          exact a8 e2
      · rw [List.mem_singleton.1 hy]
        refine ⟨hm, hkv, hs, ⟨hg, hkz⟩, fun e1 e2 => ?_⟩
        simp only at e1 e2 ⊢
        unfold nextP at e2 ⊢
        split
        · rename_i hc
          rw [if_pos hc] at e2
          split
          · rename_i hm; rw [if_pos hm] at e2; omega
          · omega
        · rename_i hc
          rw [if_neg hc] at e2
          rcases Int.lt_or_le k.n l.nx with hl | hl
          · exact hl
          · exact absurd ⟨e1, e2, hl⟩ hc
theorem nil_valid : Lib.validD (⟨#[]⟩ : ByteArray).toList = true := by rw [ByteArray.toList_eq]; exact Lib.validD_nil
theorem norm_valid {k : K} (h : Lib.validD k.t.toList = true) : Lib.validD k.norm.t.toList = true := by
  unfold K.norm
  split
  · split
    · exact nil_valid
    · exact h
  · exact nil_valid
theorem setP_fit {e : Int} {k : K} {v : VT} {l : LS} (h : LJ e l) (hk : k.Good) (hkv : Lib.validD k.t.toList = true) (hm : mayV v (e + 1) = true) (hs : saidV v = true) (hg : GoodS v) (hkz : k.t.size ≤ 1073741824) : LJ e (setP k v l).2 ∧ cntS (setP k v l).2 ≤ cntS l + 1 + countV v :=
  setN_fit h (K.norm_is hk) (norm_valid hkv) hm hs hg (by unfold K.norm; split <;> first | (split <;> first | exact hkz | (show (⟨#[]⟩ : ByteArray).size ≤ _; decide)) | (show (⟨#[]⟩ : ByteArray).size ≤ _; decide))
theorem appendP_fit {e : Int} {v : VT} {l : LS} (h : LJ e l) (hm : mayV v (e + 1) = true) (hs : saidV v = true) (hg : GoodS v) : LJ e (appendP v l).2 ∧ cntS (appendP v l).2 ≤ cntS l + 1 + countV v := by
  unfold appendP
  split
  · exact ⟨h, by simp only; omega⟩
  · have hk : (K.mk false l.nx ⟨#[]⟩).Good := ⟨by have := h.ok.lo; show _ ≤ l.nx; omega, h.ok.hi, by show (⟨#[]⟩ : ByteArray).size ≤ _; decide⟩
    split
    · exact setP_fit h hk nil_valid hm hs hg (by show (⟨#[]⟩ : ByteArray).size ≤ _; decide)
    · exact setP_fit h hk nil_valid hm hs hg (by show (⟨#[]⟩ : ByteArray).size ≤ _; decide)
/-- What a reading gives may be, can be said, and was counted. -/
def FitJ (s : ByteArray) (e : Int) (val : JValF) : Prop := ∀ p m a, p ≤ s.size → val p m = .ok a → mayV a.1 e = true ∧ saidV a.1 = true ∧ GoodS a.1 ∧ (m ≤ 2048 → m + countV a.1 ≤ a.2.2 ∧ a.2.2 ≤ 2048)
section
variable {s : ByteArray}
theorem jitemP_fit (hz : s.size ≤ 65536) {e : Int} {obj : Bool} {val : JValF} (_hv : JOk s val) (hF : FitJ s (e + 1) val) {l : LS} {p m : Nat} {a : LS × Nat × Nat} (hp : p ≤ s.size) (h : jitemP s obj val l p m = .ok a) (hl : LJ e l) (hm : m ≤ 2048) :
    LJ e a.1 ∧ cntS a.1 + m ≤ cntS l + 1 + a.2.2 ∧ a.2.2 ≤ 2048 := by
  unfold jitemP at h
  split at h
  · split at h
    · cases h
    · rename_i t p1 h1
      obtain ⟨t1, t2, t3⟩ := jtextP_ok h1 hp
      simp only at t1 t2 t3
      have b1 := blankE_le t3
      split at h
      · cases h
      · rename_i p2 h2
        obtain ⟨m1, m2⟩ := mustP_ok h2
        have m2 := m2 b1.1
        have b2 := blankE_le m2
        split at h
        · cases h
        · rename_i x p3 m' h3
          obtain ⟨f1, f2, f3, f4⟩ := hF _ _ _ b2.1 h3
          have f4 := f4 hm
          simp only at f1 f2 f3 f4
          cases h
          have := setP_fit (k := ⟨true, 0, str t⟩) hl ⟨by show (-9223372036854775808 : Int) ≤ 0; decide, by show (0 : Int) ≤ 9223372036854775807; decide, by show (str t).size ≤ _; rw [str_size]; omega⟩ (by rw [str_toList]; exact t1) f1 f2 f3 (by show (str t).size ≤ _; rw [str_size]; omega)
          exact ⟨this.1, by simp only; omega, f4.2⟩
  · split at h
    · cases h
    · rename_i x p3 m' h3
      obtain ⟨f1, f2, f3, f4⟩ := hF _ _ _ hp h3
      have f4 := f4 hm
      simp only at f1 f2 f3 f4
      cases h
      have := appendP_fit hl f1 f2 f3
      exact ⟨this.1, by simp only; omega, f4.2⟩
theorem jroundP_fit (hz : s.size ≤ 65536) {e : Int} {obj : Bool} {val : JValF} (hv : JOk s val) (hF : FitJ s (e + 1) val) {l : LS} {p m : Nat} {a : LS × Nat × Nat} (hp : p ≤ s.size) (h : jroundP s obj val l p m = .ok a) (hl : LJ e l) :
    LJ e a.1 ∧ cntS a.1 + m ≤ cntS l + a.2.2 ∧ a.2.2 ≤ 2048 := by
  have h9 := (jroundP_ok hv hp h).2.2.2
  unfold jroundP at h
  split at h
  · cases h
  · split at h
    · cases h
    · rename_i l' p' m' h1
      obtain ⟨i1, i2, i3⟩ := jitemP_fit hz hv hF hp h1 hl h9
      simp only at i1 i2 i3
      cases h
      exact ⟨i1, by simp only; omega, i3⟩
theorem jitemsL_fit (hz : s.size ≤ 65536) {e : Int} {obj : Bool} {val : JValF} (hv : JOk s val) (hF : FitJ s (e + 1) val) : ∀ {k : Nat} {fst : Bool} {l : LS} {p m : Nat} {a : LS × Nat × Nat}, p ≤ s.size → jitemsL s obj val k fst l p m = .ok a → LJ e l → m ≤ 2048 →
    LJ e a.1 ∧ cntS a.1 + m ≤ cntS l + a.2.2 ∧ a.2.2 ≤ 2048
  | 0, fst, l, p, m, a, _, h, _, _ => by rw [jitemsL] at h; cases h
  | k + 1, fst, l, p, m, a, hp, h, hl, hm => by
    rw [jitemsL] at h
    split at h
    · split at h
      · cases h; exact ⟨hl, by simp only; omega, hm⟩
      · split at h
        · cases h
        · rename_i l' p' m' h1
          obtain ⟨r1, r2, r3, r4⟩ := jroundP_ok hv hp h1
          obtain ⟨q1, q2, q3⟩ := jroundP_fit hz hv hF hp h1 hl
          simp only at r1 r2 r3 q1 q2 q3
          obtain ⟨t1, t2, t3⟩ := jitemsL_fit hz hv hF r2 h q1 q3
          exact ⟨t1, by omega, t3⟩
    · split at h
      · rename_i hc
        have hlt : p < s.size := now_lt (by rw [hc]; decide)
        have b := blankE_le (s := s) (p := p + 1) (by omega)
        split at h
        · cases h
        · rename_i l' p' m' h1
          obtain ⟨r1, r2, r3, r4⟩ := jroundP_ok hv b.1 h1
          obtain ⟨q1, q2, q3⟩ := jroundP_fit hz hv hF b.1 h1 hl
          simp only at r1 r2 r3 q1 q2 q3
          obtain ⟨t1, t2, t3⟩ := jitemsL_fit hz hv hF r2 h q1 q3
          exact ⟨t1, by omega, t3⟩
      · cases h; exact ⟨hl, by simp only; omega, hm⟩
theorem empty_T : emptyT ⟨#[]⟩ = true := by unfold emptyT; rw [ByteArray.toList_eq]; rfl
theorem jlistP_fit (hz : s.size ≤ 65536) {e : Int} {obj : Bool} {sub : Option JValF} (hs : ∀ v, sub = some v → JOk s v ∧ FitJ s (e + 1) v ∧ e < 64) {p m : Nat} {a : VT × Nat × Nat} (hp : p < s.size) (h : jlistP s obj sub p m = .ok a) :
    mayV a.1 e = true ∧ saidV a.1 = true ∧ GoodS a.1 ∧ (m ≤ 2048 → m + countV a.1 ≤ a.2.2 ∧ a.2.2 ≤ 2048) := by
  unfold jlistP at h
  split at h
  · cases h
  · rename_i val
    obtain ⟨hv, hF, he⟩ := hs _ rfl
    split at h
    · cases h
    · rename_i l q m' h1
      have b := blankE_le (s := s) (p := p + 1) (by omega)
      split at h
      · cases h
        have key : m ≤ 2048 → LJ e l ∧ cntS l + m ≤ cntS LS.new + m' ∧ m' ≤ 2048 := fun hm => jitemsL_fit hz hv hF b.1 h1 (LJ.new e) hm
        have hL : LJ e l := by
          rcases Nat.lt_or_ge 2048 m with hm | hm
          · rw [jitemsL] at h1
            split at h1
            · split at h1
              · cases h1; exact LJ.new e
              · split at h1
                · cases h1
                · rename_i h2
                  have := (jroundP_ok hv b.1 h2).2.2.2
                  omega
            · exact absurd rfl ‹¬ true = true›
          · exact (key hm).1
        refine ⟨?_, ?_, ?_, fun hm => ?_⟩
        · rw [mayV]
          simp only [show ¬ ((4 : Int) = 0) by decide, show ¬ ((4 : Int) = 1) by decide, show ¬ ((4 : Int) = 2) by decide, show ¬ ((4 : Int) = 3) by decide, show ¬ ((4 : Int) = 5) by decide, if_false, if_true]
          rw [itemsL_of hL.ok.once (fun x hx => ?_), empty_T]
          · have := hL.ok.lo
            have := hL.ok.len
            simp
            omega
          · obtain ⟨a1, a2, a3, a4, a5⟩ := hL.at_ x hx
            exact ⟨(hL.ok.norm x hx).same, by simp, a1, a5⟩
        · rw [saidV, saidL_iff.2 fun x hx => ⟨(hL.at_ x hx).2.1, (hL.at_ x hx).2.2.1⟩, nil_valid]
          rfl
        · exact ⟨VT.good_mk (by decide) ⟨by have := hL.ok.lo; omega, hL.ok.hi⟩ (by decide) fun x hx => ⟨(hL.ok.norm x hx).toGood, (hL.at_ x hx).2.2.2.1.1.1⟩, .mk _ _ _ _ (fun x hx => (hL.at_ x hx).2.2.2.1.2) (fun x hx => (hL.at_ x hx).2.2.2.1.1.2)⟩
        · obtain ⟨-, k2, k3⟩ := key hm
          simp only
          rw [countV]
          have e0 : cntS LS.new = 0 := by simp [cntS, LS.new, countL]
          rw [e0] at k2
          unfold cntS at k2
          omega
      · cases h
theorem good_lf {k n : Int} {t : ByteArray} (h1 : -9223372036854775808 ≤ k ∧ k ≤ 9223372036854775807) (h2 : -9223372036854775808 ≤ n ∧ n ≤ 9223372036854775807) (h3 : t.size ≤ 140737488351232) : GoodS (VT.mk k n t []) := ⟨VT.good_mk h1 h2 h3 (fun x hx => by cases hx), .mk _ _ _ _ (fun x hx => by cases hx) (fun x hx => by cases hx)⟩
theorem cnt_lf (k n : Int) (t : ByteArray) : countV (.mk k n t []) = 0 := by rw [countV]; simp [countL]
theorem said_lf {k n : Int} {t : ByteArray} (hk : k ≠ 5) (h : Lib.validD t.toList = true) : saidV (.mk k n t []) = true := by rw [saidV, saidL, h]; simp [hk]
theorem jvalP_fit (hz : s.size ≤ 65536) {e : Int} {sub : Option JValF} (hs : ∀ v, sub = some v → JOk s v ∧ FitJ s (e + 1) v ∧ e < 64) : FitJ s e (jvalP s sub) := by
  intro p m a hp h
  unfold jvalP at h
  split at h
  · unfold jintP at h
    split at h
    · cases h
    · rename_i n q h1
      obtain ⟨n1, n2, n3, n4⟩ := jnumP_ok h1
      cases h
      refine ⟨by rw [mayV, empty_T]; rfl, said_lf (by decide) nil_valid, good_lf (by decide) n4 (by decide), fun hm => ⟨?_, hm⟩⟩
      simp only [cnt_lf]
      omega
  · have word : ∀ {w : Bs} {y : VT}, mayV y e = true ∧ saidV y = true ∧ GoodS y ∧ countV y = 0 → jwordP s w y p m = .ok a → mayV a.1 e = true ∧ saidV a.1 = true ∧ GoodS a.1 ∧ (m ≤ 2048 → m + countV a.1 ≤ a.2.2 ∧ a.2.2 ≤ 2048) := by
      intro w y hy h1
      unfold jwordP at h1
      split at h1
      · cases h1
      · cases h1
        exact ⟨hy.1, hy.2.1, hy.2.2.1, fun hm => ⟨by simp only [hy.2.2.2]; omega, hm⟩⟩
    split at h
    · exact word ⟨by rw [mayV, empty_T]; rfl, said_lf (by decide) nil_valid, good_lf (by decide) (by decide) (by decide), cnt_lf _ _ _⟩ h
    · split at h
      · exact word ⟨by rw [mayV, empty_T]; rfl, said_lf (by decide) nil_valid, good_lf (by decide) (by decide) (by decide), cnt_lf _ _ _⟩ h
      · split at h
        · exact word ⟨by rw [mayV, empty_T]; rfl, said_lf (by decide) nil_valid, good_lf (by decide) (by decide) (by decide), cnt_lf _ _ _⟩ h
        · split at h
          · rename_i hc
            exact jlistP_fit hz hs (now_lt (by rw [hc]; decide)) h
          · split at h
            · rename_i hc
              exact jlistP_fit hz hs (now_lt (by rw [hc]; decide)) h
            · split at h
              · unfold jstrP at h
                split at h
                · cases h
                · rename_i t q h1
                  obtain ⟨t1, t2, t3⟩ := jtextP_ok h1 hp
                  simp only at t1 t2 t3
                  cases h
                  have hsz : (str t).size ≤ 65536 := by rw [str_size]; omega
                  refine ⟨?_, said_lf (by decide) (by rw [str_toList]; exact t1), good_lf (by decide) (by decide) (by omega), fun hm => ⟨by simp only [cnt_lf]; omega, hm⟩⟩
                  rw [mayV]
                  simp [hsz]
              · cases h
theorem jdepth_fit (hz : s.size ≤ 65536) : ∀ d : Nat, FitJ s (64 - (d : Int)) (jdepth s d)
  | 0 => jvalP_fit hz (fun v e => by cases e)
  | d + 1 => jvalP_fit hz (fun v e => by
    cases e
    refine ⟨jdepth_ok d, ?_, by omega⟩
    have := jdepth_fit hz d
    rw [show (64 - ((d + 1 : Nat) : Int)) + 1 = 64 - (d : Int) by omega]
    exact this)
/-- What Decode gives may be, and can be said. -/
theorem decode_fit {y : VT} (h : decodeP s = .ok y) : rightV y = true ∧ saidV y = true ∧ GoodS y ∧ countV y ≤ 2048 := by
  unfold decodeP at h
  split at h
  · cases h
  · rename_i hz
    split at h
    · cases h
    · rename_i y' p m h1
      split at h
      · cases h
      · cases h
        obtain ⟨f1, f2, f3, f4⟩ := jdepth_fit (s := s) (by omega) 64 _ _ _ (blankE_le (Nat.zero_le _)).1 h1
        have f4 := f4 (by omega)
        simp only at f1 f2 f3 f4
        have hc : countV y ≤ 2048 := by omega
        exact ⟨right_of (by rw [show (64 - ((64 : Nat) : Int)) = 0 by omega] at f1; exact f1) hc, f2, f3, hc⟩

/-! A fault's place lies within the text. -/
theorem mustP_bad : ∀ {l : Bs} {p c a : _}, mustP s l p = .error (c, a) → p ≤ s.size → a ≤ s.size
  | [], p, c, a, h, _ => by rw [mustP] at h; cases h
  | x :: l, p, c, a, h, hp => by
    rw [mustP] at h
    split at h
    · rename_i hc
      exact mustP_bad h hc.1
    · cases h; exact hp
theorem hexP_bad : ∀ {k n p c a : _}, hexP s k n p = .error (c, a) → p ≤ s.size → a ≤ s.size
  | 0, n, p, c, a, h, _ => by rw [hexP] at h; cases h
  | k + 1, n, p, c, a, h, hp => by
    rw [hexP] at h
    split at h
    · cases h; exact hp
    · rename_i d hd
      have : p < s.size := by
        by_cases hh : p < s.size
        · exact hh
        · rw [nowP_end hh, hexV_zero] at hd; cases hd
      exact hexP_bad h this
theorem unitP_bad {f p : Nat} {c : Int} {a : Nat} (h : unitP s f p = .error (c, a)) (hf : f ≤ s.size) (hp : p ≤ s.size) : a ≤ s.size := by
  unfold unitP at h
  split at h
  · rename_i h1
    cases h
    exact hexP_bad h1 hp
  · rename_i n q h1
    have hq := (hexP_ok h1).2.2 (by omega)
    have hq1 := (hexP_ok h1).1
    simp only at hq1
    split at h
    · cases h
    · split at h
      · cases h; exact hf
      · split at h
        · cases h; omega
        · split at h
          · cases h; exact hf
          · split at h
            · cases h; omega
            · split at h
              · cases h; exact hf
              · split at h
                · rename_i h2
                  cases h
                  exact hexP_bad h2 (by omega)
                · split at h
                  · cases h; exact hf
                  · cases h
theorem escP_bad {p : Nat} {c : Int} {a : Nat} (h : escP s p = .error (c, a)) (hp : p < s.size) : a ≤ s.size := by
  unfold escP at h
  split at h
  · cases h; omega
  · split at h
    · split at h
      · rename_i h1
        cases h
        exact unitP_bad h1 (by omega) (by omega)
      · cases h
    · split at h
      · cases h; omega
      · cases h
theorem jtextL_bad : ∀ {k p : Nat} {acc : Bs} {c : Int} {a : Nat}, jtextL s k acc p = .error (c, a) → p ≤ s.size → a ≤ s.size
  | 0, p, acc, c, a, h, hp => by rw [jtextL] at h; cases h; exact hp
  | k + 1, p, acc, c, a, h, hp => by
    rw [jtextL] at h
    split at h
    · cases h
    · split at h
      · cases h; exact hp
      · rename_i hlt
        have hlt : p < s.size := Classical.byContradiction fun hx => hlt (.inl hx)
        split at h
        · split at h
          · rename_i h1
            cases h
            exact escP_bad h1 hlt
          · rename_i l q he
            exact jtextL_bad h (escP_ok he).2.2
        · split at h
          · cases h; exact hp
          · have hne : s.toList.drop p ≠ [] := by
              intro e
              have := congrArg List.length e
              rw [List.length_drop, size_toList] at this
              simp at this
              omega
            have hle := Lib.decodeL_le _ hne
            rw [List.length_drop, size_toList] at hle
            exact jtextL_bad h (by show p + (Lib.decodeL (s.toList.drop p)).2 ≤ _; omega)
theorem jtextP_bad {p : Nat} {c : Int} {a : Nat} (h : jtextP s p = .error (c, a)) (hp : p ≤ s.size) : a ≤ s.size := by
  unfold jtextP at h
  split at h
  · rename_i h1
    cases h
    exact mustP_bad h1 hp
  · rename_i q hq
    exact jtextL_bad h ((mustP_ok hq).2 hp)
def BadJ (s : ByteArray) (val : JValF) : Prop := ∀ p m c a, p ≤ s.size → val p m = .error (c, a) → a ≤ s.size
theorem jitemP_bad {obj : Bool} {val : JValF} (hB : BadJ s val) {l : LS} {p m : Nat} {c : Int} {a : Nat} (hp : p ≤ s.size) (h : jitemP s obj val l p m = .error (c, a)) : a ≤ s.size := by
  unfold jitemP at h
  split at h
  · split at h
    · rename_i h1; cases h; exact jtextP_bad h1 hp
    · rename_i t p1 h1
      have t3 := (jtextP_ok h1 hp).2.2
      have b1 := blankE_le t3
      split at h
      · rename_i h2; cases h; exact mustP_bad h2 b1.1
      · rename_i p2 h2
        have m2 := (mustP_ok h2).2 b1.1
        have b2 := blankE_le m2
        split at h
        · rename_i h3; cases h; exact hB _ _ _ _ b2.1 h3
        · cases h
  · split at h
    · rename_i h3; cases h; exact hB _ _ _ _ hp h3
    · cases h
theorem jroundP_bad {obj : Bool} {val : JValF} (hB : BadJ s val) {l : LS} {p m : Nat} {c : Int} {a : Nat} (hp : p ≤ s.size) (h : jroundP s obj val l p m = .error (c, a)) : a ≤ s.size := by
  unfold jroundP at h
  split at h
  · cases h; exact hp
  · split at h
    · rename_i h1; cases h; exact jitemP_bad hB hp h1
    · cases h
theorem jitemsL_bad {obj : Bool} {val : JValF} (hv : JOk s val) (hB : BadJ s val) : ∀ {k : Nat} {fst : Bool} {l : LS} {p m : Nat} {c : Int} {a : Nat}, p ≤ s.size → jitemsL s obj val k fst l p m = .error (c, a) → a ≤ s.size
  | 0, fst, l, p, m, c, a, hp, h => by rw [jitemsL] at h; cases h; exact hp
  | k + 1, fst, l, p, m, c, a, hp, h => by
    rw [jitemsL] at h
    split at h
    · split at h
      · cases h
      · split at h
        · rename_i h1; cases h; exact jroundP_bad hB hp h1
        · rename_i l' p' m' h1
          exact jitemsL_bad hv hB (jroundP_ok hv hp h1).2.1 h
    · split at h
      · rename_i hc
        have hlt : p < s.size := now_lt (by rw [hc]; decide)
        have b := blankE_le (s := s) (p := p + 1) (by omega)
        split at h
        · rename_i h1; cases h; exact jroundP_bad hB b.1 h1
        · rename_i l' p' m' h1
          exact jitemsL_bad hv hB (jroundP_ok hv b.1 h1).2.1 h
      · cases h
theorem jlistP_bad {obj : Bool} {sub : Option JValF} (hs : ∀ v, sub = some v → JOk s v ∧ BadJ s v) {p m : Nat} {c : Int} {a : Nat} (hp : p < s.size) (h : jlistP s obj sub p m = .error (c, a)) : a ≤ s.size := by
  unfold jlistP at h
  split at h
  · cases h; omega
  · rename_i val
    obtain ⟨hv, hB⟩ := hs _ rfl
    have b := blankE_le (s := s) (p := p + 1) (by omega)
    split at h
    · rename_i h1; cases h; exact jitemsL_bad hv hB b.1 h1
    · rename_i l q m' h1
      have := (jitemsL_ok hv b.1 h1).2.1
      split at h
      · cases h
      · cases h; exact this
theorem jnumP_bad {p : Nat} {c : Int} {a : Nat} (h : jnumP s p = .error (c, a)) (hp : p ≤ s.size) : a ≤ s.size := by
  unfold jnumP at h
  split at h
  · split at h
    · split at h
      · cases h; exact hp
      · cases h
    · cases h; exact hp
  · cases h
    unfold jnumB
    split
    · rename_i hc
      have := now_lt (s := s) (p := p) (by rw [hc]; decide)
      omega
    · exact hp
theorem jvalP_bad {sub : Option JValF} (hs : ∀ v, sub = some v → JOk s v ∧ BadJ s v) : BadJ s (jvalP s sub) := by
  intro p m c a hp h
  unfold jvalP at h
  split at h
  · unfold jintP at h
    split at h
    · rename_i h1; cases h; exact jnumP_bad h1 hp
    · cases h
  · have word : ∀ {w : Bs} {y : VT}, jwordP s w y p m = .error (c, a) → a ≤ s.size := by
      intro w y h1
      unfold jwordP at h1
      split at h1
      · rename_i h2; cases h1; exact mustP_bad h2 hp
      · cases h1
    split at h
    · exact word h
    · split at h
      · exact word h
      · split at h
        · exact word h
        · split at h
          · rename_i hc
            exact jlistP_bad hs (now_lt (by rw [hc]; decide)) h
          · split at h
            · rename_i hc
              exact jlistP_bad hs (now_lt (by rw [hc]; decide)) h
            · split at h
              · unfold jstrP at h
                split at h
                · rename_i h1; cases h; exact jtextP_bad h1 hp
                · cases h
              · cases h; exact hp
theorem jdepth_bad : ∀ d : Nat, BadJ s (jdepth s d)
  | 0 => jvalP_bad (fun v e => by cases e)
  | d + 1 => jvalP_bad (fun v e => by cases e; exact ⟨jdepth_ok d, jdepth_bad d⟩)
theorem decode_bad {c : Int} {a : Nat} (h : decodeP s = .error (c, a)) : a ≤ s.size := by
  unfold decodeP at h
  split at h
  · cases h; omega
  · split at h
    · rename_i h1
      cases h
      exact jdepth_bad 64 _ _ _ _ (blankE_le (Nat.zero_le _)).1 h1
    · rename_i y p m h1
      have hb := (jdepth_ok 64 _ _ _ (blankE_le (Nat.zero_le _)).1 h1).2.1
      simp only at hb
      split at h
      · cases h; exact (blankE_le hb).1
      · cases h
end
end Go.Proofs.YtnaefnojmiolbaaGreatDoor

namespace Go.Proofs.YtnaefnojmiolbaaGreatDoor
open Go.RowKit Go.Shelf

attribute [local go_sem] yld_undef
/-- Rows lie in a block that holds them. -/
theorem lies_flat {w : World} {g : Nat} {ty : TypeId} {fr : Nat × Nat} {size : Nat} {rows : List (List Value)} (h : w.heap[g]? = some (.cells rows.flatten.toArray ty fr)) (hl : ∀ r ∈ rows, r.length = size) : Lies w size (some ⟨g, 0, none⟩) rows := by
  intro i r hr
  refine ⟨g, 0, rfl, lt_of_block h, hl r (List.mem_of_getElem? hr), fun j u hu => ?_⟩
  have hj : j < size := by
    have := (List.getElem?_eq_some_iff.1 hu).1
    rw [hl r (List.mem_of_getElem? hr)] at this
    exact this
  have := flatten_get size rows hl i r j hr hj
  rw [cell_blk h, Nat.zero_add]
  rw [hu] at this
  simpa using this
/-- Leaves lie in a block that holds them. -/
theorem vin_flat {w : World} {g : Nat} {xs : List It} (h : w.heap[g]? = some (.cells (rowsV xs (fun _ => .slice none 0 0)).flatten.toArray 64 (0, 0))) (hx : ∀ x ∈ xs, x.2.xs = []) (hl : xs.length ≤ 140737488355328) (cap : Nat) : VIn w (.slice (some ⟨g, 0, none⟩) xs.length cap) xs :=
  .mk (some ⟨g, 0, none⟩) cap xs (fun _ => .slice none 0 0) (lies_flat h (fun r hr => by
    obtain ⟨i, hi, rfl⟩ := List.getElem_of_mem hr
    simp [rowsV, itCells_len])) (fun _ _ _ _ => trivial) hl (fun j hj => by rw [hx _ (List.getElem_mem hj)]; exact VAt.nil _ _ _ _)
def aliveX : VT := .mk 3 0 ⟨#[195, 169, 47]⟩ []
def aliveJ : VT := .mk 4 6 ⟨#[]⟩ [(⟨false, 5, ⟨#[]⟩⟩, aliveX)]
theorem alive_enc : encP aliveJ = (⟨#[123, 34, 53, 34, 58, 34, 92, 117, 48, 48, 101, 57, 92, 47, 34, 125]⟩, 0) := by kernel_rfl
theorem alive_dec : decodeP (⟨#[32]⟩ ++ ⟨#[123, 34, 53, 34, 58, 34, 92, 117, 48, 48, 101, 57, 92, 47, 34, 125]⟩) = .ok aliveJ := by kernel_rfl
theorem alive_bad : decodeP ⟨#[91, 49, 46, 53, 93]⟩ = .error (11, 1) := by kernel_rfl
abbrev AO1 : Obj := .cells #[.bool false, .int .i64 5, .string ⟨#[]⟩, .int .i64 3, .int .i64 0, .string ⟨#[195, 169, 47]⟩, .slice none 0 0] 64
abbrev AO2 (S : Nat) : Obj := .cells #[.int .i64 4, .int .i64 6, .string ⟨#[]⟩, .slice (some ⟨S, 0, none⟩) 1 1] 24
set_option maxHeartbeats 6400000 in
set_option maxRecDepth 100000 in
theorem jalive_any (w : World) (ht : TabsJ w) : Calls Tryz.prog 11 #[] w (BoolPost w true) := by
  have HB : Below w.heap.size w ((w.alloc AO1).alloc (AO2 w.heap.size)) := ((Below.refl _ w).alloc (Nat.le_refl _) _).alloc (by simp) _
  have B1 : ((w.alloc AO1).alloc (AO2 w.heap.size)).heap[w.heap.size]? = some (.cells #[.bool false, .int .i64 5, .string ⟨#[]⟩, .int .i64 3, .int .i64 0, .string ⟨#[195, 169, 47]⟩, .slice none 0 0] 64 (0, 0)) := alloc_blk (heap_alloc_new w AO1) _
  have B2 : ((w.alloc AO1).alloc (AO2 w.heap.size)).heap[w.heap.size + 1]? = some (.cells #[.int .i64 4, .int .i64 6, .string ⟨#[]⟩, .slice (some ⟨w.heap.size, 0, none⟩) 1 1] 24 (0, 0)) := by
    have := heap_alloc_new (w.alloc AO1) (AO2 w.heap.size)
    rw [World.size_alloc] at this
    exact this
  have HT := Lib.hid ht
  obtain ⟨W, hW⟩ : ∃ W, W = (w.alloc AO1).alloc (AO2 w.heap.size) := ⟨_, rfl⟩
  rw [← hW] at HB B1 B2
  have V1 : Hid (VIn W (.slice (some ⟨w.heap.size, 0, none⟩) 1 1) aliveJ.xs) := Lib.hid (vin_flat (xs := aliveJ.xs) B1 (fun x hx => by
    have hx : x ∈ [((⟨false, 5, ⟨#[]⟩⟩ : K), aliveX)] := hx
    rw [List.mem_singleton.1 hx]; rfl) (by decide) 1)
  have HW := Lib.hid hW
  have HBB := Lib.hid HB
  have HB2 := Lib.hid B2
  obtain ⟨a0, a1, a2, a3⟩ := vb4 B2
  obtain ⟨-, -, hgood, -⟩ := decode_fit alive_dec
  have HE : Calls Tryz.prog 9 #[.agg #[.int .i64 4, .int .i64 6, .string ⟨#[]⟩, .slice (some ⟨w.heap.size, 0, none⟩) 1 1]] W (EncPost W (encP aliveJ)) := encode_any aliveJ hgood W _ V1.out (HT.out.mono HBB.out)
  rw [alive_enc] at HE
  clear HB B1 B2 hW ht hgood
  go_enter Tryz.func11, Tryz.ntmps11
  go_wp2_with fail
  rw [← HW.out]
  refine HE.mono ?_
  rintro _ w1 ⟨rfl, hb1⟩
  have HB1 := Lib.hid (HBB.out.trans (hb1.mono HBB.out.size))
  have C2 := Lib.hid ((hb1.block _ (lt_of_block HB2.out)).trans HB2.out)
  have V1b := Lib.hid (V1.out.under hb1)
  have HD := decode_any (⟨#[32]⟩ ++ ⟨#[123, 34, 53, 34, 58, 34, 92, 117, 48, 48, 101, 57, 92, 47, 34, 125]⟩) (by decide) w1 (HT.out.mono HB1.out).tab
  rw [alive_dec] at HD
  have hst : ((⟨#[123, 34, 53, 34, 58, 34, 92, 117, 48, 48, 101, 57, 92, 47, 34, 125]⟩ : ByteArray).toList == [123, 34, 53, 34, 58, 34, 92, 117, 48, 48, 101, 57, 92, 47, 34, 125]) = true := by rw [ByteArray.toList_eq]; decide
  clear hb1 HE V1 HBB HB2 a0 a1 a2 a3
  go_wp2_with fail
  refine HD.mono ?_
  rintro _ w2 ⟨hb2, co, cc, rfl, hvt⟩
  have HB2 := Lib.hid (HB1.out.trans (hb2.mono HB1.out.size))
  have hbz : Below w2.heap.size w2 ((w2.alloc (.cells #[.int .i64 4, .int .i64 6, .string ⟨#[]⟩, .slice co 1 cc] 24)).alloc (.cells #[.int .i64 0, .int .i64 0] 33)) := ((Below.refl _ w2).alloc (Nat.le_refl _) _).alloc (by simp) _
  obtain ⟨w3, hw3⟩ : ∃ w3, w3 = (w2.alloc (.cells #[.int .i64 4, .int .i64 6, .string ⟨#[]⟩, .slice co 1 cc] 24)).alloc (.cells #[.int .i64 0, .int .i64 0] 33) := ⟨_, rfl⟩
  rw [← hw3] at hbz
  have D4 : w3.heap[w2.heap.size]? = some (.cells #[.int .i64 4, .int .i64 6, .string ⟨#[]⟩, .slice co 1 cc] 24 (0, 0)) := by rw [hw3]; exact alloc_blk (heap_alloc_new w2 _) _
  have D5 : w3.heap[w2.heap.size + 1]? = some (.cells #[.int .i64 0, .int .i64 0] 33 (0, 0)) := by
    rw [hw3]
    have := heap_alloc_new (w2.alloc (.cells #[.int .i64 4, .int .i64 6, .string ⟨#[]⟩, .slice co 1 cc] 24)) (.cells #[.int .i64 0, .int .i64 0] 33)
    rw [World.size_alloc] at this
    exact this
  have HB3 := Lib.hid (HB2.out.trans (hbz.mono HB2.out.size))
  have H3 := Lib.hid (⟨(hbz.block _ (Nat.lt_of_lt_of_le (lt_of_block C2.out) hb2.size)).trans ((hb2.block _ (lt_of_block C2.out)).trans C2.out), D4, D5, (V1b.out.under hb2).under hbz, hvt.any.under hbz⟩ : _ ∧ _ ∧ _ ∧ _ ∧ _)
  have HW3 := Lib.hid hw3
  have HD2 := decode_any ⟨#[91, 49, 46, 53, 93]⟩ (by decide) w3 (HT.out.mono HB3.out).tab
  rw [alive_bad] at HD2
  clear HD hb2 hvt hbz hw3 D4 D5 C2 V1b
  dsimp only [VT.v, VT.k, VT.n, VT.t, VT.xs, aliveJ, List.length]
  go_wp2_with fail
  rw [← HW3.out]
  refine HD2.mono ?_
  rintro _ w4 ⟨hb4, rfl⟩
  have hby : Below w4.heap.size w4 ((w4.alloc (.cells #[.int .i64 0, .int .i64 0, .string ⟨#[]⟩, .slice none 0 0] 24)).alloc (.cells #[.int .i64 11, .int .i64 1] 33)) := ((Below.refl _ w4).alloc (Nat.le_refl _) _).alloc (by simp) _
  obtain ⟨w5, hw5⟩ : ∃ w5, w5 = (w4.alloc (.cells #[.int .i64 0, .int .i64 0, .string ⟨#[]⟩, .slice none 0 0] 24)).alloc (.cells #[.int .i64 11, .int .i64 1] 33) := ⟨_, rfl⟩
  rw [← hw5] at hby
  have D7 : w5.heap[w4.heap.size + 1]? = some (.cells #[.int .i64 11, .int .i64 1] 33 (0, 0)) := by
    rw [hw5]
    have := heap_alloc_new (w4.alloc (.cells #[.int .i64 0, .int .i64 0, .string ⟨#[]⟩, .slice none 0 0] 24)) (.cells #[.int .i64 11, .int .i64 1] 33)
    rw [World.size_alloc] at this
    exact this
  have HB5 : Hid (Below w.heap.size w w5) := Lib.hid ((HB3.out.trans (hb4.mono HB3.out.size)).trans (hby.mono (by have := HB3.out.size; have := hb4.size; omega)))
  have kk : ∀ {k : Nat} {o : Obj}, w3.heap[k]? = some o → w5.heap[k]? = some o := fun h => (hby.block _ (Nat.lt_of_lt_of_le (lt_of_block h) hb4.size)).trans ((hb4.block _ (lt_of_block h)).trans h)
  obtain ⟨c2, c4, c5, cv, cx⟩ := H3.out
  have HR := raw_same aliveJ w5 (.slice (some ⟨w.heap.size, 0, none⟩) 1 1) (.slice co 1 cc) ((cv.under hb4).under hby) ((cx.under hb4).under hby)
  have HR : Calls Tryz.prog 32 #[.agg #[.int .i64 4, .int .i64 6, .string ⟨#[]⟩, .slice (some ⟨w.heap.size, 0, none⟩) 1 1], .agg #[.int .i64 4, .int .i64 6, .string ⟨#[]⟩, .slice co 1 cc]] w5 (BoolPost w5 true) := HR
  have HK := Lib.hid (⟨kk c5, D7⟩ : _ ∧ _)
  obtain ⟨a0, a1, a2, a3⟩ := vb4 (kk c2)
  obtain ⟨b0, b1, b2, b3⟩ := vb4 (kk c4)
  have q0 := cell_blk (kk c5) 0
  have q1 := cell_blk (kk c5) 1
  have r0 := cell_blk D7 0
  have r1 := cell_blk D7 1
  have HW5 := Lib.hid hw5
  clear hw5 hby hb4 kk c2 c4 c5 cv cx D7 H3 HD2 HW3
  dsimp only [VT.v, VT.k, VT.n, VT.t, VT.xs]
  have a0' := a0; have a1' := a1; have a2' := a2; have a3' := a3
  rw [HW5.out] at a0 a1 a2 a3 b0 b1 b2 b3 q0 q1 r0 r1
  go_wp2_with fail
  rw [← HW5.out]
  refine HR.mono ?_
  rintro _ w6 ⟨rfl, hb6⟩
  have s0 := cell_blk ((hb6.block _ (lt_of_block HK.out.1)).trans HK.out.1) 0
  have s1 := cell_blk ((hb6.block _ (lt_of_block HK.out.1)).trans HK.out.1) 1
  have u0 := cell_blk ((hb6.block _ (lt_of_block HK.out.2)).trans HK.out.2) 0
  have u1 := cell_blk ((hb6.block _ (lt_of_block HK.out.2)).trans HK.out.2) 1
  have HB6 := Lib.hid (HB5.out.trans (hb6.mono HB5.out.size))
  clear hb6 a0 a1 a2 a3 b0 b1 b2 b3 q0 q1 r0 r1 HR
  go_wp2_with fail
  go_ret
  exact ⟨rfl, HB6.out⟩
end Go.Proofs.YtnaefnojmiolbaaGreatDoor

namespace Go.Proofs.YtnaefnojmiolbaaGreatDoor
open Go.RowKit Go.Shelf

attribute [local go_sem] yld_undef
theorem null_fit : rightV (.mk 0 0 ⟨#[]⟩ []) = true ∧ saidV (.mk 0 0 ⟨#[]⟩ []) = true ∧ GoodS (.mk 0 0 ⟨#[]⟩ []) ∧ countV (.mk 0 0 ⟨#[]⟩ []) ≤ 2048 :=
  ⟨right_of (by rw [mayV, empty_T]; rfl) (by rw [cnt_lf]; omega), said_lf (by decide) nil_valid, good_lf (by decide) (by decide) (by decide), by rw [cnt_lf]; omega⟩
/-- What Decode answers: a fault within the text, or a value that may be and can be said. -/
theorem dec_cases {s : ByteArray} {w : World} {e : Ending} {w' : World} (h : DecPost w (decodeP s) e w') :
    Below w.heap.size w w' ∧ ((∃ (c : Int) (a : Nat), ¬ (c = 0 ∧ a = 0) ∧ a ≤ s.size ∧ e = .returned (.tuple #[.agg #[.int .i64 0, .int .i64 0, .string ⟨#[]⟩, .slice none 0 0], .agg #[.int .i64 c, .int .i64 a]])) ∨
      ∃ (y : VT) (co : Option Addr) (cc : Nat), e = .returned (.tuple #[.agg #[.int .i64 y.k, .int .i64 y.n, .string y.t, .slice co y.xs.length cc], .agg #[.int .i64 0, .int .i64 0]]) ∧ VIn w' (.slice co y.xs.length cc) y.xs ∧ rightV y = true ∧ saidV y = true ∧ GoodS y ∧ countV y ≤ 2048) := by
  obtain ⟨x, hx⟩ : ∃ x, x = decodeP s := ⟨_, rfl⟩
  rw [← hx] at h
  cases x with
  | ok y =>
    obtain ⟨hb, co, cc, he, hv⟩ := h
    obtain ⟨f1, f2, f3, f4⟩ := decode_fit hx.symm
    exact ⟨hb, .inr ⟨y, co, cc, he, hv.any, f1, f2, f3, f4⟩⟩
  | error er =>
    obtain ⟨c, a⟩ := er
    obtain ⟨hb, he⟩ := h
    refine ⟨hb, ?_⟩
    by_cases h0 : c = 0 ∧ a = 0
    · obtain ⟨rfl, rfl⟩ := h0
      obtain ⟨f1, f2, f3, f4⟩ := null_fit
      exact .inr ⟨.mk 0 0 ⟨#[]⟩ [], none, 0, he, VAt.nil _ _ _ _, f1, f2, f3, f4⟩
    · exact .inl ⟨c, a, h0, decode_bad hx.symm, he⟩
/-- What Encode answers at a value that may be and can be said. -/
theorem enc_ok {v : VT} (hg : v.Good) (h1 : rightV v = true) (h2 : saidV v = true) : encP v = (⟨#[]⟩, 2) ∨ ∃ r : ByteArray, encP v = (r, 0) ∧ r.size ≤ 65536 ∧ ∃ y, decodeP r = .ok y ∧ AlikeV v y ∧ countV y ≤ 2048 := by
  unfold encP
  rw [h1, h2, if_neg (by decide)]
  by_cases hl : 65536 < (jpV v []).length
  · rw [if_pos hl]; exact .inl rfl
  · rw [if_neg hl]
    have e := jp_whole v [] (by omega)
    rw [List.nil_append] at e
    rw [e] at hl ⊢
    obtain ⟨y, hy, hay⟩ := said_read (jw_right hg h1 h2) (right_may h1).2 (by omega)
    exact .inr ⟨_, rfl, by rw [str_size]; omega, y, hy, hay, (decode_fit hy).2.2.2⟩
theorem enc_cases (v : VT) (hg : v.Good) : (∃ c : Int, c ≠ 0 ∧ encP v = (⟨#[]⟩, c)) ∨ (countV v ≤ 2048 ∧ ∃ r : ByteArray, encP v = (r, 0) ∧ r.size ≤ 65536 ∧ ∃ y, decodeP r = .ok y ∧ AlikeV v y ∧ countV y ≤ 2048) := by
  by_cases h : (rightV v && saidV v) = false
  · left
    exact ⟨1, by decide, by unfold encP; rw [if_pos h]⟩
  · have h : (rightV v && saidV v) = true := by simpa using h
    rw [Bool.and_eq_true] at h
    rcases enc_ok hg h.1 h.2 with e | e
    · exact .inl ⟨2, by decide, e⟩
    · exact .inr ⟨(right_may h.1).2, e⟩
/-- A value and a fault are put into blocks of their own. -/
theorem two_new (W : World) (k n : Int) (t : ByteArray) (v : Value) (c a : Int) :
    ∃ W', W' = (W.alloc (.cells #[.int .i64 k, .int .i64 n, .string t, v] 24)).alloc (.cells #[.int .i64 c, .int .i64 a] 33) ∧ Below W.heap.size W W' ∧ W'.heap[W.heap.size]? = some (.cells #[.int .i64 k, .int .i64 n, .string t, v] 24 (0, 0)) ∧ W'.heap[W.heap.size + 1]? = some (.cells #[.int .i64 c, .int .i64 a] 33 (0, 0)) := by
  refine ⟨_, rfl, ((Below.refl _ W).alloc (Nat.le_refl _) _).alloc (by simp) _, alloc_blk (heap_alloc_new W _) _, ?_⟩
  have := heap_alloc_new (W.alloc (.cells #[.int .i64 k, .int .i64 n, .string t, v] 24)) (.cells #[.int .i64 c, .int .i64 a] 33)
  rw [World.size_alloc] at this
  exact this
set_option maxHeartbeats 3200000 in
set_option maxRecDepth 100000 in
theorem jback_any (v : VT) (hg : GoodS v) (w : World) (c : Value) (hv : VIn w c v.xs) (ht : TabsJ w) : Calls Tryz.prog 4 #[v.v c] w (BoolPost w true) := by
  obtain ⟨ao, cap, rfl, -⟩ := hv.form
  have A0 : Hid (At1 w (w.alloc (VB v (.slice ao v.xs.length cap))) w.heap.size (VB v (.slice ao v.xs.length cap))) := Lib.hid (at1_start w _)
  have HE := encode_any v hg _ _ (hv.under A0.out.below) (ht.mono A0.out.below)
  obtain ⟨a0, a1, a2, a3⟩ := vb_cells A0.out.a
  have HT := Lib.hid ht
  have HV := Lib.hid hv
  have HC := Lib.hid (enc_cases v hg.1)
  obtain ⟨x, hx⟩ : ∃ x, x = encP v := ⟨_, rfl⟩
  rw [← hx] at HE HC
  clear hx hv ht hg
  simp only [VT.v] at HE ⊢
  rcases HC.out with ⟨c, hc, rfl⟩ | ⟨hcv, r, rfl, hr, y, hy, hay, hcy⟩
  · have hc2 : (c != 0) = true := by simpa using hc
    clear hc HC
    go_enter Tryz.func4, Tryz.ntmps4
    go_wp2_with fail
    refine HE.mono ?_
    rintro _ w1 ⟨rfl, hb1⟩
    have A1 := Lib.hid (A0.out.mono hb1)
    clear hb1
    go_wp2_with fail
    refine (jalive_any _ (HT.out.mono A1.out.below)).mono ?_
    rintro _ w2 ⟨rfl, hb2⟩
    go_wp2_with fail
    go_ret
    exact ⟨rfl, A1.out.below.trans (hb2.mono A1.out.below.size)⟩
  · have HY := Lib.hid (⟨hcv, hr, hy, hay, hcy⟩ : _ ∧ _ ∧ _ ∧ _ ∧ _)
    clear HC hcv hr hy hay hcy
    go_enter Tryz.func4, Tryz.ntmps4
    go_wp2_with fail
    refine HE.mono ?_
    rintro _ w1 ⟨rfl, hb1⟩
    have A1 := Lib.hid (A0.out.mono hb1)
    clear hb1 a0 a1 a2 a3
    have HD := decode_any r (by have := HY.out.2.1; omega) w1 (HT.out.mono A1.out.below).tab
    rw [HY.out.2.2.1] at HD
    go_wp2_with fail
    refine HD.mono ?_
    rintro _ w2 ⟨hb2, co, cc, rfl, hvt⟩
    simp only [VT.v]
    obtain ⟨w3, hw3, hb3, D4, D5⟩ := two_new w2 y.k y.n y.t (.slice co y.xs.length cc) 0 0
    have A2 := Lib.hid (A1.out.mono hb2)
    have A3 := Lib.hid (A2.out.mono hb3)
    have HR := vsame_any HY.out.2.2.2.1 HY.out.1 HY.out.2.2.2.2 w3 (.slice ao v.xs.length cap) (.slice co y.xs.length cc) (HV.out.under A3.out.below) (hvt.any.under hb3)
    simp only [VT.v] at HR
    obtain ⟨a0, a1, a2, a3⟩ := vb_cells A3.out.a
    obtain ⟨b0, b1, b2, b3⟩ := vb4 D4
    have q0 := cell_blk D5 0
    have q1 := cell_blk D5 1
    have HW3 := Lib.hid hw3
    have HD5 := Lib.hid D5
    rw [hw3] at a0 a1 a2 a3 b0 b1 b2 b3 q0 q1
    clear HD hb2 hvt hb3 D4 D5 hw3 HE
    go_wp2_with fail
    rw [← HW3.out]
    refine HR.mono ?_
    rintro _ w4 ⟨rfl, hb4⟩
    have A4 := Lib.hid (A3.out.mono hb4)
    clear hb4 a0 a1 a2 a3 b0 b1 b2 b3 q0 q1 HR
    go_wp2_with fail
    refine (jalive_any _ (HT.out.mono A4.out.below)).mono ?_
    rintro _ w5 ⟨rfl, hb5⟩
    go_wp2_with fail
    go_ret
    exact ⟨rfl, A4.out.below.trans (hb5.mono A4.out.below.size)⟩
theorem fault_neq {c : Int} {a : Nat} (h : ¬ (c = 0 ∧ a = 0)) : ((c == 0) && ((a : Int) == 0)) = false := by
  simp
  intro h1 h2
  exact h ⟨h1, h2⟩
set_option maxHeartbeats 3200000 in
set_option maxRecDepth 100000 in
theorem jagain_any (s : ByteArray) (hz : s.size ≤ 140737488355328) (w : World) (ht : TabsJ w) : Calls Tryz.prog 5 #[.string s] w (BoolPost w true) := by
  have HD := decode_any s hz w ht.tab
  have HT := Lib.hid ht
  clear ht hz
  go_enter Tryz.func5, Tryz.ntmps5
  go_wp2_with fail
  refine HD.mono ?_
  intro e w1 hp
  obtain ⟨hb1, hp⟩ := dec_cases hp
  clear HD
  rcases hp with ⟨c, a, h0, ha, rfl⟩ | ⟨y, co, cc, rfl, hv, f1, f2, f3, f4⟩
  · obtain ⟨w2, hw2, hb2, D1, D2⟩ := two_new w1 0 0 ⟨#[]⟩ (.slice none 0 0) c a
    have B2 : Hid (Below w.heap.size w w2) := Lib.hid (hb1.trans (hb2.mono hb1.size))
    have q0 := cell_blk D2 0
    have q1 := cell_blk D2 1
    have h3 : (a : Int) ≤ (s.size : Int) := by omega
    have h4 : decide ((a : Int) ≤ (s.size : Int)) = true := by simp; omega
    rw [hw2] at q0 q1
    have HW2 := Lib.hid hw2
    obtain ⟨g1, hg1⟩ : ∃ g, (c == 0) = g := ⟨_, rfl⟩
    obtain ⟨g2, hg2⟩ : ∃ g, ((a : Int) == 0) = g := ⟨_, rfl⟩
    have hgg := fault_neq h0
    rw [hg1, hg2] at hgg
    clear hb1 hb2 D1 D2 hw2 h0 ha
    cases g1 <;> cases g2 <;> first | (cases hgg; done) | skip
    all_goals
      go_wp2_with fail
      rw [← HW2.out]
      refine (jalive_any _ (HT.out.mono B2.out)).mono ?_
      rintro _ w5 ⟨rfl, hb5⟩
      go_wp2_with fail
      go_ret
      exact ⟨rfl, B2.out.trans (hb5.mono B2.out.size)⟩
  · obtain ⟨w2, hw2, hb2, D1, D2⟩ := two_new w1 y.k y.n y.t (.slice co y.xs.length cc) 0 0
    have HVY := Lib.hid (hv.under hb2)
    have B2 : Hid (Below w.heap.size w w2 ∧ w2.heap[w1.heap.size]? = some (.cells #[.int .i64 y.k, .int .i64 y.n, .string y.t, .slice co y.xs.length cc] 24 (0, 0))) := Lib.hid ⟨hb1.trans (hb2.mono hb1.size), D1⟩
    have HE := encode_any y f3 w2 _ HVY.out (HT.out.mono B2.out.1)
    simp only [VT.v] at HE
    obtain ⟨a0, a1, a2, a3⟩ := vb4 D1
    have q0 := cell_blk D2 0
    have q1 := cell_blk D2 1
    have HC := Lib.hid (enc_ok f3.1 f1 f2)
    have HF := Lib.hid (⟨f1, f2, f3, f4⟩ : _ ∧ _ ∧ _ ∧ _)
    have HW2 := Lib.hid hw2
    have b0 := a0
    have b1 := a1
    have b2 := a2
    have b3 := a3
    rw [hw2] at b0 b1 b2 b3 q0 q1
    obtain ⟨x, hx⟩ : ∃ x, x = encP y := ⟨_, rfl⟩
    rw [← hx] at HE HC
    clear hb1 hb2 D1 D2 hw2 hv f1 f2 f3 f4 hx
    go_wp2_with fail
    rw [← HW2.out]
    refine HE.mono ?_
    intro e w3 hp3
    clear b0 b1 b2 b3 q0 q1 HE
    rcases HC.out with rfl | ⟨r, rfl, hr, z, hzd, hay, hcz⟩
    · obtain ⟨rfl, hb3⟩ := hp3
      have B3 : Hid (Below w.heap.size w w3) := Lib.hid (B2.out.1.trans (hb3.mono B2.out.1.size))
      clear hb3 a0 a1 a2 a3
      go_wp2_with fail
      refine (jalive_any _ (HT.out.mono B3.out)).mono ?_
      rintro _ w5 ⟨rfl, hb5⟩
      go_wp2_with fail
      go_ret
      exact ⟨rfl, B3.out.trans (hb5.mono B3.out.size)⟩
    · obtain ⟨rfl, hb3⟩ := hp3
      have B3 : Hid (Below w.heap.size w w3 ∧ w3.heap[w1.heap.size]? = some (.cells #[.int .i64 y.k, .int .i64 y.n, .string y.t, .slice co y.xs.length cc] 24 (0, 0))) := Lib.hid ⟨B2.out.1.trans (hb3.mono B2.out.1.size), (hb3.block _ (lt_of_block B2.out.2)).trans B2.out.2⟩
      have HV3 := Lib.hid (HVY.out.under hb3)
      have HD := decode_any r (by omega) w3 (HT.out.mono B3.out.1).tab
      rw [hzd] at HD
      have HZ := Lib.hid (⟨hay, hcz⟩ : _ ∧ _)
      clear hb3 a0 a1 a2 a3 hr hzd hay hcz HC
      go_wp2_with fail
      refine HD.mono ?_
      rintro _ w4 ⟨hb4, co2, cc2, rfl, hvt⟩
      simp only [VT.v]
      obtain ⟨w5, hw5, hb5, D4, D5⟩ := two_new w4 z.k z.n z.t (.slice co2 z.xs.length cc2) 0 0
      have B5 : Hid (Below w.heap.size w w5) := Lib.hid ((B3.out.1.trans (hb4.mono B3.out.1.size)).trans (hb5.mono (by have := B3.out.1.size; have := hb4.size; omega)))
      have D1 := (hb5.block _ (Nat.lt_of_lt_of_le (lt_of_block B3.out.2) hb4.size)).trans ((hb4.block _ (lt_of_block B3.out.2)).trans B3.out.2)
      have HR := vsame_any HZ.out.1 HF.out.2.2.2 HZ.out.2 w5 (.slice co y.xs.length cc) (.slice co2 z.xs.length cc2) ((HV3.out.under hb4).under hb5) (hvt.any.under hb5)
      simp only [VT.v] at HR
      obtain ⟨a0, a1, a2, a3⟩ := vb4 D1
      obtain ⟨b0, b1, b2, b3⟩ := vb4 D4
      have q0 := cell_blk D5 0
      have q1 := cell_blk D5 1
      have HW5 := Lib.hid hw5
      rw [hw5] at a0 a1 a2 a3 b0 b1 b2 b3 q0 q1
      clear HD hb4 hvt hb5 D1 D4 D5 hw5
      go_wp2_with fail
      rw [← HW5.out]
      refine HR.mono ?_
      rintro _ w6 ⟨rfl, hb6⟩
      have B6 : Hid (Below w.heap.size w w6) := Lib.hid (B5.out.trans (hb6.mono B5.out.size))
      clear hb6 a0 a1 a2 a3 b0 b1 b2 b3 q0 q1 HR
      go_wp2_with fail
      refine (jalive_any _ (HT.out.mono B6.out)).mono ?_
      rintro _ w7 ⟨rfl, hb7⟩
      go_wp2_with fail
      go_ret
      exact ⟨rfl, B6.out.trans (hb7.mono B6.out.size)⟩
end Go.Proofs.YtnaefnojmiolbaaGreatDoor
