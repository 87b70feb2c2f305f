/-
  JSON: the walks of write at any value, and of Encode.
-/
import Derived.Test.YtnaefnojmiolbaaGreatDoorJw17
namespace Go.Proofs.YtnaefnojmiolbaaGreatDoor
open Go.RowKit Go.Shelf

attribute [local go_sem] yld_undef
theorem jwrite_any (v : VT) : ∀ d, JW d v → ∀ (w0 w : World) (b : Nat) (a : Bs) (c : Value), WJB w0 b w a → VIn w0 c v.xs → a.length + (jtV v).length ≤ LIMJ →
    Calls Tryz.prog 26 #[.pointer (some ⟨b, 0, none⟩), v.v c] w (WJP w0 b w (jpV v a) (.tuple #[])) := by
  refine VT.ind (P := fun v => ∀ d, JW d v → ∀ (w0 w : World) (b : Nat) (a : Bs) (c : Value), WJB w0 b w a → VIn w0 c v.xs → a.length + (jtV v).length ≤ LIMJ → Calls Tryz.prog 26 #[.pointer (some ⟨b, 0, none⟩), v.v c] w (WJP w0 b w (jpV v a) (.tuple #[]))) ?_ v
  intro k n t l ih d hw w0 w b a c h hv hl
  have hv : VIn w0 c l := hv
  obtain ⟨ao, cap, rfl, -⟩ := hv.form
  show Calls Tryz.prog 26 #[.pointer (some ⟨b, 0, none⟩), .agg #[.int .i64 k, .int .i64 n, .string t, .slice ao l.length cap]] w _
  by_cases hlong : 131072 < a.length
  · rw [jpV, if_pos hlong]
    exact jwrite_long h k n t ao l.length cap hlong
  · have hs : a.length ≤ 131072 := by omega
    rw [jpV, if_neg hlong]
    cases hw with
    | nul => exact jwrite_nul h 0 _ ao 0 cap hs
    | bool _ n hn => exact jwrite_bool h n hn _ ao 0 cap hs
    | int _ n h0 h1 => exact jwrite_int h n h0 h1 _ ao 0 cap hs
    | text _ t hv1 hz =>
      have e : jtV (.mk 3 0 t []) = quoteP t.toList := by rw [jtV]; rfl
      rw [e] at hl
      have hl : a.length + (quoteP t.toList).length ≤ 140737488300000 := hl
      exact jwrite_text h 0 t hv1 ao 0 cap hs (by omega)
    | list d n l once norm val sub =>
      rw [if_pos rfl]
      have hl : a.length + (openJ (rowP 0 l) :: (jtL (rowP 0 l) 0 l ++ [shutJ (rowP 0 l)])).length ≤ 140737488300000 := by rw [jtV, if_pos rfl] at hl; exact hl
      simp only [List.length_cons, List.length_append, List.length_nil] at hl
      have hI := fun x hx W a' c' hW hc hla => ih x hx d (sub x hx) w0 W b a' c' hW hc hla
      have hJ := fun x hx => (⟨sub x hx, norm x hx, val x hx⟩ : JW d x.2 ∧ x.1.Norm ∧ Lib.validD x.1.t.toList = true)
      cases hp : rowP 0 l with
      | true => rw [hp] at hl; exact jwrite_list_true h n _ l ao cap hv d hJ hI hp hs (by show _ ≤ 140737488300000; omega)
      | false => rw [hp] at hl; exact jwrite_list_false h n _ l ao cap hv d hJ hI hp hs (by show _ ≤ 140737488300000; omega)

/-! How long a text can be. -/
theorem escR_len {c : Nat} (hc : IsRune c) : (escR c).length ≤ 6 * (Lib.encodeRune c).length := by
  have h1 := (rune_len c).1
  unfold escR
  split
  · simp only [List.length_cons, List.length_nil]; omega
  · split
    · simp only [List.length_cons, List.length_nil]; omega
    · split
      · rename_i h2
        unfold IsRune at hc
        have e : (Lib.encodeRune (c : Int)).length = 4 := by simp [Lib.encodeRune, Lib.encodeRuneZ_four (r := (c : Int)) (by omega) (by omega)]
        rw [e]
        simp [uniB, hex4]
      · simp only [uniB, hex4, List.length_cons, List.length_nil]; omega
theorem escs_le : ∀ {cs : List Nat}, (∀ c ∈ cs, IsRune c) → (escs cs).length ≤ 6 * (flatR cs).length
  | [], _ => by simp [escs, flatR]
  | c :: cs, h => by
    have h1 := escR_len (h c (by simp))
    have h2 := escs_le (cs := cs) (fun x hx => h x (by simp [hx]))
    rw [escs_cons, flatR_cons, List.length_append, List.length_append]
    omega
theorem quote_len {t : Bs} (hv : Lib.validD t = true) : (quoteP t).length ≤ 6 * t.length + 2 := by
  obtain ⟨cs, hcs, rfl⟩ := valid_flat t hv
  rw [quote_flat hcs]
  have := escs_le hcs
  simp only [List.length_cons, List.length_append, List.length_nil]
  omega
theorem itoa_len21 {n : Int} (h0 : -9223372036854775808 ≤ n) (h1 : n ≤ 9223372036854775807) : (Lib.itoa n).length ≤ 21 := Lib.itoa_length_le n h0 h1
theorem keyJ_len {k : K} (h : k.Good) (hz : k.t.size ≤ 1073741824) : (keyJ k).length ≤ 1073741824 := by
  unfold keyJ
  split
  · rw [size_toList]; exact hz
  · have := itoa_len21 h.lo h.hi; omega
theorem jt_len (v : VT) : ∀ d, JW d v → KSm v → (jtV v).length ≤ countV v * 6443000000 + 400000 := by
  refine VT.ind (P := fun v => ∀ d, JW d v → KSm v → (jtV v).length ≤ countV v * 6443000000 + 400000) ?_ v
  intro k n t l ih d hw hk
  cases hw with
  | nul => rw [jtV]; show 4 ≤ _; omega
  | bool _ n hn =>
    have : (jtV (.mk 1 n ⟨#[]⟩ [])).length ≤ 5 := by rcases hn with rfl | rfl <;> (rw [jtV]; decide)
    omega
  | int _ n h0 h1 =>
    have := itoa_len21 h0 h1
    have e : jtV (.mk 2 n ⟨#[]⟩ []) = Lib.itoa n := by rw [jtV]; rfl
    rw [e]
    omega
  | text _ t hv hz =>
    have e : jtV (.mk 3 0 t []) = quoteP t.toList := by rw [jtV]; rfl
    have := quote_len hv
    rw [size_toList] at this
    rw [e]
    omega
  | list d n l once norm val sub =>
    obtain ⟨_, _, _, _, hks, hsub⟩ := hk
    have key : ∀ (r : List It), (∀ x ∈ r, x ∈ l) → ∀ p i, (jtL p i r).length ≤ (r.length + countL r) * 6443000000 := by
      intro r
      induction r with
      | nil => intro _ p i; rw [jtL]; simp
      | cons x r ihr =>
        intro hr p i
        have hx := hr x (by simp)
        have h1 := ih x hx d (sub x hx) (hsub x hx)
        have h2 := ihr (fun y hy => hr y (by simp [hy])) p (i + 1)
        have h3 := quote_len (keyJ_valid (val x hx))
        have h4 := keyJ_len (norm x hx).toGood (hks x hx)
        have h5 : (nameJ p x.1 (commaJ i [])).length ≤ (quoteP (keyJ x.1)).length + 2 := by
          unfold nameJ commaJ
          split <;> split <;> simp
        rw [jtL_cons, countL_cons]
        simp only [List.length_append, List.length_cons]
        omega
    have h1 := key l (fun _ h => h) (rowP 0 l) 0
    rw [jtV, if_pos rfl, countV]
    simp only [List.length_append, List.length_cons, List.length_nil]
    omega
/-- What Encode answers: a text, an error. -/
def encP (v : VT) : ByteArray × Int := if (rightV v && saidV v) = false then (⟨#[]⟩, 1) else if 65536 < (jpV v []).length then (⟨#[]⟩, 2) else (str (jpV v []), 0)
def EncPost (w : World) (x : ByteArray × Int) (e : Ending) (w' : World) : Prop := e = .returned (.tuple #[.string x.1, .int .i64 x.2]) ∧ Below w.heap.size w w'
theorem right_may {v : VT} (h : rightV v = true) : mayV v 0 = true ∧ countV v ≤ 2048 := by
  unfold rightV at h
  simp only [Bool.and_eq_true, decide_eq_true_eq] at h
  have := left_nn v 2048 h.1
  exact ⟨h.2, by omega⟩
theorem jw_right {v : VT} (hg : v.Good) (h : rightV v = true) (hs : saidV v = true) : JW 64 v := jw_of v hg hs 64 (by
  have := (right_may h).1
  rw [show (64 : Int) - ((64 : Nat) : Int) = 0 by omega]
  exact this)
set_option maxHeartbeats 3200000 in
set_option maxRecDepth 100000 in
theorem encode_any (v : VT) (hg : GoodS v) (w : World) (c : Value) (hv : VIn w c v.xs) (ht : TabsJ w) : Calls Tryz.prog 9 #[v.v c] w (EncPost w (encP v)) := by
  obtain ⟨ao, cap, rfl, -⟩ := hv.form
  obtain ⟨x, hx⟩ : ∃ x, x = encP v := ⟨_, rfl⟩
  rw [← hx]
  unfold encP at hx
  obtain ⟨p, hp⟩ : ∃ p, p = rightV v := ⟨_, rfl⟩
  obtain ⟨q, hq⟩ : ∃ q, q = saidV v := ⟨_, rfl⟩
  have HRI := Lib.hid (fun W (hW : Below w.heap.size w W) => right_any v hg.1 W (.slice ao v.xs.length cap) (hv.under hW) (ht.tab.mono hW))
  have HSA := Lib.hid (fun W (hW : Below w.heap.size w W) => jsaid_any v hg.1 W (.slice ao v.xs.length cap) (hv.under hW) (ht.tab.mono hW))
  rw [← hp] at hx HRI
  rw [← hq] at hx HSA
  have A0 : Hid (At1 w (w.alloc (VB v (.slice ao v.xs.length cap))) w.heap.size (VB v (.slice ao v.xs.length cap))) := Lib.hid (at1_start w _)
  have HV := Lib.hid (⟨hg, hv, ht⟩ : _ ∧ _ ∧ _)
  have HPQ := Lib.hid (⟨hp, hq⟩ : _ ∧ _)
  have HX := Lib.hid hx
  obtain ⟨a0, a1, a2, a3⟩ := vb_cells A0.out.a
  clear hg hv ht hp hq hx
  simp only [VT.v] at HRI HSA ⊢
  go_enter Tryz.func9, Tryz.ntmps9
  go_wp2_with fail
  refine (HRI.out _ A0.out.below).mono ?_
  rintro _ w1 ⟨rfl, hb1⟩
  have A1 := Lib.hid (A0.out.mono hb1)
  obtain ⟨a0, a1, a2, a3⟩ := vb_cells A1.out.a
  clear hb1
  cases p with
  | false =>
    have hx : x = (⟨#[]⟩, 1) := HX.out
    subst hx
    go_wp2_with fail
    go_ret2
    exact ⟨rfl, A1.out.below⟩
  | true =>
    go_wp2_with fail
    refine (HSA.out _ A1.out.below).mono ?_
    rintro _ w2 ⟨rfl, hb2⟩
    have A2 := Lib.hid (A1.out.mono hb2)
    obtain ⟨a0, a1, a2, a3⟩ := vb_cells A2.out.a
    clear hb2
    cases q with
    | false =>
      have hx : x = (⟨#[]⟩, 1) := HX.out
      subst hx
      go_wp2_with fail
      go_ret2
      exact ⟨rfl, A2.out.below⟩
    | true =>
      have hx : x = if 65536 < (jpV v []).length then (⟨#[]⟩, 2) else (str (jpV v []), 0) := HX.out
      have HX2 := Lib.hid hx
      have hjw := jw_right HV.out.1.1 HPQ.out.1.symm HPQ.out.2.symm
      have hcl := (right_may HPQ.out.1.symm).2
      have hln := jt_len v 64 hjw HV.out.1.2
      have hbd : (jtV v).length ≤ 140737488300000 := by
        have : countV v * 6443000000 ≤ 2048 * 6443000000 := Nat.mul_le_mul_right _ hcl
        omega
      have hb3 : Below w.heap.size w (w2.alloc (.cells #[.pointer none, .slice none 0 0] 56)) := A2.out.below.alloc A2.out.below.size _
      have hbl := heap_alloc_new w2 (.cells #[.pointer none, .slice none 0 0] 56)
      have JB3 : Hid (WJB w w2.heap.size (w2.alloc (.cells #[.pointer none, .slice none 0 0] 56)) []) := Lib.hid ⟨HV.out.2.2, A2.out.below.size, hb3, ⟨.pointer none, .slice none 0 0, ⟨hbl, Owns.empty _ _ _, by simp [Value.ownBlock], .inl rfl, tb56⟩, fun g e => by simp [Value.ownBlock] at e, fun _ => rfl⟩⟩
      have HWR : Hid (∀ W, WJB w w2.heap.size W [] → Calls Tryz.prog 26 #[.pointer (some ⟨w2.heap.size, 0, none⟩), .agg #[.int .i64 v.k, .int .i64 v.n, .string v.t, .slice ao v.xs.length cap]] W (WJP w w2.heap.size W (jpV v []) (.tuple #[]))) := Lib.hid (fun W hW => jwrite_any v 64 hjw w W w2.heap.size [] (.slice ao v.xs.length cap) hW HV.out.2.1 (by show 0 + _ ≤ 140737488300000; omega))
      have A3 := Lib.hid (A2.out.mono (below_alloc1 w2 (.cells #[.pointer none, .slice none 0 0] 56)))
      obtain ⟨a0, a1, a2, a3⟩ := vb_cells A3.out.a
      obtain ⟨r, hr⟩ : ∃ r, r = jpV v [] := ⟨_, rfl⟩
      rw [← hr] at HX2 HWR
      clear hx hjw hcl hln hbd hb3 hbl hr
      go_wp2_with fail
      refine (HWR.out _ JB3.out).mono ?_
      rintro _ w4 ⟨rfl, j4, k4⟩
      have J4 := Lib.hid (⟨j4, k4⟩ : _ ∧ _)
      clear j4 k4
      go_wp2_with fail
      refine (blenB J4.out.1.bb).mono ?_
      rintro _ _ ⟨rfl, rfl⟩
      by_cases hlong : 65536 < r.length
      · have hxe : x = (⟨#[]⟩, 2) := by rw [HX2.out, if_pos hlong]
        subst hxe
        have hl : decide ((65536 : Int) < (r.length : Int)) = true := by simp; omega
        go_wp2_with fail
        go_ret2
        exact ⟨rfl, J4.out.1.bel⟩
      · have hxe : x = (str r, 0) := by rw [HX2.out, if_neg hlong]
        subst hxe
        have hl : decide ((65536 : Int) < (r.length : Int)) = false := by simp; omega
        go_wp2_with fail
        refine (bstringB J4.out.1.bb).mono ?_
        rintro _ w5 ⟨rfl, k5⟩
        have hb5 : Below w.heap.size w w5 := J4.out.1.bel.trans (k5.belowB (fun k hk e => by have := e.1; have := J4.out.1.hb; omega) J4.out.1.bel.size)
        go_wp2_with fail
        go_ret2
        exact ⟨rfl, hb5⟩
end Go.Proofs.YtnaefnojmiolbaaGreatDoor
