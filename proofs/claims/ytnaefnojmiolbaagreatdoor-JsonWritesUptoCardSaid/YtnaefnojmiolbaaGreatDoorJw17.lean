/-
  JSON: the walk of write (printed by genJWrtZ.py).
-/
import Derived.Test.YtnaefnojmiolbaaGreatDoorJw16
import Derived.Test.YtnaefnojmiolbaaGreatDoorJw12
namespace Go.Proofs.YtnaefnojmiolbaaGreatDoor
open Go.RowKit Go.Shelf

theorem jp_le (v : VT) : ∀ a, (jpV v a).length ≤ a.length + (jtV v).length := by
  refine VT.ind (P := fun v => ∀ a, (jpV v a).length ≤ a.length + (jtV v).length) ?_ v
  intro k n t l ih a
  have hl : ∀ (r : List It), (∀ x ∈ r, x ∈ l) → ∀ p i a, (jpL p i r a).length ≤ a.length + (jtL p i r).length := by
    intro r
    induction r with
    | nil => intro _ p i a; rw [jpL, jtL]; simp
    | cons x r ihr =>
      intro hr p i a
      rw [jpL_cons, jtL_cons]
      have h1 := ihr (fun y hy => hr y (by simp [hy])) p (i + 1) (jpV x.2 (nameJ p x.1 (commaJ i a)))
      have h2 := ih x (hr x (by simp)) (nameJ p x.1 (commaJ i a))
      have h3 : (nameJ p x.1 (commaJ i a)).length = a.length + (nameJ p x.1 (commaJ i [])).length := by rw [lead_app p x.1 i a, List.length_append]
      simp only [List.length_append] at h1 h2 ⊢
      omega
  rw [jpV, jtV]
  split
  · omega
  · split
    · have := hl l (fun _ h => h) (rowP 0 l) 0 (a ++ [openJ (rowP 0 l)])
      simp only [List.length_append, List.length_cons, List.length_nil] at this ⊢
      omega
    · simp
/-- One item as it lay at the start, and as it lies now. -/
theorem vin_get {w wr : World} {ao : Option Addr} {cap m : Nat} {xs : List It} (h : VIn w (.slice ao m cap) xs) {j : Nat} (hj : j < xs.length) (hb : Below w.heap.size w wr) :
    ∃ q x g off co cc, xs[j]? = some (q, x) ∧ (q, x) ∈ xs ∧ ao = some ⟨g, off, none⟩ ∧ VIn w (.slice co x.xs.length cc) x.xs ∧
      wr.cell? ⟨g, off + j * 7, none⟩ = some (.bool q.b) ∧ wr.cell? ⟨g, off + j * 7 + 1, none⟩ = some (.int .i64 q.n) ∧ wr.cell? ⟨g, off + j * 7 + 2, none⟩ = some (.string q.t) ∧
      wr.cell? ⟨g, off + j * 7 + 3, none⟩ = some (.int .i64 x.k) ∧ wr.cell? ⟨g, off + j * 7 + 4, none⟩ = some (.int .i64 x.n) ∧ wr.cell? ⟨g, off + j * 7 + 5, none⟩ = some (.string x.t) ∧ wr.cell? ⟨g, off + j * 7 + 6, none⟩ = some (.slice co x.xs.length cc) := by
  obtain ⟨q, x, g, off, c, h1, h2, h3, hg, -, hc, c0, c1, c2, c3, c4, c5, c6⟩ := h.get hj
  obtain ⟨co, cc, rfl, -⟩ := hc.form
  have k := fun o => hb.cell (p := ⟨g, o, none⟩) hg
  exact ⟨q, x, g, off, co, cc, h1, h2, h3, hc, (k _).trans c0, (k _).trans c1, (k _).trans c2, (k _).trans c3, (k _).trans c4, (k _).trans c5, (k _).trans c6⟩
theorem fbool_any (b : Bool) (w : World) : Calls Tryz.prog 55 #[.bool b] w fun e w' => e = .returned (.string (str (boolJ (if b then 1 else 0)))) ∧ w' = w := by
  have h := Tryz.strconv_FormatBool b w
  have e : Lib.formatBool b = boolJ (if b then 1 else 0) := by cases b <;> decide +kernel
  rw [e] at h
  exact h
section
variable {w0 w : World} {b : Nat} {a : Bs}
set_option maxRecDepth 100000 in
/-- A text that is too long already takes nothing more. -/
theorem jwrite_long (h : WJB w0 b w a) (k n : Int) (t : ByteArray) (ao : Option Addr) (m cap : Nat) (hl : 131072 < a.length) : Calls Tryz.prog 26 #[.pointer (some ⟨b, 0, none⟩), .agg #[.int .i64 k, .int .i64 n, .string t, .slice ao m cap]] w (WJP w0 b w a (.tuple #[])) := by
  have J1 : Hid (∀ o, WJB w0 b (w.alloc o) a ∧ KW b w (w.alloc o)) := Lib.hid (fun o => ⟨h.under (below_alloc1 w o), KW.of_below (below_alloc1 w o)⟩)
  have hl' : (131072 : Int) < (a.length : Int) := by omega
  clear h hl
  go_enter Tryz.func26, Tryz.ntmps26
  go_wp2_with fail
  refine (blenB (J1.out _).1.bb).mono ?_
  rintro _ _ ⟨rfl, rfl⟩
  go_wp2_with fail
  go_end0
  exact ⟨rfl, J1.out _⟩
set_option maxRecDepth 100000 in
theorem jwrite_nul (h : WJB w0 b w a) (n : Int) (t : ByteArray) (ao : Option Addr) (m cap : Nat) (hl : a.length ≤ 131072) : Calls Tryz.prog 26 #[.pointer (some ⟨b, 0, none⟩), .agg #[.int .i64 0, .int .i64 n, .string t, .slice ao m cap]] w (WJP w0 b w (a ++ [110, 117, 108, 108]) (.tuple #[])) := by
  have J1 : Hid (∀ o, WJB w0 b (w.alloc o) a ∧ KW b w (w.alloc o)) := Lib.hid (fun o => ⟨h.under (below_alloc1 w o), KW.of_below (below_alloc1 w o)⟩)
  have hl' : ¬ (131072 : Int) < (a.length : Int) := by omega
  obtain ⟨a0, a1, a2, a3⟩ := vb4 (heap_alloc_new w (.cells #[.int .i64 0, .int .i64 n, .string t, .slice ao m cap] 24))
  have HL := Lib.hid hl
  have HB : Hid ((⟨#[110, 117, 108, 108]⟩ : ByteArray).toList = [110, 117, 108, 108]) := Lib.hid (by rw [ByteArray.toList_eq])
  clear h hl
  go_enter Tryz.func26, Tryz.ntmps26
  go_wp2_with fail
  refine (blenB (J1.out _).1.bb).mono ?_
  rintro _ _ ⟨rfl, rfl⟩
  go_wp2_with fail
  refine ((J1.out _).1.str ⟨#[110, 117, 108, 108]⟩ (by rw [HB.out]; decide) (by have := HL.out; show _ + 4 ≤ _; omega)).mono ?_
  rintro _ w2 ⟨rfl, j2, k2⟩
  rw [HB.out] at j2
  go_wp2_with fail
  go_end0
  exact ⟨rfl, j2, (J1.out _).2.trans k2⟩
set_option maxRecDepth 100000 in
theorem jwrite_bool (h : WJB w0 b w a) (n : Int) (hn : n = 0 ∨ n = 1) (t : ByteArray) (ao : Option Addr) (m cap : Nat) (hl : a.length ≤ 131072) : Calls Tryz.prog 26 #[.pointer (some ⟨b, 0, none⟩), .agg #[.int .i64 1, .int .i64 n, .string t, .slice ao m cap]] w (WJP w0 b w (a ++ boolJ n) (.tuple #[])) := by
  have J1 : Hid (∀ o, WJB w0 b (w.alloc o) a ∧ KW b w (w.alloc o)) := Lib.hid (fun o => ⟨h.under (below_alloc1 w o), KW.of_below (below_alloc1 w o)⟩)
  have hl' : ¬ (131072 : Int) < (a.length : Int) := by omega
  obtain ⟨a0, a1, a2, a3⟩ := vb4 (heap_alloc_new w (.cells #[.int .i64 1, .int .i64 n, .string t, .slice ao m cap] 24))
  have HL := Lib.hid hl
  obtain ⟨g, hg⟩ : ∃ g, (n == 1) = g := ⟨_, rfl⟩
  obtain ⟨sx, hsx⟩ : ∃ sx, sx = str (boolJ (if g then 1 else 0)) := ⟨_, rfl⟩
  have HF := fun W => fbool_any g W
  rw [← hsx] at HF
  have hsl : sx.toList = boolJ n := by
    rw [hsx, str_toList, ← hg]
    rcases hn with rfl | rfl <;> rfl
  have HSX : Hid (sx.toList = boolJ n ∧ sx.size ≤ 5 ∧ boolJ n ≠ []) := Lib.hid ⟨hsl, by
    rw [← size_toList, hsl]
    rcases hn with rfl | rfl <;> decide, by rcases hn with rfl | rfl <;> decide⟩
  clear h hl hsx hsl hn
  go_enter Tryz.func26, Tryz.ntmps26
  go_wp2_with fail
  refine (blenB (J1.out _).1.bb).mono ?_
  rintro _ _ ⟨rfl, rfl⟩
  go_wp2_with fail
  refine (HF _).mono ?_
  rintro _ _ ⟨rfl, rfl⟩
  go_wp2_with fail
  refine ((J1.out _).1.str sx (by rw [HSX.out.1]; exact HSX.out.2.2) (by have := HL.out; have := HSX.out.2.1; omega)).mono ?_
  rintro _ w2 ⟨rfl, j2, k2⟩
  rw [HSX.out.1] at j2
  go_wp2_with fail
  go_end0
  exact ⟨rfl, j2, (J1.out _).2.trans k2⟩
set_option maxRecDepth 100000 in
theorem jwrite_int (h : WJB w0 b w a) (n : Int) (h0 : -9223372036854775808 ≤ n) (h1 : n ≤ 9223372036854775807) (t : ByteArray) (ao : Option Addr) (m cap : Nat) (hl : a.length ≤ 131072) : Calls Tryz.prog 26 #[.pointer (some ⟨b, 0, none⟩), .agg #[.int .i64 2, .int .i64 n, .string t, .slice ao m cap]] w (WJP w0 b w (a ++ Lib.itoa n) (.tuple #[])) := by
  have J1 : Hid (∀ o, WJB w0 b (w.alloc o) a ∧ KW b w (w.alloc o)) := Lib.hid (fun o => ⟨h.under (below_alloc1 w o), KW.of_below (below_alloc1 w o)⟩)
  have hl' : ¬ (131072 : Int) < (a.length : Int) := by omega
  obtain ⟨a0, a1, a2, a3⟩ := vb4 (heap_alloc_new w (.cells #[.int .i64 2, .int .i64 n, .string t, .slice ao m cap] 24))
  have HL := Lib.hid hl
  obtain ⟨sx, hsx⟩ : ∃ sx, sx = str (Lib.itoa n) := ⟨_, rfl⟩
  have HF := fun W hW => itoa_any n h0 h1 W hW
  unfold TextPost at HF
  rw [← hsx] at HF
  have hsl : sx.toList = Lib.itoa n := by rw [hsx, str_toList]
  have HSX : Hid (sx.toList = Lib.itoa n ∧ sx.size ≤ 21 ∧ Lib.itoa n ≠ []) := Lib.hid ⟨hsl, by
    rw [hsx]; exact itoa_short h0 h1, by obtain ⟨c, r, e, -⟩ := itoa_first n; rw [e]; simp⟩
  clear h hl hsx hsl h0 h1
  go_enter Tryz.func26, Tryz.ntmps26
  go_wp2_with fail
  refine (blenB (J1.out _).1.bb).mono ?_
  rintro _ _ ⟨rfl, rfl⟩
  go_wp2_with fail
  refine (HF _ (J1.out _).1.tabs.tab).mono ?_
  rintro _ w1 ⟨rfl, hb⟩
  have J2 := Lib.hid (⟨(J1.out _).1.under hb, (J1.out _).2.trans (KW.of_below hb)⟩ : _ ∧ _)
  clear hb HF
  go_wp2_with fail
  refine (J2.out.1.str sx (by rw [HSX.out.1]; exact HSX.out.2.2) (by have := HL.out; have := HSX.out.2.1; omega)).mono ?_
  rintro _ w2 ⟨rfl, j2, k2⟩
  rw [HSX.out.1] at j2
  go_wp2_with fail
  go_end0
  exact ⟨rfl, j2, J2.out.2.trans k2⟩
set_option maxRecDepth 100000 in
theorem jwrite_text (h : WJB w0 b w a) (n : Int) (t : ByteArray) (hv : Lib.validD t.toList = true) (ao : Option Addr) (m cap : Nat) (hl : a.length ≤ 131072) (hq : a.length + (quoteP t.toList).length ≤ 140737488350000) : Calls Tryz.prog 26 #[.pointer (some ⟨b, 0, none⟩), .agg #[.int .i64 3, .int .i64 n, .string t, .slice ao m cap]] w (WJP w0 b w (a ++ quoteP t.toList) (.tuple #[])) := by
  have J1 : Hid (∀ o, WJB w0 b (w.alloc o) a ∧ KW b w (w.alloc o)) := Lib.hid (fun o => ⟨h.under (below_alloc1 w o), KW.of_below (below_alloc1 w o)⟩)
  have hl' : ¬ (131072 : Int) < (a.length : Int) := by omega
  obtain ⟨a0, a1, a2, a3⟩ := vb4 (heap_alloc_new w (.cells #[.int .i64 3, .int .i64 n, .string t, .slice ao m cap] 24))
  have HQ := Lib.hid (⟨hv, hq⟩ : _ ∧ _)
  clear h hl hv hq
  go_enter Tryz.func26, Tryz.ntmps26
  go_wp2_with fail
  refine (blenB (J1.out _).1.bb).mono ?_
  rintro _ _ ⟨rfl, rfl⟩
  go_wp2_with fail
  refine (quote_any (J1.out _).1 t HQ.out.1 HQ.out.2).mono ?_
  rintro _ w2 ⟨rfl, j2, k2⟩
  go_wp2_with fail
  go_end0
  exact ⟨rfl, j2, (J1.out _).2.trans k2⟩
end
/-- What stands while a list is written: some blocks are as they were. -/
structure KI (w0 w W : World) (b : Nat) (l : Bs) (Ks : List (Nat × Obj)) : Prop where
  jb : WJB w0 b W l
  kw : KW b w W
  kp : ∀ x ∈ Ks, W.heap[x.1]? = some x.2 ∧ ∀ cs ty fr, x.2 = .cells cs ty fr → ty ≠ 5 ∧ ty ≠ 56
section
variable {w0 w W W' : World} {b : Nat} {a l l' : Bs} {Ks : List (Nat × Obj)}
theorem KI.write (h : KI w0 w W b l Ks) (hj : WJB w0 b W' l') (hk : KW b W W') : KI w0 w W' b l' Ks :=
  ⟨hj, h.kw.trans hk, fun x hx => ⟨hk.blk (h.kp x hx).1 (by
    rintro ⟨-, cs, ty, fr, e, ht⟩
    rw [(h.kp x hx).1] at e
    have := (h.kp x hx).2 cs ty fr (Option.some.inj e)
    rcases ht with ht | ht
    · exact this.1 ht
    · exact this.2 ht), (h.kp x hx).2⟩⟩
theorem KI.under (h : KI w0 w W b l Ks) (hb : Below W.heap.size W W') : KI w0 w W' b l Ks := h.write (h.jb.under hb) (KW.of_below hb)
theorem KI.add (h : KI w0 w W b l Ks) (cs : Array Value) (ty : TypeId) (ht : ty ≠ 5 ∧ ty ≠ 56) : KI w0 w (W.alloc (.cells cs ty)) b l ((W.heap.size, .cells cs ty (0, 0)) :: Ks) := by
  have h2 := h.under (below_alloc1 W (.cells cs ty))
  refine ⟨h2.jb, h2.kw, fun x hx => ?_⟩
  rcases List.mem_cons.1 hx with rfl | hx
  · exact ⟨heap_alloc_new W _, fun cs' ty' fr e => by cases e; exact ht⟩
  · exact h2.kp x hx
theorem KI.less (h : KI w0 w W b l Ks) {Ls : List (Nat × Obj)} (hk : ∀ x ∈ Ls, x ∈ Ks) : KI w0 w W b l Ls := ⟨h.jb, h.kw, fun x hx => h.kp x (hk x hx)⟩
/-- A block of the call's own is written over. -/
theorem KI.put {S : Nat} {cs cs' : Array Value} {ty : TypeId} (h : KI w0 w W b l ((S, .cells cs ty (0, 0)) :: Ks)) (m : Mod (fun k => k = S) W W') (hS : w.heap.size ≤ S) (hK : ∀ x ∈ Ks, x.1 ≠ S) (hn : W'.heap[S]? = some (.cells cs' ty (0, 0))) (hb : b < w.heap.size) : KI w0 w W' b l ((S, .cells cs' ty (0, 0)) :: Ks) := by
  have h0 := h.kp (S, .cells cs ty (0, 0)) (by simp)
  have hw := h.jb.hb
  refine ⟨⟨h.jb.tab, h.jb.hb, h.jb.bel.trans (m.belowB (fun k _ e => by have e : k = S := e; omega) h.jb.bel.size), h.jb.bb.mod m ?_⟩, Mod.trans' h.kw m ?_, fun x hx => ?_⟩
  · intro k cs1 ty1 fr e hc ht
    have e : k = S := e
    subst e
    rw [h0.1] at hc
    cases hc
    rcases ht with ht | ht
    · exact absurd ht (h0.2 _ _ _ rfl).1
    · exact absurd ht (h0.2 _ _ _ rfl).2
  · intro i hi e
    have e : i = S := e
    omega
  · rcases List.mem_cons.1 hx with rfl | hx
    · exact ⟨hn, fun cs1 ty1 fr e => by cases e; exact h0.2 _ _ _ rfl⟩
    · exact ⟨m.blk (h.kp x (by simp [hx])).1 (fun e => hK x hx e), (h.kp x (by simp [hx])).2⟩
theorem KI.h0 {i : Nat} {o : Obj} (h : KI w0 w W b l ((i, o) :: Ks)) : W.heap[i]? = some o := (h.kp (i, o) (by simp)).1
theorem KI.h1 {i : Nat} {o : Obj} {x : Nat × Obj} (h : KI w0 w W b l (x :: (i, o) :: Ks)) : W.heap[i]? = some o := (h.kp (i, o) (by simp)).1
theorem KI.h2 {i : Nat} {o : Obj} {x y : Nat × Obj} (h : KI w0 w W b l (x :: y :: (i, o) :: Ks)) : W.heap[i]? = some o := (h.kp (i, o) (by simp)).1
/-- One letter is written. -/
theorem WJB.byte (h : WJB w0 b W l) (c : UInt8) (hl : l.length ≤ 140737488340000) : Calls Tryz.prog 54 #[.pointer (some ⟨b, 0, none⟩), .string ⟨#[c]⟩] W (WJP w0 b W (l ++ [c]) (.tuple #[.int .i64 1, .nilIface])) := by
  have e : (⟨#[c]⟩ : ByteArray).toList = [c] := by rw [ByteArray.toList_eq]
  have := h.str ⟨#[c]⟩ (by rw [e]; simp) (by show _ + 1 ≤ _; omega)
  rw [e] at this
  exact this
theorem comma_len (i : Nat) (a : Bs) : (commaJ i a).length = a.length + (commaJ i []).length := by unfold commaJ; split <;> simp
theorem name_len (p : Bool) (q : K) (a : Bs) : (nameJ p q a).length = a.length + (nameJ p q []).length := by unfold nameJ; split <;> simp
abbrev LIMJ : Nat := 140737488300000
theorem ib_of {W : World} {B : Nat} {v0 v1 v2 v3 v4 v5 v6 : Value} (h : W.heap[B]? = some (.cells #[v0, v1, v2, v3, v4, v5, v6] 64 (0, 0))) :
    W.cell? ⟨B, 0, none⟩ = some v0 ∧ W.cell? ⟨B, 1, none⟩ = some v1 ∧ W.cell? ⟨B, 2, none⟩ = some v2 ∧ W.cell? ⟨B, 3, none⟩ = some v3 ∧ W.cell? ⟨B, 4, none⟩ = some v4 ∧ W.cell? ⟨B, 5, none⟩ = some v5 ∧ W.cell? ⟨B, 6, none⟩ = some v6 :=
  ⟨cell_blk h 0, cell_blk h 1, cell_blk h 2, cell_blk h 3, cell_blk h 4, cell_blk h 5, cell_blk h 6⟩
set_option maxHeartbeats 6400000 in
set_option maxRecDepth 100000 in
theorem jwrite_list_true (h : WJB w0 b w a) (n : Int) (t : ByteArray) (l : List It) (ao : Option Addr) (cap : Nat) (hv : VIn w0 (.slice ao l.length cap) l) (d : Nat) (hl : ∀ x ∈ l, JW d x.2 ∧ x.1.Norm ∧ Lib.validD x.1.t.toList = true)
    (IH : ∀ x ∈ l, ∀ (W : World) (a' : Bs) (c' : Value), WJB w0 b W a' → VIn w0 c' x.2.xs → a'.length + (jtV x.2).length ≤ LIMJ → Calls Tryz.prog 26 #[.pointer (some ⟨b, 0, none⟩), x.2.v c'] W (WJP w0 b W (jpV x.2 a') (.tuple #[])))
    (hp : rowP 0 l = true) (hs : a.length ≤ 131072) (hlim : a.length + (jtL true 0 l).length + 2 ≤ LIMJ) :
    Calls Tryz.prog 26 #[.pointer (some ⟨b, 0, none⟩), .agg #[.int .i64 4, .int .i64 n, .string t, .slice ao l.length cap]] w (WJP w0 b w (jpL true 0 l (a ++ [91]) ++ [93]) (.tuple #[])) := by
  obtain ⟨_, _, hv1, hlen⟩ := hv.form
  clear hv1
  have hb := h.bb.lt
  have hl' : ¬ (131072 : Int) < (a.length : Int) := by omega
  have KA : Hid (KI w0 w (w.alloc (.cells #[.int .i64 4, .int .i64 n, .string t, .slice ao l.length cap] 24)) b a [(w.heap.size, .cells #[.int .i64 4, .int .i64 n, .string t, .slice ao l.length cap] 24 (0, 0))]) :=
    Lib.hid ((KI.mk h (Mod.refl _ _) (fun x hx => by cases hx) : KI w0 w w b a []).add _ _ ⟨by decide, by decide⟩)
  have KB0 : Hid (KI w0 w ((w.alloc (.cells #[.int .i64 4, .int .i64 n, .string t, .slice ao l.length cap] 24)).alloc (.cells #[.string ⟨#[123]⟩, .string ⟨#[125]⟩] 90)) b a [(w.heap.size + 1, .cells #[.string ⟨#[123]⟩, .string ⟨#[125]⟩] 90 (0, 0)), (w.heap.size, .cells #[.int .i64 4, .int .i64 n, .string t, .slice ao l.length cap] 24 (0, 0))]) :=
    Lib.hid (by have := KA.out.add #[.string ⟨#[123]⟩, .string ⟨#[125]⟩] 90 ⟨by decide, by decide⟩; rw [World.size_alloc] at this; exact this)
  have HV := Lib.hid hv
  have HL := Lib.hid hl
  have HLN := Lib.hid hlen
  have IHH := Lib.hid IH
  have HR : Hid (jpL true 0 (l.drop 0) (a ++ [91]) = jpL true 0 l (a ++ [91]) ∧ (a ++ [91]).length + (jtL true 0 (l.drop 0)).length + 1 ≤ LIMJ) := Lib.hid ⟨rfl, by rw [List.length_append, List.drop_zero]; show a.length + 1 + _ + 1 ≤ _; omega⟩
  have HRB : Hid (a.length ≤ 140737488340000) := Lib.hid (by omega)
  obtain ⟨R, hR⟩ : ∃ R, R = jpL true 0 l (a ++ [91]) := ⟨_, rfl⟩
  have HRW : Hid (∀ W, KI w0 w W b a [(w.heap.size + 1, .cells #[.string ⟨#[123]⟩, .string ⟨#[125]⟩] 90 (0, 0)), (w.heap.size, .cells #[.int .i64 4, .int .i64 n, .string t, .slice ao l.length cap] 24 (0, 0))] → Calls Tryz.prog 58 #[.slice ao l.length cap] W (BoolPost W true)) := Lib.hid (fun W hW => by rw [← hp]; exact jrow_any l W _ (hv.under hW.jb.bel) hW.jb.tabs.tab)
  rw [← hR] at HR ⊢
  obtain ⟨a0, a1, a2, a3⟩ := vb4 KA.out.h0
  have HBB := Lib.hid hb
  clear h hv hl hlen IH hlim hR hs hp
  go_enter Tryz.func26, Tryz.ntmps26
  go_wp2_with fail
  refine (blenB KA.out.jb.bb).mono ?_
  rintro _ _ ⟨rfl, rfl⟩
  go_wp2_with fail
  refine (HRW.out _ KB0.out).mono ?_
  rintro _ w1 ⟨rfl, hb1⟩
  have K1 := Lib.hid (KB0.out.under hb1)
  clear hb1 a0 a1 a2 a3
  obtain ⟨a0, a1, a2, a3⟩ := vb4 K1.out.h1
  have e0 := cell_blk K1.out.h0 0
  have e1 := cell_blk K1.out.h0 1
  have f0 := free_blk K1.out.h0 0
  have f1 := free_blk K1.out.h0 1
  have K2 : Hid (KI w0 w ((w1.setCell ⟨w.heap.size + 1, 0, none⟩ (.string ⟨#[91]⟩)).setCell ⟨w.heap.size + 1, 1, none⟩ (.string ⟨#[93]⟩)) b a [(w.heap.size + 1, .cells #[.string ⟨#[91]⟩, .string ⟨#[93]⟩] 90 (0, 0)), (w.heap.size, .cells #[.int .i64 4, .int .i64 n, .string t, .slice ao l.length cap] 24 (0, 0))]) := Lib.hid (by
    have h0 := K1.out.h0
    refine K1.out.put (((Mod.refl (fun k => k = w.heap.size + 1) w1).setCell ⟨w.heap.size + 1, 0, none⟩ _ (fun _ => rfl)).setCell ⟨w.heap.size + 1, 1, none⟩ _ (fun _ => rfl)) (by omega) (fun x hx => ?_) ?_ HBB.out
    · rw [List.mem_singleton.1 hx]; simp
    · have := set_blk (set_blk h0 0 (.string ⟨#[91]⟩)) 1 (.string ⟨#[93]⟩)
      simpa using this)
  clear KA KB0 HRW
  go_wp2_with fail
  clear e0 e1 f0 f1 a0 a1 a2 a3 K1
  refine (K2.out.jb.byte 91 HRB.out).mono ?_
  rintro _ w2 ⟨rfl, j2, k2⟩
  have K3 := Lib.hid (K2.out.write j2 k2)
  clear j2 k2 K2
  obtain ⟨a0, a1, a2, a3⟩ := vb4 K3.out.h1
  go_wp2_with fail
  clear a0 a1 a2 a3
  go_loopw [54] (fun kv wr => ∃ (j : Nat) (acc : Bs), j ≤ l.length ∧ kv = .int .i64 j ∧ Hid (KI w0 w wr b acc [(w.heap.size + 1, .cells #[.string ⟨#[91]⟩, .string ⟨#[93]⟩] 90 (0, 0)), (w.heap.size, .cells #[.int .i64 4, .int .i64 n, .string t, .slice ao l.length cap] 24 (0, 0))]) ∧ Hid (jpL true j (l.drop j) acc = R ∧ acc.length + (jtL true j (l.drop j)).length + 1 ≤ LIMJ)) (fun kv _ => l.length - (intOf kv).toNat)
  case atStart => exact ⟨0, _, Nat.zero_le _, rfl, K3, HR⟩
  case round =>
    clear K3 HR
    obtain ⟨j, acc, hj, rfl, HK, HX⟩ := hrel
    by_cases hlt : j < l.length
    · obtain ⟨q, x, g, off, co, cc, hq, hm, rfl, hc, d0, d1, d2, d3, d4, d5, d6⟩ := vin_get HV.out hlt HK.out.jb.bel
      have hi : (j : Int) < (l.length : Int) := by omega
      obtain ⟨hwi', hwi⟩ : wrap64 ((j : Int) + 1) = (j : Int) + 1 ∧ IntKind.i64.wrap ((j : Int) + 1) = (j : Int) + 1 := wr_sm (by omega) (by have := HLN.out; omega)
      obtain ⟨-, hkn, hkv⟩ := HL.out (q, x) hm
      have HI : Hid (∀ W a', WJB w0 b W a' → a'.length + (jtV x).length ≤ LIMJ → Calls Tryz.prog 26 #[.pointer (some ⟨b, 0, none⟩), .agg #[.int .i64 x.k, .int .i64 x.n, .string x.t, .slice co x.xs.length cc]] W (WJP w0 b W (jpV x a') (.tuple #[]))) := Lib.hid (fun W a' hW ha => IHH.out (q, x) hm W a' (.slice co x.xs.length cc) hW hc ha)
      have HXN : Hid (jpL true (j + 1) (l.drop (j + 1)) (jpV x (nameJ true q (commaJ j acc))) = R ∧ acc.length + (commaJ j []).length + (nameJ true q []).length + (jtV x).length + (jtL true (j + 1) (l.drop (j + 1))).length + 1 ≤ 140737488300000) := Lib.hid (by
        have h1 := HX.out.1
        have h2 : acc.length + _ + 1 ≤ 140737488300000 := HX.out.2
        rw [drop_at hq, jpL_cons] at h1
        rw [drop_at hq, jtL_cons] at h2
        have h3 := name_len true q (commaJ j [])
        refine ⟨h1, ?_⟩
        simp only [List.length_append] at h2
        omega)
      have HNX : Hid (jpL true (j + 1) (l.drop (j + 1)) (jpV x (nameJ true q (commaJ j acc))) = R ∧ (jpV x (nameJ true q (commaJ j acc))).length + (jtL true (j + 1) (l.drop (j + 1))).length + 1 ≤ LIMJ) := Lib.hid (by
        have h3 := jp_le x (nameJ true q (commaJ j acc))
        have h4 := name_len true q (commaJ j acc)
        have h5 := comma_len j acc
        have h2 := HXN.out.2
        exact ⟨HXN.out.1, by show _ ≤ 140737488300000; omega⟩)
      have HLT := Lib.hid hlt
      have HKV := Lib.hid (⟨hkn, hkv⟩ : _ ∧ _)
      clear hc hq hm hlt HX hkn hkv
      obtain ⟨qb, qn, qt⟩ := q
      simp only at d0 d1 d2 d3 d4 d5
      have KX : Hid (KI w0 w (wr.alloc (.cells #[.bool qb, .int .i64 qn, .string qt, .int .i64 x.k, .int .i64 x.n, .string x.t, .slice co x.xs.length cc] 64)) b acc [(wr.heap.size, .cells #[.bool qb, .int .i64 qn, .string qt, .int .i64 x.k, .int .i64 x.n, .string x.t, .slice co x.xs.length cc] 64 (0, 0)), (w.heap.size + 1, .cells #[.string ⟨#[91]⟩, .string ⟨#[93]⟩] 90 (0, 0)), (w.heap.size, .cells #[.int .i64 4, .int .i64 n, .string t, .slice (some ⟨g, off, none⟩) l.length cap] 24 (0, 0))]) := Lib.hid (HK.out.add #[.bool qb, .int .i64 qn, .string qt, .int .i64 x.k, .int .i64 x.n, .string x.t, .slice co x.xs.length cc] 64 ⟨by decide, by decide⟩)
      by_cases h0 : 0 < j
      · have hcj : commaJ j acc = acc ++ [44] := by unfold commaJ; rw [if_pos h0]
        have HCJ := Lib.hid hcj
        have HLA : Hid (acc.length ≤ 140737488340000) := Lib.hid (by have := HXN.out.2; omega)
        clear hcj
        go_wp2_with fail
        refine (KX.out.jb.byte 44 HLA.out).mono ?_
        rintro _ w5 ⟨rfl, j5, k5⟩
        rw [← HCJ.out] at j5
        have KQ := Lib.hid (KX.out.write j5 k5)
        clear j5 k5 KX HCJ HLA
        obtain ⟨z0, z1, z2, z3, z4, z5, z6⟩ := ib_of KQ.out.h0
        go_wp2_with fail
        refine (HI.out _ _ KQ.out.jb (by have h2 := HXN.out.2; have h5 := comma_len j acc; have h6 := name_len true ⟨qb, qn, qt⟩ (commaJ j acc); have h7 : nameJ true ⟨qb, qn, qt⟩ (commaJ j acc) = commaJ j acc := rfl; rw [h7] at h6; show _ ≤ 140737488300000; omega)).mono ?_
        rintro _ w7 ⟨rfl, j7, k7⟩
        have K7 := Lib.hid ((KQ.out.write j7 k7).less (fun y hy => List.mem_cons_of_mem _ hy))
        clear j7 k7 KQ z0 z1 z2 z3 z4 z5 z6
        go_wp2_with fail
        go_roundw
        case rel => exact ⟨j + 1, _, HLT.out, by go_num, K7, HNX⟩
        case measure => have := HLT.out; simp [intOf]; omega
      · have hcj : commaJ j acc = acc := by unfold commaJ; rw [if_neg h0]
        have KQ : Hid (KI w0 w (wr.alloc (.cells #[.bool qb, .int .i64 qn, .string qt, .int .i64 x.k, .int .i64 x.n, .string x.t, .slice co x.xs.length cc] 64)) b (commaJ j acc) [(wr.heap.size, .cells #[.bool qb, .int .i64 qn, .string qt, .int .i64 x.k, .int .i64 x.n, .string x.t, .slice co x.xs.length cc] 64 (0, 0)), (w.heap.size + 1, .cells #[.string ⟨#[91]⟩, .string ⟨#[93]⟩] 90 (0, 0)), (w.heap.size, .cells #[.int .i64 4, .int .i64 n, .string t, .slice (some ⟨g, off, none⟩) l.length cap] 24 (0, 0))]) := Lib.hid (by rw [hcj]; exact KX.out)
        clear hcj KX
        obtain ⟨z0, z1, z2, z3, z4, z5, z6⟩ := ib_of KQ.out.h0
        go_wp2_with fail
        refine (HI.out _ _ KQ.out.jb (by have h2 := HXN.out.2; have h5 := comma_len j acc; have h6 := name_len true ⟨qb, qn, qt⟩ (commaJ j acc); have h7 : nameJ true ⟨qb, qn, qt⟩ (commaJ j acc) = commaJ j acc := rfl; rw [h7] at h6; show _ ≤ 140737488300000; omega)).mono ?_
        rintro _ w7 ⟨rfl, j7, k7⟩
        have K7 := Lib.hid ((KQ.out.write j7 k7).less (fun y hy => List.mem_cons_of_mem _ hy))
        clear j7 k7 KQ z0 z1 z2 z3 z4 z5 z6
        go_wp2_with fail
        go_roundw
        case rel => exact ⟨j + 1, _, HLT.out, by go_num, K7, HNX⟩
        case measure => have := HLT.out; simp [intOf]; omega
    · obtain rfl : j = l.length := by omega
      have hrx : R = acc := by rw [← HX.out.1, List.drop_length, jpL]
      subst hrx
      have HA : Hid (R.length ≤ 140737488340000) := Lib.hid (by have h2 : R.length + _ + 1 ≤ 140737488300000 := HX.out.2; omega)
      have e1 := cell_blk HK.out.h0 1
      go_wp2_with fail
      refine (HK.out.jb.byte 93 HA.out).mono ?_
      rintro _ w5 ⟨rfl, j5, k5⟩
      go_wp2_with fail
      go_end0
      exact ⟨rfl, j5, HK.out.kw.trans k5⟩
set_option maxHeartbeats 6400000 in
set_option maxRecDepth 100000 in
theorem jwrite_list_false (h : WJB w0 b w a) (n : Int) (t : ByteArray) (l : List It) (ao : Option Addr) (cap : Nat) (hv : VIn w0 (.slice ao l.length cap) l) (d : Nat) (hl : ∀ x ∈ l, JW d x.2 ∧ x.1.Norm ∧ Lib.validD x.1.t.toList = true)
    (IH : ∀ x ∈ l, ∀ (W : World) (a' : Bs) (c' : Value), WJB w0 b W a' → VIn w0 c' x.2.xs → a'.length + (jtV x.2).length ≤ LIMJ → Calls Tryz.prog 26 #[.pointer (some ⟨b, 0, none⟩), x.2.v c'] W (WJP w0 b W (jpV x.2 a') (.tuple #[])))
    (hp : rowP 0 l = false) (hs : a.length ≤ 131072) (hlim : a.length + (jtL false 0 l).length + 2 ≤ LIMJ) :
    Calls Tryz.prog 26 #[.pointer (some ⟨b, 0, none⟩), .agg #[.int .i64 4, .int .i64 n, .string t, .slice ao l.length cap]] w (WJP w0 b w (jpL false 0 l (a ++ [123]) ++ [125]) (.tuple #[])) := by
  obtain ⟨_, _, hv1, hlen⟩ := hv.form
  clear hv1
  have hb := h.bb.lt
  have hl' : ¬ (131072 : Int) < (a.length : Int) := by omega
  have KA : Hid (KI w0 w (w.alloc (.cells #[.int .i64 4, .int .i64 n, .string t, .slice ao l.length cap] 24)) b a [(w.heap.size, .cells #[.int .i64 4, .int .i64 n, .string t, .slice ao l.length cap] 24 (0, 0))]) :=
    Lib.hid ((KI.mk h (Mod.refl _ _) (fun x hx => by cases hx) : KI w0 w w b a []).add _ _ ⟨by decide, by decide⟩)
  have KB0 : Hid (KI w0 w ((w.alloc (.cells #[.int .i64 4, .int .i64 n, .string t, .slice ao l.length cap] 24)).alloc (.cells #[.string ⟨#[123]⟩, .string ⟨#[125]⟩] 90)) b a [(w.heap.size + 1, .cells #[.string ⟨#[123]⟩, .string ⟨#[125]⟩] 90 (0, 0)), (w.heap.size, .cells #[.int .i64 4, .int .i64 n, .string t, .slice ao l.length cap] 24 (0, 0))]) :=
    Lib.hid (by have := KA.out.add #[.string ⟨#[123]⟩, .string ⟨#[125]⟩] 90 ⟨by decide, by decide⟩; rw [World.size_alloc] at this; exact this)
  have HV := Lib.hid hv
  have HL := Lib.hid hl
  have HLN := Lib.hid hlen
  have IHH := Lib.hid IH
  have HR : Hid (jpL false 0 (l.drop 0) (a ++ [123]) = jpL false 0 l (a ++ [123]) ∧ (a ++ [123]).length + (jtL false 0 (l.drop 0)).length + 1 ≤ LIMJ) := Lib.hid ⟨rfl, by rw [List.length_append, List.drop_zero]; show a.length + 1 + _ + 1 ≤ _; omega⟩
  have HRB : Hid (a.length ≤ 140737488340000) := Lib.hid (by omega)
  obtain ⟨R, hR⟩ : ∃ R, R = jpL false 0 l (a ++ [123]) := ⟨_, rfl⟩
  have HRW : Hid (∀ W, KI w0 w W b a [(w.heap.size + 1, .cells #[.string ⟨#[123]⟩, .string ⟨#[125]⟩] 90 (0, 0)), (w.heap.size, .cells #[.int .i64 4, .int .i64 n, .string t, .slice ao l.length cap] 24 (0, 0))] → Calls Tryz.prog 58 #[.slice ao l.length cap] W (BoolPost W false)) := Lib.hid (fun W hW => by rw [← hp]; exact jrow_any l W _ (hv.under hW.jb.bel) hW.jb.tabs.tab)
  rw [← hR] at HR ⊢
  obtain ⟨a0, a1, a2, a3⟩ := vb4 KA.out.h0
  have HBB := Lib.hid hb
  clear h hv hl hlen IH hlim hR hs hp
  go_enter Tryz.func26, Tryz.ntmps26
  go_wp2_with fail
  refine (blenB KA.out.jb.bb).mono ?_
  rintro _ _ ⟨rfl, rfl⟩
  go_wp2_with fail
  refine (HRW.out _ KB0.out).mono ?_
  rintro _ w1 ⟨rfl, hb1⟩
  have K1 := Lib.hid (KB0.out.under hb1)
  clear hb1 a0 a1 a2 a3
  obtain ⟨a0, a1, a2, a3⟩ := vb4 K1.out.h1
  have e0 := cell_blk K1.out.h0 0
  have e1 := cell_blk K1.out.h0 1
  have f0 := free_blk K1.out.h0 0
  have f1 := free_blk K1.out.h0 1
  have K2 := K1
  clear KA KB0 HRW
  go_wp2_with fail
  clear e0 e1 f0 f1 a0 a1 a2 a3 K1
  refine (K2.out.jb.byte 123 HRB.out).mono ?_
  rintro _ w2 ⟨rfl, j2, k2⟩
  have K3 := Lib.hid (K2.out.write j2 k2)
  clear j2 k2 K2
  obtain ⟨a0, a1, a2, a3⟩ := vb4 K3.out.h1
  go_wp2_with fail
  clear a0 a1 a2 a3
  go_loopw [54] (fun kv wr => ∃ (j : Nat) (acc : Bs), j ≤ l.length ∧ kv = .int .i64 j ∧ Hid (KI w0 w wr b acc [(w.heap.size + 1, .cells #[.string ⟨#[123]⟩, .string ⟨#[125]⟩] 90 (0, 0)), (w.heap.size, .cells #[.int .i64 4, .int .i64 n, .string t, .slice ao l.length cap] 24 (0, 0))]) ∧ Hid (jpL false j (l.drop j) acc = R ∧ acc.length + (jtL false j (l.drop j)).length + 1 ≤ LIMJ)) (fun kv _ => l.length - (intOf kv).toNat)
  case atStart => exact ⟨0, _, Nat.zero_le _, rfl, K3, HR⟩
  case round =>
    clear K3 HR
    obtain ⟨j, acc, hj, rfl, HK, HX⟩ := hrel
    by_cases hlt : j < l.length
    · obtain ⟨q, x, g, off, co, cc, hq, hm, rfl, hc, d0, d1, d2, d3, d4, d5, d6⟩ := vin_get HV.out hlt HK.out.jb.bel
      have hi : (j : Int) < (l.length : Int) := by omega
      obtain ⟨hwi', hwi⟩ : wrap64 ((j : Int) + 1) = (j : Int) + 1 ∧ IntKind.i64.wrap ((j : Int) + 1) = (j : Int) + 1 := wr_sm (by omega) (by have := HLN.out; omega)
      obtain ⟨-, hkn, hkv⟩ := HL.out (q, x) hm
      have HI : Hid (∀ W a', WJB w0 b W a' → a'.length + (jtV x).length ≤ LIMJ → Calls Tryz.prog 26 #[.pointer (some ⟨b, 0, none⟩), .agg #[.int .i64 x.k, .int .i64 x.n, .string x.t, .slice co x.xs.length cc]] W (WJP w0 b W (jpV x a') (.tuple #[]))) := Lib.hid (fun W a' hW ha => IHH.out (q, x) hm W a' (.slice co x.xs.length cc) hW hc ha)
      have HXN : Hid (jpL false (j + 1) (l.drop (j + 1)) (jpV x (nameJ false q (commaJ j acc))) = R ∧ acc.length + (commaJ j []).length + (nameJ false q []).length + (jtV x).length + (jtL false (j + 1) (l.drop (j + 1))).length + 1 ≤ 140737488300000) := Lib.hid (by
        have h1 := HX.out.1
        have h2 : acc.length + _ + 1 ≤ 140737488300000 := HX.out.2
        rw [drop_at hq, jpL_cons] at h1
        rw [drop_at hq, jtL_cons] at h2
        have h3 := name_len false q (commaJ j [])
        refine ⟨h1, ?_⟩
        simp only [List.length_append] at h2
        omega)
      have HNX : Hid (jpL false (j + 1) (l.drop (j + 1)) (jpV x (nameJ false q (commaJ j acc))) = R ∧ (jpV x (nameJ false q (commaJ j acc))).length + (jtL false (j + 1) (l.drop (j + 1))).length + 1 ≤ LIMJ) := Lib.hid (by
        have h3 := jp_le x (nameJ false q (commaJ j acc))
        have h4 := name_len false q (commaJ j acc)
        have h5 := comma_len j acc
        have h2 := HXN.out.2
        exact ⟨HXN.out.1, by show _ ≤ 140737488300000; omega⟩)
      have HLT := Lib.hid hlt
      have HKV := Lib.hid (⟨hkn, hkv⟩ : _ ∧ _)
      clear hc hq hm hlt HX hkn hkv
      obtain ⟨qb, qn, qt⟩ := q
      simp only at d0 d1 d2 d3 d4 d5
      cases qb
      rotate_left
      · have KX : Hid (KI w0 w (wr.alloc (.cells #[.bool true, .int .i64 qn, .string qt, .int .i64 x.k, .int .i64 x.n, .string x.t, .slice co x.xs.length cc] 64)) b acc [(wr.heap.size, .cells #[.bool true, .int .i64 qn, .string qt, .int .i64 x.k, .int .i64 x.n, .string x.t, .slice co x.xs.length cc] 64 (0, 0)), (w.heap.size + 1, .cells #[.string ⟨#[123]⟩, .string ⟨#[125]⟩] 90 (0, 0)), (w.heap.size, .cells #[.int .i64 4, .int .i64 n, .string t, .slice (some ⟨g, off, none⟩) l.length cap] 24 (0, 0))]) := Lib.hid (HK.out.add #[.bool true, .int .i64 qn, .string qt, .int .i64 x.k, .int .i64 x.n, .string x.t, .slice co x.xs.length cc] 64 ⟨by decide, by decide⟩)
        by_cases h0 : 0 < j
        · have hcj : commaJ j acc = acc ++ [44] := by unfold commaJ; rw [if_pos h0]
          have HCJ := Lib.hid hcj
          have HLA : Hid (acc.length ≤ 140737488340000) := Lib.hid (by have := HXN.out.2; omega)
          clear hcj
          go_wp2_with fail
          refine (KX.out.jb.byte 44 HLA.out).mono ?_
          rintro _ w5 ⟨rfl, j5, k5⟩
          rw [← HCJ.out] at j5
          have KQ := Lib.hid (KX.out.write j5 k5)
          clear j5 k5 KX HCJ HLA
          obtain ⟨z0, z1, z2, z3, z4, z5, z6⟩ := ib_of KQ.out.h0
          have h6 : (nameJ false ⟨true, qn, qt⟩ []).length = (quoteP (keyJ ⟨true, qn, qt⟩)).length + 1 := by unfold nameJ; simp
          have HQL : Hid ((commaJ j acc).length + (quoteP (keyJ ⟨true, qn, qt⟩)).length + 1 + (jtV x).length ≤ 140737488300000) := Lib.hid (by have h2 := HXN.out.2; have h5 := comma_len j acc; omega)
          clear h6
          go_wp2_with fail
          refine (quote_any KQ.out.jb qt HKV.out.2 (by have h : (commaJ j acc).length + (quoteP qt.toList).length + 1 + (jtV x).length ≤ 140737488300000 := HQL.out; omega)).mono ?_
          rintro _ w6 ⟨rfl, j6, k6⟩
          have K6 := Lib.hid (KQ.out.write j6 k6)
          clear j6 k6 z0 z1 z2 z3 z4 z5 z6
          go_wp2_with fail
          refine (K6.out.jb.byte 58 (by have h : (commaJ j acc).length + (quoteP qt.toList).length + 1 + (jtV x).length ≤ 140737488300000 := HQL.out; rw [List.length_append]; omega)).mono ?_
          rintro _ w8 ⟨rfl, j8, k8⟩
          have K8 : Hid (KI w0 w w8 b (nameJ false ⟨true, qn, qt⟩ (commaJ j acc)) [(wr.heap.size, .cells #[.bool true, .int .i64 qn, .string qt, .int .i64 x.k, .int .i64 x.n, .string x.t, .slice co x.xs.length cc] 64 (0, 0)), (w.heap.size + 1, .cells #[.string ⟨#[123]⟩, .string ⟨#[125]⟩] 90 (0, 0)), (w.heap.size, .cells #[.int .i64 4, .int .i64 n, .string t, .slice (some ⟨g, off, none⟩) l.length cap] 24 (0, 0))]) := Lib.hid (K6.out.write j8 k8)
          clear j8 k8 K6
          obtain ⟨z0, z1, z2, z3, z4, z5, z6⟩ := ib_of K8.out.h0
          go_wp2_with fail
          refine (HI.out _ _ K8.out.jb (by have h2 := HXN.out.2; have h5 := comma_len j acc; have h6 := name_len false ⟨true, qn, qt⟩ (commaJ j acc); show _ ≤ 140737488300000; omega)).mono ?_
          rintro _ w7 ⟨rfl, j7, k7⟩
          have K7 := Lib.hid ((K8.out.write j7 k7).less (fun y hy => List.mem_cons_of_mem _ hy))
          clear j7 k7 K8 z0 z1 z2 z3 z4 z5 z6
          go_wp2_with fail
          go_roundw
          case rel => exact ⟨j + 1, _, HLT.out, by go_num, K7, HNX⟩
          case measure => have := HLT.out; simp [intOf]; omega
        · have hcj : commaJ j acc = acc := by unfold commaJ; rw [if_neg h0]
          have KQ : Hid (KI w0 w (wr.alloc (.cells #[.bool true, .int .i64 qn, .string qt, .int .i64 x.k, .int .i64 x.n, .string x.t, .slice co x.xs.length cc] 64)) b (commaJ j acc) [(wr.heap.size, .cells #[.bool true, .int .i64 qn, .string qt, .int .i64 x.k, .int .i64 x.n, .string x.t, .slice co x.xs.length cc] 64 (0, 0)), (w.heap.size + 1, .cells #[.string ⟨#[123]⟩, .string ⟨#[125]⟩] 90 (0, 0)), (w.heap.size, .cells #[.int .i64 4, .int .i64 n, .string t, .slice (some ⟨g, off, none⟩) l.length cap] 24 (0, 0))]) := Lib.hid (by rw [hcj]; exact KX.out)
          clear hcj KX
          obtain ⟨z0, z1, z2, z3, z4, z5, z6⟩ := ib_of KQ.out.h0
          have h6 : (nameJ false ⟨true, qn, qt⟩ []).length = (quoteP (keyJ ⟨true, qn, qt⟩)).length + 1 := by unfold nameJ; simp
          have HQL : Hid ((commaJ j acc).length + (quoteP (keyJ ⟨true, qn, qt⟩)).length + 1 + (jtV x).length ≤ 140737488300000) := Lib.hid (by have h2 := HXN.out.2; have h5 := comma_len j acc; omega)
          clear h6
          go_wp2_with fail
          refine (quote_any KQ.out.jb qt HKV.out.2 (by have h : (commaJ j acc).length + (quoteP qt.toList).length + 1 + (jtV x).length ≤ 140737488300000 := HQL.out; omega)).mono ?_
          rintro _ w6 ⟨rfl, j6, k6⟩
          have K6 := Lib.hid (KQ.out.write j6 k6)
          clear j6 k6 z0 z1 z2 z3 z4 z5 z6
          go_wp2_with fail
          refine (K6.out.jb.byte 58 (by have h : (commaJ j acc).length + (quoteP qt.toList).length + 1 + (jtV x).length ≤ 140737488300000 := HQL.out; rw [List.length_append]; omega)).mono ?_
          rintro _ w8 ⟨rfl, j8, k8⟩
          have K8 : Hid (KI w0 w w8 b (nameJ false ⟨true, qn, qt⟩ (commaJ j acc)) [(wr.heap.size, .cells #[.bool true, .int .i64 qn, .string qt, .int .i64 x.k, .int .i64 x.n, .string x.t, .slice co x.xs.length cc] 64 (0, 0)), (w.heap.size + 1, .cells #[.string ⟨#[123]⟩, .string ⟨#[125]⟩] 90 (0, 0)), (w.heap.size, .cells #[.int .i64 4, .int .i64 n, .string t, .slice (some ⟨g, off, none⟩) l.length cap] 24 (0, 0))]) := Lib.hid (K6.out.write j8 k8)
          clear j8 k8 K6
          obtain ⟨z0, z1, z2, z3, z4, z5, z6⟩ := ib_of K8.out.h0
          go_wp2_with fail
          refine (HI.out _ _ K8.out.jb (by have h2 := HXN.out.2; have h5 := comma_len j acc; have h6 := name_len false ⟨true, qn, qt⟩ (commaJ j acc); show _ ≤ 140737488300000; omega)).mono ?_
          rintro _ w7 ⟨rfl, j7, k7⟩
          have K7 := Lib.hid ((K8.out.write j7 k7).less (fun y hy => List.mem_cons_of_mem _ hy))
          clear j7 k7 K8 z0 z1 z2 z3 z4 z5 z6
          go_wp2_with fail
          go_roundw
          case rel => exact ⟨j + 1, _, HLT.out, by go_num, K7, HNX⟩
          case measure => have := HLT.out; simp [intOf]; omega
      · have KX : Hid (KI w0 w (wr.alloc (.cells #[.bool false, .int .i64 qn, .string qt, .int .i64 x.k, .int .i64 x.n, .string x.t, .slice co x.xs.length cc] 64)) b acc [(wr.heap.size, .cells #[.bool false, .int .i64 qn, .string qt, .int .i64 x.k, .int .i64 x.n, .string x.t, .slice co x.xs.length cc] 64 (0, 0)), (w.heap.size + 1, .cells #[.string ⟨#[123]⟩, .string ⟨#[125]⟩] 90 (0, 0)), (w.heap.size, .cells #[.int .i64 4, .int .i64 n, .string t, .slice (some ⟨g, off, none⟩) l.length cap] 24 (0, 0))]) := Lib.hid (HK.out.add #[.bool false, .int .i64 qn, .string qt, .int .i64 x.k, .int .i64 x.n, .string x.t, .slice co x.xs.length cc] 64 ⟨by decide, by decide⟩)
        by_cases h0 : 0 < j
        · have hcj : commaJ j acc = acc ++ [44] := by unfold commaJ; rw [if_pos h0]
          have HCJ := Lib.hid hcj
          have HLA : Hid (acc.length ≤ 140737488340000) := Lib.hid (by have := HXN.out.2; omega)
          clear hcj
          go_wp2_with fail
          refine (KX.out.jb.byte 44 HLA.out).mono ?_
          rintro _ w5 ⟨rfl, j5, k5⟩
          rw [← HCJ.out] at j5
          have KQ := Lib.hid (KX.out.write j5 k5)
          clear j5 k5 KX HCJ HLA
          obtain ⟨z0, z1, z2, z3, z4, z5, z6⟩ := ib_of KQ.out.h0
          have h6 : (nameJ false ⟨false, qn, qt⟩ []).length = (quoteP (keyJ ⟨false, qn, qt⟩)).length + 1 := by unfold nameJ; simp
          have HQL : Hid ((commaJ j acc).length + (quoteP (keyJ ⟨false, qn, qt⟩)).length + 1 + (jtV x).length ≤ 140737488300000) := Lib.hid (by have h2 := HXN.out.2; have h5 := comma_len j acc; omega)
          clear h6
          have HIT := Lib.hid (fun W hW => itoa_any qn HKV.out.1.lo HKV.out.1.hi W hW)
          unfold TextPost at HIT
          obtain ⟨sx, hsx⟩ : ∃ sx, sx = str (Lib.itoa qn) := ⟨_, rfl⟩
          rw [← hsx] at HIT
          have HSX : Hid (sx.toList = Lib.itoa qn) := Lib.hid (by rw [hsx, str_toList])
          clear hsx
          go_wp2_with fail
          refine (HIT.out _ KQ.out.jb.tabs.tab).mono ?_
          rintro _ w4 ⟨rfl, hb4⟩
          have KR := Lib.hid (KQ.out.under hb4)
          clear hb4 KQ z0 z1 z2 z3 z4 z5 z6 HIT
          obtain ⟨z0, z1, z2, z3, z4, z5, z6⟩ := ib_of KR.out.h0
          go_wp2_with fail
          refine (quote_any KR.out.jb sx (by rw [HSX.out]; exact ascii_valid _ (itoa_ascii qn)) (by rw [HSX.out]; have h : (commaJ j acc).length + (quoteP (Lib.itoa qn)).length + 1 + (jtV x).length ≤ 140737488300000 := HQL.out; omega)).mono ?_
          rintro _ w6 ⟨rfl, j6, k6⟩
          rw [HSX.out] at j6
          have K6 := Lib.hid (KR.out.write j6 k6)
          clear j6 k6 z0 z1 z2 z3 z4 z5 z6
          go_wp2_with fail
          refine (K6.out.jb.byte 58 (by have h : (commaJ j acc).length + (quoteP (Lib.itoa qn)).length + 1 + (jtV x).length ≤ 140737488300000 := HQL.out; rw [List.length_append]; omega)).mono ?_
          rintro _ w8 ⟨rfl, j8, k8⟩
          have K8 : Hid (KI w0 w w8 b (nameJ false ⟨false, qn, qt⟩ (commaJ j acc)) [(wr.heap.size, .cells #[.bool false, .int .i64 qn, .string qt, .int .i64 x.k, .int .i64 x.n, .string x.t, .slice co x.xs.length cc] 64 (0, 0)), (w.heap.size + 1, .cells #[.string ⟨#[123]⟩, .string ⟨#[125]⟩] 90 (0, 0)), (w.heap.size, .cells #[.int .i64 4, .int .i64 n, .string t, .slice (some ⟨g, off, none⟩) l.length cap] 24 (0, 0))]) := Lib.hid (K6.out.write j8 k8)
          clear j8 k8 K6
          obtain ⟨z0, z1, z2, z3, z4, z5, z6⟩ := ib_of K8.out.h0
          go_wp2_with fail
          refine (HI.out _ _ K8.out.jb (by have h2 := HXN.out.2; have h5 := comma_len j acc; have h6 := name_len false ⟨false, qn, qt⟩ (commaJ j acc); show _ ≤ 140737488300000; omega)).mono ?_
          rintro _ w7 ⟨rfl, j7, k7⟩
          have K7 := Lib.hid ((K8.out.write j7 k7).less (fun y hy => List.mem_cons_of_mem _ hy))
          clear j7 k7 K8 z0 z1 z2 z3 z4 z5 z6
          go_wp2_with fail
          go_roundw
          case rel => exact ⟨j + 1, _, HLT.out, by go_num, K7, HNX⟩
          case measure => have := HLT.out; simp [intOf]; omega
        · have hcj : commaJ j acc = acc := by unfold commaJ; rw [if_neg h0]
          have KQ : Hid (KI w0 w (wr.alloc (.cells #[.bool false, .int .i64 qn, .string qt, .int .i64 x.k, .int .i64 x.n, .string x.t, .slice co x.xs.length cc] 64)) b (commaJ j acc) [(wr.heap.size, .cells #[.bool false, .int .i64 qn, .string qt, .int .i64 x.k, .int .i64 x.n, .string x.t, .slice co x.xs.length cc] 64 (0, 0)), (w.heap.size + 1, .cells #[.string ⟨#[123]⟩, .string ⟨#[125]⟩] 90 (0, 0)), (w.heap.size, .cells #[.int .i64 4, .int .i64 n, .string t, .slice (some ⟨g, off, none⟩) l.length cap] 24 (0, 0))]) := Lib.hid (by rw [hcj]; exact KX.out)
          clear hcj KX
          obtain ⟨z0, z1, z2, z3, z4, z5, z6⟩ := ib_of KQ.out.h0
          have h6 : (nameJ false ⟨false, qn, qt⟩ []).length = (quoteP (keyJ ⟨false, qn, qt⟩)).length + 1 := by unfold nameJ; simp
          have HQL : Hid ((commaJ j acc).length + (quoteP (keyJ ⟨false, qn, qt⟩)).length + 1 + (jtV x).length ≤ 140737488300000) := Lib.hid (by have h2 := HXN.out.2; have h5 := comma_len j acc; omega)
          clear h6
          have HIT := Lib.hid (fun W hW => itoa_any qn HKV.out.1.lo HKV.out.1.hi W hW)
          unfold TextPost at HIT
          obtain ⟨sx, hsx⟩ : ∃ sx, sx = str (Lib.itoa qn) := ⟨_, rfl⟩
          rw [← hsx] at HIT
          have HSX : Hid (sx.toList = Lib.itoa qn) := Lib.hid (by rw [hsx, str_toList])
          clear hsx
          go_wp2_with fail
          refine (HIT.out _ KQ.out.jb.tabs.tab).mono ?_
          rintro _ w4 ⟨rfl, hb4⟩
          have KR := Lib.hid (KQ.out.under hb4)
          clear hb4 KQ z0 z1 z2 z3 z4 z5 z6 HIT
          obtain ⟨z0, z1, z2, z3, z4, z5, z6⟩ := ib_of KR.out.h0
          go_wp2_with fail
          refine (quote_any KR.out.jb sx (by rw [HSX.out]; exact ascii_valid _ (itoa_ascii qn)) (by rw [HSX.out]; have h : (commaJ j acc).length + (quoteP (Lib.itoa qn)).length + 1 + (jtV x).length ≤ 140737488300000 := HQL.out; omega)).mono ?_
          rintro _ w6 ⟨rfl, j6, k6⟩
          rw [HSX.out] at j6
          have K6 := Lib.hid (KR.out.write j6 k6)
          clear j6 k6 z0 z1 z2 z3 z4 z5 z6
          go_wp2_with fail
          refine (K6.out.jb.byte 58 (by have h : (commaJ j acc).length + (quoteP (Lib.itoa qn)).length + 1 + (jtV x).length ≤ 140737488300000 := HQL.out; rw [List.length_append]; omega)).mono ?_
          rintro _ w8 ⟨rfl, j8, k8⟩
          have K8 : Hid (KI w0 w w8 b (nameJ false ⟨false, qn, qt⟩ (commaJ j acc)) [(wr.heap.size, .cells #[.bool false, .int .i64 qn, .string qt, .int .i64 x.k, .int .i64 x.n, .string x.t, .slice co x.xs.length cc] 64 (0, 0)), (w.heap.size + 1, .cells #[.string ⟨#[123]⟩, .string ⟨#[125]⟩] 90 (0, 0)), (w.heap.size, .cells #[.int .i64 4, .int .i64 n, .string t, .slice (some ⟨g, off, none⟩) l.length cap] 24 (0, 0))]) := Lib.hid (K6.out.write j8 k8)
          clear j8 k8 K6
          obtain ⟨z0, z1, z2, z3, z4, z5, z6⟩ := ib_of K8.out.h0
          go_wp2_with fail
          refine (HI.out _ _ K8.out.jb (by have h2 := HXN.out.2; have h5 := comma_len j acc; have h6 := name_len false ⟨false, qn, qt⟩ (commaJ j acc); show _ ≤ 140737488300000; omega)).mono ?_
          rintro _ w7 ⟨rfl, j7, k7⟩
          have K7 := Lib.hid ((K8.out.write j7 k7).less (fun y hy => List.mem_cons_of_mem _ hy))
          clear j7 k7 K8 z0 z1 z2 z3 z4 z5 z6
          go_wp2_with fail
          go_roundw
          case rel => exact ⟨j + 1, _, HLT.out, by go_num, K7, HNX⟩
          case measure => have := HLT.out; simp [intOf]; omega
    · obtain rfl : j = l.length := by omega
      have hrx : R = acc := by rw [← HX.out.1, List.drop_length, jpL]
      subst hrx
      have HA : Hid (R.length ≤ 140737488340000) := Lib.hid (by have h2 : R.length + _ + 1 ≤ 140737488300000 := HX.out.2; omega)
      have e1 := cell_blk HK.out.h0 1
      go_wp2_with fail
      refine (HK.out.jb.byte 125 HA.out).mono ?_
      rintro _ w5 ⟨rfl, j5, k5⟩
      go_wp2_with fail
      go_end0
      exact ⟨rfl, j5, HK.out.kw.trans k5⟩
end
end Go.Proofs.YtnaefnojmiolbaaGreatDoor
