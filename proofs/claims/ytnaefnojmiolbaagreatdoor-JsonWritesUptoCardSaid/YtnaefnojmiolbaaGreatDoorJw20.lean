/-
  JSON, the document's side: the walk of write (printed by genWrRZ.py).
-/
import Derived.Test.YtnaefnojmiolbaaGreatDoorJw19
namespace Go.Proofs.YtnaefnojmiolbaaGreatDoor
open Go.RowKit Go.Shelf

/-- While a value is written behind bytes of the call's own: they lie nowhere else than they lay, or in a new block; the value's box stands. -/
structure WS (w W : World) (u v : Value) (a : Bs) (o : Obj) : Prop where
  own : OwnsB W 5 v a
  gr : w.grownBy W u.ownBlock
  pv : v.ownBlock = u.ownBlock ∨ ∃ k, v.ownBlock = some k ∧ w.heap.size ≤ k
  bx : W.heap[w.heap.size]? = some o
  nb : v.ownBlock ≠ some w.heap.size
/-- What write answers. -/
def WPost (w : World) (u : Value) (b : Bs) (e : Ending) (w' : World) : Prop := ∃ ao L cap, e = .returned (.slice ao L cap) ∧ OwnsB w' 5 (.slice ao L cap) b ∧ w.grownBy w' u.ownBlock ∧ ((Value.slice ao L cap).ownBlock = u.ownBlock ∨ ∃ k, (Value.slice ao L cap).ownBlock = some k ∧ w.heap.size ≤ k)
section
variable {w0 w W W1 W3 : World} {u v v3 : Value} {a b : Bs} {o : Obj}
theorem WS.start (h : OwnsB w 5 u a) (o : Obj) : WS w (w.alloc o) u u a o := by
  have hb := below_alloc1 w o
  refine ⟨Owns.mod h (Mod.of_below (F := fun _ => False) hb) (fun _ _ x => x), ⟨hb.os, hb.tape, hb.output, hb.size, fun k hk _ => hb.block k hk⟩, .inl rfl, heap_alloc_new w o, fun e => ?_⟩
  have := Owns.lt h e
  omega
theorem WS.add (h : WS w W u v a o) (m1 : Below W.heap.size W W1) (o3 : OwnsB W3 5 v3 b) (g3 : W1.grownBy W3 v.ownBlock) (n3 : v3.ownBlock = v.ownBlock ∨ ∃ g, v3.ownBlock = some g ∧ W1.heap.size ≤ g) : WS w W3 u v3 b o := by
  have s1 := h.gr.size
  have s2 := m1.size
  have s3 := g3.size
  have sb := lt_of_block h.bx
  refine ⟨o3, ⟨g3.os.trans (m1.os.trans h.gr.os), g3.tape.trans (m1.tape.trans h.gr.tape), g3.output.trans (m1.output.trans h.gr.output), by omega, fun k hk hne => ?_⟩, ?_, ?_, ?_⟩
  · rw [g3.block k (by omega) (fun e => ?_), m1.block k (by omega), h.gr.block k hk hne]
    rcases h.pv with hp | ⟨k', hp, hk'⟩
    · exact hne (by rw [e, hp])
    · rw [hp] at e; cases e; omega
  · rcases n3 with hn | ⟨g, hn, hg⟩
    · rw [hn]; exact h.pv
    · exact .inr ⟨g, hn, by omega⟩
  · rw [g3.block _ (by omega) (fun e => h.nb e.symm), m1.block _ sb]
    exact h.bx
  · rcases n3 with hn | ⟨g, hn, hg⟩
    · rw [hn]; exact h.nb
    · rw [hn]; intro e; cases e; omega
theorem WS.same (h : WS w W u v a o) (m1 : Below W.heap.size W W1) : WS w W1 u v a o :=
  h.add m1 (Owns.mod h.own (Mod.of_below (F := fun _ => False) m1) (fun _ _ x => x)) (World.grownBy.refl _ _) (.inl rfl)
theorem WS.owns (h : WS w W u v a o) (m1 : Below W.heap.size W W1) : OwnsB W1 5 v a := (h.same m1).own
theorem WS.post {ao : Option Addr} {L cap : Nat} (h : WS w W u (.slice ao L cap) b o) : WPost w u b (.returned (.slice ao L cap)) W := ⟨ao, L, cap, rfl, h.own, h.gr, h.pv⟩
theorem owns_len {w : World} {ao : Option Addr} {L cap : Nat} {l : Bs} (h : OwnsB w 5 (.slice ao L cap) l) : L = l.length := by
  obtain ⟨a, c, hv, -⟩ := OwnsB.any h
  cases hv
  rfl
theorem WS.base (h : WS w W u v a o) (h0 : Below w0.heap.size w0 w) (hf : ∀ g, u.ownBlock = some g → w0.heap.size ≤ g) : Below w0.heap.size w0 W :=
  ⟨h.gr.os.trans h0.os, h.gr.tape.trans h0.tape, h.gr.output.trans h0.output, Nat.le_trans h0.size h.gr.size, fun k hk => (h.gr.block k (Nat.lt_of_lt_of_le hk h0.size) (fun e => by have := hf k e.symm; omega)).trans (h0.block k hk)⟩
theorem WS.fresh (h : WS w W u v a o) (h0 : Below w0.heap.size w0 w) (hf : ∀ g, u.ownBlock = some g → w0.heap.size ≤ g) : ∀ g, v.ownBlock = some g → w0.heap.size ≤ g := fun g e => by
  have := h0.size
  rcases h.pv with hp | ⟨k, hp, hk⟩
  · exact hf g (hp ▸ e)
  · rw [hp] at e; cases e; omega
end
/-- One item, as it lies in any later world. -/
theorem vin_all {w : World} {ao : Option Addr} {cap m : Nat} {xs : List It} (h : VIn w (.slice ao m cap) xs) {j : Nat} (hj : j < xs.length) :
    ∃ q x g off co cc, xs[j]? = some (q, x) ∧ (q, x) ∈ xs ∧ ao = some ⟨g, off, none⟩ ∧ VIn w (.slice co x.xs.length cc) x.xs ∧ ∀ wr, Below w.heap.size w wr →
      wr.cell? ⟨g, off + j * 7, none⟩ = some (.bool q.b) ∧ wr.cell? ⟨g, off + j * 7 + 1, none⟩ = some (.int .i64 q.n) ∧ wr.cell? ⟨g, off + j * 7 + 2, none⟩ = some (.string q.t) ∧
      wr.cell? ⟨g, off + j * 7 + 3, none⟩ = some (.int .i64 x.k) ∧ wr.cell? ⟨g, off + j * 7 + 4, none⟩ = some (.int .i64 x.n) ∧ wr.cell? ⟨g, off + j * 7 + 5, none⟩ = some (.string x.t) ∧ wr.cell? ⟨g, off + j * 7 + 6, none⟩ = some (.slice co x.xs.length cc) := by
  obtain ⟨q, x, g, off, c, h1, h2, h3, hg, -, hc, c0, c1, c2, c3, c4, c5, c6⟩ := h.get hj
  obtain ⟨co, cc, rfl, -⟩ := hc.form
  refine ⟨q, x, g, off, co, cc, h1, h2, h3, hc, fun wr hb => ?_⟩
  have k := fun o => hb.cell (p := ⟨g, o, none⟩) hg
  exact ⟨(k _).trans c0, (k _).trans c1, (k _).trans c2, (k _).trans c3, (k _).trans c4, (k _).trans c5, (k _).trans c6⟩
section
variable {w0 w : World} {a : Bs} {uo : Option Addr} {uc : Nat}
set_option maxHeartbeats 3200000 in
set_option maxRecDepth 100000 in
theorem rwr_nul (h : OwnsB w 5 (.slice uo a.length uc) a) (n : Int) (t : ByteArray) (ao : Option Addr) (m cap : Nat) (hl : a.length ≤ 140737488300000) : Calls Tryz.prog 31 #[.slice uo a.length uc, .agg #[.int .i64 0, .int .i64 n, .string t, .slice ao m cap]] w (WPost w (.slice uo a.length uc) (a ++ [110, 117, 108, 108])) := by
  have S0 := Lib.hid (WS.start h (.cells #[.int .i64 0, .int .i64 n, .string t, .slice ao m cap] 24))
  have HL := Lib.hid hl
  obtain ⟨a0, a1, a2, a3⟩ := vb4 S0.out.bx
  have HT : Hid ((⟨#[110, 117, 108, 108]⟩ : ByteArray).toList = [110, 117, 108, 108]) := Lib.hid (by rw [ByteArray.toList_eq])
  have hr : Hid (a.length + (⟨#[110, 117, 108, 108]⟩ : ByteArray).size ≤ 140737488355328) := Lib.hid (by show _ + 4 ≤ _; omega)
  clear h hl
  go_enter Tryz.func31, Tryz.ntmps31
  go_wp2_with (at_builtin; refine wpList_append_str rfl (.tmp 14) (.const (.string ⟨#[110, 117, 108, 108]⟩)) 54 9 rfl 5 Tryz.underlying54 Tryz.underlying9 info5 (.slice uo a.length uc) a (by rfl) S0.out.own ⟨#[110, 117, 108, 108]⟩ (by rfl) hr.out ?_; intro v3 w3 o3 g3 n3; have R7 := S0.out.add (Below.refl _ _) o3 g3 n3; obtain ⟨a8, L8, c8, hv8⟩ := slice_of R7.own; subst hv8; have R8 := Lib.hid R7; clear o3 g3 n3 R7)
  rw [HT.out] at R8
  go_ret
  exact R8.out.post
set_option maxHeartbeats 3200000 in
set_option maxRecDepth 100000 in
theorem rwr_tru (h : OwnsB w 5 (.slice uo a.length uc) a) (t : ByteArray) (ao : Option Addr) (m cap : Nat) (hl : a.length ≤ 140737488300000) : Calls Tryz.prog 31 #[.slice uo a.length uc, .agg #[.int .i64 1, .int .i64 1, .string t, .slice ao m cap]] w (WPost w (.slice uo a.length uc) (a ++ [116, 114, 117, 101])) := by
  have S0 := Lib.hid (WS.start h (.cells #[.int .i64 1, .int .i64 1, .string t, .slice ao m cap] 24))
  have HL := Lib.hid hl
  obtain ⟨a0, a1, a2, a3⟩ := vb4 S0.out.bx
  have HT : Hid ((⟨#[116, 114, 117, 101]⟩ : ByteArray).toList = [116, 114, 117, 101]) := Lib.hid (by rw [ByteArray.toList_eq])
  have hr : Hid (a.length + (⟨#[116, 114, 117, 101]⟩ : ByteArray).size ≤ 140737488355328) := Lib.hid (by show _ + 4 ≤ _; omega)
  clear h hl
  go_enter Tryz.func31, Tryz.ntmps31
  go_wp2_with (at_builtin; refine wpList_append_str rfl (.tmp 21) (.const (.string ⟨#[116, 114, 117, 101]⟩)) 54 9 rfl 5 Tryz.underlying54 Tryz.underlying9 info5 (.slice uo a.length uc) a (by rfl) S0.out.own ⟨#[116, 114, 117, 101]⟩ (by rfl) hr.out ?_; intro v3 w3 o3 g3 n3; have R7 := S0.out.add (Below.refl _ _) o3 g3 n3; obtain ⟨a8, L8, c8, hv8⟩ := slice_of R7.own; subst hv8; have R8 := Lib.hid R7; clear o3 g3 n3 R7)
  rw [HT.out] at R8
  go_ret
  exact R8.out.post
set_option maxHeartbeats 3200000 in
set_option maxRecDepth 100000 in
theorem rwr_fal (h : OwnsB w 5 (.slice uo a.length uc) a) (t : ByteArray) (ao : Option Addr) (m cap : Nat) (hl : a.length ≤ 140737488300000) : Calls Tryz.prog 31 #[.slice uo a.length uc, .agg #[.int .i64 1, .int .i64 0, .string t, .slice ao m cap]] w (WPost w (.slice uo a.length uc) (a ++ [102, 97, 108, 115, 101])) := by
  have S0 := Lib.hid (WS.start h (.cells #[.int .i64 1, .int .i64 0, .string t, .slice ao m cap] 24))
  have HL := Lib.hid hl
  obtain ⟨a0, a1, a2, a3⟩ := vb4 S0.out.bx
  have HT : Hid ((⟨#[102, 97, 108, 115, 101]⟩ : ByteArray).toList = [102, 97, 108, 115, 101]) := Lib.hid (by rw [ByteArray.toList_eq])
  have hr : Hid (a.length + (⟨#[102, 97, 108, 115, 101]⟩ : ByteArray).size ≤ 140737488355328) := Lib.hid (by show _ + 5 ≤ _; omega)
  clear h hl
  go_enter Tryz.func31, Tryz.ntmps31
  go_wp2_with (at_builtin; refine wpList_append_str rfl (.tmp 23) (.const (.string ⟨#[102, 97, 108, 115, 101]⟩)) 54 9 rfl 5 Tryz.underlying54 Tryz.underlying9 info5 (.slice uo a.length uc) a (by rfl) S0.out.own ⟨#[102, 97, 108, 115, 101]⟩ (by rfl) hr.out ?_; intro v3 w3 o3 g3 n3; have R7 := S0.out.add (Below.refl _ _) o3 g3 n3; obtain ⟨a8, L8, c8, hv8⟩ := slice_of R7.own; subst hv8; have R8 := Lib.hid R7; clear o3 g3 n3 R7)
  rw [HT.out] at R8
  go_ret
  exact R8.out.post
set_option maxHeartbeats 3200000 in
set_option maxRecDepth 100000 in
theorem rwr_int (h : OwnsB w 5 (.slice uo a.length uc) a) (n : Int) (h0 : -9223372036854775808 ≤ n) (h1 : n ≤ 9223372036854775807) (t : ByteArray) (ao : Option Addr) (m cap : Nat) (hl : a.length ≤ 140737488300000) : Calls Tryz.prog 31 #[.slice uo a.length uc, .agg #[.int .i64 2, .int .i64 n, .string t, .slice ao m cap]] w (WPost w (.slice uo a.length uc) (a ++ Lib.itoa n)) := by
  have S0 := Lib.hid (WS.start h (.cells #[.int .i64 2, .int .i64 n, .string t, .slice ao m cap] 24))
  have HL := Lib.hid hl
  obtain ⟨a0, a1, a2, a3⟩ := vb4 S0.out.bx
  obtain ⟨sx, hsx⟩ : ∃ sx, sx = str (Lib.itoa n) := ⟨_, rfl⟩
  have HF := Lib.hid (fun W => rdigits_any n h0 h1 W)
  unfold TextPost at HF
  rw [← hsx] at HF
  have HSX : Hid (sx.toList = Lib.itoa n) := Lib.hid (by rw [hsx, str_toList])
  have h21 : sx.size ≤ 21 := by rw [hsx]; exact itoa_short h0 h1
  have hr : Hid (a.length + sx.size ≤ 140737488355328) := Lib.hid (by omega)
  clear h hl hsx h0 h1 h21
  go_enter Tryz.func31, Tryz.ntmps31
  go_wp2_with fail
  refine (HF.out _).mono ?_
  rintro _ w1 ⟨rfl, hb1⟩
  have S1 := Lib.hid (S0.out.same hb1)
  clear hb1
  go_wp2_with (at_builtin; refine wpList_append_str rfl (.tmp 27) (.tmp 30) 54 9 rfl 5 Tryz.underlying54 Tryz.underlying9 info5 (.slice uo a.length uc) a (by rfl) S1.out.own sx (by rfl) hr.out ?_; intro v3 w3 o3 g3 n3; have R7 := S1.out.add (Below.refl _ _) o3 g3 n3; obtain ⟨a8, L8, c8, hv8⟩ := slice_of R7.own; subst hv8; have R8 := Lib.hid R7; clear o3 g3 n3 R7)
  rw [HSX.out] at R8
  go_ret
  exact R8.out.post
set_option maxHeartbeats 3200000 in
set_option maxRecDepth 100000 in
theorem rwr_text (h : OwnsB w 5 (.slice uo a.length uc) a) (n : Int) (t : ByteArray) (hv : Lib.validD t.toList = true) (hz : t.size ≤ 1073741824) (hq : a.length + (quoteP t.toList).length ≤ 140737488300000) (ao : Option Addr) (m cap : Nat) (hl : a.length ≤ 140737488300000) : Calls Tryz.prog 31 #[.slice uo a.length uc, .agg #[.int .i64 3, .int .i64 n, .string t, .slice ao m cap]] w (WPost w (.slice uo a.length uc) (a ++ quoteP t.toList)) := by
  have S0 := Lib.hid (WS.start h (.cells #[.int .i64 3, .int .i64 n, .string t, .slice ao m cap] 24))
  have HL := Lib.hid hl
  obtain ⟨a0, a1, a2, a3⟩ := vb4 S0.out.bx
  obtain ⟨sx, hsx⟩ : ∃ sx, sx = str (quoteP t.toList) := ⟨_, rfl⟩
  have HF := Lib.hid (fun W => rquoted_any t hv hz W)
  rw [← hsx] at HF
  have HSX : Hid (sx.toList = quoteP t.toList) := Lib.hid (by rw [hsx, str_toList])
  have hr : Hid (a.length + sx.size ≤ 140737488355328) := Lib.hid (by
    rw [← HSX.out, size_toList] at hq
    omega)
  clear h hl hsx hv hz hq
  go_enter Tryz.func31, Tryz.ntmps31
  go_wp2_with fail
  refine (HF.out _).mono ?_
  rintro _ w1 ⟨rfl, hb1⟩
  have S1 := Lib.hid (S0.out.same hb1)
  clear hb1
  go_wp2_with (at_builtin; refine wpList_append_str rfl (.tmp 34) (.tmp 37) 54 9 rfl 5 Tryz.underlying54 Tryz.underlying9 info5 (.slice uo a.length uc) a (by rfl) S1.out.own sx (by rfl) hr.out ?_; intro v3 w3 o3 g3 n3; have R7 := S1.out.add (Below.refl _ _) o3 g3 n3; obtain ⟨a8, L8, c8, hv8⟩ := slice_of R7.own; subst hv8; have R8 := Lib.hid R7; clear o3 g3 n3 R7)
  rw [HSX.out] at R8
  go_ret
  exact R8.out.post
set_option maxHeartbeats 12800000 in
set_option maxRecDepth 100000 in
theorem rwr_list_true (h : OwnsB w 5 (.slice uo a.length uc) a) (hb0 : Below w0.heap.size w0 w) (hf0 : ∀ g, (Value.slice uo a.length uc).ownBlock = some g → w0.heap.size ≤ g) (n : Int) (t : ByteArray) (l : List It) (ao : Option Addr) (cap : Nat) (hv : VIn w0 (.slice ao l.length cap) l)
    (hl : ∀ x ∈ l, x.1.Norm ∧ Lib.validD x.1.t.toList = true ∧ x.1.t.size ≤ 1073741824)
    (IH : ∀ x ∈ l, ∀ (W : World) (v' : Value) (a' : Bs) (c' : Value), OwnsB W 5 v' a' → Below w0.heap.size w0 W → (∀ g, v'.ownBlock = some g → w0.heap.size ≤ g) → VIn w0 c' x.2.xs → a'.length + (jtV x.2).length ≤ LIMJ → Calls Tryz.prog 31 #[v', x.2.v c'] W (WPost W v' (jrV x.2 a')))
    (hp : rowP 0 l = true) (hlim : a.length + (jtL true 0 l).length + 2 ≤ LIMJ) :
    Calls Tryz.prog 31 #[.slice uo a.length uc, .agg #[.int .i64 4, .int .i64 n, .string t, .slice ao l.length cap]] w (WPost w (.slice uo a.length uc) (jrL true 0 l (a ++ [91]) ++ [93])) := by
  obtain ⟨_, _, hv1, hlen⟩ := hv.form
  clear hv1
  have S0 := Lib.hid (WS.start h (.cells #[.int .i64 4, .int .i64 n, .string t, .slice ao l.length cap] 24))
  have HV := Lib.hid hv
  have HL := Lib.hid hl
  have HLN := Lib.hid hlen
  have IHH := Lib.hid IH
  have HB0 := Lib.hid hb0
  have HF0 := Lib.hid hf0
  have HAL : Hid (a.length ≤ 140737488299998) := Lib.hid (by have : a.length + _ + 2 ≤ 140737488300000 := hlim; omega)
  have HR : Hid (jrL true 0 (l.drop 0) (a ++ [91]) = jrL true 0 l (a ++ [91]) ∧ (a ++ [91]).length + (jtL true 0 (l.drop 0)).length + 1 ≤ LIMJ) := Lib.hid ⟨rfl, by rw [List.length_append, List.drop_zero]; show a.length + 1 + _ + 1 ≤ _; omega⟩
  obtain ⟨R, hR⟩ : ∃ R, R = jrL true 0 l (a ++ [91]) := ⟨_, rfl⟩
  have HRW : Hid (Calls Tryz.prog 63 #[.slice ao l.length cap] (w.alloc (.cells #[.int .i64 4, .int .i64 n, .string t, .slice ao l.length cap] 24 (0, 0))) (fun e w' => e = .returned (.bool true) ∧ w' = (w.alloc (.cells #[.int .i64 4, .int .i64 n, .string t, .slice ao l.length cap] 24 (0, 0))))) := Lib.hid (by
    have := rrow_any l (w.alloc (.cells #[.int .i64 4, .int .i64 n, .string t, .slice ao l.length cap] 24 (0, 0))) _ (hv.under (S0.out.base hb0 hf0))
    rw [rowR_eq l 0 (fun x hx => (hl x hx).1), hp] at this
    exact this)
  rw [← hR] at HR ⊢
  obtain ⟨a0, a1, a2, a3⟩ := vb4 S0.out.bx
  have HB1 : Hid (Below (w.alloc (.cells #[.int .i64 4, .int .i64 n, .string t, .slice ao l.length cap] 24 (0, 0))).heap.size (w.alloc (.cells #[.int .i64 4, .int .i64 n, .string t, .slice ao l.length cap] 24 (0, 0))) ((w.alloc (.cells #[.int .i64 4, .int .i64 n, .string t, .slice ao l.length cap] 24 (0, 0))).alloc (.cells #[.int .u8 91] 5))) := Lib.hid (below_alloc1 (w.alloc (.cells #[.int .i64 4, .int .i64 n, .string t, .slice ao l.length cap] 24 (0, 0))) _)
  have hO : Hid (Owns ((w.alloc (.cells #[.int .i64 4, .int .i64 n, .string t, .slice ao l.length cap] 24 (0, 0))).alloc (.cells #[.int .u8 91] 5)) 5 1 (.slice uo a.length uc) (bRows a)) := Lib.hid (S0.out.owns HB1.out)
  have hL : Hid (Lies ((w.alloc (.cells #[.int .i64 4, .int .i64 n, .string t, .slice ao l.length cap] 24 (0, 0))).alloc (.cells #[.int .u8 91] 5)) 1 (some ⟨w.heap.size + 1, 0, none⟩) ([[.int .u8 91]] : List (List Value))) := Lib.hid (by have h := lies_cells (w.alloc (.cells #[.int .i64 4, .int .i64 n, .string t, .slice ao l.length cap] 24 (0, 0))) [.int .u8 91] 5; rw [World.size_alloc] at h; exact h)
  have hr1 : Hid ((bRows a).length + ([[.int .u8 91]] : List (List Value)).length ≤ maxLen) := Lib.hid (by rw [bRows_len]; have : a.length ≤ 140737488340000 := (by have := HAL.out; omega); unfold maxLen; simp; omega)
  have hr2 : Hid (((bRows a).length + ([[.int .u8 91]] : List (List Value)).length) * 1 ≤ 140737488355328) := Lib.hid (by rw [bRows_len]; have : a.length ≤ 140737488340000 := (by have := HAL.out; omega); simp; omega)
  clear h hv hl hlen IH hlim hR hp hb0 hf0
  go_enter Tryz.func31, Tryz.ntmps31
  go_wp2_with fail
  refine HRW.out.mono ?_
  rintro _ _ ⟨rfl, rfl⟩
  go_wp2_with (at_builtin; refine wpList_append_rows rfl (.tmp 43) (.tmp 45) 54 rfl 5 _ 1 1 Tryz.underlying54 info5 rfl (by decide) (.slice uo a.length uc) (bRows a) (by rfl) hO.out (some ⟨(w.heap.size + 1), 0, none⟩) 1 1 ([[.int .u8 91]] : List (List Value)) (by rfl) rfl (fun e => by cases e) hL.out (by simp [Value.oneCell']) (by simp) hr1.out (by have h := hr2.out; omega) ?_; intro v3 w3 o3 g3 n3; have R7 := S0.out.add (b := a ++ [91]) HB1.out (by unfold OwnsB; rw [bRows_append]; exact o3) g3 n3; obtain ⟨a8, L8, c8, hv8⟩ := slice_of R7.own; subst hv8; have R8 := Lib.hid R7; clear o3 g3 n3 R7)
  clear a0 a1 a2 a3 hO hL hr1 hr2 HB1
  have HLL0 := Lib.hid (owns_len R8.out.own)
  go_loopw [0, 8, 9] (fun v kv _ wr => ∃ (j : Nat) (acc : Bs) (vo : Option Addr) (L vc : Nat), v = .slice vo L vc ∧ kv = .int .i64 j ∧ j ≤ l.length ∧ Hid (L = acc.length) ∧ Hid (WS w wr (.slice uo a.length uc) (.slice vo L vc) acc (.cells #[.int .i64 4, .int .i64 n, .string t, .slice ao l.length cap] 24 (0, 0))) ∧ Hid (jrL true j (l.drop j) acc = R ∧ acc.length + (jtL true j (l.drop j)).length + 1 ≤ LIMJ)) (fun _ kv _ _ => l.length - (intOf kv).toNat)
  case atStart => exact ⟨0, _, _, _, _, rfl, rfl, Nat.zero_le _, HLL0, R8, HR⟩
  case round =>
    clear R8 HR HLL0
    obtain ⟨j, acc, vo, L, vc, rfl, rfl, hj, HLL, HK, HX⟩ := hrel
    have x3 := (vb4 HK.out.bx).2.2.2
    have HLB : Hid (L ≤ 140737488299999) := Lib.hid (by have h := HLL.out; have h2 : acc.length + _ + 1 ≤ 140737488300000 := HX.out.2; omega)
    by_cases hgo : j < l.length ∧ L ≤ 131072
    · obtain ⟨hlt, hshort⟩ := hgo
      have hi : (j : Int) < (l.length : Int) := by omega
      have hsh : decide ((L : Int) ≤ 131072) = true := by simp; omega
      obtain ⟨q, x, g, off, co, cc, hq, hm, rfl, hc, hcell⟩ := vin_all HV.out hlt
      obtain ⟨hwi', hwi⟩ : wrap64 ((j : Int) + 1) = (j : Int) + 1 ∧ IntKind.i64.wrap ((j : Int) + 1) = (j : Int) + 1 := wr_sm (by omega) (by have := HLN.out; omega)
      have HKV := Lib.hid (HL.out (q, x) hm)
      have HCEL := Lib.hid hcell
      have HI : Hid (∀ W v' a', OwnsB W 5 v' a' → Below w0.heap.size w0 W → (∀ g, v'.ownBlock = some g → w0.heap.size ≤ g) → a'.length + (jtV x).length ≤ LIMJ → Calls Tryz.prog 31 #[v', .agg #[.int .i64 x.k, .int .i64 x.n, .string x.t, .slice co x.xs.length cc]] W (WPost W v' (jrV x a'))) := Lib.hid (fun W v' a' h1 h2 h3 h4 => IHH.out (q, x) hm W v' a' (.slice co x.xs.length cc) h1 h2 h3 hc h4)
      have HXN : Hid (jrL true (j + 1) (l.drop (j + 1)) (jrV x (nameJ true q (commaJ j acc))) = R ∧ acc.length + (commaJ j []).length + (nameJ true q []).length + (jtV x).length + (jtL true (j + 1) (l.drop (j + 1))).length + 1 ≤ 140737488300000) := Lib.hid (by
        have h1 := HX.out.1
        have h2 : acc.length + _ + 1 ≤ 140737488300000 := HX.out.2
        have h0 := HLL.out
        rw [drop_at hq, jrL_cons, if_neg (by omega)] at h1
        rw [drop_at hq, jtL_cons] at h2
        have h3 := name_len true q (commaJ j [])
        refine ⟨h1, ?_⟩
        simp only [List.length_append] at h2
        omega)
      have HNX : Hid (jrL true (j + 1) (l.drop (j + 1)) (jrV x (nameJ true q (commaJ j acc))) = R ∧ (jrV x (nameJ true q (commaJ j acc))).length + (jtL true (j + 1) (l.drop (j + 1))).length + 1 ≤ LIMJ) := Lib.hid (by
        have h3 := jr_le x (nameJ true q (commaJ j acc))
        have h4 := name_len true q (commaJ j acc)
        have h5 := comma_len j acc
        have h2 := HXN.out.2
        exact ⟨HXN.out.1, by show _ ≤ 140737488300000; omega⟩)
      have HLT := Lib.hid hlt
      clear hc hq hm hlt HX hcell
      obtain ⟨qb, qn, qt⟩ := q
      simp only at HCEL
      obtain ⟨d0, d1, d2, d3, d4, d5, d6⟩ := HCEL.out wr (HK.out.base HB0.out HF0.out)
      by_cases h0 : 0 < j
      · have hcj : commaJ j acc = acc ++ [44] := by unfold commaJ; rw [if_pos h0]
        have HCJ := Lib.hid hcj
        clear hcj
        have HB1 : Hid (Below wr.heap.size wr (wr.alloc (.cells #[.int .u8 44] 5))) := Lib.hid (below_alloc1 wr _)
        have hO : Hid (Owns (wr.alloc (.cells #[.int .u8 44] 5)) 5 1 (.slice vo L vc) (bRows acc)) := Lib.hid (HK.out.owns HB1.out)
        have hL : Hid (Lies (wr.alloc (.cells #[.int .u8 44] 5)) 1 (some ⟨wr.heap.size, 0, none⟩) ([[.int .u8 44]] : List (List Value))) := Lib.hid (lies_cells wr [.int .u8 44] 5)
        have hr1 : Hid ((bRows acc).length + ([[.int .u8 44]] : List (List Value)).length ≤ maxLen) := Lib.hid (by rw [bRows_len]; have : acc.length ≤ 140737488340000 := (by have h := HLL.out; have := HLB.out; omega); unfold maxLen; simp; omega)
        have hr2 : Hid (((bRows acc).length + ([[.int .u8 44]] : List (List Value)).length) * 1 ≤ 140737488355328) := Lib.hid (by rw [bRows_len]; have : acc.length ≤ 140737488340000 := (by have h := HLL.out; have := HLB.out; omega); simp; omega)
        have HNM : Hid (nameJ true ⟨qb, qn, qt⟩ (commaJ j acc) = commaJ j acc) := Lib.hid rfl
        go_wp2_with (at_builtin; refine wpList_append_rows rfl (.tmp 61) (.tmp 62) 54 rfl 5 _ 1 1 Tryz.underlying54 info5 rfl (by decide) (.slice vo L vc) (bRows acc) (by rfl) hO.out (some ⟨wr.heap.size, 0, none⟩) 1 1 ([[.int .u8 44]] : List (List Value)) (by rfl) rfl (fun e => by cases e) hL.out (by simp [Value.oneCell']) (by simp) hr1.out (by have h := hr2.out; omega) ?_; intro v3 w3 o3 g3 n3; have R7 := HK.out.add (b := acc ++ [44]) HB1.out (by unfold OwnsB; rw [bRows_append]; exact o3) g3 n3; obtain ⟨a8, L8, c8, hv8⟩ := slice_of R7.own; subst hv8; have R8 := Lib.hid R7; clear o3 g3 n3 R7; obtain ⟨z0, z1, z2, z3, z4, z5, z6⟩ := HCEL.out _ (R8.out.base HB0.out HF0.out); have y3 := (vb4 R8.out.bx).2.2.2)
        rw [← HCJ.out] at R8
        have KQ := R8
        rw [← HNM.out] at KQ
        refine (HI.out _ _ _ KQ.out.own (KQ.out.base HB0.out HF0.out) (KQ.out.fresh HB0.out HF0.out) (by have h2 := HXN.out.2; have h4 := name_len true ⟨qb, qn, qt⟩ (commaJ j acc); have h5 := comma_len j acc; show _ ≤ 140737488300000; omega)).mono ?_
        rintro _ w9 ⟨b9, L9, c9, rfl, o9, g9, n9⟩
        have K9 := Lib.hid (KQ.out.add (Below.refl _ _) o9 g9 n9)
        clear o9 g9 n9
        go_wp2_with fail
        go_roundw
        case rel => exact ⟨j + 1, _, _, _, _, rfl, by go_num, HLT.out, Lib.hid (owns_len K9.out.own), K9, HNX⟩
        case measure => have := HLT.out; simp [intOf]; omega
      · have hcj : commaJ j acc = acc := by unfold commaJ; rw [if_neg h0]
        have HCJ := Lib.hid hcj
        clear hcj
        have HNM : Hid (nameJ true ⟨qb, qn, qt⟩ (commaJ j acc) = commaJ j acc) := Lib.hid rfl
        have KQ0 := HK
        rw [← HCJ.out] at KQ0
        have KQ := KQ0
        go_wp2_with fail
        rw [← HNM.out] at KQ
        refine (HI.out _ _ _ KQ.out.own (KQ.out.base HB0.out HF0.out) (KQ.out.fresh HB0.out HF0.out) (by have h2 := HXN.out.2; have h4 := name_len true ⟨qb, qn, qt⟩ (commaJ j acc); have h5 := comma_len j acc; show _ ≤ 140737488300000; omega)).mono ?_
        rintro _ w9 ⟨b9, L9, c9, rfl, o9, g9, n9⟩
        have K9 := Lib.hid (KQ.out.add (Below.refl _ _) o9 g9 n9)
        clear o9 g9 n9
        go_wp2_with fail
        go_roundw
        case rel => exact ⟨j + 1, _, _, _, _, rfl, by go_num, HLT.out, Lib.hid (owns_len K9.out.own), K9, HNX⟩
        case measure => have := HLT.out; simp [intOf]; omega
    · have hrx : R = acc := by
        rw [← HX.out.1]
        by_cases h1 : j < l.length
        · exact jrL_long _ _ _ _ (by have h0 := HLL.out; omega)
        · obtain rfl : j = l.length := by omega
          rw [List.drop_length, jrL]
      subst hrx
      have HB1 : Hid (Below wr.heap.size wr (wr.alloc (.cells #[.int .u8 93] 5))) := Lib.hid (below_alloc1 wr _)
      have hO : Hid (Owns (wr.alloc (.cells #[.int .u8 93] 5)) 5 1 (.slice vo L vc) (bRows R)) := Lib.hid (HK.out.owns HB1.out)
      have hL : Hid (Lies (wr.alloc (.cells #[.int .u8 93] 5)) 1 (some ⟨wr.heap.size, 0, none⟩) ([[.int .u8 93]] : List (List Value))) := Lib.hid (lies_cells wr [.int .u8 93] 5)
      have hr1 : Hid ((bRows R).length + ([[.int .u8 93]] : List (List Value)).length ≤ maxLen) := Lib.hid (by rw [bRows_len]; have : R.length ≤ 140737488340000 := (by have h := HLL.out; have := HLB.out; omega); unfold maxLen; simp; omega)
      have hr2 : Hid (((bRows R).length + ([[.int .u8 93]] : List (List Value)).length) * 1 ≤ 140737488355328) := Lib.hid (by rw [bRows_len]; have : R.length ≤ 140737488340000 := (by have h := HLL.out; have := HLB.out; omega); simp; omega)
      clear HX
      by_cases h1 : j < l.length
      · have hi : (j : Int) < (l.length : Int) := by omega
        have hL1 : (131072 : Int) < (L : Int) := by omega
        have hL2 : decide ((L : Int) ≤ 131072) = false := by simp; omega
        clear hgo h1
        go_wp2_with (at_builtin; refine wpList_append_rows rfl (.tmp 103) (.tmp 105) 54 rfl 5 _ 1 1 Tryz.underlying54 info5 rfl (by decide) (.slice vo L vc) (bRows R) (by rfl) hO.out (some ⟨wr.heap.size, 0, none⟩) 1 1 ([[.int .u8 93]] : List (List Value)) (by rfl) rfl (fun e => by cases e) hL.out (by simp [Value.oneCell']) (by simp) hr1.out (by have h := hr2.out; omega) ?_; intro v3 w3 o3 g3 n3; have R7 := HK.out.add (b := R ++ [93]) HB1.out (by unfold OwnsB; rw [bRows_append]; exact o3) g3 n3; obtain ⟨a8, L8, c8, hv8⟩ := slice_of R7.own; subst hv8; have R8 := Lib.hid R7; clear o3 g3 n3 R7)
        go_ret
        exact R8.out.post
      · obtain rfl : j = l.length := by omega
        clear hgo h1
        go_wp2_with (at_builtin; refine wpList_append_rows rfl (.tmp 103) (.tmp 105) 54 rfl 5 _ 1 1 Tryz.underlying54 info5 rfl (by decide) (.slice vo L vc) (bRows R) (by rfl) hO.out (some ⟨wr.heap.size, 0, none⟩) 1 1 ([[.int .u8 93]] : List (List Value)) (by rfl) rfl (fun e => by cases e) hL.out (by simp [Value.oneCell']) (by simp) hr1.out (by have h := hr2.out; omega) ?_; intro v3 w3 o3 g3 n3; have R7 := HK.out.add (b := R ++ [93]) HB1.out (by unfold OwnsB; rw [bRows_append]; exact o3) g3 n3; obtain ⟨a8, L8, c8, hv8⟩ := slice_of R7.own; subst hv8; have R8 := Lib.hid R7; clear o3 g3 n3 R7)
        go_ret
        exact R8.out.post
set_option maxHeartbeats 12800000 in
set_option maxRecDepth 100000 in
theorem rwr_list_false (h : OwnsB w 5 (.slice uo a.length uc) a) (hb0 : Below w0.heap.size w0 w) (hf0 : ∀ g, (Value.slice uo a.length uc).ownBlock = some g → w0.heap.size ≤ g) (n : Int) (t : ByteArray) (l : List It) (ao : Option Addr) (cap : Nat) (hv : VIn w0 (.slice ao l.length cap) l)
    (hl : ∀ x ∈ l, x.1.Norm ∧ Lib.validD x.1.t.toList = true ∧ x.1.t.size ≤ 1073741824)
    (IH : ∀ x ∈ l, ∀ (W : World) (v' : Value) (a' : Bs) (c' : Value), OwnsB W 5 v' a' → Below w0.heap.size w0 W → (∀ g, v'.ownBlock = some g → w0.heap.size ≤ g) → VIn w0 c' x.2.xs → a'.length + (jtV x.2).length ≤ LIMJ → Calls Tryz.prog 31 #[v', x.2.v c'] W (WPost W v' (jrV x.2 a')))
    (hp : rowP 0 l = false) (hlim : a.length + (jtL false 0 l).length + 2 ≤ LIMJ) :
    Calls Tryz.prog 31 #[.slice uo a.length uc, .agg #[.int .i64 4, .int .i64 n, .string t, .slice ao l.length cap]] w (WPost w (.slice uo a.length uc) (jrL false 0 l (a ++ [123]) ++ [125])) := by
  obtain ⟨_, _, hv1, hlen⟩ := hv.form
  clear hv1
  have S0 := Lib.hid (WS.start h (.cells #[.int .i64 4, .int .i64 n, .string t, .slice ao l.length cap] 24))
  have HV := Lib.hid hv
  have HL := Lib.hid hl
  have HLN := Lib.hid hlen
  have IHH := Lib.hid IH
  have HB0 := Lib.hid hb0
  have HF0 := Lib.hid hf0
  have HAL : Hid (a.length ≤ 140737488299998) := Lib.hid (by have : a.length + _ + 2 ≤ 140737488300000 := hlim; omega)
  have HR : Hid (jrL false 0 (l.drop 0) (a ++ [123]) = jrL false 0 l (a ++ [123]) ∧ (a ++ [123]).length + (jtL false 0 (l.drop 0)).length + 1 ≤ LIMJ) := Lib.hid ⟨rfl, by rw [List.length_append, List.drop_zero]; show a.length + 1 + _ + 1 ≤ _; omega⟩
  obtain ⟨R, hR⟩ : ∃ R, R = jrL false 0 l (a ++ [123]) := ⟨_, rfl⟩
  have HRW : Hid (Calls Tryz.prog 63 #[.slice ao l.length cap] (w.alloc (.cells #[.int .i64 4, .int .i64 n, .string t, .slice ao l.length cap] 24 (0, 0))) (fun e w' => e = .returned (.bool false) ∧ w' = (w.alloc (.cells #[.int .i64 4, .int .i64 n, .string t, .slice ao l.length cap] 24 (0, 0))))) := Lib.hid (by
    have := rrow_any l (w.alloc (.cells #[.int .i64 4, .int .i64 n, .string t, .slice ao l.length cap] 24 (0, 0))) _ (hv.under (S0.out.base hb0 hf0))
    rw [rowR_eq l 0 (fun x hx => (hl x hx).1), hp] at this
    exact this)
  rw [← hR] at HR ⊢
  obtain ⟨a0, a1, a2, a3⟩ := vb4 S0.out.bx
  have HB1 : Hid (Below (w.alloc (.cells #[.int .i64 4, .int .i64 n, .string t, .slice ao l.length cap] 24 (0, 0))).heap.size (w.alloc (.cells #[.int .i64 4, .int .i64 n, .string t, .slice ao l.length cap] 24 (0, 0))) ((w.alloc (.cells #[.int .i64 4, .int .i64 n, .string t, .slice ao l.length cap] 24 (0, 0))).alloc (.cells #[.int .u8 123] 5))) := Lib.hid (below_alloc1 (w.alloc (.cells #[.int .i64 4, .int .i64 n, .string t, .slice ao l.length cap] 24 (0, 0))) _)
  have hO : Hid (Owns ((w.alloc (.cells #[.int .i64 4, .int .i64 n, .string t, .slice ao l.length cap] 24 (0, 0))).alloc (.cells #[.int .u8 123] 5)) 5 1 (.slice uo a.length uc) (bRows a)) := Lib.hid (S0.out.owns HB1.out)
  have hL : Hid (Lies ((w.alloc (.cells #[.int .i64 4, .int .i64 n, .string t, .slice ao l.length cap] 24 (0, 0))).alloc (.cells #[.int .u8 123] 5)) 1 (some ⟨w.heap.size + 1, 0, none⟩) ([[.int .u8 123]] : List (List Value))) := Lib.hid (by have h := lies_cells (w.alloc (.cells #[.int .i64 4, .int .i64 n, .string t, .slice ao l.length cap] 24 (0, 0))) [.int .u8 123] 5; rw [World.size_alloc] at h; exact h)
  have hr1 : Hid ((bRows a).length + ([[.int .u8 123]] : List (List Value)).length ≤ maxLen) := Lib.hid (by rw [bRows_len]; have : a.length ≤ 140737488340000 := (by have := HAL.out; omega); unfold maxLen; simp; omega)
  have hr2 : Hid (((bRows a).length + ([[.int .u8 123]] : List (List Value)).length) * 1 ≤ 140737488355328) := Lib.hid (by rw [bRows_len]; have : a.length ≤ 140737488340000 := (by have := HAL.out; omega); simp; omega)
  clear h hv hl hlen IH hlim hR hp hb0 hf0
  go_enter Tryz.func31, Tryz.ntmps31
  go_wp2_with fail
  refine HRW.out.mono ?_
  rintro _ _ ⟨rfl, rfl⟩
  go_wp2_with (at_builtin; refine wpList_append_rows rfl (.tmp 43) (.tmp 45) 54 rfl 5 _ 1 1 Tryz.underlying54 info5 rfl (by decide) (.slice uo a.length uc) (bRows a) (by rfl) hO.out (some ⟨(w.heap.size + 1), 0, none⟩) 1 1 ([[.int .u8 123]] : List (List Value)) (by rfl) rfl (fun e => by cases e) hL.out (by simp [Value.oneCell']) (by simp) hr1.out (by have h := hr2.out; omega) ?_; intro v3 w3 o3 g3 n3; have R7 := S0.out.add (b := a ++ [123]) HB1.out (by unfold OwnsB; rw [bRows_append]; exact o3) g3 n3; obtain ⟨a8, L8, c8, hv8⟩ := slice_of R7.own; subst hv8; have R8 := Lib.hid R7; clear o3 g3 n3 R7)
  clear a0 a1 a2 a3 hO hL hr1 hr2 HB1
  have HLL0 := Lib.hid (owns_len R8.out.own)
  go_loopw [0, 8, 9] (fun v kv _ wr => ∃ (j : Nat) (acc : Bs) (vo : Option Addr) (L vc : Nat), v = .slice vo L vc ∧ kv = .int .i64 j ∧ j ≤ l.length ∧ Hid (L = acc.length) ∧ Hid (WS w wr (.slice uo a.length uc) (.slice vo L vc) acc (.cells #[.int .i64 4, .int .i64 n, .string t, .slice ao l.length cap] 24 (0, 0))) ∧ Hid (jrL false j (l.drop j) acc = R ∧ acc.length + (jtL false j (l.drop j)).length + 1 ≤ LIMJ)) (fun _ kv _ _ => l.length - (intOf kv).toNat)
  case atStart => exact ⟨0, _, _, _, _, rfl, rfl, Nat.zero_le _, HLL0, R8, HR⟩
  case round =>
    clear R8 HR HLL0
    obtain ⟨j, acc, vo, L, vc, rfl, rfl, hj, HLL, HK, HX⟩ := hrel
    have x3 := (vb4 HK.out.bx).2.2.2
    have HLB : Hid (L ≤ 140737488299999) := Lib.hid (by have h := HLL.out; have h2 : acc.length + _ + 1 ≤ 140737488300000 := HX.out.2; omega)
    by_cases hgo : j < l.length ∧ L ≤ 131072
    · obtain ⟨hlt, hshort⟩ := hgo
      have hi : (j : Int) < (l.length : Int) := by omega
      have hsh : decide ((L : Int) ≤ 131072) = true := by simp; omega
      obtain ⟨q, x, g, off, co, cc, hq, hm, rfl, hc, hcell⟩ := vin_all HV.out hlt
      obtain ⟨hwi', hwi⟩ : wrap64 ((j : Int) + 1) = (j : Int) + 1 ∧ IntKind.i64.wrap ((j : Int) + 1) = (j : Int) + 1 := wr_sm (by omega) (by have := HLN.out; omega)
      have HKV := Lib.hid (HL.out (q, x) hm)
      have HCEL := Lib.hid hcell
      have HI : Hid (∀ W v' a', OwnsB W 5 v' a' → Below w0.heap.size w0 W → (∀ g, v'.ownBlock = some g → w0.heap.size ≤ g) → a'.length + (jtV x).length ≤ LIMJ → Calls Tryz.prog 31 #[v', .agg #[.int .i64 x.k, .int .i64 x.n, .string x.t, .slice co x.xs.length cc]] W (WPost W v' (jrV x a'))) := Lib.hid (fun W v' a' h1 h2 h3 h4 => IHH.out (q, x) hm W v' a' (.slice co x.xs.length cc) h1 h2 h3 hc h4)
      have HXN : Hid (jrL false (j + 1) (l.drop (j + 1)) (jrV x (nameJ false q (commaJ j acc))) = R ∧ acc.length + (commaJ j []).length + (nameJ false q []).length + (jtV x).length + (jtL false (j + 1) (l.drop (j + 1))).length + 1 ≤ 140737488300000) := Lib.hid (by
        have h1 := HX.out.1
        have h2 : acc.length + _ + 1 ≤ 140737488300000 := HX.out.2
        have h0 := HLL.out
        rw [drop_at hq, jrL_cons, if_neg (by omega)] at h1
        rw [drop_at hq, jtL_cons] at h2
        have h3 := name_len false q (commaJ j [])
        refine ⟨h1, ?_⟩
        simp only [List.length_append] at h2
        omega)
      have HNX : Hid (jrL false (j + 1) (l.drop (j + 1)) (jrV x (nameJ false q (commaJ j acc))) = R ∧ (jrV x (nameJ false q (commaJ j acc))).length + (jtL false (j + 1) (l.drop (j + 1))).length + 1 ≤ LIMJ) := Lib.hid (by
        have h3 := jr_le x (nameJ false q (commaJ j acc))
        have h4 := name_len false q (commaJ j acc)
        have h5 := comma_len j acc
        have h2 := HXN.out.2
        exact ⟨HXN.out.1, by show _ ≤ 140737488300000; omega⟩)
      have HLT := Lib.hid hlt
      clear hc hq hm hlt HX hcell
      obtain ⟨qb, qn, qt⟩ := q
      simp only at HCEL
      obtain ⟨d0, d1, d2, d3, d4, d5, d6⟩ := HCEL.out wr (HK.out.base HB0.out HF0.out)
      by_cases h0 : 0 < j
      · have hcj : commaJ j acc = acc ++ [44] := by unfold commaJ; rw [if_pos h0]
        have HCJ := Lib.hid hcj
        clear hcj
        have HB1 : Hid (Below wr.heap.size wr (wr.alloc (.cells #[.int .u8 44] 5))) := Lib.hid (below_alloc1 wr _)
        have hO : Hid (Owns (wr.alloc (.cells #[.int .u8 44] 5)) 5 1 (.slice vo L vc) (bRows acc)) := Lib.hid (HK.out.owns HB1.out)
        have hL : Hid (Lies (wr.alloc (.cells #[.int .u8 44] 5)) 1 (some ⟨wr.heap.size, 0, none⟩) ([[.int .u8 44]] : List (List Value))) := Lib.hid (lies_cells wr [.int .u8 44] 5)
        have hr1 : Hid ((bRows acc).length + ([[.int .u8 44]] : List (List Value)).length ≤ maxLen) := Lib.hid (by rw [bRows_len]; have : acc.length ≤ 140737488340000 := (by have h := HLL.out; have := HLB.out; omega); unfold maxLen; simp; omega)
        have hr2 : Hid (((bRows acc).length + ([[.int .u8 44]] : List (List Value)).length) * 1 ≤ 140737488355328) := Lib.hid (by rw [bRows_len]; have : acc.length ≤ 140737488340000 := (by have h := HLL.out; have := HLB.out; omega); simp; omega)
        cases qb
        case false =>
          obtain ⟨sx, hsx⟩ : ∃ sx, sx = str (Lib.itoa qn) := ⟨_, rfl⟩
          have HDG : Hid (∀ W, Calls Tryz.prog 61 #[.int .i64 qn] W (fun e w' => e = .returned (.string sx) ∧ Below W.heap.size W w')) := Lib.hid (fun W => by rw [hsx]; exact rdigits_any qn HKV.out.1.lo HKV.out.1.hi W)
          have HT : Hid (keyJ ⟨false, qn, qt⟩ = sx.toList) := Lib.hid (by rw [hsx, str_toList]; rfl)
          have HSZ : Hid (sx.size ≤ 21 ∧ Lib.validD sx.toList = true) := Lib.hid ⟨by rw [hsx]; exact itoa_short HKV.out.1.lo HKV.out.1.hi, by rw [hsx, str_toList]; exact ascii_valid _ (itoa_ascii qn)⟩
          clear hsx
          obtain ⟨qx, hqx⟩ : ∃ qx, qx = str (quoteP sx.toList) := ⟨_, rfl⟩
          have HQT : Hid (∀ W, Calls Tryz.prog 62 #[.string sx] W (fun e w' => e = .returned (.string qx) ∧ Below W.heap.size W w')) := Lib.hid (fun W => by rw [hqx]; exact rquoted_any sx HSZ.out.2 (by have := HSZ.out.1; omega) W)
          have HNM : Hid (nameJ false ⟨false, qn, qt⟩ (commaJ j acc) = ((commaJ j acc) ++ qx.toList) ++ [58]) := Lib.hid (by unfold nameJ; rw [if_neg (by decide), HT.out, hqx, str_toList])
          have HNL : Hid ((commaJ j acc).length + qx.size + 1 ≤ 140737488300000) := Lib.hid (by have h2 := HXN.out.2; have h4 := name_len false ⟨false, qn, qt⟩ (commaJ j acc); have h5 := comma_len j acc; have h6 := congrArg List.length HNM.out; rw [List.length_append, List.length_append, size_toList] at h6; simp only [List.length_cons, List.length_nil] at h6; omega)
          clear hqx
          go_wp2_with (at_builtin; refine wpList_append_rows rfl (.tmp 61) (.tmp 62) 54 rfl 5 _ 1 1 Tryz.underlying54 info5 rfl (by decide) (.slice vo L vc) (bRows acc) (by rfl) hO.out (some ⟨wr.heap.size, 0, none⟩) 1 1 ([[.int .u8 44]] : List (List Value)) (by rfl) rfl (fun e => by cases e) hL.out (by simp [Value.oneCell']) (by simp) hr1.out (by have h := hr2.out; omega) ?_; intro v3 w3 o3 g3 n3; have R7 := HK.out.add (b := acc ++ [44]) HB1.out (by unfold OwnsB; rw [bRows_append]; exact o3) g3 n3; obtain ⟨a8, L8, c8, hv8⟩ := slice_of R7.own; subst hv8; have R8 := Lib.hid R7; clear o3 g3 n3 R7; obtain ⟨z0, z1, z2, z3, z4, z5, z6⟩ := HCEL.out _ (R8.out.base HB0.out HF0.out); have y3 := (vb4 R8.out.bx).2.2.2)
          rw [← HCJ.out] at R8
          refine (HDG.out _).mono ?_
          rintro _ w4 ⟨rfl, hb4⟩
          have R4 := Lib.hid (R8.out.same hb4)
          clear hb4
          go_wp2_with fail
          refine (HQT.out _).mono ?_
          rintro _ w5 ⟨rfl, hb5⟩
          have R5 := Lib.hid (R4.out.same hb5)
          clear hb5
          have hrs : Hid ((commaJ j acc).length + qx.size ≤ 140737488355328) := Lib.hid (by have := HNL.out; omega)
          go_wp2_with (first | (at_builtin; refine wpList_append_str rfl (.tmp 89) (.tmp 91) 54 9 rfl 5 Tryz.underlying54 Tryz.underlying9 info5 _ (commaJ j acc) (by rfl) R5.out.own qx (by rfl) hrs.out ?_; intro v3 w3 o3 g3 n3; have R7 := R5.out.add (Below.refl _ _) o3 g3 n3; obtain ⟨a8, L8, c8, hv8⟩ := slice_of R7.own; subst hv8; have R6 := Lib.hid R7; clear o3 g3 n3 R7) | (at_builtin; refine wpList_append_rows rfl (.tmp 92) (.tmp 93) 54 rfl 5 _ 1 1 Tryz.underlying54 info5 rfl (by decide) _ (bRows (commaJ j acc ++ qx.toList)) (by rfl) (R6.out.owns (below_alloc1 _ _)) (some ⟨_, 0, none⟩) 1 1 ([[.int .u8 58]] : List (List Value)) (by rfl) rfl (fun e => by cases e) (lies_cells _ [.int .u8 58] 5) (by simp [Value.oneCell']) (by simp) (by rw [bRows_len, List.length_append, size_toList]; have := HNL.out; unfold maxLen; simp; omega) (by rw [bRows_len, List.length_append, size_toList]; have := HNL.out; simp; omega) ?_; intro v3 w3 o3 g3 n3; have R7 := R6.out.add (b := (commaJ j acc ++ qx.toList) ++ [58]) (below_alloc1 _ _) (by unfold OwnsB; rw [bRows_append]; exact o3) g3 n3; obtain ⟨a8, L8, c8, hv8⟩ := slice_of R7.own; subst hv8; have KQ := Lib.hid R7; clear o3 g3 n3 R7; obtain ⟨z0, z1, z2, z3, z4, z5, z6⟩ := HCEL.out _ (KQ.out.base HB0.out HF0.out); have y3 := (vb4 KQ.out.bx).2.2.2))
          rw [← HNM.out] at KQ
          refine (HI.out _ _ _ KQ.out.own (KQ.out.base HB0.out HF0.out) (KQ.out.fresh HB0.out HF0.out) (by have h2 := HXN.out.2; have h4 := name_len false ⟨false, qn, qt⟩ (commaJ j acc); have h5 := comma_len j acc; show _ ≤ 140737488300000; omega)).mono ?_
          rintro _ w9 ⟨b9, L9, c9, rfl, o9, g9, n9⟩
          have K9 := Lib.hid (KQ.out.add (Below.refl _ _) o9 g9 n9)
          clear o9 g9 n9
          go_wp2_with fail
          go_roundw
          case rel => exact ⟨j + 1, _, _, _, _, rfl, by go_num, HLT.out, Lib.hid (owns_len K9.out.own), K9, HNX⟩
          case measure => have := HLT.out; simp [intOf]; omega
        case true =>
          have HT : Hid (keyJ ⟨true, qn, qt⟩ = qt.toList) := Lib.hid rfl
          obtain ⟨qx, hqx⟩ : ∃ qx, qx = str (quoteP qt.toList) := ⟨_, rfl⟩
          have HQT : Hid (∀ W, Calls Tryz.prog 62 #[.string qt] W (fun e w' => e = .returned (.string qx) ∧ Below W.heap.size W w')) := Lib.hid (fun W => by rw [hqx]; exact rquoted_any qt HKV.out.2.1 HKV.out.2.2 W)
          have HNM : Hid (nameJ false ⟨true, qn, qt⟩ (commaJ j acc) = ((commaJ j acc) ++ qx.toList) ++ [58]) := Lib.hid (by unfold nameJ; rw [if_neg (by decide), HT.out, hqx, str_toList])
          have HNL : Hid ((commaJ j acc).length + qx.size + 1 ≤ 140737488300000) := Lib.hid (by have h2 := HXN.out.2; have h4 := name_len false ⟨true, qn, qt⟩ (commaJ j acc); have h5 := comma_len j acc; have h6 := congrArg List.length HNM.out; rw [List.length_append, List.length_append, size_toList] at h6; simp only [List.length_cons, List.length_nil] at h6; omega)
          clear hqx
          go_wp2_with (at_builtin; refine wpList_append_rows rfl (.tmp 61) (.tmp 62) 54 rfl 5 _ 1 1 Tryz.underlying54 info5 rfl (by decide) (.slice vo L vc) (bRows acc) (by rfl) hO.out (some ⟨wr.heap.size, 0, none⟩) 1 1 ([[.int .u8 44]] : List (List Value)) (by rfl) rfl (fun e => by cases e) hL.out (by simp [Value.oneCell']) (by simp) hr1.out (by have h := hr2.out; omega) ?_; intro v3 w3 o3 g3 n3; have R7 := HK.out.add (b := acc ++ [44]) HB1.out (by unfold OwnsB; rw [bRows_append]; exact o3) g3 n3; obtain ⟨a8, L8, c8, hv8⟩ := slice_of R7.own; subst hv8; have R8 := Lib.hid R7; clear o3 g3 n3 R7; obtain ⟨z0, z1, z2, z3, z4, z5, z6⟩ := HCEL.out _ (R8.out.base HB0.out HF0.out); have y3 := (vb4 R8.out.bx).2.2.2)
          rw [← HCJ.out] at R8
          refine (HQT.out _).mono ?_
          rintro _ w5 ⟨rfl, hb5⟩
          have R5 := Lib.hid (R8.out.same hb5)
          clear hb5
          have hrs : Hid ((commaJ j acc).length + qx.size ≤ 140737488355328) := Lib.hid (by have := HNL.out; omega)
          go_wp2_with (first | (at_builtin; refine wpList_append_str rfl (.tmp 89) (.tmp 91) 54 9 rfl 5 Tryz.underlying54 Tryz.underlying9 info5 _ (commaJ j acc) (by rfl) R5.out.own qx (by rfl) hrs.out ?_; intro v3 w3 o3 g3 n3; have R7 := R5.out.add (Below.refl _ _) o3 g3 n3; obtain ⟨a8, L8, c8, hv8⟩ := slice_of R7.own; subst hv8; have R6 := Lib.hid R7; clear o3 g3 n3 R7) | (at_builtin; refine wpList_append_rows rfl (.tmp 92) (.tmp 93) 54 rfl 5 _ 1 1 Tryz.underlying54 info5 rfl (by decide) _ (bRows (commaJ j acc ++ qx.toList)) (by rfl) (R6.out.owns (below_alloc1 _ _)) (some ⟨_, 0, none⟩) 1 1 ([[.int .u8 58]] : List (List Value)) (by rfl) rfl (fun e => by cases e) (lies_cells _ [.int .u8 58] 5) (by simp [Value.oneCell']) (by simp) (by rw [bRows_len, List.length_append, size_toList]; have := HNL.out; unfold maxLen; simp; omega) (by rw [bRows_len, List.length_append, size_toList]; have := HNL.out; simp; omega) ?_; intro v3 w3 o3 g3 n3; have R7 := R6.out.add (b := (commaJ j acc ++ qx.toList) ++ [58]) (below_alloc1 _ _) (by unfold OwnsB; rw [bRows_append]; exact o3) g3 n3; obtain ⟨a8, L8, c8, hv8⟩ := slice_of R7.own; subst hv8; have KQ := Lib.hid R7; clear o3 g3 n3 R7; obtain ⟨z0, z1, z2, z3, z4, z5, z6⟩ := HCEL.out _ (KQ.out.base HB0.out HF0.out); have y3 := (vb4 KQ.out.bx).2.2.2))
          rw [← HNM.out] at KQ
          refine (HI.out _ _ _ KQ.out.own (KQ.out.base HB0.out HF0.out) (KQ.out.fresh HB0.out HF0.out) (by have h2 := HXN.out.2; have h4 := name_len false ⟨true, qn, qt⟩ (commaJ j acc); have h5 := comma_len j acc; show _ ≤ 140737488300000; omega)).mono ?_
          rintro _ w9 ⟨b9, L9, c9, rfl, o9, g9, n9⟩
          have K9 := Lib.hid (KQ.out.add (Below.refl _ _) o9 g9 n9)
          clear o9 g9 n9
          go_wp2_with fail
          go_roundw
          case rel => exact ⟨j + 1, _, _, _, _, rfl, by go_num, HLT.out, Lib.hid (owns_len K9.out.own), K9, HNX⟩
          case measure => have := HLT.out; simp [intOf]; omega
      · have hcj : commaJ j acc = acc := by unfold commaJ; rw [if_neg h0]
        have HCJ := Lib.hid hcj
        clear hcj
        cases qb
        case false =>
          obtain ⟨sx, hsx⟩ : ∃ sx, sx = str (Lib.itoa qn) := ⟨_, rfl⟩
          have HDG : Hid (∀ W, Calls Tryz.prog 61 #[.int .i64 qn] W (fun e w' => e = .returned (.string sx) ∧ Below W.heap.size W w')) := Lib.hid (fun W => by rw [hsx]; exact rdigits_any qn HKV.out.1.lo HKV.out.1.hi W)
          have HT : Hid (keyJ ⟨false, qn, qt⟩ = sx.toList) := Lib.hid (by rw [hsx, str_toList]; rfl)
          have HSZ : Hid (sx.size ≤ 21 ∧ Lib.validD sx.toList = true) := Lib.hid ⟨by rw [hsx]; exact itoa_short HKV.out.1.lo HKV.out.1.hi, by rw [hsx, str_toList]; exact ascii_valid _ (itoa_ascii qn)⟩
          clear hsx
          obtain ⟨qx, hqx⟩ : ∃ qx, qx = str (quoteP sx.toList) := ⟨_, rfl⟩
          have HQT : Hid (∀ W, Calls Tryz.prog 62 #[.string sx] W (fun e w' => e = .returned (.string qx) ∧ Below W.heap.size W w')) := Lib.hid (fun W => by rw [hqx]; exact rquoted_any sx HSZ.out.2 (by have := HSZ.out.1; omega) W)
          have HNM : Hid (nameJ false ⟨false, qn, qt⟩ (commaJ j acc) = ((commaJ j acc) ++ qx.toList) ++ [58]) := Lib.hid (by unfold nameJ; rw [if_neg (by decide), HT.out, hqx, str_toList])
          have HNL : Hid ((commaJ j acc).length + qx.size + 1 ≤ 140737488300000) := Lib.hid (by have h2 := HXN.out.2; have h4 := name_len false ⟨false, qn, qt⟩ (commaJ j acc); have h5 := comma_len j acc; have h6 := congrArg List.length HNM.out; rw [List.length_append, List.length_append, size_toList] at h6; simp only [List.length_cons, List.length_nil] at h6; omega)
          clear hqx
          have R8 := HK
          rw [← HCJ.out] at R8
          go_wp2_with fail
          refine (HDG.out _).mono ?_
          rintro _ w4 ⟨rfl, hb4⟩
          have R4 := Lib.hid (R8.out.same hb4)
          clear hb4
          go_wp2_with fail
          refine (HQT.out _).mono ?_
          rintro _ w5 ⟨rfl, hb5⟩
          have R5 := Lib.hid (R4.out.same hb5)
          clear hb5
          have hrs : Hid ((commaJ j acc).length + qx.size ≤ 140737488355328) := Lib.hid (by have := HNL.out; omega)
          go_wp2_with (first | (at_builtin; refine wpList_append_str rfl (.tmp 89) (.tmp 91) 54 9 rfl 5 Tryz.underlying54 Tryz.underlying9 info5 _ (commaJ j acc) (by rfl) R5.out.own qx (by rfl) hrs.out ?_; intro v3 w3 o3 g3 n3; have R7 := R5.out.add (Below.refl _ _) o3 g3 n3; obtain ⟨a8, L8, c8, hv8⟩ := slice_of R7.own; subst hv8; have R6 := Lib.hid R7; clear o3 g3 n3 R7) | (at_builtin; refine wpList_append_rows rfl (.tmp 92) (.tmp 93) 54 rfl 5 _ 1 1 Tryz.underlying54 info5 rfl (by decide) _ (bRows (commaJ j acc ++ qx.toList)) (by rfl) (R6.out.owns (below_alloc1 _ _)) (some ⟨_, 0, none⟩) 1 1 ([[.int .u8 58]] : List (List Value)) (by rfl) rfl (fun e => by cases e) (lies_cells _ [.int .u8 58] 5) (by simp [Value.oneCell']) (by simp) (by rw [bRows_len, List.length_append, size_toList]; have := HNL.out; unfold maxLen; simp; omega) (by rw [bRows_len, List.length_append, size_toList]; have := HNL.out; simp; omega) ?_; intro v3 w3 o3 g3 n3; have R7 := R6.out.add (b := (commaJ j acc ++ qx.toList) ++ [58]) (below_alloc1 _ _) (by unfold OwnsB; rw [bRows_append]; exact o3) g3 n3; obtain ⟨a8, L8, c8, hv8⟩ := slice_of R7.own; subst hv8; have KQ := Lib.hid R7; clear o3 g3 n3 R7; obtain ⟨z0, z1, z2, z3, z4, z5, z6⟩ := HCEL.out _ (KQ.out.base HB0.out HF0.out); have y3 := (vb4 KQ.out.bx).2.2.2))
          rw [← HNM.out] at KQ
          refine (HI.out _ _ _ KQ.out.own (KQ.out.base HB0.out HF0.out) (KQ.out.fresh HB0.out HF0.out) (by have h2 := HXN.out.2; have h4 := name_len false ⟨false, qn, qt⟩ (commaJ j acc); have h5 := comma_len j acc; show _ ≤ 140737488300000; omega)).mono ?_
          rintro _ w9 ⟨b9, L9, c9, rfl, o9, g9, n9⟩
          have K9 := Lib.hid (KQ.out.add (Below.refl _ _) o9 g9 n9)
          clear o9 g9 n9
          go_wp2_with fail
          go_roundw
          case rel => exact ⟨j + 1, _, _, _, _, rfl, by go_num, HLT.out, Lib.hid (owns_len K9.out.own), K9, HNX⟩
          case measure => have := HLT.out; simp [intOf]; omega
        case true =>
          have HT : Hid (keyJ ⟨true, qn, qt⟩ = qt.toList) := Lib.hid rfl
          obtain ⟨qx, hqx⟩ : ∃ qx, qx = str (quoteP qt.toList) := ⟨_, rfl⟩
          have HQT : Hid (∀ W, Calls Tryz.prog 62 #[.string qt] W (fun e w' => e = .returned (.string qx) ∧ Below W.heap.size W w')) := Lib.hid (fun W => by rw [hqx]; exact rquoted_any qt HKV.out.2.1 HKV.out.2.2 W)
          have HNM : Hid (nameJ false ⟨true, qn, qt⟩ (commaJ j acc) = ((commaJ j acc) ++ qx.toList) ++ [58]) := Lib.hid (by unfold nameJ; rw [if_neg (by decide), HT.out, hqx, str_toList])
          have HNL : Hid ((commaJ j acc).length + qx.size + 1 ≤ 140737488300000) := Lib.hid (by have h2 := HXN.out.2; have h4 := name_len false ⟨true, qn, qt⟩ (commaJ j acc); have h5 := comma_len j acc; have h6 := congrArg List.length HNM.out; rw [List.length_append, List.length_append, size_toList] at h6; simp only [List.length_cons, List.length_nil] at h6; omega)
          clear hqx
          have R8 := HK
          rw [← HCJ.out] at R8
          go_wp2_with fail
          refine (HQT.out _).mono ?_
          rintro _ w5 ⟨rfl, hb5⟩
          have R5 := Lib.hid (R8.out.same hb5)
          clear hb5
          have hrs : Hid ((commaJ j acc).length + qx.size ≤ 140737488355328) := Lib.hid (by have := HNL.out; omega)
          go_wp2_with (first | (at_builtin; refine wpList_append_str rfl (.tmp 89) (.tmp 91) 54 9 rfl 5 Tryz.underlying54 Tryz.underlying9 info5 _ (commaJ j acc) (by rfl) R5.out.own qx (by rfl) hrs.out ?_; intro v3 w3 o3 g3 n3; have R7 := R5.out.add (Below.refl _ _) o3 g3 n3; obtain ⟨a8, L8, c8, hv8⟩ := slice_of R7.own; subst hv8; have R6 := Lib.hid R7; clear o3 g3 n3 R7) | (at_builtin; refine wpList_append_rows rfl (.tmp 92) (.tmp 93) 54 rfl 5 _ 1 1 Tryz.underlying54 info5 rfl (by decide) _ (bRows (commaJ j acc ++ qx.toList)) (by rfl) (R6.out.owns (below_alloc1 _ _)) (some ⟨_, 0, none⟩) 1 1 ([[.int .u8 58]] : List (List Value)) (by rfl) rfl (fun e => by cases e) (lies_cells _ [.int .u8 58] 5) (by simp [Value.oneCell']) (by simp) (by rw [bRows_len, List.length_append, size_toList]; have := HNL.out; unfold maxLen; simp; omega) (by rw [bRows_len, List.length_append, size_toList]; have := HNL.out; simp; omega) ?_; intro v3 w3 o3 g3 n3; have R7 := R6.out.add (b := (commaJ j acc ++ qx.toList) ++ [58]) (below_alloc1 _ _) (by unfold OwnsB; rw [bRows_append]; exact o3) g3 n3; obtain ⟨a8, L8, c8, hv8⟩ := slice_of R7.own; subst hv8; have KQ := Lib.hid R7; clear o3 g3 n3 R7; obtain ⟨z0, z1, z2, z3, z4, z5, z6⟩ := HCEL.out _ (KQ.out.base HB0.out HF0.out); have y3 := (vb4 KQ.out.bx).2.2.2))
          rw [← HNM.out] at KQ
          refine (HI.out _ _ _ KQ.out.own (KQ.out.base HB0.out HF0.out) (KQ.out.fresh HB0.out HF0.out) (by have h2 := HXN.out.2; have h4 := name_len false ⟨true, qn, qt⟩ (commaJ j acc); have h5 := comma_len j acc; show _ ≤ 140737488300000; omega)).mono ?_
          rintro _ w9 ⟨b9, L9, c9, rfl, o9, g9, n9⟩
          have K9 := Lib.hid (KQ.out.add (Below.refl _ _) o9 g9 n9)
          clear o9 g9 n9
          go_wp2_with fail
          go_roundw
          case rel => exact ⟨j + 1, _, _, _, _, rfl, by go_num, HLT.out, Lib.hid (owns_len K9.out.own), K9, HNX⟩
          case measure => have := HLT.out; simp [intOf]; omega
    · have hrx : R = acc := by
        rw [← HX.out.1]
        by_cases h1 : j < l.length
        · exact jrL_long _ _ _ _ (by have h0 := HLL.out; omega)
        · obtain rfl : j = l.length := by omega
          rw [List.drop_length, jrL]
      subst hrx
      have HB1 : Hid (Below wr.heap.size wr (wr.alloc (.cells #[.int .u8 125] 5))) := Lib.hid (below_alloc1 wr _)
      have hO : Hid (Owns (wr.alloc (.cells #[.int .u8 125] 5)) 5 1 (.slice vo L vc) (bRows R)) := Lib.hid (HK.out.owns HB1.out)
      have hL : Hid (Lies (wr.alloc (.cells #[.int .u8 125] 5)) 1 (some ⟨wr.heap.size, 0, none⟩) ([[.int .u8 125]] : List (List Value))) := Lib.hid (lies_cells wr [.int .u8 125] 5)
      have hr1 : Hid ((bRows R).length + ([[.int .u8 125]] : List (List Value)).length ≤ maxLen) := Lib.hid (by rw [bRows_len]; have : R.length ≤ 140737488340000 := (by have h := HLL.out; have := HLB.out; omega); unfold maxLen; simp; omega)
      have hr2 : Hid (((bRows R).length + ([[.int .u8 125]] : List (List Value)).length) * 1 ≤ 140737488355328) := Lib.hid (by rw [bRows_len]; have : R.length ≤ 140737488340000 := (by have h := HLL.out; have := HLB.out; omega); simp; omega)
      clear HX
      by_cases h1 : j < l.length
      · have hi : (j : Int) < (l.length : Int) := by omega
        have hL1 : (131072 : Int) < (L : Int) := by omega
        have hL2 : decide ((L : Int) ≤ 131072) = false := by simp; omega
        clear hgo h1
        go_wp2_with (at_builtin; refine wpList_append_rows rfl (.tmp 103) (.tmp 105) 54 rfl 5 _ 1 1 Tryz.underlying54 info5 rfl (by decide) (.slice vo L vc) (bRows R) (by rfl) hO.out (some ⟨wr.heap.size, 0, none⟩) 1 1 ([[.int .u8 125]] : List (List Value)) (by rfl) rfl (fun e => by cases e) hL.out (by simp [Value.oneCell']) (by simp) hr1.out (by have h := hr2.out; omega) ?_; intro v3 w3 o3 g3 n3; have R7 := HK.out.add (b := R ++ [125]) HB1.out (by unfold OwnsB; rw [bRows_append]; exact o3) g3 n3; obtain ⟨a8, L8, c8, hv8⟩ := slice_of R7.own; subst hv8; have R8 := Lib.hid R7; clear o3 g3 n3 R7)
        go_ret
        exact R8.out.post
      · obtain rfl : j = l.length := by omega
        clear hgo h1
        go_wp2_with (at_builtin; refine wpList_append_rows rfl (.tmp 103) (.tmp 105) 54 rfl 5 _ 1 1 Tryz.underlying54 info5 rfl (by decide) (.slice vo L vc) (bRows R) (by rfl) hO.out (some ⟨wr.heap.size, 0, none⟩) 1 1 ([[.int .u8 125]] : List (List Value)) (by rfl) rfl (fun e => by cases e) hL.out (by simp [Value.oneCell']) (by simp) hr1.out (by have h := hr2.out; omega) ?_; intro v3 w3 o3 g3 n3; have R7 := HK.out.add (b := R ++ [125]) HB1.out (by unfold OwnsB; rw [bRows_append]; exact o3) g3 n3; obtain ⟨a8, L8, c8, hv8⟩ := slice_of R7.own; subst hv8; have R8 := Lib.hid R7; clear o3 g3 n3 R7)
        go_ret
        exact R8.out.post
end
theorem rwrite_any (v : VT) : ∀ d, JW d v → KSm v → ∀ (w0 w : World) (u : Value) (a : Bs) (c : Value), OwnsB w 5 u a → Below w0.heap.size w0 w → (∀ g, u.ownBlock = some g → w0.heap.size ≤ g) → VIn w0 c v.xs → a.length + (jtV v).length ≤ LIMJ →
    Calls Tryz.prog 31 #[u, v.v c] w (WPost w u (jrV v a)) := by
  refine VT.ind (P := fun v => ∀ d, JW d v → KSm v → ∀ (w0 w : World) (u : Value) (a : Bs) (c : Value), OwnsB w 5 u a → Below w0.heap.size w0 w → (∀ g, u.ownBlock = some g → w0.heap.size ≤ g) → VIn w0 c v.xs → a.length + (jtV v).length ≤ LIMJ → Calls Tryz.prog 31 #[u, v.v c] w (WPost w u (jrV v a))) ?_ v
  intro k n t l ih d hw hk w0 w u a c h hb0 hf0 hv hl
  have hv : VIn w0 c l := hv
  obtain ⟨ao, cap, rfl, -⟩ := hv.form
  obtain ⟨uo, uc, rfl, -⟩ := OwnsB.any h
  show Calls Tryz.prog 31 #[.slice uo a.length uc, .agg #[.int .i64 k, .int .i64 n, .string t, .slice ao l.length cap]] w _
  have ha : a.length ≤ 140737488300000 := by have : a.length + _ ≤ 140737488300000 := hl; omega
  rw [jrV]
  cases hw with
  | nul => exact rwr_nul h 0 _ ao _ cap ha
  | bool _ n hn =>
    rcases hn with rfl | rfl
    · exact rwr_fal h _ ao _ cap ha
    · exact rwr_tru h _ ao _ cap ha
  | int _ n h0 h1 => exact rwr_int h n h0 h1 _ ao _ cap ha
  | text _ t hv1 hz =>
    have e : jtV (.mk 3 0 t []) = quoteP t.toList := by rw [jtV]; rfl
    rw [e] at hl
    exact rwr_text h 0 t hv1 (by omega) hl ao _ cap ha
  | list d n l once norm val sub =>
    obtain ⟨_, _, _, _, hks, hsub⟩ := hk
    rw [if_pos rfl]
    have hl : a.length + (openJ (rowP 0 l) :: (jtL (rowP 0 l) 0 l ++ [shutJ (rowP 0 l)])).length ≤ 140737488300000 := by rw [jtV, if_pos rfl] at hl; exact hl
    simp only [List.length_cons, List.length_append, List.length_nil] at hl
    have hI := fun x hx W v' a' c' h1 h2 h3 h4 h5 => ih x hx d (sub x hx) (hsub x hx) w0 W v' a' c' h1 h2 h3 h4 h5
    have hJ := fun x hx => (⟨norm x hx, val x hx, hks x hx⟩ : x.1.Norm ∧ Lib.validD x.1.t.toList = true ∧ x.1.t.size ≤ 1073741824)
    cases hp : rowP 0 l with
    | true => rw [hp] at hl; exact rwr_list_true h hb0 hf0 n _ l ao cap hv hJ hI hp (by show _ ≤ 140737488300000; omega)
    | false => rw [hp] at hl; exact rwr_list_false h hb0 hf0 n _ l ao cap hv hJ hI hp (by show _ ≤ 140737488300000; omega)
end Go.Proofs.YtnaefnojmiolbaaGreatDoor
