/-
  Heads whose blocks all lie above a line; the calls on them.
-/
import Derived.Test.YthnhpnmopjbaoaaDoorLineA11
import Derived.Test.YthnhpnmopjbaoaaDoorCookieA11
import Derived.Test.YthnhpnmopjbaoaaDoorSameT11
import Derived.Test.YthnhpnmopjbaoaaDoorAlive11
namespace Go.Proofs.YthnhpnmopjbaoaaDoor
open Go.RowKit

/-- One call of a script. -/
structure HA where
  kind : Int
  n : Int
  s : ByteArray
  t : ByteArray
  u : ByteArray
  r : Bool
def HA.cells (a : HA) : List Value := [.int .i64 a.kind, .string a.s, .string a.t, .string a.u, .bool a.r, .int .i64 a.n]
structure HA.Ok (a : HA) : Prop where
  s : a.s.size ≤ 1048576
  t : a.t.size ≤ 1048576
  u : a.u.size ≤ 1048576
  lo : -9223372036854775808 ≤ a.n
  hi : a.n ≤ 9223372036854775807
def kindOf (k : Int) : Int := (k.tmod 5 + 5).tmod 5
theorem kind_wrap {kind : Int} : wrap64 (kind.tmod 5 + 5) = kind.tmod 5 + 5 := by
  have t1 := Int.tmod_lt_of_pos kind (show (0 : Int) < 5 by omega)
  have t2 : -5 < kind.tmod 5 := Int.lt_tmod_of_pos kind (by omega)
  exact wr64 (by omega) (by omega)
theorem kind_range (k : Int) : 0 ≤ kindOf k ∧ kindOf k < 5 := by
  have t1 := Int.tmod_lt_of_pos k (show (0 : Int) < 5 by omega)
  have t2 : -5 < k.tmod 5 := Int.lt_tmod_of_pos k (by omega)
  have h1 : 0 ≤ (k.tmod 5 + 5).tmod 5 := Int.tmod_nonneg 5 (by omega)
  have h2 := Int.tmod_lt_of_pos (k.tmod 5 + 5) (show (0 : Int) < 5 by omega)
  exact ⟨h1, h2⟩
theorem ha_cells {W wr : World} {ao : Option Addr} {acts : List HA} {k : Nat} {B : Nat} (hl : Lies W 6 ao (acts.map HA.cells)) (hk : k < acts.length) (hb : Below W.heap.size W wr) (hB : B = W.heap.size) :
    ∃ g off, ao = some ⟨g, off, none⟩ ∧ g < B ∧ wr.cell? ⟨g, off + k * 6, none⟩ = some (.int .i64 acts[k].kind) ∧ wr.cell? ⟨g, off + k * 6 + 1, none⟩ = some (.string acts[k].s) ∧ wr.cell? ⟨g, off + k * 6 + 2, none⟩ = some (.string acts[k].t) ∧ wr.cell? ⟨g, off + k * 6 + 3, none⟩ = some (.string acts[k].u) ∧ wr.cell? ⟨g, off + k * 6 + 4, none⟩ = some (.bool acts[k].r) ∧ wr.cell? ⟨g, off + k * 6 + 5, none⟩ = some (.int .i64 acts[k].n) := by
  obtain ⟨g, off, e, hg, _, hc⟩ := hl k acts[k].cells (by simp [hk])
  have c0 := hc 0 _ rfl
  have c1 := hc 1 _ rfl
  have c2 := hc 2 _ rfl
  have c3 := hc 3 _ rfl
  have c4 := hc 4 _ rfl
  have c5 := hc 5 _ rfl
  rw [Nat.add_zero] at c0
  subst hB
  exact ⟨g, off, e, hg, (hb.cell (p := ⟨g, _, none⟩) hg).trans c0, (hb.cell (p := ⟨g, _, none⟩) hg).trans c1, (hb.cell (p := ⟨g, _, none⟩) hg).trans c2, (hb.cell (p := ⟨g, _, none⟩) hg).trans c3, (hb.cell (p := ⟨g, _, none⟩) hg).trans c4, (hb.cell (p := ⟨g, _, none⟩) hg).trans c5⟩
/-- Heads above a line. -/
structure HLive (B : Nat) (w : World) (h : Nat) (sent : Bool) (code : Int) (ls : List ByteArray) : Prop where
  above : B ≤ h
  is : ∃ v, HeadsIs w h sent code v ls ∧ ∀ g, v.ownBlock = some g → B ≤ g
section
variable {B : Nat} {w w' : World} {h : Nat} {sent : Bool} {code : Int} {ls : List ByteArray}
theorem HLive.lt (l : HLive B w h sent code ls) : h < w.heap.size := by obtain ⟨_, v, i, _⟩ := l; exact lt_of_block i.blk
theorem HLive.size (l : HLive B w h sent code ls) : B ≤ w.heap.size := Nat.le_of_lt (Nat.lt_of_le_of_lt l.above l.lt)
theorem HLive.len (l : HLive B w h sent code ls) : ls.length ≤ 64 := by obtain ⟨_, v, i, _⟩ := l; exact i.len
theorem HLive.range (l : HLive B w h sent code ls) : 100 ≤ code ∧ code ≤ 599 := by obtain ⟨_, v, i, _⟩ := l; exact ⟨i.lo, i.hi⟩
theorem HLive.below (l : HLive B w h sent code ls) (hb : Below w.heap.size w w') : HLive B w' h sent code ls := by
  obtain ⟨ha, v, i, hv⟩ := l
  exact ⟨ha, v, i.below hb, hv⟩
theorem HLive.mod {Z : Nat → Prop} (l : HLive B w h sent code ls) (m : Mod Z w w') (hz : ∀ k, B ≤ k → ¬ Z k) : HLive B w' h sent code ls := by
  obtain ⟨ha, v, i, hv⟩ := l
  exact ⟨ha, v, i.mod m (hz h ha) (fun g e => hz g (hv g e)), hv⟩
/-- What a call on heads above a line leaves. -/
def HLPost (B : Nat) (w : World) (h : Nat) (sent : Bool) (r : Value) (code : Int) (ls : List ByteArray) (e : Ending) (w' : World) : Prop := e = .returned r ∧ HLive B w' h sent code ls ∧ Below B w w' ∧ Mod (fun k => k = h) w w'
theorem HLive.next {v v' : Value} {sent' : Bool} {code' : Int} {ls' : List ByteArray} (ha : B ≤ h) (hh : h < w.heap.size) (hv : ∀ g, v.ownBlock = some g → B ≤ g) (i : HeadsIs w' h sent' code' v' ls') (m : Mod (fun k => k = h) w w') (n : v' = v ∨ ∀ g, v'.ownBlock = some g → w.heap.size ≤ g) :
    HLive B w' h sent' code' ls' ∧ Below B w w' ∧ Mod (fun k => k = h) w w' :=
  ⟨⟨ha, v', i, fun g e => by
    rcases n with rfl | n
    · exact hv g e
    · have := n g e; omega⟩, m.belowB (fun k hk e => by omega) (by omega), m⟩
theorem live_line (l : HLive B w h sent code ls) (ht : TabsR w) (hsz : Small ls) (s : ByteArray) (hs : s.size ≤ 140737488351232) (rep : Bool) (n : Int) :
    Calls Tryd.prog 30 #[.pointer (some ⟨h, 0, none⟩), .string s, .bool rep, .int .i64 n] w (HLPost B w h sent (.int .i64 (if sent then 17 else (lineP code ls s rep n).1)) (if sent then code else (lineP code ls s rep n).2.1) (if sent then ls else (lineP code ls s rep n).2.2)) := by
  have hlt := l.lt
  obtain ⟨ha, v, i, hv⟩ := l
  exact (line_any i ht hsz s hs rep n).mono fun e w' ⟨he, v', i', m, n'⟩ => ⟨he, HLive.next ha hlt hv i' m n'⟩
theorem live_status (l : HLive B w h sent code ls) (n : Int) : Calls Tryd.prog 33 #[.pointer (some ⟨h, 0, none⟩), .int .i64 n] w (HLPost B w h sent (.int .i64 (if sent then 17 else if 100 ≤ n ∧ n ≤ 599 then 0 else 1)) (if sent = false ∧ 100 ≤ n ∧ n ≤ 599 then n else code) ls) := by
  have hlt := l.lt
  obtain ⟨ha, v, i, hv⟩ := l
  exact (status_any i n).mono fun e w' ⟨he, i', m⟩ => ⟨he, HLive.next ha hlt hv i' m (.inl rfl)⟩
theorem live_cookie (l : HLive B w h sent code ls) (ht : Tabs w) (name value path : ByteArray) (age : Int) (hg0 : -9223372036854775808 ≤ age) (hg1 : age ≤ 9223372036854775807) (hn : name.size ≤ 2199023255552) (hval : value.size ≤ 2199023255552) (hp : path.size ≤ 2199023255552) :
    Calls Tryd.prog 34 #[.pointer (some ⟨h, 0, none⟩), .string name, .string value, .string path, .int .i64 age] w (HLPost B w h sent (.int .i64 (if sent then 17 else (cookieP ls name value path age).1)) code (if sent then ls else (cookieP ls name value path age).2)) := by
  have hlt := l.lt
  obtain ⟨ha, v, i, hv⟩ := l
  exact (cookie_any i ht name value path age hg0 hg1 hn hval hp).mono fun e w' ⟨he, v', i', m, n'⟩ => ⟨he, HLive.next ha hlt hv i' m n'⟩
theorem live_remove (l : HLive B w h sent code ls) (hsz : Small ls) (s : ByteArray) (hs : s.size ≤ 140737488351232) : Calls Tryd.prog 32 #[.pointer (some ⟨h, 0, none⟩), .string s] w (HLPost B w h sent (.int .i64 (if sent then 17 else 0)) code (if sent then ls else dropP (str (smallL s.toList)) ls)) := by
  have hlt := l.lt
  obtain ⟨ha, v, i, hv⟩ := l
  cases sent with
  | true => exact (remove_sent i s).mono fun e w' ⟨he, v', i', m, n'⟩ => ⟨he, HLive.next ha hlt hv i' m n'⟩
  | false => exact (remove_open i hsz s hs).mono fun e w' ⟨he, v', i', m, n'⟩ => ⟨he, HLive.next ha hlt hv i' m n'⟩
theorem live_send (l : HLive B w h sent code ls) : Calls Tryd.prog 25 #[.pointer (some ⟨h, 0, none⟩)] w (HLPost B w h true (.bool (!sent)) code ls) := by
  have hlt := l.lt
  obtain ⟨ha, v, i, hv⟩ := l
  exact (send_any i).mono fun e w' ⟨he, i', m⟩ => ⟨he, HLive.next ha hlt hv i' m (.inl rfl)⟩
theorem live_sent (l : HLive B w h sent code ls) : Calls Tryd.prog 29 #[.pointer (some ⟨h, 0, none⟩)] w fun e w' => e = .returned (.bool sent) ∧ w = w' := by
  obtain ⟨ha, v, i, hv⟩ := l
  exact sent_any i
theorem live_code (l : HLive B w h sent code ls) : Calls Tryd.prog 26 #[.pointer (some ⟨h, 0, none⟩)] w fun e w' => e = .returned (.int .i64 code) ∧ w = w' := by
  obtain ⟨ha, v, i, hv⟩ := l
  exact hcode_any i
theorem live_lines (l : HLive B w h sent code ls) : Calls Tryd.prog 27 #[.pointer (some ⟨h, 0, none⟩)] w (ClonePost w (ls.map sR)) := by
  obtain ⟨ha, v, i, hv⟩ := l
  exact lines_any i
theorem live_new (w : World) : Calls Tryd.prog 21 #[] w (HLPost w.heap.size w w.heap.size false (.pointer (some ⟨w.heap.size, 0, none⟩)) 200 []) :=
  (hnew_any w).mono fun e w' ⟨he, i, hb⟩ => ⟨he, ⟨Nat.le_refl _, _, i, fun g e => by simp [Value.ownBlock] at e⟩, hb, Mod.of_below hb⟩
end
/-- The texts of cookies are small. -/
theorem cookieT_size {name value path : ByteArray} {age : Int} (hn : name.size ≤ 1048576) (hv : value.size ≤ 1048576) (hp : path.size ≤ 1048576) (h0 : -9223372036854775808 ≤ age) (h1 : age ≤ 9223372036854775807) : (cookieT name value path age).size ≤ 16777216 := by
  have e1 := encP_len value.toList
  rw [size_toList] at e1
  have e2 := itoa_short h0 h1
  have e3 : (str (encP value.toList)).size = (encP value.toList).length := str_size _
  have a1 : ckA.size = 12 := rfl
  have a2 : ckM.size = 10 := rfl
  have a3 : ckP.size = 7 := rfl
  have a4 : (⟨#[61]⟩ : ByteArray).size = 1 := rfl
  unfold cookieT
  split <;> split <;> simp only [ByteArray.size_append, a1, a2, a3, a4, e3] <;> omega
theorem Small.drop {ls : List ByteArray} (h : Small ls) (x : ByteArray) : Small (dropP x ls) := fun s hs => h s (List.mem_filter.1 hs).1
theorem Small.snoc {ls : List ByteArray} (h : Small ls) {s : ByteArray} (hs : s.size ≤ 140737488351232) : Small (ls ++ [s]) := fun x hx => by
  rcases List.mem_append.1 hx with hx | hx
  · exact h x hx
  · simp at hx; subst hx; exact hs
theorem Small.line {ls : List ByteArray} (h : Small ls) {code : Int} {s : ByteArray} (hs : s.size ≤ 140737488351232) (rep : Bool) (n : Int) : Small (lineP code ls s rep n).2.2 := by
  unfold lineP
  split
  · exact h
  split
  · split <;> exact h
  split
  · exact h
  split
  · split
    · exact h
    · exact (h.drop _).snoc hs
  · split
    · exact h
    · exact h.snoc hs
theorem Small.cookie {ls : List ByteArray} (h : Small ls) {name value path : ByteArray} {age : Int} (hs : (cookieT name value path age).size ≤ 16777216) : Small (cookieP ls name value path age).2 := by
  unfold cookieP
  split
  · exact h
  split
  · exact h
  · exact h.snoc (by omega)
/-- What a call answers, and the heads behind it (of heads that are not sent). -/
def actP (code : Int) (ls : List ByteArray) (a : HA) : Int × Int × List ByteArray :=
  if kindOf a.kind = 0 then lineP code ls a.s a.r a.n
  else if kindOf a.kind = 1 then (if 100 ≤ a.n ∧ a.n ≤ 599 then (0, a.n, ls) else (1, code, ls))
  else if kindOf a.kind = 2 then ((cookieP ls a.s a.t a.u a.n).1, code, (cookieP ls a.s a.t a.u a.n).2)
  else if kindOf a.kind = 3 then (0, code, dropP (str (smallL a.s.toList)) ls)
  else (0, code, ls)
theorem Small.act {ls : List ByteArray} (h : Small ls) {code : Int} {a : HA} (ha : a.Ok) : Small (actP code ls a).2.2 := by
  unfold actP
  split
  · exact h.line (by have := ha.s; omega) _ _
  split
  · split <;> exact h
  split
  · exact h.cookie (cookieT_size ha.s ha.t ha.u ha.lo ha.hi)
  split
  · exact h.drop _
  · exact h
/-- Whatever is refused turns nothing. -/
theorem actP_refused {code : Int} {ls : List ByteArray} {a : HA} (h : (actP code ls a).1 ≠ 0) : (actP code ls a).2 = (code, ls) := by
  revert h
  unfold actP
  split
  · unfold lineP
    split
    · intro _; rfl
    split
    · split
      · intro _; rfl
      · intro h; exact absurd rfl h
    split
    · intro _; rfl
    split
    · split
      · intro _; rfl
      · intro h; exact absurd rfl h
    · split
      · intro _; rfl
      · intro h; exact absurd rfl h
  split
  · split
    · intro h; exact absurd rfl h
    · intro _; rfl
  split
  · unfold cookieP
    split
    · intro _; rfl
    split
    · intro _; rfl
    · intro h; exact absurd rfl h
  split
  · intro h; exact absurd rfl h
  · intro _; rfl
end Go.Proofs.YthnhpnmopjbaoaaDoor
