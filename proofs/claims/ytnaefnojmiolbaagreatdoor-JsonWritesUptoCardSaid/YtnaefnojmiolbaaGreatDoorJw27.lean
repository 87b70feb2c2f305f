/-
  JSON: a map of functions; the walks of the functions that a value is read by.
  Set on a list of the call's own at a key that is there; Append.
-/
import Derived.Test.YtnaefnojmiolbaaGreatDoorJw25
import Derived.Test.YtnaefnojmiolbaaGreatDoorJw26
import Derived.Test.YtnaefnojmiolbaaGreatDoorJw4
import Derived.Test.YtnaefnojmiolbaaGreatDoorJw5
import Derived.Test.YtnaefnojmiolbaaGreatDoorJw7
namespace Go.Proofs.YtnaefnojmiolbaaGreatDoor
open Go.RowKit Go.Shelf Go.Maps

attribute [local go_sem] yld_undef
/-- A function of the program with blocks bound to it; none: nil. -/
abbrev FnC := Option (Nat × List Nat)
def fnV : FnC → Value
  | none => .nilFunc
  | some (f, bs) => .func (.func f) #[] (bs.map fun b => Value.pointer (some ⟨b, 0, none⟩)).toArray
def fnD : FnC → DataW Unit
  | none => .nil
  | some (f, bs) => .agg (.lit (.int .i64 f) :: bs.map fun b : Nat => .lit (.int .i64 (b : Int)))
theorem ptrs_inj : ∀ {a b : List Nat}, (a.map fun b => Value.pointer (some ⟨b, 0, none⟩)) = (b.map fun b => Value.pointer (some ⟨b, 0, none⟩)) → a = b
  | [], [], _ => rfl
  | [], _ :: _, h => by simp at h
  | _ :: _, [], h => by simp at h
  | x :: a, y :: b, h => by
    simp only [List.map_cons, List.cons.injEq, Value.pointer.injEq, Option.some.injEq, Addr.mk.injEq, and_true] at h
    rw [h.1, ptrs_inj h.2]
theorem nums_inj : ∀ {a b : List Nat}, (a.map fun b : Nat => (DataW.lit (.int .i64 (b : Int)) : DataW Unit)) = (b.map fun b : Nat => DataW.lit (.int .i64 (b : Int))) → a = b
  | [], [], _ => rfl
  | [], _ :: _, h => by simp at h
  | _ :: _, [], h => by simp at h
  | x :: a, y :: b, h => by
    simp only [List.map_cons, List.cons.injEq, DataW.lit.injEq, Lit.int.injEq, true_and] at h
    rw [nums_inj h.2, show x = y by omega]
theorem fnV_inj {a b : FnC} (h : fnV a = fnV b) : a = b := by
  rcases a with _ | ⟨f, bs⟩ <;> rcases b with _ | ⟨g, cs⟩
  · rfl
  · cases h
  · cases h
  · simp only [fnV, Value.func.injEq, true_and] at h
    have h2 := ptrs_inj (List.toArray_inj h.2)
    have h1 := h.1
    injection h1 with h1
    rw [h1, h2]
theorem fnD_inj {a b : FnC} (h : fnD a = fnD b) : a = b := by
  rcases a with _ | ⟨f, bs⟩ <;> rcases b with _ | ⟨g, cs⟩
  · rfl
  · cases h
  · cases h
  · simp only [fnD, DataW.agg.injEq, List.cons.injEq, DataW.lit.injEq, Lit.int.injEq, true_and] at h
    rw [nums_inj h.2, show f = g by omega]
open Classical in
/-- A function's code. -/
noncomputable def peFn (v : Value) : Option (DataW Unit × List MemPlace) := if h : ∃ a, v = fnV a then some (fnD (Classical.choose h), []) else none
open Classical in
theorem pe_fn_ev (a : FnC) : peFn (fnV a) = some (fnD a, []) := by
  have h : ∃ b, fnV a = fnV b := ⟨a, rfl⟩
  unfold peFn
  rw [dif_pos h, ← fnV_inj (Classical.choose_spec h)]
open Classical in
theorem pe_fn_inv {v : Value} {a : FnC} {ps : List MemPlace} (h : peFn v = some (fnD a, ps)) : v = fnV a := by
  unfold peFn at h
  split at h
  · rename_i hv
    injection h with h
    injection h with h _
    rw [← fnD_inj h]
    exact Classical.choose_spec hv
  · cases h
theorem zero30 (w : World) : (zeroValue 30).run Tryz.prog w = .ok .nilFunc w := by kernel_rfl
theorem byte_wf (c : UInt8) : (Lit.int .u8 (c.toNat : Int)).wf = true := by
  have := c.toNat_lt
  have e1 : IntKind.u8.min = 0 := rfl
  have e2 : IntKind.u8.max = 255 := rfl
  simp [Lit.wf, e1, e2]
  omega
/-- map[byte]func() bool. -/
noncomputable def mBF : MSpec UInt8 FnC where
  M := 99
  k := 5
  e := 30
  kv := fun c => .int .u8 c.toNat
  kl := fun c => .int .u8 c.toNat
  good := fun _ => True
  keyed := int_keyed Tryz.underlying5
  und := Tryz.underlying99
  keyOf := fun c _ => keyOf_int_mk Tryz.underlying5 (byte_wf c)
  inj := fun c d _ _ h => by injection h with _ h; exact UInt8.toNat_inj.1 (by omega)
  ev := fnV
  ed := fnD
  ge := fun _ => True
  pe := peFn
  pe_ev := fun a _ => pe_fn_ev a
  pe_inv := fun _ _ _ h => pe_fn_inv h
  z := none
  gz := trivial
  zero := zero30
/-- What a call that reads a value leaves. -/
def JVOk (r vb : Nat) (s : ByteArray) (fw fa : Int) (a : VT × Nat × Nat) (e : Ending) (w' : World) : Prop :=
  e = .returned (.bool true) ∧ Jd w' r s a.2.1 a.2.2 fw fa ∧ ∃ co cc, w'.heap[vb]? = some (VB a.1 (.slice co a.1.xs.length cc)) ∧ VT64 w' (.slice co a.1.xs.length cc) a.1.xs
/-- The boxes of a reading: the reader's pointer, the value's, how deep. -/
structure JBox (w : World) (rb vx nb r vb : Nat) (n : Int) : Prop where
  rx : w.heap[rb]? = some (.cells #[.pointer (some ⟨r, 0, none⟩)] 65 (0, 0))
  vx : w.heap[vx]? = some (.cells #[.pointer (some ⟨vb, 0, none⟩)] 69 (0, 0))
  nx : w.heap[nb]? = some (.cells #[.int .i64 n] 3 (0, 0))
theorem JBox.under {w w' : World} {rb vx nb r vb : Nat} {n : Int} (h : JBox w rb vx nb r vb n) (hb : Below w.heap.size w w') : JBox w' rb vx nb r vb n :=
  ⟨(hb.block _ (lt_of_block h.rx)).trans h.rx, (hb.block _ (lt_of_block h.vx)).trans h.vx, (hb.block _ (lt_of_block h.nx)).trans h.nx⟩
theorem no64_vb {w : World} {vb : Nat} (h : VBlk w vb) {g : Nat} (e : g = vb) : ¬ B64 w g := by
  obtain ⟨a, b, c, d, hv⟩ := h
  rintro ⟨cs, fr, hc⟩
  rw [e, hv] at hc
  cases hc
theorem vt64_nil (w : World) : VT64 w (.slice none 0 0) [] := VAt.nil _ _ _ _
set_option maxRecDepth 100000 in
/-- A word's function is made. -/
theorem jword_make (t : ByteArray) (k n : Int) (tx : ByteArray) (vx rb : Nat) (w : World) :
    Calls Tryz.prog 65 #[.string t, .agg #[.int .i64 k, .int .i64 n, .string tx, .slice none 0 0], .pointer (some ⟨vx, 0, none⟩), .pointer (some ⟨rb, 0, none⟩)] w fun e w' =>
      e = .returned (.func (.func 66) #[] #[.pointer (some ⟨w.heap.size + 1, 0, none⟩), .pointer (some ⟨vx, 0, none⟩), .pointer (some ⟨rb, 0, none⟩), .pointer (some ⟨w.heap.size, 0, none⟩)]) ∧
      w' = (w.alloc (.cells #[.string t] 9)).alloc (.cells #[.int .i64 k, .int .i64 n, .string tx, .slice none 0 0] 24) := by
  go_enter Tryz.func65, Tryz.ntmps65
  go_wp2_with fail
  go_ret
  simp
set_option maxHeartbeats 1600000 in
set_option maxRecDepth 100000 in
/-- A word is read. -/
theorem jword_any (t : ByteArray) (hz : ∀ c ∈ t.toList, c ≠ 0) (ht : t.size ≤ 1000) (y : VT) (hy : y.xs = []) (wv sb : Nat) {w : World} {rb vx nb r vb : Nat} {n : Int} {s : ByteArray} {p m : Nat} {fw fa : Int} (h : Jd w r s p m fw fa) (hv : VBlk w vb) (hne : vb ≠ r) (h6 : 6 ≤ vb)
    (hb : JBox w rb vx nb r vb n) (hw : w.heap[wv]? = some (VB y (.slice none 0 0))) (hsb : w.heap[sb]? = some (.cells #[.string t] 9 (0, 0))) :
    Calls Tryz.prog 66 #[.pointer (some ⟨wv, 0, none⟩), .pointer (some ⟨vx, 0, none⟩), .pointer (some ⟨rb, 0, none⟩), .pointer (some ⟨sb, 0, none⟩)] w (JPost (JV2 r vb) w r s (jwordP s t.toList y p m) isFalse (JVOk r vb s fw fa)) := by
  obtain ⟨a0, a1, a2, a3, ha⟩ := hv
  obtain ⟨⟨k0, f0⟩, ⟨k1, f1⟩, ⟨k2, f2⟩, ⟨k3, f3⟩, hend, hmod⟩ := st4 ha (.int .i64 y.k) (.int .i64 y.n) (.string y.t) (.slice none 0 0)
  obtain ⟨v0, v1, v2, v3⟩ := vb_cells hw
  have x0 := cell_blk hb.vx 0
  have hbt : ∀ {b : Nat} {c : Array Value} {ty : TypeId}, w.heap[b]? = some (.cells c ty (0, 0)) → ty ≠ 24 → b ≠ vb := fun h1 h2 e => by rw [e, ha] at h1; cases h1; exact h2 rfl
  have r0 : (((((w.setCell ⟨vb, 0, none⟩ (.int .i64 y.k)).setCell ⟨vb, 1, none⟩ (.int .i64 y.n)).setCell ⟨vb, 2, none⟩ (.string y.t)).setCell ⟨vb, 3, none⟩ (.slice none 0 0)).cell? ⟨rb, 0, none⟩) = some (.pointer (some ⟨r, 0, none⟩)) := cell_blk (hmod.blk hb.rx (hbt hb.rx (by decide))) 0
  have s0 : (((((w.setCell ⟨vb, 0, none⟩ (.int .i64 y.k)).setCell ⟨vb, 1, none⟩ (.int .i64 y.n)).setCell ⟨vb, 2, none⟩ (.string y.t)).setCell ⟨vb, 3, none⟩ (.slice none 0 0)).cell? ⟨sb, 0, none⟩) = some (.string t) := cell_blk (hmod.blk hsb (hbt hsb (by decide))) 0
  have HJ := Lib.hid (h.put hne h6 hmod)
  have HE := Lib.hid (⟨hend, hmod⟩ : _ ∧ _)
  have HC := jmust_any t hz ht HJ.out
  obtain ⟨x, hx⟩ : ∃ x, x = mustP s t.toList p := ⟨_, rfl⟩
  unfold jwordP
  rw [← hx] at HC ⊢
  have HNE := Lib.hid hne
  have HY := Lib.hid hy
  clear h hb hw hsb hx hend hmod ha hbt hz ht
  go_enter Tryz.func66, Tryz.ntmps66
  go_wp2_with fail
  refine HC.mono ?_
  rintro e w2 hp
  rcases x with ⟨c, a⟩ | q
  · obtain ⟨⟨_, rfl, rfl⟩, ⟨p2, m2, hj2⟩, hm2⟩ := hp
    go_wp2_with fail
    go_ret
    exact ⟨⟨_, rfl, rfl⟩, ⟨_, _, hj2⟩, HE.out.2.j2.trans hm2.j1⟩
  · obtain ⟨⟨rfl, hj2⟩, hm2⟩ := hp
    go_wp2_with fail
    go_ret
    refine ⟨⟨rfl, hj2, none, 0, ?_, ?_⟩, HE.out.2.j2.trans hm2.j1⟩
    · rw [HY.out]
      exact hm2.blk HE.out.1 (fun e => HNE.out e)
    · rw [HY.out]
      exact vt64_nil _
set_option maxHeartbeats 1600000 in
set_option maxRecDepth 100000 in
/-- A text is read as a value. -/
theorem jstr_any {w : World} {rb vx nb r vb : Nat} {n : Int} {s : ByteArray} {p m : Nat} {fw fa : Int} (h : Jd w r s p m fw fa) (hv : VBlk w vb) (hne : vb ≠ r) (h6 : 6 ≤ vb) (hb : JBox w rb vx nb r vb n) (hrv : rb ≠ r) (hxv : vx ≠ r) :
    Calls Tryz.prog 71 #[.pointer (some ⟨rb, 0, none⟩), .pointer (some ⟨vx, 0, none⟩)] w (JPost (JV2 r vb) w r s (jstrP s p m) isFalse (JVOk r vb s fw fa)) := by
  have r0 := cell_blk hb.rx 0
  have HC := jtext_any h
  obtain ⟨x, hx⟩ : ∃ x, x = jtextP s p := ⟨_, rfl⟩
  unfold jstrP
  rw [← hx] at HC ⊢
  have H0 := Lib.hid (⟨hv, hb, hne, h6, hrv, hxv⟩ : _ ∧ _ ∧ _ ∧ _ ∧ _ ∧ _)
  clear h hx hv hb hne h6 hrv hxv
  go_enter Tryz.func71, Tryz.ntmps71
  go_wp2_with fail
  refine HC.mono ?_
  rintro e w2 hp
  obtain ⟨hv, hb, hne, h6, hrv, hxv⟩ := H0.out
  have key : ∀ (t : ByteArray), Mod (JF r) w w2 → w2.cell? ⟨vx, 0, none⟩ = some (.pointer (some ⟨vb, 0, none⟩)) ∧ ∃ a0 a1 a2 a3, w2.heap[vb]? = some (.cells #[a0, a1, a2, a3] 24 (0, 0)) := fun t hm => by
    obtain ⟨a0, a1, a2, a3, ha⟩ := hv.mod hm (fun e => hne e)
    exact ⟨cell_blk (hm.blk hb.vx (fun e => hxv e)) 0, a0, a1, a2, a3, ha⟩
  rcases x with ⟨c, a⟩ | ⟨l, q⟩
  · obtain ⟨⟨_, rfl, rfl⟩, ⟨p2, m2, hj2⟩, hm2⟩ := hp
    obtain ⟨x0, a0, a1, a2, a3, ha⟩ := key ⟨#[]⟩ hm2
    obtain ⟨⟨k0, f0⟩, ⟨k1, f1⟩, ⟨k2, f2⟩, ⟨k3, f3⟩, hend, hmod⟩ := st4 ha (.int .i64 3) (.int .i64 0) (.string ⟨#[]⟩) (.slice none 0 0)
    have HE := Lib.hid (⟨hj2.put hne h6 hmod, hm2.j1.trans hmod.j2⟩ : _ ∧ _)
    clear hv hb hne h6 hrv hxv key ha hend hmod hj2 hm2
    go_wp2_with fail
    go_ret
    exact ⟨⟨_, rfl, rfl⟩, ⟨_, _, HE.out.1⟩, HE.out.2⟩
  · obtain ⟨⟨rfl, hj2⟩, hm2⟩ := hp
    obtain ⟨x0, a0, a1, a2, a3, ha⟩ := key (str l) hm2
    obtain ⟨⟨k0, f0⟩, ⟨k1, f1⟩, ⟨k2, f2⟩, ⟨k3, f3⟩, hend, hmod⟩ := st4 ha (.int .i64 3) (.int .i64 0) (.string (str l)) (.slice none 0 0)
    have HE := Lib.hid (⟨hj2.put hne h6 hmod, hm2.j1.trans hmod.j2, hend⟩ : _ ∧ _ ∧ _)
    clear hv hb hne h6 hrv hxv key ha hend hmod hj2 hm2
    go_wp2_with fail
    go_ret
    exact ⟨⟨rfl, HE.out.1, none, 0, HE.out.2.2, vt64_nil _⟩, HE.out.2.1⟩
end Go.Proofs.YtnaefnojmiolbaaGreatDoor

namespace Go.Proofs.YtnaefnojmiolbaaGreatDoor
open Go.RowKit

abbrev put4 (w : World) (g o : Nat) (a3 a4 a5 a6 : Value) : World :=
  (((w.setCell ⟨g, o + 3, none⟩ a3).setCell ⟨g, o + 3 + 1, none⟩ a4).setCell ⟨g, o + 3 + 2, none⟩ a5).setCell ⟨g, o + 3 + 3, none⟩ a6
theorem put4_mod {w : World} {g o : Nat} {a3 a4 a5 a6 : Value} : Mod (fun k => k = g) w (put4 w g o a3 a4 a5 a6) :=
  ((((Mod.refl (fun k => k = g) w).setCell _ _ (fun _ => rfl)).setCell _ _ (fun _ => rfl)).setCell _ _ (fun _ => rfl)).setCell _ _ (fun _ => rfl)
theorem owns_put4 {w : World} {ty : TypeId} {g n cap j : Nat} {A C : List (List Value)} {z0 z1 z2 z3 z4 z5 z6 : Value} (o : Owns w ty 7 (.slice (some ⟨g, 0, none⟩) n cap) (A ++ [z0, z1, z2, z3, z4, z5, z6] :: C)) (hn : A.length = j) (a3 a4 a5 a6 : Value)
    (h1 : ∀ u ∈ [a3, a4, a5, a6], u.oneCell' = true) : Owns (put4 w g (j * 7) a3 a4 a5 a6) ty 7 (.slice (some ⟨g, 0, none⟩) n cap) (A ++ [z0, z1, z2, a3, a4, a5, a6] :: C) := by
  have hrl : ∀ r ∈ A, r.length = 7 := fun r hr => o.len r (by simp [hr])
  have hfl : A.flatten.length = j * 7 := by rw [flatten_length 7 A hrl, hn]
  have hr := o.row
  rw [List.flatten_append, List.flatten_cons] at hr
  have hlen : (A ++ [z0, z1, z2, a3, a4, a5, a6] :: C).length = (A ++ [z0, z1, z2, z3, z4, z5, z6] :: C).length := by simp
  have hnn : n = (A ++ [z0, z1, z2, z3, z4, z5, z6] :: C).length := by
    obtain ⟨ao, cap', hv, _⟩ := o.any
    cases hv; rfl
  subst hnn
  obtain ⟨s3, -⟩ := hr.stored (j * 7 + 3) a3
  obtain ⟨s4, -⟩ := s3.stored (j * 7 + 3 + 1) a4
  obtain ⟨s5, -⟩ := s4.stored (j * 7 + 3 + 2) a5
  obtain ⟨s6, -⟩ := s5.stored (j * 7 + 3 + 3) a6
  have e : ((((A.flatten ++ ([z0, z1, z2, z3, z4, z5, z6] ++ C.flatten)).set (j * 7 + 3) a3).set (j * 7 + 3 + 1) a4).set (j * 7 + 3 + 2) a5).set (j * 7 + 3 + 3) a6 = A.flatten ++ ([z0, z1, z2, a3, a4, a5, a6] ++ C.flatten) := by
    rw [← hfl]
    show ((((A.flatten ++ ([z0, z1, z2, z3, z4, z5, z6] ++ C.flatten)).set (A.flatten.length + 3) a3).set (A.flatten.length + 4) a4).set (A.flatten.length + 5) a5).set (A.flatten.length + 6) a6 = _
    simp
  rw [e] at s6
  refine ⟨by rw [List.flatten_append, List.flatten_cons, hlen]; exact s6, fun r hr' => ?_, fun r hr' => ?_⟩
  · rcases List.mem_append.1 hr' with h | h
    · exact hrl r h
    · rcases List.mem_cons.1 h with rfl | h
      · rfl
      · exact o.len r (by simp [h])
  · rcases List.mem_append.1 hr' with h | h
    · exact o.one r (by simp [h])
    · rcases List.mem_cons.1 h with rfl | h
      · intro u hu
        have hz := o.one [z0, z1, z2, z3, z4, z5, z6] (by simp)
        simp only [List.mem_cons, List.not_mem_nil, or_false] at hu
        rcases hu with rfl | rfl | rfl | rfl | rfl | rfl | rfl
        · exact hz _ (by simp)
        · exact hz _ (by simp)
        · exact hz _ (by simp)
        · exact h1 _ (by simp)
        · exact h1 _ (by simp)
        · exact h1 _ (by simp)
        · exact h1 _ (by simp)
      · exact o.one r (by simp [h])
theorem rows2_split {ys : List It2} {j : Nat} (hj : j < ys.length) : rows2 ys = rows2 (ys.take j) ++ itCells ys[j].1 ys[j].2 :: rows2 (ys.drop (j + 1)) := by
  have : ys = ys.take j ++ ys[j] :: ys.drop (j + 1) := by rw [← List.drop_eq_getElem_cons hj, List.take_append_drop]
  have e := congrArg rows2 this
  rw [e]
  simp only [rows2, List.map_append, List.map_cons]
theorem rows2_set {ys : List It2} {j : Nat} (hj : j < ys.length) (y : It2) : rows2 (ys.set j y) = rows2 (ys.take j) ++ itCells y.1 y.2 :: rows2 (ys.drop (j + 1)) := by
  rw [List.set_eq_take_append_cons_drop, if_pos hj]
  simp [rows2]
theorem placeF_set {xs : List It} {j : Nat} (hj : j < xs.length) (v : VT) : placeF (xs.set j (xs[j].1, v)) = placeF xs := by
  funext k
  unfold placeF
  rw [findK_set k hj]
set_option maxRecDepth 100000 in
set_option maxHeartbeats 3200000 in
theorem set_old {b : Nat} {v : Value} {mb : Nat} {l : LS} {ys : List It2} {k : K} {x : VT} {co : Option Addr} {cm cc j : Nat} (hk : k.Good) (hf : findK k.norm l.xs = some j) (w : World) (ht : Tabs w) (i : LIs w b v mb l ys) (hx : VT64 w (.slice co cm cc) x.xs) :
    Calls Tryz.prog 126 #[.pointer (some ⟨b, 0, none⟩), k.v, x.v (.slice co cm cc)] w (PutPost w b v mb (.int .i64 0) ⟨l.xs.set j (k.norm, x), l.nx⟩ (ys.set j ((k.norm, x), .slice co cm cc))) := by
  have hN := (K.norm_is hk).toGood
  have hNN := K.norm_is hk
  have hj := findK_lt hf
  obtain ⟨q, hq⟩ : ∃ q, q = k.norm := ⟨_, rfl⟩
  have HN : ∀ w, Tabs w → Calls Tryz.prog 80 #[.agg #[.bool k.b, .int .i64 k.n, .string k.t]] w fun e w' => e = .returned (.agg #[.bool q.b, .int .i64 q.n, .string q.t]) ∧ Below w.heap.size w w' := fun w h => by rw [hq]; exact norm_any k hk w h
  rw [← hq] at hN hf hNN ⊢
  obtain ⟨ao, cap, hv, -⟩ := i.own.any
  rw [rows2_len, i.len] at hv
  subst hv
  have A0 : InT w ((w.alloc (KB k.b k.n k.t)).alloc (VB x (.slice co cm cc))) b _ mb l ys w.heap.size k x (.slice co cm cc) := ⟨ht, i.under (at2_start w _ _).below, (at2_start w _ _).a, (at2_start w _ _).b, VT64.under hx (at2_start w _ _).below, (at2_start w _ _).below⟩
  have c0 := (cells5 A0.lst.blk).1
  have HF := Lib.hid (⟨hN, hf, fun j h => i.lt (k := j) h⟩ : _ ∧ _ ∧ _)
  have HNN := Lib.hid (⟨hNN, i.ok⟩ : _ ∧ _)
  have AH := Lib.hid A0
  have HJ := Lib.hid hj
  have hj' : (j : Int) < (l.xs.length : Int) := by omega
  clear i ht hk hN hNN hf hq A0 hx
  unfold K.v VT.v
  go_enter Tryz.func126, Tryz.ntmps126
  go_wp2_with (go_at_call 128; refine (lok_any _ _ _ c0).mono ?_; rintro e w' ⟨rfl, rfl⟩)
  refine (HN _ AH.out.tabsW).mono ?_; rintro e w1 ⟨rfl, hb⟩; have A1 := Lib.hid (AH.out.mono hb); clear AH hb HN c0
  obtain ⟨f0, f1, f2⟩ := free3 A1.out.key
  obtain ⟨a0, a1, a2⟩ := cells3 A1.out.key
  have A2 := A1.out.store (Nat.le_refl _) HF.out.2.2 q
  go_wp2_with fail
  clear f0 f1 f2 a0 a1 a2
  have A3 := Lib.hid (A2.mono (belowD (Below.refl _ _)))
  have HS0 := Lib.hid (A3.out.sy HF.out.1 HF.out.2.1)
  go_region_held3 (fun W => W.cell? ⟨b, 3, none⟩ = some (.map (some mb)) ∧ W.cell? ⟨w.heap.size, 0, none⟩ = some (.bool q.b) ∧ W.cell? ⟨w.heap.size, 1, none⟩ = some (.int .i64 q.n) ∧ W.cell? ⟨w.heap.size, 2, none⟩ = some (.string q.t) ∧ (Instr.lookup 158 (.map (some mb)) (.agg #[.bool q.b, .int .i64 q.n, .string q.t]) true).run Tryz.prog W = .ok (.tuple #[.int .i64 j, .bool true]) W)
    (first
      | exact HS0.out)
    (fail)
  generalize hW3 : World.drew _ = W3 at A3 HS0 ⊢
  clear hW3 A1 A2 HS0
  rename_i hHeld
  clear hHeld
  obtain ⟨c0, c1, c2, c3, c4⟩ := cells5 A3.out.lst.blk
  go_wp2_with fail
  refine (own_free _ A3.out.lst).mono ?_; rintro e w4 ⟨rfl, rfl⟩
  clear c0 c1 c2 c3 c4
  have A4 := Lib.hid (A3.out.mono (belowD (Below.refl _ W3)))
  have hyl := A4.out.lst.len
  have hjy : j < ys.length := by rw [hyl]; exact HJ.out
  obtain ⟨gg, cap', hvv, hlc, hcm, hgl, -, -, -, p3, p4, p5, p6⟩ := A4.out.lst.item hjy
  obtain ⟨rfl, rfl⟩ : ao = some ⟨gg, 0, none⟩ ∧ cap = cap' := by
    injection hvv with h1 _ h3
    exact ⟨h1, h3⟩
  have q3 : W3.frozen? ⟨gg, j * 7 + 3, none⟩ = false := A4.out.lst.own.free (g := gg) rfl (j * 7 + 3)
  have q4 : W3.frozen? ⟨gg, j * 7 + 3 + 1, none⟩ = false := A4.out.lst.own.free (g := gg) rfl (j * 7 + 4)
  have q5 : W3.frozen? ⟨gg, j * 7 + 3 + 2, none⟩ = false := A4.out.lst.own.free (g := gg) rfl (j * 7 + 5)
  have q6 : W3.frozen? ⟨gg, j * 7 + 3 + 3, none⟩ = false := A4.out.lst.own.free (g := gg) rfl (j * 7 + 6)
  have r3 : W3.cell? ⟨gg, j * 7 + 3, none⟩ = some (.int .i64 ys[j].1.2.k) := p3
  have r4 : W3.cell? ⟨gg, j * 7 + 3 + 1, none⟩ = some (.int .i64 ys[j].1.2.n) := p4
  have r5 : W3.cell? ⟨gg, j * 7 + 3 + 2, none⟩ = some (.string ys[j].1.2.t) := p5
  have r6 : W3.cell? ⟨gg, j * 7 + 3 + 3, none⟩ = some ys[j].2 := p6
  clear p3 p4 p5 p6
  have hgb : gg ≠ b := fun e => A4.out.lst.ne1 (by rw [e]; rfl)
  have hgm : mb ≠ gg := fun e => A4.out.lst.ne3 (by rw [e]; rfl)
  have hgB : gg < w.heap.size := HF.out.2.2 gg (.inr (.inl rfl))
  have S0 : ∀ W : World, W.heap[b]? = W3.drew.heap[b]? → W.heap[w.heap.size + 1]? = W3.drew.heap[w.heap.size + 1]? → W.cell? ⟨b, 2, none⟩ = some (.slice (some ⟨gg, 0, none⟩) l.xs.length cap) ∧ W.cell? ⟨w.heap.size + 1, 0, none⟩ = some (.int .i64 x.k) ∧ W.cell? ⟨w.heap.size + 1, 1, none⟩ = some (.int .i64 x.n) ∧ W.cell? ⟨w.heap.size + 1, 2, none⟩ = some (.string x.t) ∧ W.cell? ⟨w.heap.size + 1, 3, none⟩ = some (.slice co cm cc) := fun W e1 e2 => by
    have t := vb_cells (e2.trans A4.out.val)
    exact ⟨(cells5 (e1.trans A4.out.lst.blk)).2.2.1, t.1, t.2.1, t.2.2.1, t.2.2.2⟩
  have HG := Lib.hid (⟨hgb, hgm, hgB, hjy⟩ : _ ∧ _ ∧ _ ∧ _)
  have M9 : Mod (fun k => k = gg) W3.drew (put4 W3.drew gg (j * 7) (.int .i64 x.k) (.int .i64 x.n) (.string x.t) (.slice co cm cc)) := put4_mod
  have HS0 := Lib.hid (S0 W3.drew rfl rfl)
  have HS9 := Lib.hid (S0 _ (M9.block b (lt_of_block A4.out.lst.blk) (fun e => hgb e.symm)) (M9.block _ (lt_of_block A4.out.val) (fun e => by omega)))
  clear hvv hlc hcm hgl hgb hgm hgB S0 M9
  go_wp2_with fail
  refine wp_region_noPanic ?_
  refine wp_region_held_drew (S := (fun W => W.cell? ⟨b, 2, none⟩ = some (.slice (some ⟨gg, 0, none⟩) l.xs.length cap) ∧ W.cell? ⟨w.heap.size + 1, 0, none⟩ = some (.int .i64 x.k) ∧ W.cell? ⟨w.heap.size + 1, 1, none⟩ = some (.int .i64 x.n) ∧ W.cell? ⟨w.heap.size + 1, 2, none⟩ = some (.string x.t) ∧ W.cell? ⟨w.heap.size + 1, 3, none⟩ = some (.slice co cm cc))) (by kernel_rfl) (by exact HS0.out) (fun hHeld => ?_)
  refine wpAnyH_take (i := 0) (oi := ?oa0) (v := ?va0) ?hia0 (by kernel_rfl) (by kernel_rfl) (by kernel_rfl) (fun _ _ _ h => h) ?hya0 (by assumption) ?resta0
  case hia0 => simp only [gA, gZ]; rfl
  case hya0 =>
    refine Or.inl ⟨by rfl, ?_⟩
    intro w hSw; (try dsimp only at hSw); go_simp <;> (with_reducible rfl)
  (try simp only [Act.put, pA, pZ, pS])
  refine wpAnyH_take (i := 1) (oi := ?oa1) (v := ?va1) ?hia1 (by kernel_rfl) (by kernel_rfl) (by kernel_rfl) (fun _ _ _ h => h) ?hya1 (by assumption) ?resta1
  case hia1 => simp only [gA, gS, gZ]; rfl
  case hya1 =>
    refine Or.inl ⟨by rfl, ?_⟩
    intro w hSw; (try dsimp only at hSw); go_simp <;> (with_reducible rfl)
  (try simp only [Act.put, pA, pZ, pS])
  refine wpAnyH_take (i := 2) (oi := ?oa2) (v := ?va2) ?hia2 (by kernel_rfl) (by kernel_rfl) (by kernel_rfl) (fun _ _ _ h => h) ?hya2 (by assumption) ?resta2
  case hia2 => simp only [gA, gS, gZ]; rfl
  case hya2 =>
    refine Or.inl ⟨by rfl, ?_⟩
    intro w hSw; (try dsimp only at hSw); go_simp <;> (with_reducible rfl)
  (try simp only [Act.put, pA, pZ, pS])
  refine wpAnyH_take (i := 3) (oi := ?oa3) (v := ?va3) ?hia3 (by kernel_rfl) (by kernel_rfl) (by kernel_rfl) (fun _ _ _ h => h) ?hya3 (by assumption) ?resta3
  case hia3 => simp only [gA, gS, gZ]; rfl
  case hya3 =>
    refine Or.inl ⟨by rfl, ?_⟩
    intro w hSw; (try dsimp only at hSw); go_simp <;> (with_reducible rfl)
  (try simp only [Act.put, pA, pZ, pS])
  refine wpAnyH_take (i := 4) (oi := ?oa4) (v := ?va4) ?hia4 (by kernel_rfl) (by kernel_rfl) (by kernel_rfl) (fun _ _ _ h => h) ?hya4 (by assumption) ?resta4
  case hia4 => simp only [gA, gS, gZ]; rfl
  case hya4 =>
    refine Or.inl ⟨by rfl, ?_⟩
    intro w hSw; (try dsimp only at hSw); go_simp <;> (with_reducible rfl)
  (try simp only [Act.put, pA, pZ, pS])
  refine wpAnyH_take (i := 5) (oi := ?oa5) (v := ?va5) ?hia5 (by kernel_rfl) (by kernel_rfl) (by kernel_rfl) (fun _ _ _ h => h) ?hya5 (by assumption) ?resta5
  case hia5 => simp only [gA, gS, gZ]; rfl
  case hya5 =>
    refine Or.inl ⟨by rfl, ?_⟩
    intro w hSw; (try dsimp only at hSw); go_simp <;> (with_reducible rfl)
  (try simp only [Act.put, pA, pZ, pS])
  refine wpAnyH_take (i := 6) (oi := ?oa6) (v := ?va6) ?hia6 (by kernel_rfl) (by kernel_rfl) (by kernel_rfl) (fun _ _ _ h => h) ?hya6 (by assumption) ?resta6
  case hia6 => simp only [gA, gS, gZ]; rfl
  case hya6 =>
    refine Or.inl ⟨by rfl, ?_⟩
    intro w hSw; (try dsimp only at hSw); go_simp <;> (with_reducible rfl)
  (try simp only [Act.put, pA, pZ, pS])
  refine wpAnyH_take (i := 7) (oi := ?oa7) (v := ?va7) ?hia7 (by kernel_rfl) (by kernel_rfl) (by kernel_rfl) (fun _ _ _ h => h) ?hya7 (by assumption) ?resta7
  case hia7 => simp only [gA, gS, gZ]; rfl
  case hya7 =>
    refine Or.inl ⟨by rfl, ?_⟩
    intro w hSw; (try dsimp only at hSw); go_simp <;> (with_reducible rfl)
  (try simp only [Act.put, pA, pZ, pS])
  refine wpAnyH_ready (rs := [8]) (by kernel_rfl) (by simp) ?_
  refine AllReadyH.cons rfl (fun K hK => ?_) AllReadyH.nil
  go_simp
  skip
  refine hK.out _ _ HS9.out (fun hHelda8 => ?_)
  clear hK K
  (try simp only [Act.put, pA, pZ, pS])
  refine wpAnyH_done (by kernel_rfl) ?_ _
  refine NoPanic.normal ?_
  go_wp2_with fail
  go_ret
  have M9 : Mod (fun k => k = gg) W3.drew (put4 W3.drew gg (j * 7) (.int .i64 x.k) (.int .i64 x.n) (.string x.t) (.slice co cm cc)) := put4_mod
  obtain ⟨hgb, hgm, hgB, hjy⟩ := HG.out
  have L4 := A4.out.lst
  have hfst : (ys[j]).1 = l.xs[j]'HJ.out := by
    have := L4.fst
    simp only [← this, List.getElem_map]
  have hkq : (l.xs[j]'HJ.out).1 = q := findK_at HF.out.2.1
  have hset : l.xs.set j (q, x) = l.xs.set j ((l.xs[j]'HJ.out).1, x) := by rw [hkq]
  have hok : (⟨l.xs.set j (q, x), l.nx⟩ : LS).Ok := by
    have h := setN_ok (v := x) HNN.out.1 HNN.out.2
    unfold setN at h
    rw [HF.out.2.1] at h
    exact h
  have h64 : ∀ g, g = gg → ¬ B64 W3.drew g := fun g e => L4.no64 (.inr (.inl (by rw [e]; rfl)))
  have hown : Owns (put4 W3.drew gg (j * 7) (.int .i64 x.k) (.int .i64 x.n) (.string x.t) (.slice co cm cc)) 167 7 (.slice (some ⟨gg, 0, none⟩) l.xs.length cap) (rows2 (ys.set j ((q, x), .slice co cm cc))) := by
    have o := L4.own
    rw [rows2_split hjy] at o
    have e := owns_put4 (j := j) o (by rw [rows2_len, List.length_take]; omega) (.int .i64 x.k) (.int .i64 x.n) (.string x.t) (.slice co cm cc) (by simp [Value.oneCell'])
    rw [rows2_set hjy]
    rw [hfst, hkq] at e
    exact e
  refine ⟨rfl, _, ⟨?_, hown, ?_, L4.ne1, L4.ne2, L4.ne3, hok, ?_, ?_⟩, ?_, .inl rfl⟩
  · exact M9.blk L4.blk (fun e => hgb e.symm)
  · rw [hset, placeF_set HJ.out, List.length_set]
    exact L4.map.kept (M9.block _ L4.map.lt hgm)
  · rw [List.map_set, L4.fst]
  · intro y hy
    rcases List.mem_or_eq_of_mem_set hy with hy | rfl
    · exact VT64.mod (L4.val y hy) M9 h64
    · exact VT64.mod A4.out.vat M9 h64
  · exact (Mod.of_below (F := LFoot b (.slice (some ⟨gg, 0, none⟩) l.xs.length cap) mb) A4.out.below).trans' M9 (fun k _ e => .inr (.inl (by rw [show k = gg from e]; rfl)))
/-- What was put into a list, and how the list stands. -/
def setYs (k : K) (x : VT) (c : Value) (l : LS) (ys : List It2) : List It2 := match findK k l.xs with
  | some i => ys.set i ((k, x), c)
  | none => ys ++ [((k, x), c)]
theorem set_any {b : Nat} {v : Value} {mb : Nat} {l : LS} {ys : List It2} {k : K} {x : VT} {co : Option Addr} {cm cc : Nat} (hk : k.Good) (hl : l.xs.length < 2048) (w : World) (ht : Tabs w) (i : LIs w b v mb l ys) (hx : VT64 w (.slice co cm cc) x.xs) :
    Calls Tryz.prog 126 #[.pointer (some ⟨b, 0, none⟩), k.v, x.v (.slice co cm cc)] w (PutPost w b v mb (.int .i64 0) (setP k x l).2 (setYs k.norm x (.slice co cm cc) l ys)) := by
  cases hf : findK k.norm l.xs with
  | some j =>
    have := set_old hk hf w ht i hx
    unfold setP setN setYs
    rw [hf]
    exact this
  | none =>
    have := set_new hk hf hl w ht i hx
    unfold setP setN setYs
    rw [hf]
    simp only
    rw [if_neg (by omega)]
    exact this
set_option maxRecDepth 100000 in
set_option maxHeartbeats 1600000 in
theorem lappend_any {b : Nat} {v : Value} {mb : Nat} {l : LS} {ys : List It2} {x : VT} {co : Option Addr} {cm cc : Nat} (hn : 0 ≤ l.nx) (hl : l.xs.length < 2048) (w : World) (ht : Tabs w) (i : LIs w b v mb l ys) (hx : VT64 w (.slice co cm cc) x.xs) :
    Calls Tryz.prog 127 #[.pointer (some ⟨b, 0, none⟩), x.v (.slice co cm cc)] w (PutPost w b v mb (.tuple #[K.v ⟨false, l.nx, ⟨#[]⟩⟩, .int .i64 0]) (setP ⟨false, l.nx, ⟨#[]⟩⟩ x l).2 (setYs (K.mk false l.nx ⟨#[]⟩).norm x (.slice co cm cc) l ys)) := by
  have hbl := lt_of_block i.blk
  have hb3 : Below w.heap.size w (((w.alloc (VB x (.slice co cm cc))).alloc (KB false 0 ⟨#[]⟩)).alloc (KB false l.nx ⟨#[]⟩)) := ((below_alloc1 w _).alloc (by simp) _).alloc (by simp; omega) _
  have hb2 : Below w.heap.size w ((w.alloc (VB x (.slice co cm cc))).alloc (KB false 0 ⟨#[]⟩)) := (below_alloc1 w _).alloc (by simp) _
  have hg : (K.mk false l.nx ⟨#[]⟩).Good := ⟨by show _ ≤ l.nx; omega, i.ok.hi, by show (⟨#[]⟩ : ByteArray).size ≤ _; decide⟩
  have HS : ∀ W, Tabs W → LIs W b v mb l ys → VT64 W (.slice co cm cc) x.xs → Calls Tryz.prog 126 #[.pointer (some ⟨b, 0, none⟩), .agg #[.bool false, .int .i64 l.nx, .string ⟨#[]⟩], .agg #[.int .i64 x.k, .int .i64 x.n, .string x.t, .slice co cm cc]] W (PutPost W b v mb (.int .i64 0) (setP ⟨false, l.nx, ⟨#[]⟩⟩ x l).2 (setYs (K.mk false l.nx ⟨#[]⟩).norm x (.slice co cm cc) l ys)) := fun W hT hL hX => set_any hg hl W hT hL hX
  obtain ⟨c0, c1, c2, c3, c4⟩ := cells5 (i.under hb2).blk
  have g0 : decide (l.nx < 0) = false := by simp; omega
  have hC : (((w.alloc (VB x (.slice co cm cc))).alloc (KB false 0 ⟨#[]⟩)).alloc (KB false l.nx ⟨#[]⟩)).heap[w.heap.size + 1]? = some (KB false 0 ⟨#[]⟩) := alloc_blk (by have h := heap_alloc_new (w.alloc (VB x (.slice co cm cc))) (KB false 0 ⟨#[]⟩); simpa using h) _
  have hD : (((w.alloc (VB x (.slice co cm cc))).alloc (KB false 0 ⟨#[]⟩)).alloc (KB false l.nx ⟨#[]⟩)).heap[w.heap.size + 2]? = some (KB false l.nx ⟨#[]⟩) := by have h := heap_alloc_new ((w.alloc (VB x (.slice co cm cc))).alloc (KB false 0 ⟨#[]⟩)) (KB false l.nx ⟨#[]⟩); simpa using h
  have hfoot : ∀ k, w.heap.size ≤ k → ¬ LFoot b v mb k := fun k hk h => by have := i.lt h; omega
  obtain ⟨v0, v1, v2, v3⟩ := vb_cells (show (((w.alloc (VB x (.slice co cm cc))).alloc (KB false 0 ⟨#[]⟩)).alloc (KB false l.nx ⟨#[]⟩)).heap[w.heap.size]? = some (VB x (.slice co cm cc)) from alloc_blk (alloc_blk (heap_alloc_new _ _) _) _)
  have H := Lib.hid (⟨i.under hb3, hC, hD, hb3, hfoot, ht.mono hb3, VT64.under hx hb3⟩ : _ ∧ _ ∧ _ ∧ _ ∧ _ ∧ _ ∧ _)
  have HL := Lib.hid (fun k (h : LFoot b v mb k) => i.lt h)
  clear i hn hg hC hD hfoot hb2 hb3 ht hx hl
  unfold VT.v
  go_enter Tryz.func127, Tryz.ntmps127
  go_wp2_with (go_at_call 128; refine (lok_any _ _ _ c0).mono ?_; rintro e w' ⟨rfl, rfl⟩)
  refine (HS _ H.out.2.2.2.2.2.1 H.out.1 H.out.2.2.2.2.2.2).mono ?_
  rintro e3 w3 ⟨rfl, v', i3, m3, g3⟩
  have hC3 := m3.blk H.out.2.1 (H.out.2.2.2.2.1 _ (by omega))
  have hD3 := m3.blk H.out.2.2.1 (H.out.2.2.2.2.1 _ (by omega))
  have Q := Lib.hid (⟨i3, m3, g3, hC3, hD3⟩ : _ ∧ _ ∧ _ ∧ _ ∧ _)
  obtain ⟨a0, a1, a2⟩ := cells3 hC3
  obtain ⟨f0, f1, f2⟩ := free3 hC3
  obtain ⟨d0, d1, d2⟩ := cells3 hD3
  clear i3 m3 g3 hC3 hD3 HS c0 c1 c2 c3 c4 v0 v1 v2 v3
  go_wp2_with fail
  generalize hW : (((w3.setCell ⟨w.heap.size + 1, 0, none⟩ (.bool false)).setCell ⟨w.heap.size + 1, 1, none⟩ (.int .i64 l.nx)).setCell ⟨w.heap.size + 1, 2, none⟩ (.string ⟨#[]⟩)) = W
  obtain ⟨i3, m3, g3, hC3, hD3⟩ := Q.out
  have hm : Mod (fun x => x = w.heap.size + 1) w3 W := hW ▸ (((Mod.refl (fun x => x = w.heap.size + 1) w3).setCell ⟨w.heap.size + 1, 0, none⟩ _ (fun _ => rfl)).setCell ⟨w.heap.size + 1, 1, none⟩ _ (fun _ => rfl)).setCell ⟨w.heap.size + 1, 2, none⟩ _ (fun _ => rfl)
  have hk : W.heap[w.heap.size + 1]? = some (KB false l.nx ⟨#[]⟩) := hW ▸ set3 hC3 false l.nx ⟨#[]⟩
  obtain ⟨h0, h1, h2⟩ := cells3 hk
  have hs : (((w.alloc (VB x (.slice co cm cc))).alloc (KB false 0 ⟨#[]⟩)).alloc (KB false l.nx ⟨#[]⟩)).heap.size = w.heap.size + 3 := by simp
  have iW : LIs W b v' mb (setP ⟨false, l.nx, ⟨#[]⟩⟩ x l).2 (setYs (K.mk false l.nx ⟨#[]⟩).norm x (.slice co cm cc) l ys) := i3.mod hm (by
    rintro k (e | e | e) e2
    · have := HL.out b (.inl rfl); omega
    · rcases g3 with h | ⟨g, h, hg⟩
      · have := HL.out k (.inr (.inl (by rw [← h]; exact e))); omega
      · rw [h] at e; cases e; omega
    · have := HL.out mb (.inr (.inr rfl)); omega) (by
    rintro k e ⟨cs, fr, hc⟩
    rw [show k = w.heap.size + 1 from e, hC3] at hc
    cases hc)
  have mW : Mod (LFoot b v mb) w W := ((Mod.of_below H.out.2.2.2.1).trans m3).trans' hm (fun k hk e => absurd e (by omega))
  clear hW
  have e0 : W.cell? ⟨w.heap.size + 1, 0, none⟩ = some (.bool false) := h0
  have e1 : W.cell? ⟨w.heap.size + 1, 1, none⟩ = some (.int .i64 l.nx) := h1
  have e2 : W.cell? ⟨w.heap.size + 1, 2, none⟩ = some (.string ⟨#[]⟩) := h2
  exact bodyPost_ret (v := .tuple #[K.v ⟨false, l.nx, ⟨#[]⟩⟩, .int .i64 0]) (by simp [results, Tryz.results127, go_sem, K.v, e0, e1, e2]) rfl ⟨rfl, v', iW, mW, by
    rcases g3 with h | ⟨g, h, hg⟩
    · exact .inl h
    · exact .inr ⟨g, h, by omega⟩⟩
end Go.Proofs.YtnaefnojmiolbaaGreatDoor
