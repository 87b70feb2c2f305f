/-
  The walks of Norm at "sid", of Pick and Choose at no cookie, of Save and Load.
-/
import Derived.Test.YthnhpnmopjbaoaaDoorDisk21
import Derived.WalkMore
import Derived.Deep.DeepCutAuto
namespace Go.Proofs.YthnhpnmopjbaoaaDoor
open Go.RowKit Go.Shelf

abbrev sid : ByteArray := ⟨#[115, 105, 100]⟩
abbrev KB (b : Bool) (n : Int) (t : ByteArray) : Obj := .cells #[.bool b, .int .i64 n, .string t] 83
theorem cells3 {W : World} {B : Nat} {b : Bool} {n : Int} {t : ByteArray} (h : W.heap[B]? = some (KB b n t)) :
    W.cell? ⟨B, 0, none⟩ = some (.bool b) ∧ W.cell? ⟨B, 1, none⟩ = some (.int .i64 n) ∧ W.cell? ⟨B, 2, none⟩ = some (.string t) := ⟨cell_blk h 0, cell_blk h 1, cell_blk h 2⟩
theorem free3 {W : World} {B : Nat} {b : Bool} {n : Int} {t : ByteArray} (h : W.heap[B]? = some (KB b n t)) :
    W.frozen? ⟨B, 0, none⟩ = false ∧ W.frozen? ⟨B, 1, none⟩ = false ∧ W.frozen? ⟨B, 2, none⟩ = false := ⟨free_blk h 0, free_blk h 1, free_blk h 2⟩
theorem set3 {W : World} {B : Nat} {b : Bool} {n : Int} {t : ByteArray} (h : W.heap[B]? = some (KB b n t)) (b' : Bool) (n' : Int) (t' : ByteArray) :
    (((W.setCell ⟨B, 0, none⟩ (.bool b')).setCell ⟨B, 1, none⟩ (.int .i64 n')).setCell ⟨B, 2, none⟩ (.string t')).heap[B]? = some (KB b' n' t') := by
  have := set_blk (set_blk (set_blk h 0 (.bool b')) 1 (.int .i64 n')) 2 (.string t')
  simpa using this
theorem set3_below {w W : World} {B : Nat} (h : Below w.heap.size w W) (hB : w.heap.size ≤ B) (x y z : Value) :
    Below w.heap.size w (((W.setCell ⟨B, 0, none⟩ x).setCell ⟨B, 1, none⟩ y).setCell ⟨B, 2, none⟩ z) :=
  ((h.setCell hB _).setCell hB _).setCell hB _
structure At2 (w W : World) (B : Nat) (oa ob : Obj) : Prop where
  a : W.heap[B]? = some oa
  b : W.heap[B + 1]? = some ob
  below : Below w.heap.size w W
theorem At2.mono {w W W' : World} {B : Nat} {oa ob : Obj} (h : At2 w W B oa ob) (hb : Below W.heap.size W W') : At2 w W' B oa ob :=
  ⟨(hb.block _ (lt_of_block h.a)).trans h.a, (hb.block _ (lt_of_block h.b)).trans h.b, h.below.trans (hb.mono h.below.size)⟩
theorem at2_start (w : World) (oa ob : Obj) : At2 w ((w.alloc oa).alloc ob) w.heap.size oa ob :=
  ⟨(Below.heap_alloc _ _ _ (by simp)).trans (heap_alloc_new w oa), by have h := heap_alloc_new (w.alloc oa) ob; simpa using h, (below_alloc1 w oa).alloc (by simp) ob⟩
theorem At2.key {w W : World} {B : Nat} {oa ob : Obj} (h : At2 w W w.heap.size oa ob) (hB : w.heap.size + 1 < B) (x y z : Value) : At2 w (((W.setCell ⟨B, 0, none⟩ x).setCell ⟨B, 1, none⟩ y).setCell ⟨B, 2, none⟩ z) w.heap.size oa ob := by
  have m1 := (Mod.refl (fun k => k = B) W).setCell (⟨B, 0, none⟩ : Addr) x (fun _ => rfl)
  have m2 := m1.setCell (⟨B, 1, none⟩ : Addr) y (fun _ => rfl)
  have m := m2.setCell (⟨B, 2, none⟩ : Addr) z (fun _ => rfl)
  exact ⟨m.blk h.a (by omega), m.blk h.b (by omega), set3_below h.below (by omega) _ _ _⟩
theorem atoi_any (w : World) (ht : Tabs w) : Calls Tryd.prog 71 #[.string sid] w fun e w' => ∃ p, e = .returned (.tuple #[.int .i64 0, .iface 136 p]) ∧ Below w.heap.size w w' := by
  obtain ⟨ts, ps, hsy⟩ := ht.syn
  have HP : Calls Tryd.prog 71 #[.string sid] w fun e w' => ∃ N, e = .returned (.tuple #[.int .i64 0, .iface 136 (.pointer (some ⟨N, 0, none⟩))]) ∧ w.heap.size ≤ N ∧ w'.heap[N]? = some (.cells #[.string ⟨#[65, 116, 111, 105]⟩, .string sid, .iface ts ps] 150 (0, 0)) ∧ Below w.heap.size w w' :=
    Any.strconv_Atoi_syntax_var Tryd.laysC172 sid (by decide) (by decide) ts ps w hsy
  refine HP.mono ?_
  rintro e w' ⟨N, rfl, _, _, hb⟩
  exact ⟨_, rfl, hb⟩
abbrev sidV : Value := .agg #[.bool true, .int .i64 0, .string sid]
set_option maxHeartbeats 3200000 in
set_option maxRecDepth 100000 in
theorem norm_sid (w : World) (ht : Tabs w) : Calls Tryd.prog 60 #[sidV] w fun e w' => e = .returned sidV ∧ Below w.heap.size w w' := by
  have HTS := Lib.hid ht
  have A0 := Lib.hid (at2_start w (KB true 0 sid) (KB false 0 ⟨#[]⟩))
  clear ht
  go_enter Tryd.func60, Tryd.ntmps60
  go_wp2_with fail
  refine (atoi_any _ (HTS.out.mono A0.out.below)).mono ?_; rintro e w1 ⟨p, rfl, hb⟩; have A1 := Lib.hid (A0.out.mono hb); clear A0 hb
  obtain ⟨a0, a1, a2⟩ := cells3 A1.out.a
  obtain ⟨b0, b1, b2⟩ := cells3 A1.out.b
  obtain ⟨f0, f1, f2⟩ := free3 A1.out.b
  go_wp2_with fail
  go_quiet (fail)
  go_wp2_with fail
  obtain ⟨g0, g1, g2⟩ := cells3 (set3 (W := w1.drewN nq) A1.out.b true 0 sid)
  exact bodyPost_ret (v := sidV) (by simp [results, Tryd.results60, go_sem, g0, g1, g2]) rfl ⟨rfl, set3_below (belowN A1.out.below nq) (by simp) _ _ _⟩
abbrev VN : Value := .agg #[.int .i64 0, .int .i64 0, .string ⟨#[]⟩, .slice none 0 0]
theorem set4 {W : World} {B : Nat} {a b c d : Value} {t : TypeId} (h : W.heap[B]? = some (.cells #[a, b, c, d] t (0, 0))) (x y z u : Value) :
    ((((W.setCell ⟨B, 0, none⟩ x).setCell ⟨B, 1, none⟩ y).setCell ⟨B, 2, none⟩ z).setCell ⟨B, 3, none⟩ u).heap[B]? = some (.cells #[x, y, z, u] t (0, 0)) := by
  have := set_blk (set_blk (set_blk (set_blk h 0 x) 1 y) 2 z) 3 u
  simpa using this
abbrev VB0 : Obj := .cells #[.int .i64 0, .int .i64 0, .string ⟨#[]⟩, .slice none 0 0] 44
set_option maxHeartbeats 3200000 in
set_option maxRecDepth 100000 in
theorem pick_none (B : Nat) (w : World) (ht : Tabs w) (hB : w.heap[B]? = some (KB true 0 sid)) : Calls Tryd.prog 41 #[VN, .slice (some ⟨B, 0, none⟩) 1 1] w fun e w' => e = .returned (.tuple #[VN, .bool false]) ∧ Below w.heap.size w w' := by
  have HTS := Lib.hid ht
  have A0 := Lib.hid (at2_start w VB0 VB0)
  have HB := Lib.hid ((A0.out.below.block _ (lt_of_block hB)).trans hB)
  clear ht hB
  go_enter Tryd.func41, Tryd.ntmps41
  go_wp2_with fail
  go_step3
  go_wp2_with fail
  go_step3
  go_wp2_with fail
  generalize (w.alloc _).alloc _ = W0 at A0 HB ⊢
  obtain ⟨d0, d1, d2⟩ := cells3 HB.out
  refine wp_loop_rounds 1 ?_
  rw [rounds_succ]
  have A1 := Lib.hid (A0.out.mono (below_alloc1 W0 (KB true 0 sid)))
  have K1 := Lib.hid (heap_alloc_new W0 (KB true 0 sid))
  go_wp2_with fail
  refine (norm_sid _ (HTS.out.mono A1.out.below)).mono ?_
  rintro e w2 ⟨rfl, hb⟩
  have A2 := Lib.hid (A1.out.mono hb)
  have K2 := Lib.hid ((hb.block _ (lt_of_block K1.out)).trans K1.out)
  obtain ⟨f0, f1, f2⟩ := free3 K2.out
  obtain ⟨c0, c1, c2⟩ := cells3 K2.out
  have hlt := Lib.hid (lt_of_block A0.out.b)
  clear hb A0 A1 K1 HB d0 d1 d2
  go_upto_region 5 with fail
  have A3 := Lib.hid (A2.out.key hlt.out (.bool true) (.int .i64 0) (.string sid))
  generalize World.setCell _ _ _ = W4 at A3 ⊢
  clear f0 f1 f2 c0 c1 c2 A2 K2
  have q0 := cell_blk A3.out.a 0
  have c0 := cell_blk A3.out.b 0
  have c1 := cell_blk A3.out.b 1
  have c2 := cell_blk A3.out.b 2
  have c3 := cell_blk A3.out.b 3
  have f0 := free_blk A3.out.b 0
  have f1 := free_blk A3.out.b 1
  have f2 := free_blk A3.out.b 2
  have f3 := free_blk A3.out.b 3
  go_wp2_with fail
  rw [Exit.noGoto_ret]
  have h4 := set4 A3.out.b (.int .i64 0) (.int .i64 0) (.string ⟨#[]⟩) (.slice none 0 0)
  have g0 := cell_blk h4 0
  have g1 := cell_blk h4 1
  have g2 := cell_blk h4 2
  have g3 := cell_blk h4 3
  exact bodyPost_ret (v := .tuple #[VN, .bool false]) (by simp [results, Tryd.results41, go_sem, g0, g1, g2, g3]) rfl ⟨rfl, (((A3.out.below.setCell (p := ⟨w.heap.size + 1, 0, none⟩) (Nat.le_succ _) _).setCell (p := ⟨w.heap.size + 1, 1, none⟩) (Nat.le_succ _) _).setCell (p := ⟨w.heap.size + 1, 2, none⟩) (Nat.le_succ _) _).setCell (p := ⟨w.heap.size + 1, 3, none⟩) (Nat.le_succ _) _⟩
set_option maxHeartbeats 3200000 in
set_option maxRecDepth 100000 in
theorem choose_none (d : Value) (n : Int) (hn : n ≤ 9223372036854775807) (w : World) (ht : Tabs w) : Calls Tryd.prog 20 #[d, VN, .int .i64 n] w fun e w' => e = .returned (.tuple #[.string (str (nthP n)), .string ⟨#[]⟩, .bool true]) ∧ Below w.heap.size w w' := by
  have HTS := Lib.hid ht
  have B0 := Lib.hid (below_alloc1 w VB0)
  clear ht
  go_enter Tryd.func20, Tryd.ntmps20
  go_wp2_with fail
  have K1 := heap_alloc_new (w.alloc VB0) (KB true 0 sid)
  have B1 := Lib.hid ((B0.out).alloc B0.out.size (KB true 0 sid))
  rw [World.size_alloc] at K1
  have HP := pick_none (w.heap.size + 1) _ (HTS.out.mono B1.out) K1
  clear K1
  refine HP.mono ?_
  rintro e w2 ⟨rfl, hb⟩
  have B2 := Lib.hid ((B1.out.trans (hb.mono B1.out.size)).alloc (Nat.le_trans B1.out.size hb.size) VB0)
  clear hb HP B0 B1
  have HN := nth_any n hn (w2.alloc VB0) (HTS.out.mono B2.out)
  go_wp2_with fail
  refine HN.mono ?_
  rintro e w3 ⟨rfl, hb⟩
  have B3 := Lib.hid (B2.out.trans (hb.mono B2.out.size))
  clear hb HN B2
  go_wp2_with fail
  go_ret3
  exact ⟨rfl, B3.out⟩
section
variable {w : World} {d fb gb : Nat} {F : ByteArray → Option Fl} {n : Nat} {wr rd : Int}
theorem save_wrong (d : Value) {s : ByteArray} (hr : rightP s = false) (hz : s.size ≤ 140737488351232) (t : ByteArray) (w : World) : Calls Tryd.prog 18 #[d, .string s, .string t] w fun e w' => e = .returned (.int .i64 1) ∧ w = w' := by
  have HR := right_any s hz w
  rw [hr] at HR
  clear hr
  go_enter Tryd.func18, Tryd.ntmps18
  go_wp2_with fail
  refine HR.mono ?_
  rintro e w1 ⟨rfl, rfl⟩
  clear HR
  go_wp2_with fail
  go_ret
  exact ⟨rfl, rfl⟩
theorem load_wrong (d : Value) {s : ByteArray} (hr : rightP s = false) (hz : s.size ≤ 140737488351232) (w : World) : Calls Tryd.prog 19 #[d, .string s] w fun e w' => e = .returned (.tuple #[.string ⟨#[]⟩, .bool false]) ∧ w = w' := by
  have HR := right_any s hz w
  rw [hr] at HR
  clear hr
  go_enter Tryd.func19, Tryd.ntmps19
  go_wp2_with fail
  refine HR.mono ?_
  rintro e w1 ⟨rfl, rfl⟩
  clear HR
  go_wp2_with fail
  go_ret2
  exact ⟨rfl, rfl⟩
theorem save_right (h : DiskIs w d fb gb F n wr rd) (hn : n < 256) (h0 : 0 ≤ wr) (h1 : wr ≤ 1000) {s : ByteArray} (hs : Right s) (ht : Tabs w) (t : ByteArray) (hz : t.size ≤ 140737488351232) :
    Calls Tryd.prog 18 #[.pointer (some ⟨d, 0, none⟩), .string s, .string t] w (WrotePost w d fb gb F n wr rd (str (pathB s.toList)) t) := by
  have HR := right_any s (by have := hs.hi; omega) w
  rw [right_iff.2 hs] at HR
  have HP := path_any s hs.hi w
  have HW := write_any h hn h0 h1 hs ht t hz
  clear h hs ht hn h0 h1 hz
  go_enter Tryd.func18, Tryd.ntmps18
  go_wp2_with fail
  refine HR.mono ?_
  rintro e w1 ⟨rfl, rfl⟩
  clear HR
  go_wp2_with fail
  refine HP.mono ?_
  rintro e w1 ⟨rfl, rfl⟩
  clear HP
  go_wp2_with fail
  refine HW.mono ?_
  intro e w2 hw
  rcases hw with ⟨hb, rfl, h3⟩ | ⟨hb, rfl, h3, h4⟩
  · have HH := Lib.hid (⟨hb, h3⟩ : _ ∧ _)
    clear hb h3 HW
    go_wp2_with fail
    go_ret
    exact .inl ⟨HH.out.1, rfl, HH.out.2⟩
  · have HH := Lib.hid (⟨hb, h3, h4⟩ : _ ∧ _ ∧ _)
    clear hb h3 h4 HW
    go_wp2_with fail
    go_ret
    exact .inr ⟨HH.out.1, rfl, HH.out.2.1, HH.out.2.2⟩
/-- A call of Load. -/
def loadV (o : Option Fl) : Value := match o with
  | some f => .tuple #[.string f.t, .bool true]
  | none => .tuple #[.string ⟨#[]⟩, .bool false]
theorem load_right (h : DiskIs w d fb gb F n wr rd) (h0 : 0 ≤ rd) (h1 : rd ≤ 1000) {s : ByteArray} (hs : Right s) (ht : Tabs w) :
    Calls Tryd.prog 19 #[.pointer (some ⟨d, 0, none⟩), .string s] w fun e w' => e = .returned (loadV (F (str (pathB s.toList)))) ∧ Mod (fun k => k = d) w w' ∧ DiskIs w' d fb gb F n wr (rd + 1) := by
  have HR := right_any s (by have := hs.hi; omega) w
  rw [right_iff.2 hs] at HR
  have HP := path_any s hs.hi w
  have HW := read_any h h0 h1 hs ht
  unfold ReadPost at HW
  clear h hs ht h0 h1
  cases hF : F (str (pathB s.toList)) with
  | none =>
    rw [hF] at HW
    clear hF
    go_enter Tryd.func19, Tryd.ntmps19
    go_wp2_with fail
    refine HR.mono ?_
    rintro e w1 ⟨rfl, rfl⟩
    clear HR
    go_wp2_with fail
    refine HP.mono ?_
    rintro e w1 ⟨rfl, rfl⟩
    clear HP
    go_wp2_with fail
    refine HW.mono ?_
    rintro e w2 ⟨rfl, h3, h4⟩
    have HH := Lib.hid (⟨h3, h4⟩ : _ ∧ _)
    clear h3 h4 HW
    unfold readV
    go_wp2_with fail
    go_ret2
    exact ⟨rfl, HH.out.1, HH.out.2⟩
  | some f =>
    rw [hF] at HW
    clear hF
    go_enter Tryd.func19, Tryd.ntmps19
    go_wp2_with fail
    refine HR.mono ?_
    rintro e w1 ⟨rfl, rfl⟩
    clear HR
    go_wp2_with fail
    refine HP.mono ?_
    rintro e w1 ⟨rfl, rfl⟩
    clear HP
    go_wp2_with fail
    refine HW.mono ?_
    rintro e w2 ⟨rfl, h3, h4⟩
    have HH := Lib.hid (⟨h3, h4⟩ : _ ∧ _)
    clear h3 h4 HW
    unfold readV
    go_wp2_with fail
    go_ret2
    exact ⟨rfl, HH.out.1, HH.out.2⟩
end
end Go.Proofs.YthnhpnmopjbaoaaDoor
