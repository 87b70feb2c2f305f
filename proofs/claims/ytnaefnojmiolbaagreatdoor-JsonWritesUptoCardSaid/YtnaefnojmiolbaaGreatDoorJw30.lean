/-
  JSON: the walk of value (printed by genJValZ.py).
-/
import Derived.Test.YtnaefnojmiolbaaGreatDoorJw29
namespace Go.Proofs.YtnaefnojmiolbaaGreatDoor
open Go.RowKit Go.Shelf Go.Maps

attribute [local go_sem] yld_undef
theorem grown_keep {w w' : World} {mb k : Nat} {o : Obj} (g : w.grownBy w' (some mb)) (h : w.heap[k]? = some o) (hk : k ≠ mb) : w'.heap[k]? = some o :=
  (g.block k (lt_of_block h) (fun e => hk (Option.some.inj e))).trans h
theorem ite_le {b : Prop} [Decidable b] {a c k : Nat} (h1 : a ≤ k) (h2 : c ≤ k) : (if b then a else c) ≤ k := by split <;> assumption
theorem grown_below {w w1 w' : World} {mb : Nat} (hb : Below w.heap.size w w1) (g : w1.grownBy w' (some mb)) (h : w.heap.size ≤ mb) : Below w.heap.size w w' :=
  ⟨g.os.trans hb.os, g.tape.trans hb.tape, g.output.trans hb.output, Nat.le_trans hb.size g.size, fun k hk => (g.block k (Nat.lt_of_lt_of_le hk hb.size) (fun e => by have := Option.some.inj e; omega)).trans (hb.block k hk)⟩
/-- Lists are read so, at a depth. -/
def JLst (r : Nat) (s : ByteArray) (fw fa : Int) (n : Int) (sub : Option JValF) : Prop :=
  ∀ (obj : Bool) (W : World) (vb p m : Nat), Jd W r s p m fw fa → VBlk W vb → vb ≠ r → 6 ≤ vb → p < s.size →
    Calls Tryz.prog 69 #[.pointer (some ⟨r, 0, none⟩), .pointer (some ⟨vb, 0, none⟩), .int .i64 n, .int .u8 ((endC obj).toNat : Int)] W (JPost (JV2 r vb) W r s (jlistP s obj sub p m) isFalse (JVOk r vb s fw fa))
set_option maxRecDepth 100000 in
theorem jarr_any {sub : Option JValF} {w : World} {rb vx nb r vb : Nat} {n : Int} {s : ByteArray} {p m : Nat} {fw fa : Int} (HL : JLst r s fw fa n sub) (h : Jd w r s p m fw fa) (hv : VBlk w vb) (hne : vb ≠ r) (h6 : 6 ≤ vb) (hp : p < s.size) (hb : JBox w rb vx nb r vb n) :
    Calls Tryz.prog 68 #[.pointer (some ⟨rb, 0, none⟩), .pointer (some ⟨vx, 0, none⟩), .pointer (some ⟨nb, 0, none⟩)] w (JPost (JV2 r vb) w r s (jlistP s false sub p m) isFalse (JVOk r vb s fw fa)) := by
  have x0 := cell_blk hb.rx 0
  have x1 := cell_blk hb.vx 0
  have x2 := cell_blk hb.nx 0
  have HC := HL false w vb p m h hv hne h6 hp
  obtain ⟨x, hx⟩ : ∃ x, x = jlistP s false sub p m := ⟨_, rfl⟩
  rw [← hx] at HC ⊢
  clear hx h hv hb
  go_enter Tryz.func68, Tryz.ntmps68
  go_wp2_with fail
  refine HC.mono ?_
  rintro e w2 hp
  rcases x with ⟨c, a⟩ | a
  · obtain ⟨⟨_, rfl, rfl⟩, hj, hm⟩ := hp
    go_wp2_with fail
    go_ret
    exact ⟨⟨_, rfl, rfl⟩, hj, hm⟩
  · obtain ⟨⟨rfl, hr⟩, hm⟩ := hp
    go_wp2_with fail
    go_ret
    exact ⟨⟨rfl, hr⟩, hm⟩
set_option maxRecDepth 100000 in
theorem jobj_any {sub : Option JValF} {w : World} {rb vx nb r vb : Nat} {n : Int} {s : ByteArray} {p m : Nat} {fw fa : Int} (HL : JLst r s fw fa n sub) (h : Jd w r s p m fw fa) (hv : VBlk w vb) (hne : vb ≠ r) (h6 : 6 ≤ vb) (hp : p < s.size) (hb : JBox w rb vx nb r vb n) :
    Calls Tryz.prog 70 #[.pointer (some ⟨rb, 0, none⟩), .pointer (some ⟨vx, 0, none⟩), .pointer (some ⟨nb, 0, none⟩)] w (JPost (JV2 r vb) w r s (jlistP s true sub p m) isFalse (JVOk r vb s fw fa)) := by
  have x0 := cell_blk hb.rx 0
  have x1 := cell_blk hb.vx 0
  have x2 := cell_blk hb.nx 0
  have HC := HL true w vb p m h hv hne h6 hp
  obtain ⟨x, hx⟩ : ∃ x, x = jlistP s true sub p m := ⟨_, rfl⟩
  rw [← hx] at HC ⊢
  clear hx h hv hb
  go_enter Tryz.func70, Tryz.ntmps70
  go_wp2_with fail
  refine HC.mono ?_
  rintro e w2 hp
  rcases x with ⟨c, a⟩ | a
  · obtain ⟨⟨_, rfl, rfl⟩, hj, hm⟩ := hp
    go_wp2_with fail
    go_ret
    exact ⟨⟨_, rfl, rfl⟩, hj, hm⟩
  · obtain ⟨⟨rfl, hr⟩, hm⟩ := hp
    go_wp2_with fail
    go_ret
    exact ⟨⟨rfl, hr⟩, hm⟩
theorem fn_eq30 (f : Nat) (ps : Array Value) (w : World) : (binOp .eql 30 (.func (.func f) #[] ps) .nilFunc).run Tryz.prog w = .ok (.bool false) w := by kernel_rfl
theorem nil_eq30 (w : World) : (binOp .eql 30 .nilFunc .nilFunc).run Tryz.prog w = .ok (.bool true) w := by kernel_rfl
set_option maxHeartbeats 6400000 in
set_option maxRecDepth 100000 in
theorem jval_any {sub : Option JValF} {n : Int} {r : Nat} {s : ByteArray} {fw fa : Int} (HL : JLst r s fw fa n sub) : JVal r s fw fa n (jvalP s sub) := by
  intro w vb p m h hv hne h6
  obtain ⟨x, hx⟩ : ∃ x, x = jvalP s sub p m := ⟨_, rfl⟩
  rw [← hx]
  unfold jvalP at hx
  have hmm := @run_makeMap Tryz.prog
  have hbB : Below w.heap.size w ((((w.alloc (.cells #[.pointer (some ⟨r, 0, none⟩)] 65)).alloc (.cells #[.pointer (some ⟨vb, 0, none⟩)] 69)).alloc (.cells #[.int .i64 n] 3)).alloc (.map #[] 0)) := (((below_alloc1 w _).alloc (by simp) _).alloc (by simp; omega) _).alloc (by simp; omega) _
  have m0 := MSpec.made (S := mBF) (((w.alloc (.cells #[.pointer (some ⟨r, 0, none⟩)] 65)).alloc (.cells #[.pointer (some ⟨vb, 0, none⟩)] 69)).alloc (.cells #[.int .i64 n] 3))
  rw [show (((w.alloc (.cells #[.pointer (some ⟨r, 0, none⟩)] 65)).alloc (.cells #[.pointer (some ⟨vb, 0, none⟩)] 69)).alloc (.cells #[.int .i64 n] 3)).heap.size = w.heap.size + 1 + 1 + 1 by simp] at m0
  have d0 : ((((w.alloc (.cells #[.pointer (some ⟨r, 0, none⟩)] 65)).alloc (.cells #[.pointer (some ⟨vb, 0, none⟩)] 69)).alloc (.cells #[.int .i64 n] 3)).alloc (.map #[] 0)).heap[w.heap.size]? = some (.cells #[.pointer (some ⟨r, 0, none⟩)] 65 (0, 0)) := alloc_blk (alloc_blk (alloc_blk (heap_alloc_new _ _) _) _) _
  have d1 : ((((w.alloc (.cells #[.pointer (some ⟨r, 0, none⟩)] 65)).alloc (.cells #[.pointer (some ⟨vb, 0, none⟩)] 69)).alloc (.cells #[.int .i64 n] 3)).alloc (.map #[] 0)).heap[w.heap.size + 1]? = some (.cells #[.pointer (some ⟨vb, 0, none⟩)] 69 (0, 0)) := alloc_blk (alloc_blk (by have h := heap_alloc_new (w.alloc (.cells #[.pointer (some ⟨r, 0, none⟩)] 65)) (.cells #[.pointer (some ⟨vb, 0, none⟩)] 69); rw [World.size_alloc] at h; exact h) _) _
  have d2 : ((((w.alloc (.cells #[.pointer (some ⟨r, 0, none⟩)] 65)).alloc (.cells #[.pointer (some ⟨vb, 0, none⟩)] 69)).alloc (.cells #[.int .i64 n] 3)).alloc (.map #[] 0)).heap[w.heap.size + 1 + 1]? = some (.cells #[.int .i64 n] 3 (0, 0)) := alloc_blk (by have h := heap_alloc_new ((w.alloc (.cells #[.pointer (some ⟨r, 0, none⟩)] 65)).alloc (.cells #[.pointer (some ⟨vb, 0, none⟩)] 69)) (.cells #[.int .i64 n] 3); rw [World.size_alloc, World.size_alloc] at h; exact h) _
  have hF1 := fun (W : World) => jword_make ⟨#[110, 117, 108, 108]⟩ 0 0 ⟨#[]⟩ (w.heap.size + 1) w.heap.size W
  have bb1 : Below ((((w.alloc (.cells #[.pointer (some ⟨r, 0, none⟩)] 65)).alloc (.cells #[.pointer (some ⟨vb, 0, none⟩)] 69)).alloc (.cells #[.int .i64 n] 3)).alloc (.map #[] 0)).heap.size ((((w.alloc (.cells #[.pointer (some ⟨r, 0, none⟩)] 65)).alloc (.cells #[.pointer (some ⟨vb, 0, none⟩)] 69)).alloc (.cells #[.int .i64 n] 3)).alloc (.map #[] 0)) ((((((w.alloc (.cells #[.pointer (some ⟨r, 0, none⟩)] 65)).alloc (.cells #[.pointer (some ⟨vb, 0, none⟩)] 69)).alloc (.cells #[.int .i64 n] 3)).alloc (.map #[] 0)).alloc (.cells #[.string ⟨#[110, 117, 108, 108]⟩] 9)).alloc (.cells #[.int .i64 0, .int .i64 0, .string ⟨#[]⟩, .slice none 0 0] 24)) := (below_alloc1 _ _).alloc (by simp) _
  have hb1 : Below w.heap.size w ((((((w.alloc (.cells #[.pointer (some ⟨r, 0, none⟩)] 65)).alloc (.cells #[.pointer (some ⟨vb, 0, none⟩)] 69)).alloc (.cells #[.int .i64 n] 3)).alloc (.map #[] 0)).alloc (.cells #[.string ⟨#[110, 117, 108, 108]⟩] 9)).alloc (.cells #[.int .i64 0, .int .i64 0, .string ⟨#[]⟩, .slice none 0 0] 24)) := hbB.trans (bb1.mono hbB.size)
  have d0 := (bb1.block _ (lt_of_block d0)).trans d0
  have d1 := (bb1.block _ (lt_of_block d1)).trans d1
  have d2 := (bb1.block _ (lt_of_block d2)).trans d2
  have s1 : ((((((w.alloc (.cells #[.pointer (some ⟨r, 0, none⟩)] 65)).alloc (.cells #[.pointer (some ⟨vb, 0, none⟩)] 69)).alloc (.cells #[.int .i64 n] 3)).alloc (.map #[] 0)).alloc (.cells #[.string ⟨#[110, 117, 108, 108]⟩] 9)).alloc (.cells #[.int .i64 0, .int .i64 0, .string ⟨#[]⟩, .slice none 0 0] 24)).heap[w.heap.size + 1 + 1 + 1 + 1]? = some (.cells #[.string ⟨#[110, 117, 108, 108]⟩] 9 (0, 0)) := alloc_blk (by have h := heap_alloc_new ((((w.alloc (.cells #[.pointer (some ⟨r, 0, none⟩)] 65)).alloc (.cells #[.pointer (some ⟨vb, 0, none⟩)] 69)).alloc (.cells #[.int .i64 n] 3)).alloc (.map #[] 0)) (.cells #[.string ⟨#[110, 117, 108, 108]⟩] 9); simpa using h) _
  have v1 : ((((((w.alloc (.cells #[.pointer (some ⟨r, 0, none⟩)] 65)).alloc (.cells #[.pointer (some ⟨vb, 0, none⟩)] 69)).alloc (.cells #[.int .i64 n] 3)).alloc (.map #[] 0)).alloc (.cells #[.string ⟨#[110, 117, 108, 108]⟩] 9)).alloc (.cells #[.int .i64 0, .int .i64 0, .string ⟨#[]⟩, .slice none 0 0] 24)).heap[w.heap.size + 1 + 1 + 1 + 1 + 1]? = some (.cells #[.int .i64 0, .int .i64 0, .string ⟨#[]⟩, .slice none 0 0] 24 (0, 0)) := by have h := heap_alloc_new (((((w.alloc (.cells #[.pointer (some ⟨r, 0, none⟩)] 65)).alloc (.cells #[.pointer (some ⟨vb, 0, none⟩)] 69)).alloc (.cells #[.int .i64 n] 3)).alloc (.map #[] 0)).alloc (.cells #[.string ⟨#[110, 117, 108, 108]⟩] 9)) (.cells #[.int .i64 0, .int .i64 0, .string ⟨#[]⟩, .slice none 0 0] 24); simpa using h
  obtain ⟨w1', hp1, M1, g1⟩ := (m0.under bb1).put (by unfold maxLen; omega) (x := (110 : UInt8)) trivial (a := some (66, [w.heap.size + 1 + 1 + 1 + 1 + 1, w.heap.size + 1, w.heap.size, w.heap.size + 1 + 1 + 1 + 1])) trivial
  have hup1 : (Instr.mapUpdate 99 (.map (some (w.heap.size + 1 + 1 + 1))) (.int .u8 110) (.func (.func 66) #[] #[.pointer (some ⟨w.heap.size + 1 + 1 + 1 + 1 + 1, 0, none⟩), .pointer (some ⟨w.heap.size + 1, 0, none⟩), .pointer (some ⟨w.heap.size, 0, none⟩), .pointer (some ⟨w.heap.size + 1 + 1 + 1 + 1, 0, none⟩)])).run Tryz.prog ((((((w.alloc (.cells #[.pointer (some ⟨r, 0, none⟩)] 65)).alloc (.cells #[.pointer (some ⟨vb, 0, none⟩)] 69)).alloc (.cells #[.int .i64 n] 3)).alloc (.map #[] 0)).alloc (.cells #[.string ⟨#[110, 117, 108, 108]⟩] 9)).alloc (.cells #[.int .i64 0, .int .i64 0, .string ⟨#[]⟩, .slice none 0 0] 24)) = .ok () w1' := hp1
  obtain ⟨n1, hn1, M1⟩ : ∃ k, k ≤ 1 ∧ mBF.Is w1' (w.heap.size + 1 + 1 + 1) _ k := ⟨_, ite_le (by omega) (by omega), M1⟩
  have hc1 : Below w.heap.size w w1' := grown_below hb1 g1 (by omega)
  have d0 := grown_keep g1 d0 (by omega)
  have d1 := grown_keep g1 d1 (by omega)
  have d2 := grown_keep g1 d2 (by omega)
  have s1 := grown_keep g1 s1 (by omega)
  have v1 := grown_keep g1 v1 (by omega)
  have K2 : w.heap.size + 1 + 1 + 1 < w1'.heap.size := M1.lt
  have hF2 := fun (W : World) => jword_make ⟨#[116, 114, 117, 101]⟩ 1 1 ⟨#[]⟩ (w.heap.size + 1) w.heap.size W
  have bb2 : Below w1'.heap.size w1' ((w1'.alloc (.cells #[.string ⟨#[116, 114, 117, 101]⟩] 9)).alloc (.cells #[.int .i64 1, .int .i64 1, .string ⟨#[]⟩, .slice none 0 0] 24)) := (below_alloc1 _ _).alloc (by simp) _
  have hb2 : Below w.heap.size w ((w1'.alloc (.cells #[.string ⟨#[116, 114, 117, 101]⟩] 9)).alloc (.cells #[.int .i64 1, .int .i64 1, .string ⟨#[]⟩, .slice none 0 0] 24)) := hc1.trans (bb2.mono hc1.size)
  have d0 := (bb2.block _ (lt_of_block d0)).trans d0
  have d1 := (bb2.block _ (lt_of_block d1)).trans d1
  have d2 := (bb2.block _ (lt_of_block d2)).trans d2
  have s1 := (bb2.block _ (lt_of_block s1)).trans s1
  have v1 := (bb2.block _ (lt_of_block v1)).trans v1
  have s2 : ((w1'.alloc (.cells #[.string ⟨#[116, 114, 117, 101]⟩] 9)).alloc (.cells #[.int .i64 1, .int .i64 1, .string ⟨#[]⟩, .slice none 0 0] 24)).heap[w1'.heap.size]? = some (.cells #[.string ⟨#[116, 114, 117, 101]⟩] 9 (0, 0)) := alloc_blk (by have h := heap_alloc_new w1' (.cells #[.string ⟨#[116, 114, 117, 101]⟩] 9); exact h) _
  have v2 : ((w1'.alloc (.cells #[.string ⟨#[116, 114, 117, 101]⟩] 9)).alloc (.cells #[.int .i64 1, .int .i64 1, .string ⟨#[]⟩, .slice none 0 0] 24)).heap[w1'.heap.size + 1]? = some (.cells #[.int .i64 1, .int .i64 1, .string ⟨#[]⟩, .slice none 0 0] 24 (0, 0)) := by have h := heap_alloc_new (w1'.alloc (.cells #[.string ⟨#[116, 114, 117, 101]⟩] 9)) (.cells #[.int .i64 1, .int .i64 1, .string ⟨#[]⟩, .slice none 0 0] 24); rw [World.size_alloc] at h; exact h
  obtain ⟨w2', hp2, M2, g2⟩ := (M1.under bb2).put (by unfold maxLen; omega) (x := (116 : UInt8)) trivial (a := some (66, [w1'.heap.size + 1, w.heap.size + 1, w.heap.size, w1'.heap.size])) trivial
  have hup2 : (Instr.mapUpdate 99 (.map (some (w.heap.size + 1 + 1 + 1))) (.int .u8 116) (.func (.func 66) #[] #[.pointer (some ⟨w1'.heap.size + 1, 0, none⟩), .pointer (some ⟨w.heap.size + 1, 0, none⟩), .pointer (some ⟨w.heap.size, 0, none⟩), .pointer (some ⟨w1'.heap.size, 0, none⟩)])).run Tryz.prog ((w1'.alloc (.cells #[.string ⟨#[116, 114, 117, 101]⟩] 9)).alloc (.cells #[.int .i64 1, .int .i64 1, .string ⟨#[]⟩, .slice none 0 0] 24)) = .ok () w2' := hp2
  obtain ⟨n2, hn2, M2⟩ : ∃ k, k ≤ 2 ∧ mBF.Is w2' (w.heap.size + 1 + 1 + 1) _ k := ⟨_, ite_le (by omega) (by omega), M2⟩
  have hc2 : Below w.heap.size w w2' := grown_below hb2 g2 (by omega)
  have d0 := grown_keep g2 d0 (by omega)
  have d1 := grown_keep g2 d1 (by omega)
  have d2 := grown_keep g2 d2 (by omega)
  have s1 := grown_keep g2 s1 (by omega)
  have v1 := grown_keep g2 v1 (by omega)
  have s2 := grown_keep g2 s2 (by omega)
  have v2 := grown_keep g2 v2 (by omega)
  have K3 : w.heap.size + 1 + 1 + 1 < w2'.heap.size := M2.lt
  have hF3 := fun (W : World) => jword_make ⟨#[102, 97, 108, 115, 101]⟩ 1 0 ⟨#[]⟩ (w.heap.size + 1) w.heap.size W
  have bb3 : Below w2'.heap.size w2' ((w2'.alloc (.cells #[.string ⟨#[102, 97, 108, 115, 101]⟩] 9)).alloc (.cells #[.int .i64 1, .int .i64 0, .string ⟨#[]⟩, .slice none 0 0] 24)) := (below_alloc1 _ _).alloc (by simp) _
  have hb3 : Below w.heap.size w ((w2'.alloc (.cells #[.string ⟨#[102, 97, 108, 115, 101]⟩] 9)).alloc (.cells #[.int .i64 1, .int .i64 0, .string ⟨#[]⟩, .slice none 0 0] 24)) := hc2.trans (bb3.mono hc2.size)
  have d0 := (bb3.block _ (lt_of_block d0)).trans d0
  have d1 := (bb3.block _ (lt_of_block d1)).trans d1
  have d2 := (bb3.block _ (lt_of_block d2)).trans d2
  have s1 := (bb3.block _ (lt_of_block s1)).trans s1
  have v1 := (bb3.block _ (lt_of_block v1)).trans v1
  have s2 := (bb3.block _ (lt_of_block s2)).trans s2
  have v2 := (bb3.block _ (lt_of_block v2)).trans v2
  have s3 : ((w2'.alloc (.cells #[.string ⟨#[102, 97, 108, 115, 101]⟩] 9)).alloc (.cells #[.int .i64 1, .int .i64 0, .string ⟨#[]⟩, .slice none 0 0] 24)).heap[w2'.heap.size]? = some (.cells #[.string ⟨#[102, 97, 108, 115, 101]⟩] 9 (0, 0)) := alloc_blk (by have h := heap_alloc_new w2' (.cells #[.string ⟨#[102, 97, 108, 115, 101]⟩] 9); exact h) _
  have v3 : ((w2'.alloc (.cells #[.string ⟨#[102, 97, 108, 115, 101]⟩] 9)).alloc (.cells #[.int .i64 1, .int .i64 0, .string ⟨#[]⟩, .slice none 0 0] 24)).heap[w2'.heap.size + 1]? = some (.cells #[.int .i64 1, .int .i64 0, .string ⟨#[]⟩, .slice none 0 0] 24 (0, 0)) := by have h := heap_alloc_new (w2'.alloc (.cells #[.string ⟨#[102, 97, 108, 115, 101]⟩] 9)) (.cells #[.int .i64 1, .int .i64 0, .string ⟨#[]⟩, .slice none 0 0] 24); rw [World.size_alloc] at h; exact h
  obtain ⟨w3', hp3, M3, g3⟩ := (M2.under bb3).put (by unfold maxLen; omega) (x := (102 : UInt8)) trivial (a := some (66, [w2'.heap.size + 1, w.heap.size + 1, w.heap.size, w2'.heap.size])) trivial
  have hup3 : (Instr.mapUpdate 99 (.map (some (w.heap.size + 1 + 1 + 1))) (.int .u8 102) (.func (.func 66) #[] #[.pointer (some ⟨w2'.heap.size + 1, 0, none⟩), .pointer (some ⟨w.heap.size + 1, 0, none⟩), .pointer (some ⟨w.heap.size, 0, none⟩), .pointer (some ⟨w2'.heap.size, 0, none⟩)])).run Tryz.prog ((w2'.alloc (.cells #[.string ⟨#[102, 97, 108, 115, 101]⟩] 9)).alloc (.cells #[.int .i64 1, .int .i64 0, .string ⟨#[]⟩, .slice none 0 0] 24)) = .ok () w3' := hp3
  obtain ⟨n3, hn3, M3⟩ : ∃ k, k ≤ 3 ∧ mBF.Is w3' (w.heap.size + 1 + 1 + 1) _ k := ⟨_, ite_le (by omega) (by omega), M3⟩
  have hc3 : Below w.heap.size w w3' := grown_below hb3 g3 (by omega)
  have d0 := grown_keep g3 d0 (by omega)
  have d1 := grown_keep g3 d1 (by omega)
  have d2 := grown_keep g3 d2 (by omega)
  have s1 := grown_keep g3 s1 (by omega)
  have v1 := grown_keep g3 v1 (by omega)
  have s2 := grown_keep g3 s2 (by omega)
  have v2 := grown_keep g3 v2 (by omega)
  have s3 := grown_keep g3 s3 (by omega)
  have v3 := grown_keep g3 v3 (by omega)
  obtain ⟨w4', hp4, M4, g4⟩ := M3.put (by unfold maxLen; omega) (x := (91 : UInt8)) trivial (a := some (68, [w.heap.size, w.heap.size + 1, w.heap.size + 1 + 1])) trivial
  have hup4 : (Instr.mapUpdate 99 (.map (some (w.heap.size + 1 + 1 + 1))) (.int .u8 91) (.func (.func 68) #[] #[.pointer (some ⟨w.heap.size, 0, none⟩), .pointer (some ⟨w.heap.size + 1, 0, none⟩), .pointer (some ⟨w.heap.size + 1 + 1, 0, none⟩)])).run Tryz.prog w3' = .ok () w4' := hp4
  obtain ⟨n4, hn4, M4⟩ : ∃ k, k ≤ 4 ∧ mBF.Is w4' (w.heap.size + 1 + 1 + 1) _ k := ⟨_, ite_le (by omega) (by omega), M4⟩
  have hc4 : Below w.heap.size w w4' := grown_below hc3 g4 (by omega)
  have d0 := grown_keep g4 d0 (by omega)
  have d1 := grown_keep g4 d1 (by omega)
  have d2 := grown_keep g4 d2 (by omega)
  have s1 := grown_keep g4 s1 (by omega)
  have v1 := grown_keep g4 v1 (by omega)
  have s2 := grown_keep g4 s2 (by omega)
  have v2 := grown_keep g4 v2 (by omega)
  have s3 := grown_keep g4 s3 (by omega)
  have v3 := grown_keep g4 v3 (by omega)
  obtain ⟨w5', hp5, M5, g5⟩ := M4.put (by unfold maxLen; omega) (x := (123 : UInt8)) trivial (a := some (70, [w.heap.size, w.heap.size + 1, w.heap.size + 1 + 1])) trivial
  have hup5 : (Instr.mapUpdate 99 (.map (some (w.heap.size + 1 + 1 + 1))) (.int .u8 123) (.func (.func 70) #[] #[.pointer (some ⟨w.heap.size, 0, none⟩), .pointer (some ⟨w.heap.size + 1, 0, none⟩), .pointer (some ⟨w.heap.size + 1 + 1, 0, none⟩)])).run Tryz.prog w4' = .ok () w5' := hp5
  obtain ⟨n5, hn5, M5⟩ : ∃ k, k ≤ 5 ∧ mBF.Is w5' (w.heap.size + 1 + 1 + 1) _ k := ⟨_, ite_le (by omega) (by omega), M5⟩
  have hc5 : Below w.heap.size w w5' := grown_below hc4 g5 (by omega)
  have d0 := grown_keep g5 d0 (by omega)
  have d1 := grown_keep g5 d1 (by omega)
  have d2 := grown_keep g5 d2 (by omega)
  have s1 := grown_keep g5 s1 (by omega)
  have v1 := grown_keep g5 v1 (by omega)
  have s2 := grown_keep g5 s2 (by omega)
  have v2 := grown_keep g5 v2 (by omega)
  have s3 := grown_keep g5 s3 (by omega)
  have v3 := grown_keep g5 v3 (by omega)
  obtain ⟨w6', hp6, M6, g6⟩ := M5.put (by unfold maxLen; omega) (x := (34 : UInt8)) trivial (a := some (71, [w.heap.size, w.heap.size + 1])) trivial
  have hup6 : (Instr.mapUpdate 99 (.map (some (w.heap.size + 1 + 1 + 1))) (.int .u8 34) (.func (.func 71) #[] #[.pointer (some ⟨w.heap.size, 0, none⟩), .pointer (some ⟨w.heap.size + 1, 0, none⟩)])).run Tryz.prog w5' = .ok () w6' := hp6
  obtain ⟨n6, hn6, M6⟩ : ∃ k, k ≤ 6 ∧ mBF.Is w6' (w.heap.size + 1 + 1 + 1) _ k := ⟨_, ite_le (by omega) (by omega), M6⟩
  have hc6 : Below w.heap.size w w6' := grown_below hc5 g6 (by omega)
  have d0 := grown_keep g6 d0 (by omega)
  have d1 := grown_keep g6 d1 (by omega)
  have d2 := grown_keep g6 d2 (by omega)
  have s1 := grown_keep g6 s1 (by omega)
  have v1 := grown_keep g6 v1 (by omega)
  have s2 := grown_keep g6 s2 (by omega)
  have v2 := grown_keep g6 v2 (by omega)
  have s3 := grown_keep g6 s3 (by omega)
  have v3 := grown_keep g6 v3 (by omega)
  have HB : Hid (Jd w6' r s p m fw fa ∧ VBlk w6' vb ∧ Below w.heap.size w w6' ∧ JBox w6' (w.heap.size) (w.heap.size + 1) (w.heap.size + 1 + 1) r vb n) := Lib.hid ⟨h.under hc6, hv.under hc6, hc6, d0, d1, d2⟩
  have HM := Lib.hid M6
  have HSV := Lib.hid (⟨s1, v1, s2, v2, s3, v3⟩ : _ ∧ _ ∧ _ ∧ _ ∧ _ ∧ _)
  have HNE := Lib.hid (⟨hne, h6⟩ : _ ∧ _)
  have hp0 := h.hp
  have e0 := cell_blk d0 0
  have HX := Lib.hid hx
  have HN1 := jnow_any (h.under hc6)
  obtain ⟨c, hc⟩ : ∃ c, nowP s p = c := ⟨_, rfl⟩
  rw [hc] at HN1
  have HC := Lib.hid hc
  clear hx h hv hne h6 hbB m0 d0 d1 d2 bb1 bb2 bb3 hb1 hb2 hb3 s1 v1 s2 v2 s3 v3 hp1 hp2 hp3 hp4 hp5 hp6 M1 M2 M3 M4 M5 M6 g1 g2 g3 g4 g5 g6 hn1 hn2 hn3 hn4 hn5 hn6 hc1 hc2 hc3 hc4 hc5 hc6 K2 K3 hc
  go_enter Tryz.func34, Tryz.ntmps34
  go_wp2_with fail
  refine (hF1 _).mono ?_
  rintro _ _ ⟨rfl, rfl⟩
  go_wp2_with fail
  refine (hF2 _).mono ?_
  rintro _ _ ⟨rfl, rfl⟩
  go_wp2_with fail
  refine (hF3 _).mono ?_
  rintro _ _ ⟨rfl, rfl⟩
  go_wp2_with fail
  refine HN1.mono ?_
  rintro _ w7 ⟨rfl, hb7⟩
  have HB7 : Hid (Jd w7 r s p m fw fa ∧ VBlk w7 vb ∧ Below w.heap.size w w7 ∧ JBox w7 (w.heap.size) (w.heap.size + 1) (w.heap.size + 1 + 1) r vb n) := Lib.hid ⟨HB.out.1.under hb7, HB.out.2.1.under hb7, HB.out.2.2.1.trans (hb7.mono HB.out.2.2.1.size), HB.out.2.2.2.under hb7⟩
  have HLK := (HM.out.under hb7).look1 (x := c) trivial
  have HLH := Lib.hid HLK
  have HSV7 : Hid (w7.heap[w.heap.size + 1 + 1 + 1 + 1]? = some (.cells #[.string ⟨#[110, 117, 108, 108]⟩] 9 (0, 0)) ∧ w7.heap[w.heap.size + 1 + 1 + 1 + 1 + 1]? = some (VB (.mk 0 0 ⟨#[]⟩ []) (.slice none 0 0)) ∧ w7.heap[w1'.heap.size]? = some (.cells #[.string ⟨#[116, 114, 117, 101]⟩] 9 (0, 0)) ∧ w7.heap[w1'.heap.size + 1]? = some (VB (.mk 1 1 ⟨#[]⟩ []) (.slice none 0 0)) ∧ w7.heap[w2'.heap.size]? = some (.cells #[.string ⟨#[102, 97, 108, 115, 101]⟩] 9 (0, 0)) ∧ w7.heap[w2'.heap.size + 1]? = some (VB (.mk 1 0 ⟨#[]⟩ []) (.slice none 0 0))) := Lib.hid (by
    obtain ⟨a1, a2, a3, a4, a5, a6⟩ := HSV.out
    have k := fun {i : Nat} {o : Obj} (h : w6'.heap[i]? = some o) => (hb7.block i (lt_of_block h)).trans h
    exact ⟨k a1, k a2, k a3, k a4, k a5, k a6⟩)
  obtain ⟨num, hnum⟩ : ∃ num : Bool, (num = true ↔ (c = 45 ∨ isDig c = true)) := ⟨decide (c = 45 ∨ isDig c = true), by simp⟩
  have HNUM := Lib.hid hnum
  have e7 := cell_blk HB7.out.2.2.2.rx 0
  have e8 := cell_blk HB7.out.2.2.2.vx 0
  clear HB HM HSV hb7 HLK hnum HN1 e0 hup1 hup2 hup3 hup4 hup5 hup6 hF1 hF2 hF3 hmm
  go_upto_region 4 with fail
  go_cut [37] from 28 to 37 (fun s37 wx => s37 = .bool num ∧ wx = w7)
  case first =>
    by_cases h45 : c = 45
    · have h1 : ((c.toNat : Int) == 45) = true := by rw [h45]; rfl
      have hn : Hid (num = true) := Lib.hid (HNUM.out.2 (.inl h45))
      clear h45
      go_wp2_with fail
      go_meet
      exact ⟨by rw [hn.out], rfl⟩
    · have h1 : ((c.toNat : Int) == 45) = false := by
        have := byte_eq c 45
        rw [decide_eq_false h45] at this
        exact this
      have hdi := dig_iff c
      by_cases h48 : 48 ≤ c.toNat
      · by_cases h57 : c.toNat ≤ 57
        · have hn : Hid (num = true) := Lib.hid (HNUM.out.2 (.inr (hdi.2 ⟨h48, h57⟩)))
          have h48' : (48 : Int) ≤ (c.toNat : Int) := by omega
          have h57' : (c.toNat : Int) ≤ 57 := by omega
          clear hdi h45
          go_wp2_with fail
          go_meet
          exact ⟨by rw [hn.out], rfl⟩
        · have hn : Hid (num = false) := Lib.hid (Bool.eq_false_iff.2 (fun e => (HNUM.out.1 e).elim h45 (fun e => h57 (hdi.1 e).2)))
          have h48' : (48 : Int) ≤ (c.toNat : Int) := by omega
          have h57' : ¬ (c.toNat : Int) ≤ 57 := by omega
          clear hdi h45
          go_wp2_with fail
          go_meet
          exact ⟨by rw [hn.out], rfl⟩
      · have hn : Hid (num = false) := Lib.hid (Bool.eq_false_iff.2 (fun e => (HNUM.out.1 e).elim h45 (fun e => h48 (hdi.1 e).1)))
        have h48' : ¬ (48 : Int) ≤ (c.toNat : Int) := by omega
        clear hdi h45
        go_wp2_with fail
        go_meet
        exact ⟨by rw [hn.out], rfl⟩
  case rest =>
    obtain ⟨rfl, rfl⟩ := hcut
    have hx2 := HX.out
    rw [HC.out] at hx2
    cases num
    · have hnn : ¬ (c = 45 ∨ isDig c = true) := fun e => by have := HNUM.out.2 e; cases this
      rw [if_neg hnn] at hx2
      have HX2 := Lib.hid hx2
      clear hx2 HX
      by_cases hk : c = 110 ∨ c = 116 ∨ c = 102 ∨ c = 91 ∨ c = 123 ∨ c = 34
      · have hpl : p < s.size := now_lt (by rw [HC.out]; rcases hk with h | h | h | h | h | h <;> rw [h] <;> decide)
        have hg : decide ((s.size : Int) ≤ (p : Int)) = false := by simp; omega
        have hg2 : ¬ s.size ≤ p := by omega
        obtain ⟨f, ps, hlk, HCS⟩ : ∃ (f : Nat) (ps : Array Value), (Instr.lookup 99 (.map (some (w.heap.size + 1 + 1 + 1))) (.int .u8 (c.toNat : Int)) false).run Tryz.prog wc = .ok (.func (.func f) #[] ps) wc ∧
            Hid ((c = 110 ∧ f = 66 ∧ ps = #[.pointer (some ⟨w.heap.size + 1 + 1 + 1 + 1 + 1, 0, none⟩), .pointer (some ⟨w.heap.size + 1, 0, none⟩), .pointer (some ⟨w.heap.size, 0, none⟩), .pointer (some ⟨w.heap.size + 1 + 1 + 1 + 1, 0, none⟩)]) ∨ (c = 116 ∧ f = 66 ∧ ps = #[.pointer (some ⟨w1'.heap.size + 1, 0, none⟩), .pointer (some ⟨w.heap.size + 1, 0, none⟩), .pointer (some ⟨w.heap.size, 0, none⟩), .pointer (some ⟨w1'.heap.size, 0, none⟩)]) ∨ (c = 102 ∧ f = 66 ∧ ps = #[.pointer (some ⟨w2'.heap.size + 1, 0, none⟩), .pointer (some ⟨w.heap.size + 1, 0, none⟩), .pointer (some ⟨w.heap.size, 0, none⟩), .pointer (some ⟨w2'.heap.size, 0, none⟩)]) ∨ (c = 91 ∧ f = 68 ∧ ps = #[.pointer (some ⟨w.heap.size, 0, none⟩), .pointer (some ⟨w.heap.size + 1, 0, none⟩), .pointer (some ⟨w.heap.size + 1 + 1, 0, none⟩)]) ∨ (c = 123 ∧ f = 70 ∧ ps = #[.pointer (some ⟨w.heap.size, 0, none⟩), .pointer (some ⟨w.heap.size + 1, 0, none⟩), .pointer (some ⟨w.heap.size + 1 + 1, 0, none⟩)]) ∨ (c = 34 ∧ f = 71 ∧ ps = #[.pointer (some ⟨w.heap.size, 0, none⟩), .pointer (some ⟨w.heap.size + 1, 0, none⟩)])) := by
          have hl := HLH.out
          rcases hk with rfl | rfl | rfl | rfl | rfl | rfl
          · exact ⟨66, _, hl, Lib.hid (.inl ⟨rfl, rfl, rfl⟩)⟩
          · exact ⟨66, _, hl, Lib.hid (.inr (.inl ⟨rfl, rfl, rfl⟩))⟩
          · exact ⟨66, _, hl, Lib.hid (.inr (.inr (.inl ⟨rfl, rfl, rfl⟩)))⟩
          · exact ⟨68, _, hl, Lib.hid (.inr (.inr (.inr (.inl ⟨rfl, rfl, rfl⟩))))⟩
          · exact ⟨70, _, hl, Lib.hid (.inr (.inr (.inr (.inr (.inl ⟨rfl, rfl, rfl⟩)))))⟩
          · exact ⟨71, _, hl, Lib.hid (.inr (.inr (.inr (.inr (.inr ⟨rfl, rfl, rfl⟩)))))⟩
        have HPL := Lib.hid hpl
        have HS0 : Hid (Hid (Jd wc.drew r s p m fw fa ∧ Below wc.heap.size wc wc.drew) ∧ wc.drew.cell? ⟨r, 0, none⟩ = some (.string s) ∧ wc.drew.cell? ⟨r, 1, none⟩ = some (.int .i64 p) ∧ wc.drew.cell? ⟨w.heap.size, 0, none⟩ = some (.pointer (some ⟨r, 0, none⟩))) := Lib.hid ⟨Lib.hid ⟨HB7.out.1.under (Below.refl _ _).drew, (Below.refl _ _).drew⟩, HB7.out.1.cells.1, HB7.out.1.cells.2.1, e7⟩
        clear hk hpl
        have hfe := fn_eq30 f ps
        go_wp2_with fail
        refine wp_region_noPanic ?_
        refine wp_region_held_drew (S := (fun W => Hid (Jd W r s p m fw fa ∧ Below wc.heap.size wc W) ∧ W.cell? ⟨r, 0, none⟩ = some (.string s) ∧ W.cell? ⟨r, 1, none⟩ = some (.int .i64 p) ∧ W.cell? ⟨w.heap.size, 0, none⟩ = some (.pointer (some ⟨r, 0, none⟩)))) (by kernel_rfl) (by exact HS0.out) (fun hHeld => ?_)
        refine wpAnyH_take (i := 0) (oi := ?oa0) (v := ?va0) ?hia0 (by kernel_rfl) (by kernel_rfl) (by kernel_rfl) (fun _ _ _ h => h) ?hya0 (by assumption) ?resta0
        case hia0 => simp only [gA, gZ]; rfl
        case hya0 =>
          refine Or.inl ⟨by rfl, ?_⟩
          intro w hSw; (try dsimp only at hSw); go_simp <;> (with_reducible rfl)
        (try simp only [Act.put, pA, pZ, pS])
        refine wpAnyH_take (i := 1) (oi := ?oa1) (v := ?va1) ?hia1 (by kernel_rfl) (by kernel_rfl) (by kernel_rfl) (fun _ _ _ h => h) ?hya1 (by assumption) ?resta1
        case hia1 => simp only [gA, gS, gZ]; rfl
        case hya1 =>
          refine Or.inl ⟨by rfl, ?_⟩
          intro w hSw; (try dsimp only at hSw); go_simp <;> (with_reducible rfl)
        (try simp only [Act.put, pA, pZ, pS])
        refine wpAnyH_take (i := 2) (oi := ?oa2) (v := ?va2) ?hia2 (by kernel_rfl) (by kernel_rfl) (by kernel_rfl) (fun _ _ _ h => h) ?hya2 (by assumption) ?resta2
        case hia2 => simp only [gA, gS, gZ]; rfl
        case hya2 =>
          refine Or.inl ⟨by rfl, ?_⟩
          intro w hSw; (try dsimp only at hSw); go_simp <;> (with_reducible rfl)
        (try simp only [Act.put, pA, pZ, pS])
        refine wpAnyH_take (i := 3) (oi := ?oa3) (v := ?va3) ?hia3 (by kernel_rfl) (by kernel_rfl) (by kernel_rfl) (fun _ _ _ h => h) ?hya3 (by assumption) ?resta3
        case hia3 => simp only [gA, gS, gZ]; rfl
        case hya3 =>
          refine Or.inl ⟨by rfl, ?_⟩
          intro w hSw; (try dsimp only at hSw); go_simp <;> (with_reducible rfl)
        (try simp only [Act.put, pA, pZ, pS])
        refine wpAnyH_take (i := 4) (oi := ?oa4) (v := ?va4) ?hia4 (by kernel_rfl) (by kernel_rfl) (by kernel_rfl) (fun _ _ _ h => h) ?hya4 (by assumption) ?resta4
        case hia4 => simp only [gA, gS, gZ]; rfl
        case hya4 =>
          refine Or.inl ⟨by rfl, ?_⟩
          intro w hSw; (try dsimp only at hSw); go_simp <;> (with_reducible rfl)
        (try simp only [Act.put, pA, pZ, pS])
        refine wpAnyH_take (i := 5) (oi := ?oa5) (v := ?va5) ?hia5 (by kernel_rfl) (by kernel_rfl) (by kernel_rfl) (fun _ _ _ h => h) ?hya5 (by assumption) ?resta5
        case hia5 => simp only [gA, gS, gZ]; rfl
        case hya5 =>
          refine Or.inl ⟨by rfl, ?_⟩
          intro w hSw; (try dsimp only at hSw); go_simp <;> (with_reducible rfl)
        (try simp only [Act.put, pA, pZ, pS])
        refine wpAnyH_take (i := 6) (oi := ?oa6) (v := ?va6) ?hia6 (by kernel_rfl) (by kernel_rfl) (by kernel_rfl) (fun _ _ _ h => h) ?hya6 (by assumption) ?resta6
        case hia6 => simp only [gA, gS, gZ]; rfl
        case hya6 =>
          refine Or.inl ⟨by rfl, ?_⟩
          intro w hSw; (try dsimp only at hSw); go_simp <;> (with_reducible rfl)
        (try simp only [Act.put, pA, pZ, pS])
        refine wpAnyH_take (i := 7) (oi := ?oa7) (v := ?va7) ?hia7 (by kernel_rfl) (by kernel_rfl) (by kernel_rfl) (fun _ _ _ h => h) ?hya7 (by assumption) ?resta7
        case hia7 => simp only [gA, gS, gZ]; rfl
        case hya7 =>
          refine Or.inl ⟨by rfl, ?_⟩
          intro w hSw; (try dsimp only at hSw); go_simp <;> (with_reducible rfl)
        (try simp only [Act.put, pA, pZ, pS])
        refine wpAnyH_take (i := 8) (oi := ?oa8) (v := ?va8) ?hia8 (by kernel_rfl) (by kernel_rfl) (by kernel_rfl) (fun _ _ _ h => h) ?hya8 (by assumption) ?resta8
        case hia8 => simp only [gA, gS, gZ]; rfl
        case hya8 =>
          refine Or.inl ⟨by rfl, ?_⟩
          intro w hSw; (try dsimp only at hSw); go_simp <;> (with_reducible rfl)
        (try simp only [Act.put, pA, pZ, pS])
        refine wpAnyH_take (i := 9) (oi := ?oa9) (v := ?va9) ?hia9 (by kernel_rfl) (by kernel_rfl) (by kernel_rfl) (fun _ _ _ h => h) ?hya9 (by assumption) ?resta9
        case hia9 => simp only [gA, gS, gZ]; rfl
        case hya9 =>
          refine Or.inl ⟨by rfl, ?_⟩
          intro w hSw; (try dsimp only at hSw); go_simp <;> (with_reducible rfl)
        (try simp only [Act.put, pA, pZ, pS])
        refine wpAnyH_take (i := 10) (oi := ?oa10) (v := ?va10) ?hia10 (by kernel_rfl) (by kernel_rfl) (by kernel_rfl) (fun _ _ _ h => h) ?hya10 (by assumption) ?resta10
        case hia10 => simp only [gA, gS, gZ]; rfl
        case hya10 =>
          refine Or.inl ⟨by rfl, ?_⟩
          intro w hSw; (try dsimp only at hSw); go_simp <;> (with_reducible rfl)
        (try simp only [Act.put, pA, pZ, pS])
        refine wpAnyH_take (i := 11) (oi := ?oa11) (v := ?va11) ?hia11 (by kernel_rfl) (by kernel_rfl) (by kernel_rfl) (fun _ _ _ h => h) ?hya11 (by assumption) ?resta11
        case hia11 => simp only [gA, gS, gZ]; rfl
        case hya11 =>
          refine Or.inl ⟨by rfl, ?_⟩
          intro w hSw; (try dsimp only at hSw); go_simp <;> (with_reducible rfl)
        (try simp only [Act.put, pA, pZ, pS])
        refine wpAnyH_take (i := 12) (oi := ?oa12) (v := ?va12) ?hia12 (by kernel_rfl) (by kernel_rfl) (by kernel_rfl) (fun _ _ _ h => h) ?hya12 (by assumption) ?resta12
        case hia12 => simp only [gA, gS, gZ]; rfl
        case hya12 =>
          refine Or.inl ⟨by rfl, ?_⟩
          intro w hSw; (try dsimp only at hSw); go_simp <;> (with_reducible rfl)
        (try simp only [Act.put, pA, pZ, pS])
        refine wpAnyH_take (i := 13) (oi := ?oa13) (v := ?va13) ?hia13 (by kernel_rfl) (by kernel_rfl) (by kernel_rfl) (fun _ _ _ h => h) ?hya13 (by assumption) ?resta13
        case hia13 => simp only [gA, gS, gZ]; rfl
        case hya13 =>
          refine Or.inl ⟨by rfl, ?_⟩
          intro w hSw; (try dsimp only at hSw); go_simp <;> (with_reducible rfl)
        (try simp only [Act.put, pA, pZ, pS])
        refine wpAnyH_done (by kernel_rfl) ?_ _
        refine NoPanic.normal ?_
        have HB8 := Lib.hid hHeld.1.out.2
        have HJ8 := Lib.hid hHeld.1.out.1
        have hrr : w.heap.size ≠ r := fun e => by have h1 := HB7.out.2.2.2.rx; rw [e, HB7.out.1.blk] at h1; cases h1
        have hxr : w.heap.size + 1 ≠ r := fun e => by have h1 := HB7.out.2.2.2.vx; rw [e, HB7.out.1.blk] at h1; cases h1
        have hlst := HCS.out
        have hx3 := HX2.out
        have HX3 := Lib.hid hx3
        clear HLH hlk HNUM hnn hg hg2 HS0 hHeld HC HX2 hx3
        go_wp2_with fail
        have hx3 := HX3.out
        clear HX3
        rcases hlst with ⟨rfl, rfl, rfl⟩ | ⟨rfl, rfl, rfl⟩ | ⟨rfl, rfl, rfl⟩ | ⟨rfl, rfl, rfl⟩ | ⟨rfl, rfl, rfl⟩ | ⟨rfl, rfl, rfl⟩
        · rw [if_pos rfl] at hx3
          have hSV := HSV7.out
          have hbt : (⟨#[110, 117, 108, 108]⟩ : ByteArray).toList = [110, 117, 108, 108] := str_toList [110, 117, 108, 108]
          have HQ0 := jword_any (vb := vb) (n := n) ⟨#[110, 117, 108, 108]⟩ (by rw [hbt]; decide) (by show (str [110, 117, 108, 108]).size ≤ 1000; rw [str_size]; decide) (.mk 0 0 ⟨#[]⟩ []) rfl (w.heap.size + 1 + 1 + 1 + 1 + 1) (w.heap.size + 1 + 1 + 1 + 1) HJ8.out (HB7.out.2.1.under HB8.out) HNE.out.1 HNE.out.2 (HB7.out.2.2.2.under HB8.out) ((HB8.out.block _ (lt_of_block hSV.2.1)).trans hSV.2.1) ((HB8.out.block _ (lt_of_block hSV.1)).trans hSV.1)
          rw [hbt] at HQ0
          clear hbt hSV
          have HQ := HQ0
          clear HQ0
          have hxu : x = jwordP s [110, 117, 108, 108] (.mk 0 0 ⟨#[]⟩ []) p m := hx3
          obtain ⟨u, hu⟩ : ∃ u, u = jwordP s [110, 117, 108, 108] (.mk 0 0 ⟨#[]⟩ []) p m := ⟨_, rfl⟩
          rw [← hu] at HQ hxu
          subst hxu
          clear hu hx3
          go_wp2_with fail
          refine HQ.mono ?_
          rintro e w8 hp8
          rcases x with ⟨ec, ea⟩ | a
          · obtain ⟨⟨_, rfl, rfl⟩, hj8, hm8⟩ := hp8
            have HF := Lib.hid (⟨hj8, (Mod.of_below (F := JV2 r vb) (HB7.out.2.2.1.trans (HB8.out.mono HB7.out.2.2.1.size))).trans hm8⟩ : _ ∧ _)
            clear hj8 hm8 HQ
            go_wp2_with fail
            go_ret
            exact ⟨⟨_, rfl, rfl⟩, HF.out.1, HF.out.2⟩
          · obtain ⟨⟨rfl, hr8⟩, hm8⟩ := hp8
            have HF := Lib.hid (⟨hr8, (Mod.of_below (F := JV2 r vb) (HB7.out.2.2.1.trans (HB8.out.mono HB7.out.2.2.1.size))).trans hm8⟩ : _ ∧ _)
            clear hr8 hm8 HQ
            go_wp2_with fail
            go_ret
            exact ⟨⟨rfl, HF.out.1⟩, HF.out.2⟩
        · rw [if_neg (by decide), if_pos rfl] at hx3
          have hSV := HSV7.out
          have hbt : (⟨#[116, 114, 117, 101]⟩ : ByteArray).toList = [116, 114, 117, 101] := str_toList [116, 114, 117, 101]
          have HQ0 := jword_any (vb := vb) (n := n) ⟨#[116, 114, 117, 101]⟩ (by rw [hbt]; decide) (by show (str [116, 114, 117, 101]).size ≤ 1000; rw [str_size]; decide) (.mk 1 1 ⟨#[]⟩ []) rfl (w1'.heap.size + 1) (w1'.heap.size) HJ8.out (HB7.out.2.1.under HB8.out) HNE.out.1 HNE.out.2 (HB7.out.2.2.2.under HB8.out) ((HB8.out.block _ (lt_of_block hSV.2.2.2.1)).trans hSV.2.2.2.1) ((HB8.out.block _ (lt_of_block hSV.2.2.1)).trans hSV.2.2.1)
          rw [hbt] at HQ0
          clear hbt hSV
          have HQ := HQ0
          clear HQ0
          have hxu : x = jwordP s [116, 114, 117, 101] (.mk 1 1 ⟨#[]⟩ []) p m := hx3
          obtain ⟨u, hu⟩ : ∃ u, u = jwordP s [116, 114, 117, 101] (.mk 1 1 ⟨#[]⟩ []) p m := ⟨_, rfl⟩
          rw [← hu] at HQ hxu
          subst hxu
          clear hu hx3
          go_wp2_with fail
          refine HQ.mono ?_
          rintro e w8 hp8
          rcases x with ⟨ec, ea⟩ | a
          · obtain ⟨⟨_, rfl, rfl⟩, hj8, hm8⟩ := hp8
            have HF := Lib.hid (⟨hj8, (Mod.of_below (F := JV2 r vb) (HB7.out.2.2.1.trans (HB8.out.mono HB7.out.2.2.1.size))).trans hm8⟩ : _ ∧ _)
            clear hj8 hm8 HQ
            go_wp2_with fail
            go_ret
            exact ⟨⟨_, rfl, rfl⟩, HF.out.1, HF.out.2⟩
          · obtain ⟨⟨rfl, hr8⟩, hm8⟩ := hp8
            have HF := Lib.hid (⟨hr8, (Mod.of_below (F := JV2 r vb) (HB7.out.2.2.1.trans (HB8.out.mono HB7.out.2.2.1.size))).trans hm8⟩ : _ ∧ _)
            clear hr8 hm8 HQ
            go_wp2_with fail
            go_ret
            exact ⟨⟨rfl, HF.out.1⟩, HF.out.2⟩
        · rw [if_neg (by decide), if_neg (by decide), if_pos rfl] at hx3
          have hSV := HSV7.out
          have hbt : (⟨#[102, 97, 108, 115, 101]⟩ : ByteArray).toList = [102, 97, 108, 115, 101] := str_toList [102, 97, 108, 115, 101]
          have HQ0 := jword_any (vb := vb) (n := n) ⟨#[102, 97, 108, 115, 101]⟩ (by rw [hbt]; decide) (by show (str [102, 97, 108, 115, 101]).size ≤ 1000; rw [str_size]; decide) (.mk 1 0 ⟨#[]⟩ []) rfl (w2'.heap.size + 1) (w2'.heap.size) HJ8.out (HB7.out.2.1.under HB8.out) HNE.out.1 HNE.out.2 (HB7.out.2.2.2.under HB8.out) ((HB8.out.block _ (lt_of_block hSV.2.2.2.2.2)).trans hSV.2.2.2.2.2) ((HB8.out.block _ (lt_of_block hSV.2.2.2.2.1)).trans hSV.2.2.2.2.1)
          rw [hbt] at HQ0
          clear hbt hSV
          have HQ := HQ0
          clear HQ0
          have hxu : x = jwordP s [102, 97, 108, 115, 101] (.mk 1 0 ⟨#[]⟩ []) p m := hx3
          obtain ⟨u, hu⟩ : ∃ u, u = jwordP s [102, 97, 108, 115, 101] (.mk 1 0 ⟨#[]⟩ []) p m := ⟨_, rfl⟩
          rw [← hu] at HQ hxu
          subst hxu
          clear hu hx3
          go_wp2_with fail
          refine HQ.mono ?_
          rintro e w8 hp8
          rcases x with ⟨ec, ea⟩ | a
          · obtain ⟨⟨_, rfl, rfl⟩, hj8, hm8⟩ := hp8
            have HF := Lib.hid (⟨hj8, (Mod.of_below (F := JV2 r vb) (HB7.out.2.2.1.trans (HB8.out.mono HB7.out.2.2.1.size))).trans hm8⟩ : _ ∧ _)
            clear hj8 hm8 HQ
            go_wp2_with fail
            go_ret
            exact ⟨⟨_, rfl, rfl⟩, HF.out.1, HF.out.2⟩
          · obtain ⟨⟨rfl, hr8⟩, hm8⟩ := hp8
            have HF := Lib.hid (⟨hr8, (Mod.of_below (F := JV2 r vb) (HB7.out.2.2.1.trans (HB8.out.mono HB7.out.2.2.1.size))).trans hm8⟩ : _ ∧ _)
            clear hr8 hm8 HQ
            go_wp2_with fail
            go_ret
            exact ⟨⟨rfl, HF.out.1⟩, HF.out.2⟩
        · rw [if_neg (by decide), if_neg (by decide), if_neg (by decide), if_pos rfl] at hx3
          have HQ := jarr_any HL HJ8.out (HB7.out.2.1.under HB8.out) HNE.out.1 HNE.out.2 HPL.out (HB7.out.2.2.2.under HB8.out)
          have hxu : x = jlistP s false sub p m := hx3
          obtain ⟨u, hu⟩ : ∃ u, u = jlistP s false sub p m := ⟨_, rfl⟩
          rw [← hu] at HQ hxu
          subst hxu
          clear hu hx3
          go_wp2_with fail
          refine HQ.mono ?_
          rintro e w8 hp8
          rcases x with ⟨ec, ea⟩ | a
          · obtain ⟨⟨_, rfl, rfl⟩, hj8, hm8⟩ := hp8
            have HF := Lib.hid (⟨hj8, (Mod.of_below (F := JV2 r vb) (HB7.out.2.2.1.trans (HB8.out.mono HB7.out.2.2.1.size))).trans hm8⟩ : _ ∧ _)
            clear hj8 hm8 HQ
            go_wp2_with fail
            go_ret
            exact ⟨⟨_, rfl, rfl⟩, HF.out.1, HF.out.2⟩
          · obtain ⟨⟨rfl, hr8⟩, hm8⟩ := hp8
            have HF := Lib.hid (⟨hr8, (Mod.of_below (F := JV2 r vb) (HB7.out.2.2.1.trans (HB8.out.mono HB7.out.2.2.1.size))).trans hm8⟩ : _ ∧ _)
            clear hr8 hm8 HQ
            go_wp2_with fail
            go_ret
            exact ⟨⟨rfl, HF.out.1⟩, HF.out.2⟩
        · rw [if_neg (by decide), if_neg (by decide), if_neg (by decide), if_neg (by decide), if_pos rfl] at hx3
          have HQ := jobj_any HL HJ8.out (HB7.out.2.1.under HB8.out) HNE.out.1 HNE.out.2 HPL.out (HB7.out.2.2.2.under HB8.out)
          have hxu : x = jlistP s true sub p m := hx3
          obtain ⟨u, hu⟩ : ∃ u, u = jlistP s true sub p m := ⟨_, rfl⟩
          rw [← hu] at HQ hxu
          subst hxu
          clear hu hx3
          go_wp2_with fail
          refine HQ.mono ?_
          rintro e w8 hp8
          rcases x with ⟨ec, ea⟩ | a
          · obtain ⟨⟨_, rfl, rfl⟩, hj8, hm8⟩ := hp8
            have HF := Lib.hid (⟨hj8, (Mod.of_below (F := JV2 r vb) (HB7.out.2.2.1.trans (HB8.out.mono HB7.out.2.2.1.size))).trans hm8⟩ : _ ∧ _)
            clear hj8 hm8 HQ
            go_wp2_with fail
            go_ret
            exact ⟨⟨_, rfl, rfl⟩, HF.out.1, HF.out.2⟩
          · obtain ⟨⟨rfl, hr8⟩, hm8⟩ := hp8
            have HF := Lib.hid (⟨hr8, (Mod.of_below (F := JV2 r vb) (HB7.out.2.2.1.trans (HB8.out.mono HB7.out.2.2.1.size))).trans hm8⟩ : _ ∧ _)
            clear hr8 hm8 HQ
            go_wp2_with fail
            go_ret
            exact ⟨⟨rfl, HF.out.1⟩, HF.out.2⟩
        · rw [if_neg (by decide), if_neg (by decide), if_neg (by decide), if_neg (by decide), if_neg (by decide), if_pos rfl] at hx3
          have HQ := jstr_any (m := m) HJ8.out (HB7.out.2.1.under HB8.out) HNE.out.1 HNE.out.2 (HB7.out.2.2.2.under HB8.out) hrr hxr
          have hxu : x = jstrP s p m := hx3
          obtain ⟨u, hu⟩ : ∃ u, u = jstrP s p m := ⟨_, rfl⟩
          rw [← hu] at HQ hxu
          subst hxu
          clear hu hx3
          go_wp2_with fail
          refine HQ.mono ?_
          rintro e w8 hp8
          rcases x with ⟨ec, ea⟩ | a
          · obtain ⟨⟨_, rfl, rfl⟩, hj8, hm8⟩ := hp8
            have HF := Lib.hid (⟨hj8, (Mod.of_below (F := JV2 r vb) (HB7.out.2.2.1.trans (HB8.out.mono HB7.out.2.2.1.size))).trans hm8⟩ : _ ∧ _)
            clear hj8 hm8 HQ
            go_wp2_with fail
            go_ret
            exact ⟨⟨_, rfl, rfl⟩, HF.out.1, HF.out.2⟩
          · obtain ⟨⟨rfl, hr8⟩, hm8⟩ := hp8
            have HF := Lib.hid (⟨hr8, (Mod.of_below (F := JV2 r vb) (HB7.out.2.2.1.trans (HB8.out.mono HB7.out.2.2.1.size))).trans hm8⟩ : _ ∧ _)
            clear hr8 hm8 HQ
            go_wp2_with fail
            go_ret
            exact ⟨⟨rfl, HF.out.1⟩, HF.out.2⟩
      · have hxe : x = .error (wrongC s p, p) := by
          have h := HX2.out
          rw [if_neg (fun e => hk (.inl e)), if_neg (fun e => hk (.inr (.inl e))), if_neg (fun e => hk (.inr (.inr (.inl e)))), if_neg (fun e => hk (.inr (.inr (.inr (.inl e))))), if_neg (fun e => hk (.inr (.inr (.inr (.inr (.inl e)))))), if_neg (fun e => hk (.inr (.inr (.inr (.inr (.inr e))))))] at h
          exact h
        subst hxe
        have hlk : (Instr.lookup 99 (.map (some (w.heap.size + 1 + 1 + 1))) (.int .u8 (c.toNat : Int)) false).run Tryz.prog wc = .ok .nilFunc wc := by
          have hl := HLH.out
          simp only [if_neg (fun e => hk (.inl e)), if_neg (fun e => hk (.inr (.inl e))), if_neg (fun e => hk (.inr (.inr (.inl e)))), if_neg (fun e => hk (.inr (.inr (.inr (.inl e))))), if_neg (fun e => hk (.inr (.inr (.inr (.inr (.inl e)))))), if_neg (fun e => hk (.inr (.inr (.inr (.inr (.inr e))))))] at hl
          exact hl
        have HS0 : Hid (Hid (Jd wc.drew r s p m fw fa ∧ Below wc.heap.size wc wc.drew) ∧ wc.drew.cell? ⟨r, 0, none⟩ = some (.string s) ∧ wc.drew.cell? ⟨r, 1, none⟩ = some (.int .i64 p) ∧ wc.drew.cell? ⟨w.heap.size, 0, none⟩ = some (.pointer (some ⟨r, 0, none⟩))) := Lib.hid ⟨Lib.hid ⟨HB7.out.1.under (Below.refl _ _).drew, (Below.refl _ _).drew⟩, HB7.out.1.cells.1, HB7.out.1.cells.2.1, e7⟩
        clear hk HLH HX2 hnn HNUM
        have hfe := nil_eq30
        go_wp2_with fail
        refine wp_region_noPanic ?_
        refine wp_region_held_drew (S := (fun W => Hid (Jd W r s p m fw fa ∧ Below wc.heap.size wc W) ∧ W.cell? ⟨r, 0, none⟩ = some (.string s) ∧ W.cell? ⟨r, 1, none⟩ = some (.int .i64 p) ∧ W.cell? ⟨w.heap.size, 0, none⟩ = some (.pointer (some ⟨r, 0, none⟩)))) (by kernel_rfl) (by exact HS0.out) (fun hHeld => ?_)
        refine wpAnyH_take (i := 0) (oi := ?ob0) (v := ?vb0) ?hib0 (by kernel_rfl) (by kernel_rfl) (by kernel_rfl) (fun _ _ _ h => h) ?hyb0 (by assumption) ?restb0
        case hib0 => simp only [gA, gZ]; rfl
        case hyb0 =>
          refine Or.inl ⟨by rfl, ?_⟩
          intro w hSw; (try dsimp only at hSw); go_simp <;> (with_reducible rfl)
        (try simp only [Act.put, pA, pZ, pS])
        refine wpAnyH_take (i := 1) (oi := ?ob1) (v := ?vb1) ?hib1 (by kernel_rfl) (by kernel_rfl) (by kernel_rfl) (fun _ _ _ h => h) ?hyb1 (by assumption) ?restb1
        case hib1 => simp only [gA, gS, gZ]; rfl
        case hyb1 =>
          refine Or.inl ⟨by rfl, ?_⟩
          intro w hSw; (try dsimp only at hSw); go_simp <;> (with_reducible rfl)
        (try simp only [Act.put, pA, pZ, pS])
        refine wpAnyH_take (i := 2) (oi := ?ob2) (v := ?vb2) ?hib2 (by kernel_rfl) (by kernel_rfl) (by kernel_rfl) (fun _ _ _ h => h) ?hyb2 (by assumption) ?restb2
        case hib2 => simp only [gA, gS, gZ]; rfl
        case hyb2 =>
          refine Or.inl ⟨by rfl, ?_⟩
          intro w hSw; (try dsimp only at hSw); go_simp <;> (with_reducible rfl)
        (try simp only [Act.put, pA, pZ, pS])
        refine wpAnyH_take (i := 3) (oi := ?ob3) (v := undef) ?hib3 (by kernel_rfl) (by kernel_rfl) (by kernel_rfl) (fun _ _ _ h => h) ?hyb3 (by assumption) ?restb3
        case hib3 => simp only [gA, gS, gZ]; rfl
        case hyb3 => exact Or.inr ⟨by rfl, rfl⟩
        (try simp only [Act.put, pA, pZ, pS])
        refine wpAnyH_take (i := 4) (oi := ?ob4) (v := undef) ?hib4 (by kernel_rfl) (by kernel_rfl) (by kernel_rfl) (fun _ _ _ h => h) ?hyb4 (by assumption) ?restb4
        case hib4 => simp only [gA, gS, gZ]; rfl
        case hyb4 => exact Or.inr ⟨by rfl, rfl⟩
        (try simp only [Act.put, pA, pZ, pS])
        refine wpAnyH_take (i := 5) (oi := ?ob5) (v := undef) ?hib5 (by kernel_rfl) (by kernel_rfl) (by kernel_rfl) (fun _ _ _ h => h) ?hyb5 (by assumption) ?restb5
        case hib5 => simp only [gA, gS, gZ]; rfl
        case hyb5 => exact Or.inr ⟨by rfl, rfl⟩
        (try simp only [Act.put, pA, pZ, pS])
        refine wpAnyH_take (i := 6) (oi := ?ob6) (v := undef) ?hib6 (by kernel_rfl) (by kernel_rfl) (by kernel_rfl) (fun _ _ _ h => h) ?hyb6 (by assumption) ?restb6
        case hib6 => simp only [gA, gS, gZ]; rfl
        case hyb6 => exact Or.inr ⟨by rfl, rfl⟩
        (try simp only [Act.put, pA, pZ, pS])
        refine wpAnyH_take (i := 7) (oi := ?ob7) (v := undef) ?hib7 (by kernel_rfl) (by kernel_rfl) (by kernel_rfl) (fun _ _ _ h => h) ?hyb7 (by assumption) ?restb7
        case hib7 => simp only [gA, gS, gZ]; rfl
        case hyb7 => exact Or.inr ⟨by rfl, rfl⟩
        (try simp only [Act.put, pA, pZ, pS])
        refine wpAnyH_take (i := 8) (oi := ?ob8) (v := undef) ?hib8 (by kernel_rfl) (by kernel_rfl) (by kernel_rfl) (fun _ _ _ h => h) ?hyb8 (by assumption) ?restb8
        case hib8 => simp only [gA, gS, gZ]; rfl
        case hyb8 => exact Or.inr ⟨by rfl, rfl⟩
        (try simp only [Act.put, pA, pZ, pS])
        refine wpAnyH_take (i := 9) (oi := ?ob9) (v := undef) ?hib9 (by kernel_rfl) (by kernel_rfl) (by kernel_rfl) (fun _ _ _ h => h) ?hyb9 (by assumption) ?restb9
        case hib9 => simp only [gA, gS, gZ]; rfl
        case hyb9 => exact Or.inr ⟨by rfl, rfl⟩
        (try simp only [Act.put, pA, pZ, pS])
        refine wpAnyH_take (i := 10) (oi := ?ob10) (v := undef) ?hib10 (by kernel_rfl) (by kernel_rfl) (by kernel_rfl) (fun _ _ _ h => h) ?hyb10 (by assumption) ?restb10
        case hib10 => simp only [gA, gS, gZ]; rfl
        case hyb10 => exact Or.inr ⟨by rfl, rfl⟩
        (try simp only [Act.put, pA, pZ, pS])
        refine wpAnyH_take (i := 11) (oi := ?ob11) (v := undef) ?hib11 (by kernel_rfl) (by kernel_rfl) (by kernel_rfl) (fun _ _ _ h => h) ?hyb11 (by assumption) ?restb11
        case hib11 => simp only [gA, gS, gZ]; rfl
        case hyb11 => exact Or.inr ⟨by rfl, rfl⟩
        (try simp only [Act.put, pA, pZ, pS])
        refine wpAnyH_take (i := 12) (oi := ?ob12) (v := undef) ?hib12 (by kernel_rfl) (by kernel_rfl) (by kernel_rfl) (fun _ _ _ h => h) ?hyb12 (by assumption) ?restb12
        case hib12 => simp only [gA, gS, gZ]; rfl
        case hyb12 => exact Or.inr ⟨by rfl, rfl⟩
        (try simp only [Act.put, pA, pZ, pS])
        refine wpAnyH_take (i := 13) (oi := ?ob13) (v := ?vb13) ?hib13 (by kernel_rfl) (by kernel_rfl) (by kernel_rfl) (fun _ _ _ h => h) ?hyb13 (by assumption) ?restb13
        case hib13 => simp only [gA, gS, gZ]; rfl
        case hyb13 =>
          refine Or.inl ⟨by rfl, ?_⟩
          intro w hSw; (try dsimp only at hSw); go_simp <;> (with_reducible rfl)
        (try simp only [Act.put, pA, pZ, pS])
        refine wpAnyH_done (by kernel_rfl) ?_ _
        refine NoPanic.normal ?_
        have HB8 := Lib.hid hHeld.1.out.2
        have HJ8 := Lib.hid hHeld.1.out.1
        have e9 := hHeld.2.2.2
        clear HS0 hHeld hlk
        go_wp2_with fail
        refine (jwrong_any HJ8.out).mono ?_
        rintro _ w9 ⟨rfl, hj9, hm9⟩
        have HF := Lib.hid (⟨hj9, (Mod.of_below (F := JV2 r vb) (HB7.out.2.2.1.trans (HB8.out.mono HB7.out.2.2.1.size))).trans hm9.j1⟩ : _ ∧ _)
        clear hj9 hm9
        go_wp2_with fail
        go_ret
        exact ⟨⟨_, rfl, rfl⟩, ⟨_, _, HF.out.1⟩, HF.out.2⟩
    · rw [if_pos (HNUM.out.1 rfl)] at hx2
      obtain ⟨u, hu⟩ : ∃ u, u = jnumP s p := ⟨_, rfl⟩
      unfold jintP at hx2
      have HQ := jnumber_any HB7.out.1 HB7.out.2.1 HNE.out.1 HNE.out.2
      rw [← hu] at HQ hx2
      have HX2 := Lib.hid hx2
      clear hx2 HX hu HLH HNUM HC
      go_wp2_with fail
      refine HQ.mono ?_
      rintro e w8 hp8
      rcases u with ⟨ec, ea⟩ | ⟨z, q⟩
      · have hxe : x = .error (ec, ea) := HX2.out
        subst hxe
        obtain ⟨⟨_, rfl, rfl⟩, hj8, hm8⟩ := hp8
        have HF := Lib.hid (⟨hj8, (Mod.of_below (F := JV2 r vb) HB7.out.2.2.1).trans hm8⟩ : _ ∧ _)
        clear hj8 hm8 HQ HX2
        go_wp2_with fail
        go_ret
        exact ⟨⟨_, rfl, rfl⟩, HF.out.1, HF.out.2⟩
      · have hxe : x = .ok (.mk 2 z ⟨#[]⟩ [], q, m) := HX2.out
        subst hxe
        obtain ⟨⟨rfl, hj8, -, hv8⟩, hm8⟩ := hp8
        have HF := Lib.hid (⟨hj8, (Mod.of_below (F := JV2 r vb) HB7.out.2.2.1).trans hm8, hv8⟩ : _ ∧ _ ∧ _)
        clear hj8 hm8 hv8 HQ HX2
        go_wp2_with fail
        go_ret
        exact ⟨⟨rfl, HF.out.1, none, 0, HF.out.2.2, vt64_nil _⟩, HF.out.2.1⟩
end Go.Proofs.YtnaefnojmiolbaaGreatDoor
