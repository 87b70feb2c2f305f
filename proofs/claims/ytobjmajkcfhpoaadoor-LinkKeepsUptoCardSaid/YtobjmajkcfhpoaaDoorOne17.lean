/-
  The linker's one (printed by genOne17.py).
-/
import Derived.Test.YtobjmajkcfhpoaaDoorLk17
namespace Go.Proofs.YtobjmajkcfhpoaaDoor
open Go.RowKit

attribute [local go_sem] yld_undef
/-- What one answers. -/
def oneQ (kind : Int) : Option KC → KC × Int
  | none => (KC.nil, 6)
  | some c => if c.1.kd = kind then (c, 0) else (c, 20)
def oneR (kn : List KC) (name : ByteArray) (kind : Int) : KC × Int := oneQ kind (findK kn name)
theorem oneP_R (kn : List KC) (name : ByteArray) (kind : Int) : oneP kn name kind = if (oneR kn name kind).2 = 0 then .ok (oneR kn name kind).1 else .error (oneR kn name kind).2 := by
  unfold oneP oneR oneQ
  cases findK kn name with
  | none => rfl
  | some c =>
    by_cases h : c.1.kd = kind
    · simp [h]
    · simp [h]
theorem if_le (p : Prop) [Decidable p] (n : Nat) : (if p then n else n + 1) ≤ n + 1 := by split <;> omega
def OnePost (w : World) (r : KC × Int) (e : Ending) (w' : World) : Prop := Below w.heap.size w w' ∧ e = .returned (.tuple #[KC.v r.1, .int .i64 r.2])
theorem kin_at {w0 W : World} {b : Nat} {s : LS} (h : LkO w0 W b s) : KnIn (NF b s.g s.l) (NF b s.g s.l) W (.slice s.K.o s.K.n s.K.c) s.kn :=
  ⟨h.kIn.rows.kept fun g hA hg => ⟨h.mod.block g hg hA, Nat.lt_of_lt_of_le hg h.mod.size, hA⟩, fun x hx => (h.kIn.cls x hx).kept fun g hA hg => ⟨h.mod.block g hg hA, Nat.lt_of_lt_of_le hg h.mod.size, hA⟩⟩
set_option maxHeartbeats 6400000 in
set_option maxRecDepth 100000 in
theorem one_any {w0 W : World} {b : Nat} {s : LS} (h : LkO w0 W b s) (hK0 : W.cell? ⟨b, 33, none⟩ = some (.slice s.K.o s.K.n s.K.c)) (hl : s.kn.length ≤ 1048576) (name : ByteArray) (kind : Int) :
    Calls Tryd.prog 42 #[.pointer (some ⟨b, 0, none⟩), .string name, .int .i64 kind] W (OnePost W (oneR s.kn name kind)) := by
  have A0 := Lib.hid (at1_start W (.cells #[.string ⟨#[]⟩, .int .i64 0, .bool false, .bool false, .string ⟨#[]⟩, .slice none 0 0, .slice none 0 0, .slice none 0 0, .slice none 0 0, .slice none 0 0, .slice none 0 0] 29))
  have hS := h.same A0.out.below
  have HF := Lib.hid (find_any name (kin_at hS).rows (by omega))
  have hK : (W.alloc (.cells #[.string ⟨#[]⟩, .int .i64 0, .bool false, .bool false, .string ⟨#[]⟩, .slice none 0 0, .slice none 0 0, .slice none 0 0, .slice none 0 0, .slice none 0 0, .slice none 0 0] 29)).cell? ⟨b, 33, none⟩ = some (.slice s.K.o s.K.n s.K.c) := (A0.out.below.cell (p := ⟨b, 33, none⟩) (cell_lt hK0)).trans hK0
  obtain ⟨q, hq⟩ : ∃ q, q = findK s.kn name := ⟨_, rfl⟩
  obtain ⟨r, hr⟩ : ∃ r, r = oneR s.kn name kind := ⟨_, rfl⟩
  have HR : Hid (r = oneQ kind q) := Lib.hid (by rw [hr, hq]; rfl)
  rw [← hr]
  rw [← hq] at HF
  clear hq hr h hS hl hK0
  go_enter Tryd.func42, Tryd.ntmps42
  go_wp2_with fail
  refine HF.out.mono ?_
  rintro _ w1 ⟨hb1, rfl⟩
  have A1 := Lib.hid (A0.out.mono hb1)
  clear hb1 hK
  cases q with
  | none =>
    have HRR : Hid (r = (KC.nil, 6)) := Lib.hid HR.out
    simp only [Option.getD_none, Option.isSome_none, KC.v, KC.nil, ClP.nil, VS6.nil]
    obtain ⟨w3, hw3⟩ : ∃ w3, w3 = w1.alloc (.cells #[.string ⟨#[]⟩, .int .i64 0, .bool false, .bool false, .string ⟨#[]⟩, .slice none 0 0, .slice none 0 0, .slice none 0 0, .slice none 0 0, .slice none 0 0, .slice none 0 0] 29) := ⟨_, rfl⟩
    have HB3 : Hid (Below W.heap.size W w3) := Lib.hid (hw3 ▸ A1.out.below.alloc A1.out.below.size _)
    have HZ : Hid ((w1.alloc (.cells #[.string ⟨#[]⟩, .int .i64 0, .bool false, .bool false, .string ⟨#[]⟩, .slice none 0 0, .slice none 0 0, .slice none 0 0, .slice none 0 0, .slice none 0 0, .slice none 0 0] 29)).heap[W.heap.size]? = some (.cells #[.string ⟨#[]⟩, .int .i64 0, .bool false, .bool false, .string ⟨#[]⟩, .slice none 0 0, .slice none 0 0, .slice none 0 0, .slice none 0 0, .slice none 0 0, .slice none 0 0] 29 (0, 0))) := Lib.hid (alloc_blk A1.out.a _)
    rw [hw3] at HB3
    clear hw3
    go_wp2_with (refine wpList_store_row rfl 29 (.tmp 6) (.tmp 22) rfl W.heap.size #[.string ⟨#[]⟩, .int .i64 0, .bool false, .bool false, .string ⟨#[]⟩, .slice none 0 0, .slice none 0 0, .slice none 0 0, .slice none 0 0, .slice none 0 0, .slice none 0 0] (by rfl) (by rfl) 29 #[.string ⟨#[]⟩, .int .i64 0, .bool false, .bool false, .string ⟨#[]⟩, .slice none 0 0, .slice none 0 0, .slice none 0 0, .slice none 0 0, .slice none 0 0, .slice none 0 0] HZ.out size29 rfl (by simp [Value.oneCell']) ?_; intro w4 hx4 hm4; have HX := Lib.hid hx4; have HM := Lib.hid hm4; clear hx4 hm4)
    go_wp2_with fail
    have c0 := cell_blk HX.out 0; have c1 := cell_blk HX.out 1; have c2 := cell_blk HX.out 2; have c3 := cell_blk HX.out 3; have c4 := cell_blk HX.out 4; have c5 := cell_blk HX.out 5; have c6 := cell_blk HX.out 6; have c7 := cell_blk HX.out 7; have c8 := cell_blk HX.out 8; have c9 := cell_blk HX.out 9; have c10 := cell_blk HX.out 10
    exact bodyPost_ret (v := .tuple #[KC.v KC.nil, .int .i64 6]) (by simp [results, Tryd.results42, go_sem, KC.v, KC.nil, ClP.nil, VS6.nil, c0, c1, c2, c3, c4, c5, c6, c7, c8, c9, c10]) rfl ⟨mod_below' HB3.out HM.out HB3.out.size (fun k e => by have e : k = W.heap.size := e; omega), by rw [HRR.out]⟩
  | some x =>
    simp only [Option.getD_some, Option.isSome_some, KC.v]
    have HB3 : Hid (Below W.heap.size W (w1.alloc (.cells #[.string x.1.nm, .int .i64 x.1.kd, .bool x.1.ab, .bool x.1.fi, .string x.1.pa, .slice x.2.f.o x.2.f.n x.2.f.c, .slice x.2.t.o x.2.t.n x.2.t.c, .slice x.2.a.o x.2.a.n x.2.a.c, .slice x.2.c.o x.2.c.n x.2.c.c, .slice x.2.p.o x.2.p.n x.2.p.c, .slice x.2.m.o x.2.m.n x.2.m.c] 29))) := Lib.hid (A1.out.below.alloc A1.out.below.size _)
    have HZ : Hid ((w1.alloc (.cells #[.string x.1.nm, .int .i64 x.1.kd, .bool x.1.ab, .bool x.1.fi, .string x.1.pa, .slice x.2.f.o x.2.f.n x.2.f.c, .slice x.2.t.o x.2.t.n x.2.t.c, .slice x.2.a.o x.2.a.n x.2.a.c, .slice x.2.c.o x.2.c.n x.2.c.c, .slice x.2.p.o x.2.p.n x.2.p.c, .slice x.2.m.o x.2.m.n x.2.m.c] 29)).heap[W.heap.size]? = some (.cells #[.string ⟨#[]⟩, .int .i64 0, .bool false, .bool false, .string ⟨#[]⟩, .slice none 0 0, .slice none 0 0, .slice none 0 0, .slice none 0 0, .slice none 0 0, .slice none 0 0] 29 (0, 0))) := Lib.hid (alloc_blk A1.out.a _)
    obtain ⟨e, he⟩ : ∃ e, (x.1.kd == kind) = e := ⟨_, rfl⟩
    have he2 : (x.1.kd != kind) = !e := by rw [← he]; rfl
    cases e with
    | true =>
      have HRR : Hid (r = (x, 0)) := Lib.hid (by rw [HR.out]; exact if_pos (by simpa using he))
      clear HR he
      go_wp2_with (refine wpList_store_row rfl 29 (.tmp 6) (.tmp 29) rfl W.heap.size #[.string x.1.nm, .int .i64 x.1.kd, .bool x.1.ab, .bool x.1.fi, .string x.1.pa, .slice x.2.f.o x.2.f.n x.2.f.c, .slice x.2.t.o x.2.t.n x.2.t.c, .slice x.2.a.o x.2.a.n x.2.a.c, .slice x.2.c.o x.2.c.n x.2.c.c, .slice x.2.p.o x.2.p.n x.2.p.c, .slice x.2.m.o x.2.m.n x.2.m.c] (by rfl) (by rfl) 29 #[.string ⟨#[]⟩, .int .i64 0, .bool false, .bool false, .string ⟨#[]⟩, .slice none 0 0, .slice none 0 0, .slice none 0 0, .slice none 0 0, .slice none 0 0, .slice none 0 0] HZ.out size29 rfl (by simp [Value.oneCell']) ?_; intro w4 hx4 hm4; have HX := Lib.hid hx4; have HM := Lib.hid hm4; clear hx4 hm4)
      go_wp2_with fail
      have c0 := cell_blk HX.out 0; have c1 := cell_blk HX.out 1; have c2 := cell_blk HX.out 2; have c3 := cell_blk HX.out 3; have c4 := cell_blk HX.out 4; have c5 := cell_blk HX.out 5; have c6 := cell_blk HX.out 6; have c7 := cell_blk HX.out 7; have c8 := cell_blk HX.out 8; have c9 := cell_blk HX.out 9; have c10 := cell_blk HX.out 10
      exact bodyPost_ret (v := .tuple #[KC.v x, .int .i64 0]) (by simp [results, Tryd.results42, go_sem, KC.v, c0, c1, c2, c3, c4, c5, c6, c7, c8, c9, c10]) rfl ⟨mod_below' HB3.out HM.out HB3.out.size (fun k e => by have e : k = W.heap.size := e; omega), by rw [HRR.out]⟩
    | false =>
      have HRR : Hid (r = (x, 20)) := Lib.hid (by rw [HR.out]; exact if_neg (by simpa using he))
      clear HR he
      go_wp2_with (refine wpList_store_row rfl 29 (.tmp 6) (.tmp 28) rfl W.heap.size #[.string x.1.nm, .int .i64 x.1.kd, .bool x.1.ab, .bool x.1.fi, .string x.1.pa, .slice x.2.f.o x.2.f.n x.2.f.c, .slice x.2.t.o x.2.t.n x.2.t.c, .slice x.2.a.o x.2.a.n x.2.a.c, .slice x.2.c.o x.2.c.n x.2.c.c, .slice x.2.p.o x.2.p.n x.2.p.c, .slice x.2.m.o x.2.m.n x.2.m.c] (by rfl) (by rfl) 29 #[.string ⟨#[]⟩, .int .i64 0, .bool false, .bool false, .string ⟨#[]⟩, .slice none 0 0, .slice none 0 0, .slice none 0 0, .slice none 0 0, .slice none 0 0, .slice none 0 0] HZ.out size29 rfl (by simp [Value.oneCell']) ?_; intro w4 hx4 hm4; have HX := Lib.hid hx4; have HM := Lib.hid hm4; clear hx4 hm4)
      go_wp2_with fail
      have c0 := cell_blk HX.out 0; have c1 := cell_blk HX.out 1; have c2 := cell_blk HX.out 2; have c3 := cell_blk HX.out 3; have c4 := cell_blk HX.out 4; have c5 := cell_blk HX.out 5; have c6 := cell_blk HX.out 6; have c7 := cell_blk HX.out 7; have c8 := cell_blk HX.out 8; have c9 := cell_blk HX.out 9; have c10 := cell_blk HX.out 10
      exact bodyPost_ret (v := .tuple #[KC.v x, .int .i64 20]) (by simp [results, Tryd.results42, go_sem, KC.v, c0, c1, c2, c3, c4, c5, c6, c7, c8, c9, c10]) rfl ⟨mod_below' HB3.out HM.out HB3.out.size (fun k e => by have e : k = W.heap.size := e; omega), by rw [HRR.out]⟩
end Go.Proofs.YtobjmajkcfhpoaaDoor
