/-
  The walk of the document's memo: Put.
-/
import Derived.Test.YtchiedlagdecoaaRGet19
namespace Go.Proofs.Ytchiedlagdecoaa
open Go.RowKit

/-- What the document's Put leaves. -/
def RSetPost (w : World) (b : Nat) (v : Value) (most : Int) (us' : List U) (h m : Int) (e : Ending) (w' : World) : Prop :=
  e = .returned (.tuple #[]) ∧ (∃ v', RefIs w' b v' most us' h m ∧ (v'.ownBlock = none ∨ v'.ownBlock = v.ownBlock ∨ Fresh w v')) ∧ Mod (fun k => k = b) w w'

set_option maxHeartbeats 1600000 in
theorem rput_any (b : Nat) (v : Value) (most h m : Int) (us : List U) (p : ByteArray) (st u : Int) (w : World) (i : RefIs w b v most us h m) (hl : us.length < 4398046511103) :
    Calls Try.prog 21 #[.pointer (some ⟨b, 0, none⟩), .string p, .int .i64 st, .int .i64 u] w (RSetPost w b v most (putU most p st u us) h m) := by
  have hb := lt_of_block i.blk
  have I := Lib.hid i
  clear i
  go_enter Try.func21, Try.ntmps21
  go_wp2_with fail
  refine (rdrop_any b _ most h m us p _ I.out).mono ?_
  rintro e w2 ⟨rfl, ⟨v2, i2, hv2⟩, hm2⟩
  have M2 := Lib.hid hm2
  have I2 := Lib.hid i2
  obtain ⟨ao, cap2, hform, hlc2, hcm2, hlies, hnone, -⟩ := i2.reads
  subst hform
  have y2 := cell_blk i2.blk 1
  simp at y2
  have hdl := drop_len p us
  have hL1 : Hid (Lies w2 3 ao ((dropU p us).map U.cells)) := hlies
  have hN1 : Hid (ao = none → (dropU p us).map U.cells = [] ∧ cap2 = 0) := fun e => by obtain ⟨a, b⟩ := hnone e; rw [a]; exact ⟨rfl, b⟩
  have n1 : Hid ((dropU p us).length = ((dropU p us).map U.cells).length) := by show _ = _; simp
  have r1 : Hid (([] : List (List Value)).length + ((dropU p us).map U.cells).length ≤ maxLen) := by show _ ≤ _; unfold maxLen; simp; omega
  have r2 : Hid ((([] : List (List Value)).length + ((dropU p us).map U.cells).length) * 32 ≤ 140737488355328) := by show _ ≤ _; simp; omega
  have r3 : Hid (((dropU p us).map U.cells).length + [(U.mk p st u).cells].length ≤ maxLen) := by show _ ≤ _; unfold maxLen; simp; omega
  have r4 : Hid ((((dropU p us).map U.cells).length + [(U.mk p st u).cells].length) * 32 ≤ 140737488355328) := by show _ ≤ _; simp; omega
  have hb2 := lt_of_block i2.blk
  have B2 := Lib.hid i2.blk
  clear hm2 hv2 i2 hlies hnone hdl hlc2 hcm2
  go_wp2_with (first
    | (at_builtin; refine wpList_append_rows rfl (.const (.slice none 0 0)) (.tmp 15) 25 rfl 49 _ 3 32 Try.underlying25 info49 rfl (by decide) (.slice none 0 0) [] rfl (Owns.empty _ _ _) ao (dropU p us).length cap2 ((dropU p us).map U.cells) rfl n1.out hN1.out hL1.out (U.rows_one _) (U.rows_len _) r1.out r2.out ?_; intro v3 w3 o3 g3 b3; rw [List.nil_append] at o3; obtain ⟨ao3, cap3, hv3, -⟩ := o3.any; rw [List.length_map] at hv3; subst hv3; have B3 := Lib.hid ((g3.block b hb2 (by simp [Value.ownBlock])).trans B2.out); have O3 := Lib.hid o3; have G3 := Lib.hid g3; have B3' := Lib.hid b3; have hO : ∀ (o : Obj), Hid (Owns (w3.alloc o) 49 3 (.slice ao3 (dropU p us).length cap3) ((dropU p us).map U.cells)) := fun o => o3.kept fun g e => Below.heap_alloc _ _ _ (o3.lt e); have hL : Hid (Lies (w3.alloc (.cells (U.mk p st u).cells.toArray 49)) 3 (some ⟨w3.heap.size, 0, none⟩) [(U.mk p st u).cells]) := lies_new w3 _ _ rfl; have hB : ∀ (o : Obj), Hid ((w3.alloc o).heap[b]? = some (.cells #[.int .i64 most, .slice ao (dropU p us).length cap2, .int .i64 h, .int .i64 m] 27 (0, 0)) ∧ b < (w3.alloc o).heap.size) := fun o => ⟨alloc_blk B3.out o, by have := lt_of_block B3.out; simp; omega⟩; clear o3 g3 b3)
    | (at_builtin; refine wpList_append_rows rfl (.tmp 16) (.tmp 21) 25 rfl 49 _ 3 32 Try.underlying25 info49 rfl (by decide) (.slice ao3 (dropU p us).length cap3) ((dropU p us).map U.cells) rfl (hO _).out (some ⟨w3.heap.size, 0, none⟩) 1 1 [(U.mk p st u).cells] rfl rfl (fun e => by cases e) hL.out (by simp [U.cells]; exact ⟨rfl, rfl, rfl⟩) (by simp [U.cells]) r3.out r4.out ?_; intro v4 w4 o4 g4 b4; obtain ⟨ao4, cap4, hv4, -⟩ := o4.any; subst hv4; have B4 := Lib.hid ((g4.block b (hB _).out.2 (by rcases B3'.out with e | ⟨j, e, hj⟩ <;> rw [e] <;> simp [Value.ownBlock] <;> omega)).trans (hB _).out.1); have z1 := cell_blk B4.out 1; have z0 := cell_blk B4.out 0; have ff := free_blk B4.out; simp at z1 z0; have O4 := Lib.hid o4; have G4 := Lib.hid g4; have B4' := Lib.hid b4; clear o4 g4 b4))
  have e4 : ((dropU p us).map U.cells ++ [(U.mk p st u).cells]).length = (dropU p us).length + 1 := by simp
  have o4 := O4.out
  have b4 := B4'.out
  have b3 := B3'.out
  rw [e4] at o4 b4
  have ha : dropU p us ++ [U.mk p st u] = addU p st u us := rfl
  have hal : (addU p st u us).length = (dropU p us).length + 1 := by unfold addU; simp
  have hdl := drop_len p us
  have fr3 : Fresh w2 (.slice ao3 (dropU p us).length cap3) := by
    intro j e
    rcases b3 with e' | ⟨j', e', hj⟩
    · rw [e'] at e; simp [Value.ownBlock] at e
    · rw [e'] at e; cases e; exact hj
  have m3 : Mod (fun _ => False) w2 w3 := (Mod.refl _ w2).grown G3.out (fun _ e _ => by cases e)
  have m4 : Mod (fun _ => False) w2 w4 := m3.trans' (G := fun j => w2.heap.size ≤ j) (((Mod.refl _ w3).alloc _).grown G4.out (fun j e _ => fr3 j e)) (fun i h1 h2 => by omega)
  have fr4 : Fresh w (.slice ao4 ((dropU p us).length + 1) cap4) := by
    intro j e
    rcases b4 with e' | ⟨j', e', hj⟩
    · have := fr3 j (e'.symm.trans e); have := M2.out.size; omega
    · rw [e'] at e; cases e
      have := m3.size; have := M2.out.size
      simp at hj; omega
  have hn : (Value.slice ao4 ((dropU p us).length + 1) cap4).ownBlock ≠ some b := fun e => by have := fr4 b e; omega
  have I4 : RefIs (w4.setCell ⟨b, 1, none⟩ (.slice ao4 ((dropU p us).length + 1) cap4)) b (.slice ao4 ((dropU p us).length + 1) cap4) most (addU p st u us) h m :=
    RefIs.set B4.out (Reads.of_owns (by rw [← ha, List.map_append]; exact o4)) hn (by omega) rfl
  have M4 : Mod (fun k => k = b) w (w4.setCell ⟨b, 1, none⟩ (.slice ao4 ((dropU p us).length + 1) cap4)) :=
    (M2.out.trans (m4.mono (fun _ _ x => x.elim))).setCell _ _ (fun _ => rfl)
  rw [← hal] at I4 M4 fr4
  rw [← hal]
  generalize w4.setCell ⟨b, 1, none⟩ (.slice ao4 (addU p st u us).length cap4) = w5 at *
  clear o4 b4 b3 m3 m4 ha e4 G3 O3 B3 B3' G4 O4 B4 B4' z0 z1 ff hO hL hB r1 r2 r3 r4 n1 hN1 hL1 M2 I2 hdl I y2 B2 fr3 hn
  have HP := put_len most p st u us
  have d0 := cell_blk I4.blk 0
  have d1 := cell_blk I4.blk 1
  have f1 := free_blk I4.blk 1
  simp at d0 d1
  have J4 := Lib.hid I4
  have K4 := Lib.hid M4
  have L4 := Lib.hid fr4
  have HA := Lib.hid hal
  clear I4 M4 fr4 hal
  by_cases hc : most < ((addU p st u us).length : Int)
  · have hp : Hid (putU most p st u us = (addU p st u us).drop 1) := by show _ = _; unfold putU; simp only; rw [if_pos hc]
    obtain ⟨M, hM⟩ : ∃ M, (addU p st u us).length = M + 1 := ⟨(dropU p us).length, HA.out⟩
    obtain ⟨ao', cap', hform, hlc, hcm, hu, -, -⟩ := J4.out.reads
    simp only [Value.slice.injEq] at hform
    obtain ⟨rfl, -, rfl⟩ := hform
    obtain ⟨g, off, rfl, hg, -, -⟩ := hu 0 (addU p st u us)[0].cells (by simp [hM])
    have HU := Lib.hid hu
    rw [hM] at J4 L4 d1 hc hlc
    rw [hM]
    have HM := Lib.hid hM
    have hlen := J4.out.len
    rw [hM] at hlen
    have hm1 : M + 1 ≤ 9223372036854775807 := by omega
    have h1c : 1 ≤ cap4 := by omega
    obtain ⟨A, hA, hAg, hR⟩ : ∃ A : Addr, (if cap4 = 1 then some (⟨g, off, none⟩ : Addr) else some ⟨g, off + 3, none⟩) = some A ∧ A.block = g ∧ Hid (Reads w5 (.slice (some A) M (cap4 - 1)) ((addU p st u us).drop 1)) := by
      have hl1 : ((addU p st u us).drop 1).length = M := by simp [hM]
      by_cases h : cap4 = 1
      · refine ⟨⟨g, off, none⟩, by simp [h], rfl, _, _, by rw [hl1], by omega, by omega, ?_, (fun e => by cases e), (fun j e => by simp [Value.ownBlock] at e; subst e; exact hg)⟩
        rw [List.eq_nil_of_length_eq_zero (hl1.trans (by omega))]
        exact Lies.nil _ _ _
      · refine ⟨⟨g, off + 3, none⟩, by simp [h], rfl, _, _, by rw [hl1], by omega, by omega, ?_, (fun e => by cases e), (fun j e => by simp [Value.ownBlock] at e; subst e; exact hg)⟩
        intro i r hi
        obtain ⟨g', off', e, a1, a2, a3⟩ := hu (i + 1) r (by simpa [Nat.add_comm] using hi)
        cases e
        exact ⟨g, off + 3, rfl, a1, a2, fun j u hj => by rw [← a3 j u hj]; congr 2; omega⟩
    have HG : A.block = g := hAg
    have HGG := Lib.hid HG
    clear hM hu hcm hlen hAg HG
    go_quiet (fail)
    rename_i nq
    go_wp2
    go_end0
    have hAb : A.block ≠ b := by rw [HGG.out]; exact fun e => J4.out.ne (by simp [Value.ownBlock, e])
    refine ⟨rfl, ⟨.slice (some A) M (cap4 - 1), ?_, .inr (.inr ?_)⟩, (K4.out.drewN nq).setCell _ _ (fun _ => rfl)⟩
    · rw [hp.out]
      have hR' : Reads (w5.drewN nq) (.slice (some A) M (cap4 - 1)) ((addU p st u us).drop 1) := hR.out.mod (F := fun _ => False) ((Mod.refl _ w5).drewN nq) (fun _ _ x => x)
      exact RefIs.set J4.out.blk hR' (by simp [Value.ownBlock]; exact hAb) (by rw [← hp.out]; omega) rfl
    · intro j e
      simp [Value.ownBlock, HGG.out] at e
      exact L4.out j (by simp [Value.ownBlock, e])
  · have hp : Hid (putU most p st u us = addU p st u us) := by show _ = _; unfold putU; simp only; rw [if_neg hc]
    go_quiet (fail)
    rename_i nq
    go_wp2
    go_end0
    refine ⟨rfl, ⟨_, ?_, .inr (.inr L4.out)⟩, K4.out.drewN nq⟩
    rw [hp.out]
    exact J4.out.mod' ((Mod.refl _ w5).drewN nq)
end Go.Proofs.Ytchiedlagdecoaa
