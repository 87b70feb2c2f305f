/-
  The walks of the document's come, Push and Write.
-/
import Derived.Test.YtoomffplaopijaaRef12
namespace Go.Proofs.Ytoomffplaopijaa
open Go.RowKit

def RGive (w : World) (b : Nat) (v : Value) (s' : Sk) (x : Value) (e : Ending) (w' : World) : Prop := e = .returned x ∧ RLeft w b v s' w'

theorem rRows_set (l : List Bf) (k : Nat) (f : Bf) : rRows (l.set k f) = (rRows l).set k f.cells := by unfold rRows; rw [List.map_set]
theorem nl_text (f : Bf) (t : Bs) : (Bf.cells f).set 1 (.string (str t)) = Bf.cells ⟨f.name, t⟩ := rfl

/-- A text of a buffer turns. -/
theorem RefIs.setText {w : World} {b : Nat} {v : Value} {s : Sk} (i : RefIs w b v s) {k g n cap : Nat} {f : Bf} (hv : v = .slice (some ⟨g, 0, none⟩) n cap) (hk : s.bufs[k]? = some f) (t : Bs) (s' : Sk) (h1 : s'.bufs = s.bufs.set k ⟨f.name, t⟩) (h2 : s'.bottom = s.bottom) (h3 : s'.mark = s.mark) (h4 : s'.first = s.first) (hok : Ok true s') :
    RefIs (w.setCell ⟨g, k * 2 + 1, none⟩ (.string (str t))) b v s' ∧ Mod (fun j => v.ownBlock = some j) w (w.setCell ⟨g, k * 2 + 1, none⟩ (.string (str t))) := by
  subst hv
  have hne : b ≠ g := fun e => i.ne (by rw [e]; rfl)
  obtain ⟨o, gr⟩ := Owns.setRow i.rows (k := k) (r := f.cells) (by unfold rRows; rw [List.getElem?_map, hk]; rfl) 1 (by decide) (.string (str t)) rfl
  refine ⟨⟨by rw [h2, h3, h4]; exact set_other i.blk hne, ?_, i.ne, hok⟩, (Mod.refl _ w).setCell _ _ (fun _ => rfl)⟩
  rw [h1, rRows_set, ← nl_text]
  exact o

set_option maxHeartbeats 1600000 in
theorem rcome_level {b : Nat} {v : Value} {s : Sk} {w : World} (i : RefIs w b v s) {k : Nat} {f : Bf} (hk : s.bufs[k]? = some f) (x : ByteArray) (ht : s.total + x.size ≤ 65536) :
    Calls Try.prog 40 #[.pointer (some ⟨b, 0, none⟩), .int .i64 ((k : Int) + 1), .string x] w (RGive w b v (come s (k + 1) x.toList) (.tuple #[])) := by
  obtain ⟨g, cap, hv, hcap, hcm, c2, c3, hg, ff⟩ := i.at hk
  have c0 := cell_blk i.blk 0
  simp at c0
  rw [hv] at c0
  have hd := i.ok.deep
  have hlt := (List.getElem?_eq_some_iff.1 hk).1
  have hlt' : (k : Int) < (s.bufs.length : Int) := by omega
  have hL : Hid (RefIs (w.setCell ⟨g, k * 2 + 1, none⟩ (.string (str (f.text ++ x.toList)))) b v (come s (k + 1) x.toList) ∧ Mod (fun j => v.ownBlock = some j) w (w.setCell ⟨g, k * 2 + 1, none⟩ (.string (str (f.text ++ x.toList))))) :=
    i.setText hv hk (f.text ++ x.toList) _ (come_bufs hk x.toList) rfl rfl rfl (come_ok i.ok hk x.toList (by rw [size_toList]; exact ht))
  have hS : Hid (str f.text ++ x = str (f.text ++ x.toList)) := by show _ = _; rw [← str_append, str_of]
  have hle := bytesOf_le hk
  have hts : (str f.text).size = f.text.length := str_size _
  have hsum : f.text.length + x.size ≤ 65536 := by unfold Sk.total at ht; omega
  clear i hk hv hle
  go_enter Try.func40, Try.ntmps40
  go_wp2
  go_end0
  refine ⟨rfl, v, ?_, .inl rfl, ?_⟩
  · rw [hS.out]; exact hL.out.1
  · rw [hS.out]; exact hL.out.2.mono fun _ _ h => .inr h

set_option maxHeartbeats 1600000 in
theorem rcome_bottom {b : Nat} {v : Value} {s : Sk} {w : World} (i : RefIs w b v s) (x : ByteArray) (ht : s.total + x.size ≤ 65536) :
    Calls Try.prog 40 #[.pointer (some ⟨b, 0, none⟩), .int .i64 0, .string x] w (RGive w b v (come s 0 x.toList) (.tuple #[])) := by
  obtain ⟨ao, cap, hv, -, -, -, -⟩ := i.form
  have c1 := cell_blk i.blk 1
  have c2 := cell_blk i.blk 2
  have c3 := cell_blk i.blk 3
  have ff := free_blk i.blk
  have f1 := ff 1
  have f3 := ff 3
  simp at c1 c2 c3
  have hS : Hid (str s.bottom ++ x = str (s.bottom ++ x.toList)) := by show _ = _; rw [← str_append, str_of]
  have hts : (str s.bottom).size = s.bottom.length := str_size _
  have hsum : s.bottom.length + x.size ≤ 65536 := by unfold Sk.total at ht; omega
  have hok : Hid (Ok true (come s 0 x.toList)) := come0_ok i.ok x.toList (by rw [size_toList]; exact ht)
  have I := Lib.hid i
  clear i ff
  have hkeep : ∀ w' : World, Mod (fun k => k = b) w w' → Owns w' 62 2 v (rRows s.bufs) := fun w' m => I.out.rows.mod m (fun g e h => I.out.ne (by rw [e, h]))
  have HK := Lib.hid hkeep
  clear hkeep
  by_cases hb : s.bottom = [] ∧ x.toList ≠ []
  · obtain ⟨h1, h2⟩ := hb
    have e1 : (str s.bottom).toList = [] := by rw [toList_str]; exact h1
    have e2 : (!x.toList.isEmpty) = true := by simpa using h2
    have e3 : ¬ x.toList = [] := h2
    have HC : Hid (come s 0 x.toList = { s with bottom := s.bottom ++ x.toList, first := s.mark }) := by show _ = _; unfold come; simp [h1, h2]
    have H1 := Lib.hid h1
    clear h1 h2
    go_enter Try.func40, Try.ntmps40
    go_wp2
    go_end0
    refine ⟨rfl, v, ?_, .inl rfl, (((Mod.refl (fun k => k = b ∨ v.ownBlock = some k) w).setCell _ _ (fun _ => .inl rfl)).setCell _ _ (fun _ => .inl rfl))⟩
    rw [HC.out, hS.out]
    refine RefIs.setField (c := #[v, .string (str s.bottom), .int .i64 s.mark, .int .i64 s.mark]) ?_ 1 _ (HK.out _ (((Mod.refl (fun k => k = b) w).setCell _ _ (fun _ => rfl)))) I.out.ne (by have := hok.out; rw [HC.out] at this; exact this) rfl
    have := set_blk I.out.blk 3 (.int .i64 s.mark)
    simpa using this
  · have HC : Hid (come s 0 x.toList = { s with bottom := s.bottom ++ x.toList }) := by show _ = _; unfold come; simp only; rw [if_neg hb]
    have fin : ∀ w' : World, w' = w.setCell ⟨b, 1, none⟩ (.string (str s.bottom ++ x)) → RLeft w b v (come s 0 x.toList) w' := by
      intro w' e
      subst e
      refine ⟨v, ?_, .inl rfl, (Mod.refl (fun k => k = b ∨ v.ownBlock = some k) w).setCell _ _ (fun _ => .inl rfl)⟩
      rw [HC.out, hS.out]
      exact RefIs.setField I.out.blk 1 _ (HK.out _ (Mod.refl _ w)) I.out.ne (by have := hok.out; rw [HC.out] at this; exact this) rfl
    have FIN := Lib.hid fin
    clear fin
    by_cases h1 : s.bottom = []
    · have h2 : x.toList = [] := by
        cases hx : x.toList with
        | nil => rfl
        | cons a l => exact absurd ⟨h1, by rw [hx]; simp⟩ hb
      have e1 : (str s.bottom).toList = [] := by rw [toList_str]; exact h1
      have e2 : (!x.toList.isEmpty) = false := by simpa using h2
      have H1 := Lib.hid h1
      clear h1 hb
      go_enter Try.func40, Try.ntmps40
      go_wp2
      go_end0
      exact ⟨rfl, FIN.out _ rfl⟩
    · have e1 : ¬ (str s.bottom).toList = [] := by rw [toList_str]; exact h1
      have H1 := Lib.hid h1
      clear h1 hb
      go_enter Try.func40, Try.ntmps40
      go_wp2
      go_end0
      exact ⟨rfl, FIN.out _ rfl⟩
end Go.Proofs.Ytoomffplaopijaa
