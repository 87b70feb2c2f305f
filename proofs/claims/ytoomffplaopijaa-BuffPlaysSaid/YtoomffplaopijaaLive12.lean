/-
  A stack whose blocks all lie above a line: what was below the line stands, whatever is called. And the probe 'alive'.
-/
import Derived.Test.YtoomffplaopijaaNew12
namespace Go.Proofs.Ytoomffplaopijaa
open Go.RowKit

def Live (B : Nat) (w : World) (b : Nat) (fv : Value) (hf : Bool) (s : Sk) : Prop := B ≤ w.heap.size ∧ ∃ h, StackIs w b fv hf h s ∧ ∀ k, (h.own b).fp k → B ≤ k
theorem Live.ok {B : Nat} {w : World} {b : Nat} {fv : Value} {hf : Bool} {s : Sk} (l : Live B w b fv hf s) : Ok hf s := by obtain ⟨_, h, i, _⟩ := l; exact i.ok
theorem Live.next {B : Nat} {w w' : World} {b : Nat} {fv : Value} {hf : Bool} {s' : Sk} {h : Shape} (hB : B ≤ w.heap.size) (hF : ∀ k, (h.own b).fp k → B ≤ k) (l : Left w b fv hf h s' w') : Live B w' b fv hf s' ∧ Below B w w' := by
  obtain ⟨h', i, m, f⟩ := left_below l hB hF
  exact ⟨⟨Nat.le_trans hB m.size, h', i, f⟩, m⟩
theorem Live.stay {B : Nat} {w w' : World} {b : Nat} {fv : Value} {hf : Bool} {s : Sk} (l : Live B w b fv hf s) (m : Mod (fun _ => False) w w') : Live B w' b fv hf s := by
  obtain ⟨hB, h, i, hF⟩ := l
  exact ⟨Nat.le_trans hB m.size, h, i.stay m, hF⟩
theorem Live.drewN {B : Nat} {w : World} {b : Nat} {fv : Value} {hf : Bool} {s : Sk} (l : Live B w b fv hf s) (n : Nat) : Live B (w.drewN n) b fv hf s := l.stay ((Mod.refl _ w).drewN n)

def LivePost (B : Nat) (w : World) (b : Nat) (fv : Value) (hf : Bool) (s' : Sk) (v : Value) (e : Ending) (w' : World) : Prop := e = .returned v ∧ Live B w' b fv hf s' ∧ Below B w w'

section
variable {B b : Nat} {fv : Value} {hf : Bool} {s : Sk} {w : World} (l : Live B w b fv hf s)
include l
theorem live_push (x : ByteArray) : Calls Try.prog 16 #[.pointer (some ⟨b, 0, none⟩), .string x] w (LivePost B w b fv hf (push hf s x.toList).2 (.int .i64 (push hf s x.toList).1)) := by
  obtain ⟨hB, h, i, hF⟩ := l
  exact (push_any i x).mono fun e w' ⟨he, hl⟩ => ⟨he, Live.next hB hF hl⟩
theorem live_write (x : ByteArray) : Calls Try.prog 17 #[.pointer (some ⟨b, 0, none⟩), .string x] w (LivePost B w b fv hf (write s x.toList).2 (.int .i64 (write s x.toList).1)) := by
  obtain ⟨hB, h, i, hF⟩ := l
  exact (write_any i x).mono fun e w' ⟨he, hl⟩ => ⟨he, Live.next hB hF hl⟩
theorem live_flush : Calls Try.prog 18 #[.pointer (some ⟨b, 0, none⟩)] w (LivePost B w b fv hf (flush hf s).2 (.int .i64 (flush hf s).1)) := by
  obtain ⟨hB, h, i, hF⟩ := l
  exact (flush_any i).mono fun e w' ⟨he, hl⟩ => ⟨he, Live.next hB hF hl⟩
theorem live_pop : Calls Try.prog 19 #[.pointer (some ⟨b, 0, none⟩)] w (LivePost B w b fv hf (pop hf s).2 (.int .i64 (pop hf s).1)) := by
  obtain ⟨hB, h, i, hF⟩ := l
  exact (pop_any i).mono fun e w' ⟨he, hl⟩ => ⟨he, Live.next hB hF hl⟩
theorem live_end : Calls Try.prog 20 #[.pointer (some ⟨b, 0, none⟩)] w (LivePost B w b fv hf (endS hf s).2 (.int .i64 (endS hf s).1)) := by
  obtain ⟨hB, h, i, hF⟩ := l
  exact (end_any i).mono fun e w' ⟨he, hl⟩ => ⟨he, Live.next hB hF hl⟩
theorem live_mark (n : Int) : Calls Try.prog 24 #[.pointer (some ⟨b, 0, none⟩), .int .i64 n] w (LivePost B w b fv hf { s with mark := n } (.tuple #[])) := by
  obtain ⟨hB, h, i, hF⟩ := l
  exact (mark_any i n).mono fun e w' ⟨he, hl⟩ => ⟨he, Live.next hB hF hl⟩
theorem live_clean : Calls Try.prog 26 #[.pointer (some ⟨b, 0, none⟩)] w (LivePost B w b fv hf (clean s) (.bool (s.bufs[s.bufs.length - 1]?).isSome)) := by
  obtain ⟨hB, h, i, hF⟩ := l
  exact (clean_any i).mono fun e w' ⟨he, hl⟩ => ⟨he, Live.next hB hF hl⟩
theorem live_drop : Calls Try.prog 25 #[.pointer (some ⟨b, 0, none⟩)] w (LivePost B w b fv hf (dropS s) (.tuple #[.string (str ((s.bufs[s.bufs.length - 1]?.map Bf.text).getD [])), .bool (s.bufs[s.bufs.length - 1]?).isSome])) := by
  obtain ⟨hB, h, i, hF⟩ := l
  exact (drop_any i).mono fun e w' ⟨he, hl⟩ => ⟨he, Live.next hB hF hl⟩
theorem live_get : Calls Try.prog 12 #[.pointer (some ⟨b, 0, none⟩)] w (GetPost w s) := by
  obtain ⟨hB, h, i, hF⟩ := l
  exact get_any i
theorem live_depth : Calls Try.prog 13 #[.pointer (some ⟨b, 0, none⟩)] w fun e w' => e = .returned (.int .i64 (s.bufs.length : Int)) ∧ w = w' := by
  obtain ⟨hB, h, i, hF⟩ := l
  exact depth_any i
theorem live_bottom : Calls Try.prog 14 #[.pointer (some ⟨b, 0, none⟩)] w fun e w' => e = .returned (.string (str s.bottom)) ∧ w = w' := by
  obtain ⟨hB, h, i, hF⟩ := l
  exact bottom_any i
theorem live_first : Calls Try.prog 15 #[.pointer (some ⟨b, 0, none⟩)] w fun e w' => e = .returned (.int .i64 s.first) ∧ w = w' := by
  obtain ⟨hB, h, i, hF⟩ := l
  exact first_any i
end
theorem live_new {fv : Value} {hf : Bool} (hfn : FnIs fv hf) (w : World) (B : Nat) (hB : B ≤ w.heap.size) : Calls Try.prog 9 #[fv] w (LivePost B w w.heap.size fv hf sk0 (.pointer (some ⟨w.heap.size, 0, none⟩))) :=
  (new_any hfn w).mono fun e w' ⟨he, i, m, hlt⟩ => ⟨he, ⟨by omega, sh0, i, fun k x => by rw [sh0_fp x]; exact hB⟩, ((Mod.of_below (F := fun _ => False) m).belowB (fun _ _ x => x) hB)⟩

def skA : Sk := ⟨[⟨[117, 112], []⟩], [], 0, -1⟩
def skB : Sk := ⟨[⟨[117, 112], [97, 98]⟩], [], 0, -1⟩
def skC : Sk := ⟨[⟨[117, 112], [97, 98]⟩], [], 7, -1⟩
def skD : Sk := ⟨[⟨[117, 112], []⟩], [65, 66], 7, 7⟩
theorem tl2 (a b : UInt8) : (ByteArray.mk #[a, b]).toList = [a, b] := by rw [ByteArray.toList_eq]
theorem alive1 : push true sk0 (ByteArray.mk #[117, 112]).toList = (0, skA) := by rw [tl2]; rfl
theorem alive2 : write skA (ByteArray.mk #[97, 98]).toList = (0, skB) := by rw [tl2]; rfl
theorem alive3 : flush true skC = (0, skD) := by rfl

def AlivePost (w : World) (e : Ending) (w' : World) : Prop := e = .returned (.bool true) ∧ Below w.heap.size w w'

set_option maxHeartbeats 1600000 in
theorem alive_any (w : World) : Calls Try.prog 11 #[] w (AlivePost w) := by
  go_enter Try.func11, Try.ntmps11
  go_wp2_with (first
    | (go_at_call 9; refine (live_new (.inl ⟨rfl, rfl⟩) w w.heap.size (Nat.le_refl _)).mono ?_; rintro e w1 ⟨rfl, l, m⟩; have LL := Lib.hid l; have MM := Lib.hid m; clear l m)
    | (go_at_call 16; refine (live_push LL.out ⟨#[117, 112]⟩).mono ?_; rw [alive1]; rintro e w2 ⟨rfl, l, m⟩; have m' := MM.out.trans m; clear LL MM; have LL := Lib.hid l; have MM := Lib.hid m'; clear l m m')
    | (go_at_call 17; refine (live_write LL.out ⟨#[97, 98]⟩).mono ?_; rw [alive2]; rintro e w3 ⟨rfl, l, m⟩; have m' := MM.out.trans m; clear LL MM; have LL := Lib.hid l; have MM := Lib.hid m'; clear l m m')
    | (go_at_call 24; refine (live_mark LL.out 7).mono ?_; rintro e w4 ⟨rfl, l, m⟩; have l' : Live w.heap.size w4 w.heap.size (.func (.func 10) #[] #[]) true skC := l; have m' := MM.out.trans m; clear LL MM; have LL := Lib.hid l'; have MM := Lib.hid m'; clear l l' m m')
    | (go_at_call 18; refine (live_flush LL.out).mono ?_; rw [alive3]; rintro e w5 ⟨rfl, l, m⟩; have m' := MM.out.trans m; clear LL MM; have LL := Lib.hid l; have MM := Lib.hid m'; clear l m m')
    | (go_at_call 14; refine (live_bottom LL.out).mono ?_; rintro e w6 ⟨rfl, rfl⟩; rw [show str skD.bottom = ⟨#[65, 66]⟩ from rfl])
    | (go_at_call 15; refine (live_first LL.out).mono ?_; rintro e w6 ⟨rfl, rfl⟩; rw [show skD.first = 7 from rfl])
    | (go_at_call 13; refine (live_depth LL.out).mono ?_; rintro e w6 ⟨rfl, rfl⟩; rw [show (skD.bufs.length : Int) = 1 from rfl]))
  go_ret
  exact ⟨rfl, MM.out⟩
end Go.Proofs.Ytoomffplaopijaa
