/-
  Buffers on one another, as plain lists: what each call does, said without a program.
-/
import Derived.Test.YtoomffplaopijaaBytes
namespace Go.Proofs.Ytoomffplaopijaa

def up1 (b : UInt8) : UInt8 := if 97 ≤ b.toNat ∧ b.toNat ≤ 122 then b - 32 else b
/-- The filters. -/
def fl (name text : Bs) : Option Bs :=
  if name = [] then some text
  else if name = [117, 112] then some (text.map up1)
  else if name = [116, 119, 105, 99, 101] then some (text ++ text)
  else if name = [110, 111, 110, 101] then some []
  else if name = [105, 110] then some (60 :: (text ++ [62]))
  else none

theorem fl_some (name a b : Bs) : (fl name a).isSome = (fl name b).isSome := by
  unfold fl
  repeat (split; · rfl)
  rfl
theorem fl_len {name text x : Bs} (h : fl name text = some x) : x.length ≤ 2 * text.length + 2 := by
  unfold fl at h
  split at h
  · cases h; omega
  · split at h
    · cases h; simp; omega
    · split at h
      · cases h; simp; omega
      · split at h
        · cases h; simp
        · split at h
          · cases h; simp; omega
          · cases h

structure Bf where
  name : Bs
  text : Bs
structure Sk where
  bufs : List Bf
  bottom : Bs
  mark : Int
  first : Int

def bytesOf (bs : List Bf) : Nat := (bs.map fun b => b.text.length).sum
def Sk.total (s : Sk) : Nat := s.bottom.length + bytesOf s.bufs

/-- What a filter makes of a text: hf: is there a filter at all. -/
def mk (hf : Bool) (name text : Bs) : Option Bs := if name = [] then some text else if hf then fl name text else none
theorem mk_some (hf : Bool) (name a b : Bs) : (mk hf name a).isSome = (mk hf name b).isSome := by
  unfold mk
  split
  · rfl
  · split
    · exact fl_some name a b
    · rfl
theorem mk_len {hf : Bool} {name text x : Bs} (h : mk hf name text = some x) : x.length ≤ 2 * text.length + 2 := by
  unfold mk at h
  split at h
  · cases h; omega
  · split at h
    · exact fl_len h
    · cases h

/-- A text comes on a level (0: the bottom). -/
def come (s : Sk) (level : Nat) (x : Bs) : Sk :=
  match level with
  | 0 => { s with bottom := s.bottom ++ x, first := if s.bottom = [] ∧ x ≠ [] then s.mark else s.first }
  | k + 1 => { s with bufs := s.bufs.modify k fun b => { b with text := b.text ++ x } }
def push (hf : Bool) (s : Sk) (name : Bs) : Int × Sk :=
  if (mk hf name []).isSome then (if 32 ≤ s.bufs.length then (8, s) else (0, { s with bufs := s.bufs ++ [⟨name, []⟩] })) else (6, s)
def write (s : Sk) (x : Bs) : Int × Sk := if 65536 < s.total + x.length then (8, s) else (0, come s s.bufs.length x)
def clean (s : Sk) : Sk := { s with bufs := s.bufs.modify (s.bufs.length - 1) fun b => { b with text := [] } }
def popB (s : Sk) : Sk := { s with bufs := s.bufs.take (s.bufs.length - 1) }
def flush (hf : Bool) (s : Sk) : Int × Sk :=
  match s.bufs[s.bufs.length - 1]? with
  | none => (6, s)
  | some b =>
    if b.text = [] then (0, s)
    else if 65536 < s.total - b.text.length + ((mk hf b.name b.text).getD []).length then (8, s)
    else (0, come (clean s) (s.bufs.length - 1) ((mk hf b.name b.text).getD []))
def pop (hf : Bool) (s : Sk) : Int × Sk := if (flush hf s).1 = 0 then (0, popB (flush hf s).2) else flush hf s
/-- End, with so many rounds at the most. -/
def endN (hf : Bool) : Nat → Sk → Int × Sk
  | 0, s => (0, s)
  | n + 1, s => if s.bufs.length = 0 then (0, s) else if (pop hf s).1 = 0 then endN hf n (pop hf s).2 else pop hf s

/-- What stands always. -/
structure Ok (hf : Bool) (s : Sk) : Prop where
  total : s.total ≤ 65536
  deep : s.bufs.length ≤ 32
  names : ∀ b ∈ s.bufs, (mk hf b.name []).isSome = true
end Go.Proofs.Ytoomffplaopijaa
