/-
  No cell of these rows narrows 'for every input' (looked for: loops, veiled, ifaces, maps, wideKeys, modest, calm, conditions, laid).
  DERIVED. THE GIVEN ROWS OF THIS SEAT. 6 by the template 'for every input the law returns true; each argument reads behind the call as it read before'; 0 by the template 'total and deterministic' (their statements: YtchiedlagdecoaaTotals.lean).
  GIVEN WITH THE SEED: the statements are not yours to turn. If you find one false, say at which input.
  Laid BY PROGRAM, IN A SANDBOX (cutbox-rows.mjs): the forced cells as the released guide's own fill.sh prints them over the translation 347061efda02b069… (all of the seat's roots in one cut). By AI agents, Wed Nov 11 2026. No macro, syntax, notation, axiom, sorry.
-/
import Derived.Test.YtchiedlagdecoaaChecked
import GoSem.Claim
import GoSem.ClaimJoined
import GoSem.ClaimMapViews
import Derived.JoinedTies
import Derived.KernelRfl
namespace Go.Proofs.Ytchiedlagdecoaa
/- THE CELL 'sum', in the pinned program and in every row, IS THE sha256 OF THE DUMP (.gsa) THAT YtchiedlagdecoaaProg.lean LOADS. Nothing in Lean hashes anything: it is a label: what it is worth is what the hold of that sum in a sandbox is worth. -/
noncomputable def Try.pinned : Pinned := { name := "ytchiedlagdecoaa", sum := "347061efda02b06957eb79e50b6a3830ca78b84a35b224580846712a52070f86", checked := Try.checked }
namespace Rows
def none {H : Type} : Left H := { results := [], args := [] }

/-- 'ostlerlaw19.MemoPlays': WHATEVER THE INPUT: true; the input reads as it did. -/
def memoPlaysSpec : ChangeSpec := { name := "memoPlays", fn := fun _ => fun
  | [d1, d2] => { results := [.lit (.bool true)], args := [d1, d2] }
  | _ => none }
def memoPlaysRow : OpenClaim := { program := "ytchiedlagdecoaa", sum := "347061efda02b06957eb79e50b6a3830ca78b84a35b224580846712a52070f86", func := "ostler/ostlerlaw19.MemoPlays", spec := "memoPlays", unfollowed := true, recurses := true, apart := false }
def MemoPlaysSaid : Prop := memoPlaysRow.holds Try.pinned (OpenSpec.ofChange memoPlaysSpec)

/-- ITS FALSE NEIGHBOUR: 'it returns false'. Refute it at one input. -/
def memoPlaysWrong : ChangeSpec := { name := "memoPlays", fn := fun _ => fun
  | [d1, d2] => { results := [.lit (.bool false)], args := [d1, d2] }
  | _ => none }
def MemoPlaysWrongFalsely : Prop := memoPlaysRow.holds Try.pinned (OpenSpec.ofChange memoPlaysWrong)

/-- 'ostlerlaw19.MemoTrue': WHATEVER THE INPUT: true; the input reads as it did. -/
def memoTrueSpec : ChangeSpec := { name := "memoTrue", fn := fun _ => fun
  | [d1, d2] => { results := [.lit (.bool true)], args := [d1, d2] }
  | _ => none }
def memoTrueRow : OpenClaim := { program := "ytchiedlagdecoaa", sum := "347061efda02b06957eb79e50b6a3830ca78b84a35b224580846712a52070f86", func := "ostler/ostlerlaw19.MemoTrue", spec := "memoTrue", unfollowed := true, recurses := true, apart := false }
def MemoTrueSaid : Prop := memoTrueRow.holds Try.pinned (OpenSpec.ofChange memoTrueSpec)

/-- ITS FALSE NEIGHBOUR: 'it returns false'. Refute it at one input. -/
def memoTrueWrong : ChangeSpec := { name := "memoTrue", fn := fun _ => fun
  | [d1, d2] => { results := [.lit (.bool false)], args := [d1, d2] }
  | _ => none }
def MemoTrueWrongFalsely : Prop := memoTrueRow.holds Try.pinned (OpenSpec.ofChange memoTrueWrong)

/-- 'ostlerlaw19.MemoRoom': WHATEVER THE INPUT: true; the input reads as it did. -/
def memoRoomSpec : ChangeSpec := { name := "memoRoom", fn := fun _ => fun
  | [d] => { results := [.lit (.bool true)], args := [d] }
  | _ => none }
def memoRoomRow : OpenClaim := { program := "ytchiedlagdecoaa", sum := "347061efda02b06957eb79e50b6a3830ca78b84a35b224580846712a52070f86", func := "ostler/ostlerlaw19.MemoRoom", spec := "memoRoom", unfollowed := true, recurses := true, apart := false }
def MemoRoomSaid : Prop := memoRoomRow.holds Try.pinned (OpenSpec.ofChange memoRoomSpec)

/-- ITS FALSE NEIGHBOUR: 'it returns false'. Refute it at one input. -/
def memoRoomWrong : ChangeSpec := { name := "memoRoom", fn := fun _ => fun
  | [d] => { results := [.lit (.bool false)], args := [d] }
  | _ => none }
def MemoRoomWrongFalsely : Prop := memoRoomRow.holds Try.pinned (OpenSpec.ofChange memoRoomWrong)

/-- 'ostlerlaw19.MemoCounts': WHATEVER THE INPUT: true; the input reads as it did. -/
def memoCountsSpec : ChangeSpec := { name := "memoCounts", fn := fun _ => fun
  | [d1, d2] => { results := [.lit (.bool true)], args := [d1, d2] }
  | _ => none }
def memoCountsRow : OpenClaim := { program := "ytchiedlagdecoaa", sum := "347061efda02b06957eb79e50b6a3830ca78b84a35b224580846712a52070f86", func := "ostler/ostlerlaw19.MemoCounts", spec := "memoCounts", unfollowed := true, recurses := true, apart := false }
def MemoCountsSaid : Prop := memoCountsRow.holds Try.pinned (OpenSpec.ofChange memoCountsSpec)

/-- ITS FALSE NEIGHBOUR: 'it returns false'. Refute it at one input. -/
def memoCountsWrong : ChangeSpec := { name := "memoCounts", fn := fun _ => fun
  | [d1, d2] => { results := [.lit (.bool false)], args := [d1, d2] }
  | _ => none }
def MemoCountsWrongFalsely : Prop := memoCountsRow.holds Try.pinned (OpenSpec.ofChange memoCountsWrong)

/-- 'ostlerlaw19.MemoOwn': WHATEVER THE INPUT: true; the input reads as it did. -/
def memoOwnSpec : ChangeSpec := { name := "memoOwn", fn := fun _ => fun
  | [d] => { results := [.lit (.bool true)], args := [d] }
  | _ => none }
def memoOwnRow : OpenClaim := { program := "ytchiedlagdecoaa", sum := "347061efda02b06957eb79e50b6a3830ca78b84a35b224580846712a52070f86", func := "ostler/ostlerlaw19.MemoOwn", spec := "memoOwn", unfollowed := true, recurses := true, apart := false }
def MemoOwnSaid : Prop := memoOwnRow.holds Try.pinned (OpenSpec.ofChange memoOwnSpec)

/-- ITS FALSE NEIGHBOUR: 'it returns false'. Refute it at one input. -/
def memoOwnWrong : ChangeSpec := { name := "memoOwn", fn := fun _ => fun
  | [d] => { results := [.lit (.bool false)], args := [d] }
  | _ => none }
def MemoOwnWrongFalsely : Prop := memoOwnRow.holds Try.pinned (OpenSpec.ofChange memoOwnWrong)

/-- 'ostlerlaw19.MemoNobody': WHATEVER THE INPUT: true; the input reads as it did. -/
def memoNobodySpec : ChangeSpec := { name := "memoNobody", fn := fun _ => fun
  | [d] => { results := [.lit (.bool true)], args := [d] }
  | _ => none }
def memoNobodyRow : OpenClaim := { program := "ytchiedlagdecoaa", sum := "347061efda02b06957eb79e50b6a3830ca78b84a35b224580846712a52070f86", func := "ostler/ostlerlaw19.MemoNobody", spec := "memoNobody", unfollowed := true, recurses := true, apart := false }
def MemoNobodySaid : Prop := memoNobodyRow.holds Try.pinned (OpenSpec.ofChange memoNobodySpec)

/-- ITS FALSE NEIGHBOUR: 'it returns false'. Refute it at one input. -/
def memoNobodyWrong : ChangeSpec := { name := "memoNobody", fn := fun _ => fun
  | [d] => { results := [.lit (.bool false)], args := [d] }
  | _ => none }
def MemoNobodyWrongFalsely : Prop := memoNobodyRow.holds Try.pinned (OpenSpec.ofChange memoNobodyWrong)

/- THE SECOND FORM. 'bulk': how many values and letters a reading holds, each counted each time it is reached (what is shared counts as often as it is met; a slice's spare places count too). A statement '..UptoSaid' is the law's where the arguments, and the package variables that the reading takes, are together of bulk at most 1048576: NARROWER than '..Said'. Prove '..Said' where nothing that the law and all that it calls make is longer than what came in: it says more and counts as full. Else prove '..UptoSaid'. A law counts once. -/
mutual
def uptoBulk {H : Type} : DataW H → Nat
  | .lit (.string bytes) => bytes.length + 1
  | .lit _ => 1
  | .nil => 1
  | .ptr d => uptoBulk d + 1
  | .slice elems spare => uptoBulkAll elems + uptoBulkAll spare + 1
  | .agg parts => uptoBulkAll parts + 1
  | .iface _ d => uptoBulk d + 1
  | .map entries => uptoBulkEntries entries + 1
  | .held _ => 1
def uptoBulkAll {H : Type} : List (DataW H) → Nat
  | [] => 0
  | d :: r => uptoBulk d + uptoBulkAll r
def uptoBulkEntries {H : Type} : List (Lit × DataW H) → Nat
  | [] => 0
  | x :: r => uptoBulkEntry x + uptoBulkEntries r
def uptoBulkEntry {H : Type} : Lit × DataW H → Nat
  | (.string bytes, d) => bytes.length + uptoBulk d + 1
  | (_, d) => uptoBulk d + 1
 end
def uptoSmall : (H : Type) → List (DataW H) → Bool := fun _ ds => decide (uptoBulkAll ds ≤ 1048576)
def OpenSpec.upto (s : _root_.Go.ChangeSpec) : _root_.Go.OpenSpec := { _root_.Go.OpenSpec.ofChange s with cond := some uptoSmall }

/-- 'ostlerlaw19.MemoPlays', WHERE WHAT IT READS IS OF BULK AT MOST 1048576: true; the input reads as it did. -/
def memoPlaysUptoRow : OpenClaim := { program := "ytchiedlagdecoaa", sum := "347061efda02b06957eb79e50b6a3830ca78b84a35b224580846712a52070f86", func := "ostler/ostlerlaw19.MemoPlays", spec := "memoPlays", unfollowed := true, recurses := true, apart := false, narrowed := true }
def MemoPlaysUptoSaid : Prop := memoPlaysUptoRow.holds Try.pinned (OpenSpec.upto memoPlaysSpec)

/-- 'ostlerlaw19.MemoTrue', WHERE WHAT IT READS IS OF BULK AT MOST 1048576: true; the input reads as it did. -/
def memoTrueUptoRow : OpenClaim := { program := "ytchiedlagdecoaa", sum := "347061efda02b06957eb79e50b6a3830ca78b84a35b224580846712a52070f86", func := "ostler/ostlerlaw19.MemoTrue", spec := "memoTrue", unfollowed := true, recurses := true, apart := false, narrowed := true }
def MemoTrueUptoSaid : Prop := memoTrueUptoRow.holds Try.pinned (OpenSpec.upto memoTrueSpec)

/-- 'ostlerlaw19.MemoRoom', WHERE WHAT IT READS IS OF BULK AT MOST 1048576: true; the input reads as it did. -/
def memoRoomUptoRow : OpenClaim := { program := "ytchiedlagdecoaa", sum := "347061efda02b06957eb79e50b6a3830ca78b84a35b224580846712a52070f86", func := "ostler/ostlerlaw19.MemoRoom", spec := "memoRoom", unfollowed := true, recurses := true, apart := false, narrowed := true }
def MemoRoomUptoSaid : Prop := memoRoomUptoRow.holds Try.pinned (OpenSpec.upto memoRoomSpec)

/-- 'ostlerlaw19.MemoCounts', WHERE WHAT IT READS IS OF BULK AT MOST 1048576: true; the input reads as it did. -/
def memoCountsUptoRow : OpenClaim := { program := "ytchiedlagdecoaa", sum := "347061efda02b06957eb79e50b6a3830ca78b84a35b224580846712a52070f86", func := "ostler/ostlerlaw19.MemoCounts", spec := "memoCounts", unfollowed := true, recurses := true, apart := false, narrowed := true }
def MemoCountsUptoSaid : Prop := memoCountsUptoRow.holds Try.pinned (OpenSpec.upto memoCountsSpec)

/-- 'ostlerlaw19.MemoOwn', WHERE WHAT IT READS IS OF BULK AT MOST 1048576: true; the input reads as it did. -/
def memoOwnUptoRow : OpenClaim := { program := "ytchiedlagdecoaa", sum := "347061efda02b06957eb79e50b6a3830ca78b84a35b224580846712a52070f86", func := "ostler/ostlerlaw19.MemoOwn", spec := "memoOwn", unfollowed := true, recurses := true, apart := false, narrowed := true }
def MemoOwnUptoSaid : Prop := memoOwnUptoRow.holds Try.pinned (OpenSpec.upto memoOwnSpec)

/-- 'ostlerlaw19.MemoNobody', WHERE WHAT IT READS IS OF BULK AT MOST 1048576: true; the input reads as it did. -/
def memoNobodyUptoRow : OpenClaim := { program := "ytchiedlagdecoaa", sum := "347061efda02b06957eb79e50b6a3830ca78b84a35b224580846712a52070f86", func := "ostler/ostlerlaw19.MemoNobody", spec := "memoNobody", unfollowed := true, recurses := true, apart := false, narrowed := true }
def MemoNobodyUptoSaid : Prop := memoNobodyUptoRow.holds Try.pinned (OpenSpec.upto memoNobodySpec)

end Rows
end Go.Proofs.Ytchiedlagdecoaa
