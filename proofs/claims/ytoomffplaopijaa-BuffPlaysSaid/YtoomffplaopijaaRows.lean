/-
  No cell of these rows narrows 'for every input' (looked for: loops, veiled, ifaces, maps, wideKeys, modest, calm, conditions, laid).
  DERIVED. THE GIVEN ROWS OF THIS SEAT. 6 by the template 'for every input the law returns true; each argument reads behind the call as it read before'; 0 by the template 'total and deterministic' (their statements: YtoomffplaopijaaTotals.lean).
  GIVEN WITH THE SEED: the statements are not yours to turn. If you find one false, say at which input.
  Laid BY PROGRAM, IN A SANDBOX (cutbox-rows.mjs): the forced cells as the released guide's own fill.sh prints them over the translation 07a867af5aac0f89… (all of the seat's roots in one cut). By AI agents, Wed Nov 11 2026. No macro, syntax, notation, axiom, sorry.
-/
import Derived.Test.YtoomffplaopijaaChecked
import GoSem.Claim
import GoSem.ClaimJoined
import GoSem.ClaimMapViews
import Derived.JoinedTies
import Derived.KernelRfl
namespace Go.Proofs.Ytoomffplaopijaa
/- THE CELL 'sum', in the pinned program and in every row, IS THE sha256 OF THE DUMP (.gsa) THAT YtoomffplaopijaaProg.lean LOADS. Nothing in Lean hashes anything: it is a label: what it is worth is what the hold of that sum in a sandbox is worth. -/
noncomputable def Try.pinned : Pinned := { name := "ytoomffplaopijaa", sum := "07a867af5aac0f89ddd84e3a4a906deef763d70c249ee60dcae9b2f19664c837", checked := Try.checked }
namespace Rows
def none {H : Type} : Left H := { results := [], args := [] }

/-- 'ostlerlaw12.BuffFull': WHATEVER THE INPUT: true; the input reads as it did. -/
def buffFullSpec : ChangeSpec := { name := "buffFull", fn := fun _ => fun
  | [d1, d2] => { results := [.lit (.bool true)], args := [d1, d2] }
  | _ => none }
def buffFullRow : OpenClaim := { program := "ytoomffplaopijaa", sum := "07a867af5aac0f89ddd84e3a4a906deef763d70c249ee60dcae9b2f19664c837", func := "ostler/ostlerlaw12.BuffFull", spec := "buffFull", unfollowed := true, recurses := true, apart := false }
def BuffFullSaid : Prop := buffFullRow.holds Try.pinned (OpenSpec.ofChange buffFullSpec)

/-- ITS FALSE NEIGHBOUR: 'it returns false'. Refute it at one input. -/
def buffFullWrong : ChangeSpec := { name := "buffFull", fn := fun _ => fun
  | [d1, d2] => { results := [.lit (.bool false)], args := [d1, d2] }
  | _ => none }
def BuffFullWrongFalsely : Prop := buffFullRow.holds Try.pinned (OpenSpec.ofChange buffFullWrong)

/-- 'ostlerlaw12.BuffAll': WHATEVER THE INPUT: true; the input reads as it did. -/
def buffAllSpec : ChangeSpec := { name := "buffAll", fn := fun _ => fun
  | [d] => { results := [.lit (.bool true)], args := [d] }
  | _ => none }
def buffAllRow : OpenClaim := { program := "ytoomffplaopijaa", sum := "07a867af5aac0f89ddd84e3a4a906deef763d70c249ee60dcae9b2f19664c837", func := "ostler/ostlerlaw12.BuffAll", spec := "buffAll", unfollowed := true, recurses := true, apart := false }
def BuffAllSaid : Prop := buffAllRow.holds Try.pinned (OpenSpec.ofChange buffAllSpec)

/-- ITS FALSE NEIGHBOUR: 'it returns false'. Refute it at one input. -/
def buffAllWrong : ChangeSpec := { name := "buffAll", fn := fun _ => fun
  | [d] => { results := [.lit (.bool false)], args := [d] }
  | _ => none }
def BuffAllWrongFalsely : Prop := buffAllRow.holds Try.pinned (OpenSpec.ofChange buffAllWrong)

/-- 'ostlerlaw12.BuffPieces': WHATEVER THE INPUT: true; the input reads as it did. -/
def buffPiecesSpec : ChangeSpec := { name := "buffPieces", fn := fun _ => fun
  | [d1, d2] => { results := [.lit (.bool true)], args := [d1, d2] }
  | _ => none }
def buffPiecesRow : OpenClaim := { program := "ytoomffplaopijaa", sum := "07a867af5aac0f89ddd84e3a4a906deef763d70c249ee60dcae9b2f19664c837", func := "ostler/ostlerlaw12.BuffPieces", spec := "buffPieces", unfollowed := true, recurses := true, apart := false }
def BuffPiecesSaid : Prop := buffPiecesRow.holds Try.pinned (OpenSpec.ofChange buffPiecesSpec)

/-- ITS FALSE NEIGHBOUR: 'it returns false'. Refute it at one input. -/
def buffPiecesWrong : ChangeSpec := { name := "buffPieces", fn := fun _ => fun
  | [d1, d2] => { results := [.lit (.bool false)], args := [d1, d2] }
  | _ => none }
def BuffPiecesWrongFalsely : Prop := buffPiecesRow.holds Try.pinned (OpenSpec.ofChange buffPiecesWrong)

/-- 'ostlerlaw12.BuffPlays': WHATEVER THE INPUT: true; the input reads as it did. -/
def buffPlaysSpec : ChangeSpec := { name := "buffPlays", fn := fun _ => fun
  | [d] => { results := [.lit (.bool true)], args := [d] }
  | _ => none }
def buffPlaysRow : OpenClaim := { program := "ytoomffplaopijaa", sum := "07a867af5aac0f89ddd84e3a4a906deef763d70c249ee60dcae9b2f19664c837", func := "ostler/ostlerlaw12.BuffPlays", spec := "buffPlays", unfollowed := true, recurses := true, apart := false }
def BuffPlaysSaid : Prop := buffPlaysRow.holds Try.pinned (OpenSpec.ofChange buffPlaysSpec)

/-- ITS FALSE NEIGHBOUR: 'it returns false'. Refute it at one input. -/
def buffPlaysWrong : ChangeSpec := { name := "buffPlays", fn := fun _ => fun
  | [d] => { results := [.lit (.bool false)], args := [d] }
  | _ => none }
def BuffPlaysWrongFalsely : Prop := buffPlaysRow.holds Try.pinned (OpenSpec.ofChange buffPlaysWrong)

/-- 'ostlerlaw12.BuffGrows': WHATEVER THE INPUT: true; the input reads as it did. -/
def buffGrowsSpec : ChangeSpec := { name := "buffGrows", fn := fun _ => fun
  | [d] => { results := [.lit (.bool true)], args := [d] }
  | _ => none }
def buffGrowsRow : OpenClaim := { program := "ytoomffplaopijaa", sum := "07a867af5aac0f89ddd84e3a4a906deef763d70c249ee60dcae9b2f19664c837", func := "ostler/ostlerlaw12.BuffGrows", spec := "buffGrows", unfollowed := true, recurses := true, apart := false }
def BuffGrowsSaid : Prop := buffGrowsRow.holds Try.pinned (OpenSpec.ofChange buffGrowsSpec)

/-- ITS FALSE NEIGHBOUR: 'it returns false'. Refute it at one input. -/
def buffGrowsWrong : ChangeSpec := { name := "buffGrows", fn := fun _ => fun
  | [d] => { results := [.lit (.bool false)], args := [d] }
  | _ => none }
def BuffGrowsWrongFalsely : Prop := buffGrowsRow.holds Try.pinned (OpenSpec.ofChange buffGrowsWrong)

/-- 'ostlerlaw12.BuffNobody': WHATEVER THE INPUT: true; the input reads as it did. -/
def buffNobodySpec : ChangeSpec := { name := "buffNobody", fn := fun _ => fun
  | [d1, d2] => { results := [.lit (.bool true)], args := [d1, d2] }
  | _ => none }
def buffNobodyRow : OpenClaim := { program := "ytoomffplaopijaa", sum := "07a867af5aac0f89ddd84e3a4a906deef763d70c249ee60dcae9b2f19664c837", func := "ostler/ostlerlaw12.BuffNobody", spec := "buffNobody", unfollowed := true, recurses := true, apart := false }
def BuffNobodySaid : Prop := buffNobodyRow.holds Try.pinned (OpenSpec.ofChange buffNobodySpec)

/-- ITS FALSE NEIGHBOUR: 'it returns false'. Refute it at one input. -/
def buffNobodyWrong : ChangeSpec := { name := "buffNobody", fn := fun _ => fun
  | [d1, d2] => { results := [.lit (.bool false)], args := [d1, d2] }
  | _ => none }
def BuffNobodyWrongFalsely : Prop := buffNobodyRow.holds Try.pinned (OpenSpec.ofChange buffNobodyWrong)

/- THE SECOND FORM. 'bulk': how many values and letters a reading holds, each counted each time it is reached (what is shared counts as often as it is met; a slice's spare places count too). A statement '..UptoSaid' is the law's where the arguments, and the package variables that the reading takes, are together of bulk at most 1048576: NARROWER than '..Said'. Prove '..Said' where nothing that the law and all that it calls make is longer than what came in: it says more and counts as full. Else prove '..UptoSaid'. A law counts once. -/
mutual
def uptoBulk {H : Type} : DataW H → Nat
  | .lit (.string bytes) => bytes.length + 1
  | .lit _ => 1
  | .nil => 1
  | .ptr d => uptoBulk d + 1
  | .slice elems spare => uptoBulkAll elems + uptoBulkAll spare + 1
  | .agg parts => uptoBulkAll parts + 1
  | .iface _ d => uptoBulk d + 1
  | .map entries => uptoBulkEntries entries + 1
  | .held _ => 1
def uptoBulkAll {H : Type} : List (DataW H) → Nat
  | [] => 0
  | d :: r => uptoBulk d + uptoBulkAll r
def uptoBulkEntries {H : Type} : List (Lit × DataW H) → Nat
  | [] => 0
  | x :: r => uptoBulkEntry x + uptoBulkEntries r
def uptoBulkEntry {H : Type} : Lit × DataW H → Nat
  | (.string bytes, d) => bytes.length + uptoBulk d + 1
  | (_, d) => uptoBulk d + 1
 end
def uptoSmall : (H : Type) → List (DataW H) → Bool := fun _ ds => decide (uptoBulkAll ds ≤ 1048576)
def OpenSpec.upto (s : _root_.Go.ChangeSpec) : _root_.Go.OpenSpec := { _root_.Go.OpenSpec.ofChange s with cond := some uptoSmall }

/-- 'ostlerlaw12.BuffFull', WHERE WHAT IT READS IS OF BULK AT MOST 1048576: true; the input reads as it did. -/
def buffFullUptoRow : OpenClaim := { program := "ytoomffplaopijaa", sum := "07a867af5aac0f89ddd84e3a4a906deef763d70c249ee60dcae9b2f19664c837", func := "ostler/ostlerlaw12.BuffFull", spec := "buffFull", unfollowed := true, recurses := true, apart := false, narrowed := true }
def BuffFullUptoSaid : Prop := buffFullUptoRow.holds Try.pinned (OpenSpec.upto buffFullSpec)

/-- 'ostlerlaw12.BuffAll', WHERE WHAT IT READS IS OF BULK AT MOST 1048576: true; the input reads as it did. -/
def buffAllUptoRow : OpenClaim := { program := "ytoomffplaopijaa", sum := "07a867af5aac0f89ddd84e3a4a906deef763d70c249ee60dcae9b2f19664c837", func := "ostler/ostlerlaw12.BuffAll", spec := "buffAll", unfollowed := true, recurses := true, apart := false, narrowed := true }
def BuffAllUptoSaid : Prop := buffAllUptoRow.holds Try.pinned (OpenSpec.upto buffAllSpec)

/-- 'ostlerlaw12.BuffPieces', WHERE WHAT IT READS IS OF BULK AT MOST 1048576: true; the input reads as it did. -/
def buffPiecesUptoRow : OpenClaim := { program := "ytoomffplaopijaa", sum := "07a867af5aac0f89ddd84e3a4a906deef763d70c249ee60dcae9b2f19664c837", func := "ostler/ostlerlaw12.BuffPieces", spec := "buffPieces", unfollowed := true, recurses := true, apart := false, narrowed := true }
def BuffPiecesUptoSaid : Prop := buffPiecesUptoRow.holds Try.pinned (OpenSpec.upto buffPiecesSpec)

/-- 'ostlerlaw12.BuffPlays', WHERE WHAT IT READS IS OF BULK AT MOST 1048576: true; the input reads as it did. -/
def buffPlaysUptoRow : OpenClaim := { program := "ytoomffplaopijaa", sum := "07a867af5aac0f89ddd84e3a4a906deef763d70c249ee60dcae9b2f19664c837", func := "ostler/ostlerlaw12.BuffPlays", spec := "buffPlays", unfollowed := true, recurses := true, apart := false, narrowed := true }
def BuffPlaysUptoSaid : Prop := buffPlaysUptoRow.holds Try.pinned (OpenSpec.upto buffPlaysSpec)

/-- 'ostlerlaw12.BuffGrows', WHERE WHAT IT READS IS OF BULK AT MOST 1048576: true; the input reads as it did. -/
def buffGrowsUptoRow : OpenClaim := { program := "ytoomffplaopijaa", sum := "07a867af5aac0f89ddd84e3a4a906deef763d70c249ee60dcae9b2f19664c837", func := "ostler/ostlerlaw12.BuffGrows", spec := "buffGrows", unfollowed := true, recurses := true, apart := false, narrowed := true }
def BuffGrowsUptoSaid : Prop := buffGrowsUptoRow.holds Try.pinned (OpenSpec.upto buffGrowsSpec)

/-- 'ostlerlaw12.BuffNobody', WHERE WHAT IT READS IS OF BULK AT MOST 1048576: true; the input reads as it did. -/
def buffNobodyUptoRow : OpenClaim := { program := "ytoomffplaopijaa", sum := "07a867af5aac0f89ddd84e3a4a906deef763d70c249ee60dcae9b2f19664c837", func := "ostler/ostlerlaw12.BuffNobody", spec := "buffNobody", unfollowed := true, recurses := true, apart := false, narrowed := true }
def BuffNobodyUptoSaid : Prop := buffNobodyUptoRow.holds Try.pinned (OpenSpec.upto buffNobodySpec)

end Rows
end Go.Proofs.Ytoomffplaopijaa
