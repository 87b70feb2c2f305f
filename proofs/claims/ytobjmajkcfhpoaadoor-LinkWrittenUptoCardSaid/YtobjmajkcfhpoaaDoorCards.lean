/-
  DERIVED. GIVEN WITH THE SEED: THE CARDS: each row of YtobjmajkcfhpoaaDoorRows.lean that lists a variable, with what it lists TIED to the program's text (the seventh form; the later family's looks); each row that meets fmt, with fmt's text TOLD by the authors' own Lean function (tested against real Go, not proved from fmt's source: count such statements apart). THE CARD IS WHAT COUNTS. Prove the row's statement (the work); the ties are given (YtobjmajkcfhpoaaDoorTie.lean); close each card by the builder's one call (the guide's Derived/Test/ToyasCard.lean, 'card_holds'). Laid BY PROGRAM, IN A SANDBOX (cutbox-door.mjs). By AI agents, Wed Nov 11 2026. No macro, syntax, notation, axiom, sorry.
-/
import Derived.Test.YtobjmajkcfhpoaaDoorRows
import GoSem.ClaimSeven
namespace Go.Proofs.YtobjmajkcfhpoaaDoor
namespace Rows

/-- THE TIED CARD OF 'ostlerlaw17.LinkKeeps'. -/
def linkKeepsCard : Claim7 := { stood := { row := linkKeepsRow, standIns := [], harness := (true, "01170a53cd6bd5464739ed6404335ba2317f655d1006b3c038e42045b445351c"), looks := false }, kinds := [], alts := [], laidByText := true, laidKinds := [.data, .pinned], laidTests := true, laidLooks := .later }
def LinkKeepsCardSaid : Prop := Claim7.holds Tryd.pinned (.plain (OpenSpec.ofChange linkKeepsSpec)) linkKeepsCard

/-- THE TIED CARD OF 'ostlerlaw17.LinkWritten'. -/
def linkWrittenCard : Claim7 := { stood := { row := linkWrittenRow, standIns := [], harness := (true, "01170a53cd6bd5464739ed6404335ba2317f655d1006b3c038e42045b445351c"), looks := false }, kinds := [], alts := [], laidByText := true, laidKinds := [.data, .pinned], laidTests := true, laidLooks := .later }
def LinkWrittenCardSaid : Prop := Claim7.holds Tryd.pinned (.plain (OpenSpec.ofChange linkWrittenSpec)) linkWrittenCard

/-- THE SECOND FORM's CARD OF 'ostlerlaw17.LinkKeeps'. -/
def linkKeepsUptoCard : Claim7 := { stood := { row := linkKeepsUptoRow, standIns := [], harness := (true, "01170a53cd6bd5464739ed6404335ba2317f655d1006b3c038e42045b445351c"), looks := false }, kinds := [], alts := [], laidByText := true, laidKinds := [.data, .pinned], laidTests := true, laidLooks := .later }
def LinkKeepsUptoCardSaid : Prop := Claim7.holds Tryd.pinned (.plain (OpenSpec.upto linkKeepsSpec)) linkKeepsUptoCard

/-- THE SECOND FORM's CARD OF 'ostlerlaw17.LinkWritten'. -/
def linkWrittenUptoCard : Claim7 := { stood := { row := linkWrittenUptoRow, standIns := [], harness := (true, "01170a53cd6bd5464739ed6404335ba2317f655d1006b3c038e42045b445351c"), looks := false }, kinds := [], alts := [], laidByText := true, laidKinds := [.data, .pinned], laidTests := true, laidLooks := .later }
def LinkWrittenUptoCardSaid : Prop := Claim7.holds Tryd.pinned (.plain (OpenSpec.upto linkWrittenSpec)) linkWrittenUptoCard
end Rows
end Go.Proofs.YtobjmajkcfhpoaaDoor
