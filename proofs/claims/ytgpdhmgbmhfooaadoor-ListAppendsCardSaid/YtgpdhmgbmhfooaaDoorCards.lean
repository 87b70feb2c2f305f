/-
  DERIVED. GIVEN WITH THE SEED: THE CARDS: each row of YtgpdhmgbmhfooaaDoorRows.lean that lists a variable, with what it lists TIED to the program's text (the seventh form; the later family's looks); each row that meets fmt, with fmt's text TOLD by the authors' own Lean function (tested against real Go, not proved from fmt's source: count such statements apart). THE CARD IS WHAT COUNTS. Prove the row's statement (the work); the ties are given (YtgpdhmgbmhfooaaDoorTie.lean); close each card by the builder's one call (the guide's Derived/Test/ToyasCard.lean, 'card_holds'). Laid BY PROGRAM, IN A SANDBOX (cutbox-door.mjs). By AI agents, Wed Nov 11 2026. No macro, syntax, notation, axiom, sorry.
-/
import Derived.Test.YtgpdhmgbmhfooaaDoorRows
import GoSem.ClaimSeven
namespace Go.Proofs.YtgpdhmgbmhfooaaDoor
namespace Rows

/-- THE TIED CARD OF 'ostlerlaw07.ListKeys'. -/
def listKeysCard : Claim7 := { stood := { row := listKeysRow, standIns := [], harness := (true, "4a36253eb800c84169cbf35e5a2fbc99db8e0e4fa8da76b8e7d986cfa14332c8"), looks := true }, kinds := [], alts := [], laidByText := true, laidKinds := [.data, .data, .data, .sentinel, .sentinel], laidTests := true, laidLooks := .later }
def ListKeysCardSaid : Prop := Claim7.holds Tryd.pinned (.plain (OpenSpec.ofChange listKeysSpec)) listKeysCard

/-- THE TIED CARD OF 'ostlerlaw07.ListAppends'. -/
def listAppendsCard : Claim7 := { stood := { row := listAppendsRow, standIns := [], harness := (true, "4a36253eb800c84169cbf35e5a2fbc99db8e0e4fa8da76b8e7d986cfa14332c8"), looks := true }, kinds := [], alts := [], laidByText := true, laidKinds := [.data, .data, .data, .sentinel, .sentinel], laidTests := true, laidLooks := .later }
def ListAppendsCardSaid : Prop := Claim7.holds Tryd.pinned (.plain (OpenSpec.ofChange listAppendsSpec)) listAppendsCard

/-- THE TIED CARD OF 'ostlerlaw07.ListPlays'. -/
def listPlaysCard : Claim7 := { stood := { row := listPlaysRow, standIns := [], harness := (true, "4a36253eb800c84169cbf35e5a2fbc99db8e0e4fa8da76b8e7d986cfa14332c8"), looks := true }, kinds := [], alts := [], laidByText := true, laidKinds := [.data, .data, .data, .sentinel, .sentinel], laidTests := true, laidLooks := .later }
def ListPlaysCardSaid : Prop := Claim7.holds Tryd.pinned (.plain (OpenSpec.ofChange listPlaysSpec)) listPlaysCard

/-- THE TIED CARD OF 'ostlerlaw07.ListCopies'. -/
def listCopiesCard : Claim7 := { stood := { row := listCopiesRow, standIns := [], harness := (true, "4a36253eb800c84169cbf35e5a2fbc99db8e0e4fa8da76b8e7d986cfa14332c8"), looks := true }, kinds := [], alts := [], laidByText := true, laidKinds := [.data, .data, .data, .sentinel, .sentinel], laidTests := true, laidLooks := .later }
def ListCopiesCardSaid : Prop := Claim7.holds Tryd.pinned (.plain (OpenSpec.ofChange listCopiesSpec)) listCopiesCard

/-- THE TIED CARD OF 'ostlerlaw07.ListWalks'. -/
def listWalksCard : Claim7 := { stood := { row := listWalksRow, standIns := [], harness := (true, "4a36253eb800c84169cbf35e5a2fbc99db8e0e4fa8da76b8e7d986cfa14332c8"), looks := true }, kinds := [], alts := [], laidByText := true, laidKinds := [.data, .data, .data, .sentinel, .sentinel], laidTests := true, laidLooks := .later }
def ListWalksCardSaid : Prop := Claim7.holds Tryd.pinned (.plain (OpenSpec.ofChange listWalksSpec)) listWalksCard

/-- THE TIED CARD OF 'ostlerlaw07.ListNobody'. -/
def listNobodyCard : Claim7 := { stood := { row := listNobodyRow, standIns := [], harness := (true, "4a36253eb800c84169cbf35e5a2fbc99db8e0e4fa8da76b8e7d986cfa14332c8"), looks := true }, kinds := [], alts := [], laidByText := true, laidKinds := [.data, .data, .data, .sentinel, .sentinel], laidTests := true, laidLooks := .later }
def ListNobodyCardSaid : Prop := Claim7.holds Tryd.pinned (.plain (OpenSpec.ofChange listNobodySpec)) listNobodyCard

/-- THE TIED CARD OF 'ostlerlaw06.ConvNumbers'. -/
def convNumbersCard : Claim7 := { stood := { row := convNumbersRow, standIns := [], harness := (true, "4a36253eb800c84169cbf35e5a2fbc99db8e0e4fa8da76b8e7d986cfa14332c8"), looks := true }, kinds := [], alts := [], laidByText := true, laidKinds := [.data, .data, .data, .data, .sentinel, .sentinel, .pinned], laidTests := true, laidLooks := .later }
def ConvNumbersCardSaid : Prop := Claim7.holds Tryd.pinned (.plain (OpenSpec.ofChange convNumbersSpec)) convNumbersCard

/-- THE TIED CARD OF 'ostlerlaw06.ConvBack'. -/
def convBackCard : Claim7 := { stood := { row := convBackRow, standIns := [], harness := (true, "4a36253eb800c84169cbf35e5a2fbc99db8e0e4fa8da76b8e7d986cfa14332c8"), looks := true }, kinds := [], alts := [], laidByText := true, laidKinds := [.data, .data, .data, .data, .sentinel, .sentinel, .pinned], laidTests := true, laidLooks := .later }
def ConvBackCardSaid : Prop := Claim7.holds Tryd.pinned (.plain (OpenSpec.ofChange convBackSpec)) convBackCard

/-- THE TIED CARD OF 'ostlerlaw06.ConvSorts'. -/
def convSortsCard : Claim7 := { stood := { row := convSortsRow, standIns := [], harness := (true, "4a36253eb800c84169cbf35e5a2fbc99db8e0e4fa8da76b8e7d986cfa14332c8"), looks := true }, kinds := [], alts := [], laidByText := true, laidKinds := [.data, .data, .data, .data, .sentinel, .sentinel, .pinned], laidTests := true, laidLooks := .later }
def ConvSortsCardSaid : Prop := Claim7.holds Tryd.pinned (.plain (OpenSpec.ofChange convSortsSpec)) convSortsCard

/-- THE TIED CARD OF 'ostlerlaw06.ConvMeans'. -/
def convMeansCard : Claim7 := { stood := { row := convMeansRow, standIns := [], harness := (true, "4a36253eb800c84169cbf35e5a2fbc99db8e0e4fa8da76b8e7d986cfa14332c8"), looks := true }, kinds := [], alts := [], laidByText := true, laidKinds := [.data, .data, .data, .data, .sentinel, .sentinel, .pinned], laidTests := true, laidLooks := .later }
def ConvMeansCardSaid : Prop := Claim7.holds Tryd.pinned (.plain (OpenSpec.ofChange convMeansSpec)) convMeansCard

/-- THE TIED CARD OF 'ostlerlaw06.ConvOrders'. -/
def convOrdersCard : Claim7 := { stood := { row := convOrdersRow, standIns := [], harness := (true, "4a36253eb800c84169cbf35e5a2fbc99db8e0e4fa8da76b8e7d986cfa14332c8"), looks := true }, kinds := [], alts := [], laidByText := true, laidKinds := [.data, .data, .data, .data, .sentinel, .sentinel, .pinned], laidTests := true, laidLooks := .later }
def ConvOrdersCardSaid : Prop := Claim7.holds Tryd.pinned (.plain (OpenSpec.ofChange convOrdersSpec)) convOrdersCard

/-- THE TIED CARD OF 'ostlerlaw06.ConvTurns'. -/
def convTurnsCard : Claim7 := { stood := { row := convTurnsRow, standIns := [], harness := (true, "4a36253eb800c84169cbf35e5a2fbc99db8e0e4fa8da76b8e7d986cfa14332c8"), looks := true }, kinds := [], alts := [], laidByText := true, laidKinds := [.data, .data, .data, .data, .sentinel, .sentinel, .pinned], laidTests := true, laidLooks := .later }
def ConvTurnsCardSaid : Prop := Claim7.holds Tryd.pinned (.plain (OpenSpec.ofChange convTurnsSpec)) convTurnsCard

/-- THE SECOND FORM's CARD OF 'ostlerlaw07.ListKeys'. -/
def listKeysUptoCard : Claim7 := { stood := { row := listKeysUptoRow, standIns := [], harness := (true, "4a36253eb800c84169cbf35e5a2fbc99db8e0e4fa8da76b8e7d986cfa14332c8"), looks := true }, kinds := [], alts := [], laidByText := true, laidKinds := [.data, .data, .data, .sentinel, .sentinel], laidTests := true, laidLooks := .later }
def ListKeysUptoCardSaid : Prop := Claim7.holds Tryd.pinned (.plain (OpenSpec.upto listKeysSpec)) listKeysUptoCard

/-- THE SECOND FORM's CARD OF 'ostlerlaw07.ListAppends'. -/
def listAppendsUptoCard : Claim7 := { stood := { row := listAppendsUptoRow, standIns := [], harness := (true, "4a36253eb800c84169cbf35e5a2fbc99db8e0e4fa8da76b8e7d986cfa14332c8"), looks := true }, kinds := [], alts := [], laidByText := true, laidKinds := [.data, .data, .data, .sentinel, .sentinel], laidTests := true, laidLooks := .later }
def ListAppendsUptoCardSaid : Prop := Claim7.holds Tryd.pinned (.plain (OpenSpec.upto listAppendsSpec)) listAppendsUptoCard

/-- THE SECOND FORM's CARD OF 'ostlerlaw07.ListPlays'. -/
def listPlaysUptoCard : Claim7 := { stood := { row := listPlaysUptoRow, standIns := [], harness := (true, "4a36253eb800c84169cbf35e5a2fbc99db8e0e4fa8da76b8e7d986cfa14332c8"), looks := true }, kinds := [], alts := [], laidByText := true, laidKinds := [.data, .data, .data, .sentinel, .sentinel], laidTests := true, laidLooks := .later }
def ListPlaysUptoCardSaid : Prop := Claim7.holds Tryd.pinned (.plain (OpenSpec.upto listPlaysSpec)) listPlaysUptoCard

/-- THE SECOND FORM's CARD OF 'ostlerlaw07.ListCopies'. -/
def listCopiesUptoCard : Claim7 := { stood := { row := listCopiesUptoRow, standIns := [], harness := (true, "4a36253eb800c84169cbf35e5a2fbc99db8e0e4fa8da76b8e7d986cfa14332c8"), looks := true }, kinds := [], alts := [], laidByText := true, laidKinds := [.data, .data, .data, .sentinel, .sentinel], laidTests := true, laidLooks := .later }
def ListCopiesUptoCardSaid : Prop := Claim7.holds Tryd.pinned (.plain (OpenSpec.upto listCopiesSpec)) listCopiesUptoCard

/-- THE SECOND FORM's CARD OF 'ostlerlaw07.ListWalks'. -/
def listWalksUptoCard : Claim7 := { stood := { row := listWalksUptoRow, standIns := [], harness := (true, "4a36253eb800c84169cbf35e5a2fbc99db8e0e4fa8da76b8e7d986cfa14332c8"), looks := true }, kinds := [], alts := [], laidByText := true, laidKinds := [.data, .data, .data, .sentinel, .sentinel], laidTests := true, laidLooks := .later }
def ListWalksUptoCardSaid : Prop := Claim7.holds Tryd.pinned (.plain (OpenSpec.upto listWalksSpec)) listWalksUptoCard

/-- THE SECOND FORM's CARD OF 'ostlerlaw07.ListNobody'. -/
def listNobodyUptoCard : Claim7 := { stood := { row := listNobodyUptoRow, standIns := [], harness := (true, "4a36253eb800c84169cbf35e5a2fbc99db8e0e4fa8da76b8e7d986cfa14332c8"), looks := true }, kinds := [], alts := [], laidByText := true, laidKinds := [.data, .data, .data, .sentinel, .sentinel], laidTests := true, laidLooks := .later }
def ListNobodyUptoCardSaid : Prop := Claim7.holds Tryd.pinned (.plain (OpenSpec.upto listNobodySpec)) listNobodyUptoCard

/-- THE SECOND FORM's CARD OF 'ostlerlaw06.ConvNumbers'. -/
def convNumbersUptoCard : Claim7 := { stood := { row := convNumbersUptoRow, standIns := [], harness := (true, "4a36253eb800c84169cbf35e5a2fbc99db8e0e4fa8da76b8e7d986cfa14332c8"), looks := true }, kinds := [], alts := [], laidByText := true, laidKinds := [.data, .data, .data, .data, .sentinel, .sentinel, .pinned], laidTests := true, laidLooks := .later }
def ConvNumbersUptoCardSaid : Prop := Claim7.holds Tryd.pinned (.plain (OpenSpec.upto convNumbersSpec)) convNumbersUptoCard

/-- THE SECOND FORM's CARD OF 'ostlerlaw06.ConvBack'. -/
def convBackUptoCard : Claim7 := { stood := { row := convBackUptoRow, standIns := [], harness := (true, "4a36253eb800c84169cbf35e5a2fbc99db8e0e4fa8da76b8e7d986cfa14332c8"), looks := true }, kinds := [], alts := [], laidByText := true, laidKinds := [.data, .data, .data, .data, .sentinel, .sentinel, .pinned], laidTests := true, laidLooks := .later }
def ConvBackUptoCardSaid : Prop := Claim7.holds Tryd.pinned (.plain (OpenSpec.upto convBackSpec)) convBackUptoCard

/-- THE SECOND FORM's CARD OF 'ostlerlaw06.ConvSorts'. -/
def convSortsUptoCard : Claim7 := { stood := { row := convSortsUptoRow, standIns := [], harness := (true, "4a36253eb800c84169cbf35e5a2fbc99db8e0e4fa8da76b8e7d986cfa14332c8"), looks := true }, kinds := [], alts := [], laidByText := true, laidKinds := [.data, .data, .data, .data, .sentinel, .sentinel, .pinned], laidTests := true, laidLooks := .later }
def ConvSortsUptoCardSaid : Prop := Claim7.holds Tryd.pinned (.plain (OpenSpec.upto convSortsSpec)) convSortsUptoCard

/-- THE SECOND FORM's CARD OF 'ostlerlaw06.ConvMeans'. -/
def convMeansUptoCard : Claim7 := { stood := { row := convMeansUptoRow, standIns := [], harness := (true, "4a36253eb800c84169cbf35e5a2fbc99db8e0e4fa8da76b8e7d986cfa14332c8"), looks := true }, kinds := [], alts := [], laidByText := true, laidKinds := [.data, .data, .data, .data, .sentinel, .sentinel, .pinned], laidTests := true, laidLooks := .later }
def ConvMeansUptoCardSaid : Prop := Claim7.holds Tryd.pinned (.plain (OpenSpec.upto convMeansSpec)) convMeansUptoCard

/-- THE SECOND FORM's CARD OF 'ostlerlaw06.ConvOrders'. -/
def convOrdersUptoCard : Claim7 := { stood := { row := convOrdersUptoRow, standIns := [], harness := (true, "4a36253eb800c84169cbf35e5a2fbc99db8e0e4fa8da76b8e7d986cfa14332c8"), looks := true }, kinds := [], alts := [], laidByText := true, laidKinds := [.data, .data, .data, .data, .sentinel, .sentinel, .pinned], laidTests := true, laidLooks := .later }
def ConvOrdersUptoCardSaid : Prop := Claim7.holds Tryd.pinned (.plain (OpenSpec.upto convOrdersSpec)) convOrdersUptoCard

/-- THE SECOND FORM's CARD OF 'ostlerlaw06.ConvTurns'. -/
def convTurnsUptoCard : Claim7 := { stood := { row := convTurnsUptoRow, standIns := [], harness := (true, "4a36253eb800c84169cbf35e5a2fbc99db8e0e4fa8da76b8e7d986cfa14332c8"), looks := true }, kinds := [], alts := [], laidByText := true, laidKinds := [.data, .data, .data, .data, .sentinel, .sentinel, .pinned], laidTests := true, laidLooks := .later }
def ConvTurnsUptoCardSaid : Prop := Claim7.holds Tryd.pinned (.plain (OpenSpec.upto convTurnsSpec)) convTurnsUptoCard
end Rows
end Go.Proofs.YtgpdhmgbmhfooaaDoor
