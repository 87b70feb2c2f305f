/-
  DERIVED. GIVEN WITH THE SEED: THE CARDS: each row of YthnhpnmopjbaoaaDoorRows.lean that lists a variable, with what it lists TIED to the program's text (the seventh form; the later family's looks); each row that meets fmt, with fmt's text TOLD by the authors' own Lean function (tested against real Go, not proved from fmt's source: count such statements apart). THE CARD IS WHAT COUNTS. Prove the row's statement (the work); the ties are given (YthnhpnmopjbaoaaDoorTie.lean); close each card by the builder's one call (the guide's Derived/Test/ToyasCard.lean, 'card_holds'). Laid BY PROGRAM, IN A SANDBOX (cutbox-door.mjs). By AI agents, Wed Nov 11 2026. No macro, syntax, notation, axiom, sorry.
-/
import Derived.Test.YthnhpnmopjbaoaaDoorRows
import GoSem.ClaimSeven
namespace Go.Proofs.YthnhpnmopjbaoaaDoor
namespace Rows

/-- THE TIED CARD OF 'ostlerlaw21.SessIds'. -/
def sessIdsCard : Claim7 := { stood := { row := sessIdsRow, standIns := [], harness := (true, "0f28513d91e244bd6e3b98480db103aa4afb0ffb6050d2a94a7924f61ccbc748"), looks := true }, kinds := [], alts := [], laidByText := true, laidKinds := [.data, .data, .data, .data, .sentinel, .sentinel, .pinned], laidTests := true, laidLooks := .later }
def SessIdsCardSaid : Prop := Claim7.holds Tryd.pinned (.plain (OpenSpec.ofChange sessIdsSpec)) sessIdsCard

/-- THE TIED CARD OF 'ostlerlaw21.SessKeeps'. -/
def sessKeepsCard : Claim7 := { stood := { row := sessKeepsRow, standIns := [], harness := (true, "0f28513d91e244bd6e3b98480db103aa4afb0ffb6050d2a94a7924f61ccbc748"), looks := true }, kinds := [], alts := [], laidByText := true, laidKinds := [.data, .data, .data, .data, .sentinel, .sentinel, .pinned], laidTests := true, laidLooks := .later }
def SessKeepsCardSaid : Prop := Claim7.holds Tryd.pinned (.plain (OpenSpec.ofChange sessKeepsSpec)) sessKeepsCard

/-- THE TIED CARD OF 'ostlerlaw21.SessNobody'. -/
def sessNobodyCard : Claim7 := { stood := { row := sessNobodyRow, standIns := [], harness := (true, "0f28513d91e244bd6e3b98480db103aa4afb0ffb6050d2a94a7924f61ccbc748"), looks := true }, kinds := [], alts := [], laidByText := true, laidKinds := [.data, .data, .data, .data, .sentinel, .sentinel, .pinned], laidTests := true, laidLooks := .later }
def SessNobodyCardSaid : Prop := Claim7.holds Tryd.pinned (.plain (OpenSpec.ofChange sessNobodySpec)) sessNobodyCard

/-- THE TIED CARD OF 'ostlerlaw21.SessApart'. -/
def sessApartCard : Claim7 := { stood := { row := sessApartRow, standIns := [], harness := (true, "0f28513d91e244bd6e3b98480db103aa4afb0ffb6050d2a94a7924f61ccbc748"), looks := true }, kinds := [], alts := [], laidByText := true, laidKinds := [.data, .data, .data, .data, .sentinel, .sentinel, .pinned], laidTests := true, laidLooks := .later }
def SessApartCardSaid : Prop := Claim7.holds Tryd.pinned (.plain (OpenSpec.ofChange sessApartSpec)) sessApartCard

/-- THE TIED CARD OF 'ostlerlaw11.HeadSent'. -/
def headSentCard : Claim7 := { stood := { row := headSentRow, standIns := [], harness := (true, "0f28513d91e244bd6e3b98480db103aa4afb0ffb6050d2a94a7924f61ccbc748"), looks := true }, kinds := [], alts := [], laidByText := true, laidKinds := [.data, .data, .data, .sentinel, .sentinel], laidTests := true, laidLooks := .later }
def HeadSentCardSaid : Prop := Claim7.holds Tryd.pinned (.plain (OpenSpec.ofChange headSentSpec)) headSentCard

/-- THE TIED CARD OF 'ostlerlaw11.HeadOnce'. -/
def headOnceCard : Claim7 := { stood := { row := headOnceRow, standIns := [], harness := (true, "0f28513d91e244bd6e3b98480db103aa4afb0ffb6050d2a94a7924f61ccbc748"), looks := true }, kinds := [], alts := [], laidByText := true, laidKinds := [.data, .data, .data, .sentinel, .sentinel], laidTests := true, laidLooks := .later }
def HeadOnceCardSaid : Prop := Claim7.holds Tryd.pinned (.plain (OpenSpec.ofChange headOnceSpec)) headOnceCard

/-- THE TIED CARD OF 'ostlerlaw11.HeadRefuses'. -/
def headRefusesCard : Claim7 := { stood := { row := headRefusesRow, standIns := [], harness := (true, "0f28513d91e244bd6e3b98480db103aa4afb0ffb6050d2a94a7924f61ccbc748"), looks := true }, kinds := [], alts := [], laidByText := true, laidKinds := [.data, .data, .data, .sentinel, .sentinel], laidTests := true, laidLooks := .later }
def HeadRefusesCardSaid : Prop := Claim7.holds Tryd.pinned (.plain (OpenSpec.ofChange headRefusesSpec)) headRefusesCard

/-- THE TIED CARD OF 'ostlerlaw11.HeadOwn'. -/
def headOwnCard : Claim7 := { stood := { row := headOwnRow, standIns := [], harness := (true, "0f28513d91e244bd6e3b98480db103aa4afb0ffb6050d2a94a7924f61ccbc748"), looks := true }, kinds := [], alts := [], laidByText := true, laidKinds := [.data, .data, .data, .sentinel, .sentinel], laidTests := true, laidLooks := .later }
def HeadOwnCardSaid : Prop := Claim7.holds Tryd.pinned (.plain (OpenSpec.ofChange headOwnSpec)) headOwnCard

/-- THE TIED CARD OF 'ostlerlaw11.HeadNobody'. -/
def headNobodyCard : Claim7 := { stood := { row := headNobodyRow, standIns := [], harness := (true, "0f28513d91e244bd6e3b98480db103aa4afb0ffb6050d2a94a7924f61ccbc748"), looks := true }, kinds := [], alts := [], laidByText := true, laidKinds := [.data, .data, .data, .sentinel, .sentinel], laidTests := true, laidLooks := .later }
def HeadNobodyCardSaid : Prop := Claim7.holds Tryd.pinned (.plain (OpenSpec.ofChange headNobodySpec)) headNobodyCard

/-- THE SECOND FORM's CARD OF 'ostlerlaw21.SessIds'. -/
def sessIdsUptoCard : Claim7 := { stood := { row := sessIdsUptoRow, standIns := [], harness := (true, "0f28513d91e244bd6e3b98480db103aa4afb0ffb6050d2a94a7924f61ccbc748"), looks := true }, kinds := [], alts := [], laidByText := true, laidKinds := [.data, .data, .data, .data, .sentinel, .sentinel, .pinned], laidTests := true, laidLooks := .later }
def SessIdsUptoCardSaid : Prop := Claim7.holds Tryd.pinned (.plain (OpenSpec.upto sessIdsSpec)) sessIdsUptoCard

/-- THE SECOND FORM's CARD OF 'ostlerlaw21.SessKeeps'. -/
def sessKeepsUptoCard : Claim7 := { stood := { row := sessKeepsUptoRow, standIns := [], harness := (true, "0f28513d91e244bd6e3b98480db103aa4afb0ffb6050d2a94a7924f61ccbc748"), looks := true }, kinds := [], alts := [], laidByText := true, laidKinds := [.data, .data, .data, .data, .sentinel, .sentinel, .pinned], laidTests := true, laidLooks := .later }
def SessKeepsUptoCardSaid : Prop := Claim7.holds Tryd.pinned (.plain (OpenSpec.upto sessKeepsSpec)) sessKeepsUptoCard

/-- THE SECOND FORM's CARD OF 'ostlerlaw21.SessNobody'. -/
def sessNobodyUptoCard : Claim7 := { stood := { row := sessNobodyUptoRow, standIns := [], harness := (true, "0f28513d91e244bd6e3b98480db103aa4afb0ffb6050d2a94a7924f61ccbc748"), looks := true }, kinds := [], alts := [], laidByText := true, laidKinds := [.data, .data, .data, .data, .sentinel, .sentinel, .pinned], laidTests := true, laidLooks := .later }
def SessNobodyUptoCardSaid : Prop := Claim7.holds Tryd.pinned (.plain (OpenSpec.upto sessNobodySpec)) sessNobodyUptoCard

/-- THE SECOND FORM's CARD OF 'ostlerlaw21.SessApart'. -/
def sessApartUptoCard : Claim7 := { stood := { row := sessApartUptoRow, standIns := [], harness := (true, "0f28513d91e244bd6e3b98480db103aa4afb0ffb6050d2a94a7924f61ccbc748"), looks := true }, kinds := [], alts := [], laidByText := true, laidKinds := [.data, .data, .data, .data, .sentinel, .sentinel, .pinned], laidTests := true, laidLooks := .later }
def SessApartUptoCardSaid : Prop := Claim7.holds Tryd.pinned (.plain (OpenSpec.upto sessApartSpec)) sessApartUptoCard

/-- THE SECOND FORM's CARD OF 'ostlerlaw11.HeadSent'. -/
def headSentUptoCard : Claim7 := { stood := { row := headSentUptoRow, standIns := [], harness := (true, "0f28513d91e244bd6e3b98480db103aa4afb0ffb6050d2a94a7924f61ccbc748"), looks := true }, kinds := [], alts := [], laidByText := true, laidKinds := [.data, .data, .data, .sentinel, .sentinel], laidTests := true, laidLooks := .later }
def HeadSentUptoCardSaid : Prop := Claim7.holds Tryd.pinned (.plain (OpenSpec.upto headSentSpec)) headSentUptoCard

/-- THE SECOND FORM's CARD OF 'ostlerlaw11.HeadOnce'. -/
def headOnceUptoCard : Claim7 := { stood := { row := headOnceUptoRow, standIns := [], harness := (true, "0f28513d91e244bd6e3b98480db103aa4afb0ffb6050d2a94a7924f61ccbc748"), looks := true }, kinds := [], alts := [], laidByText := true, laidKinds := [.data, .data, .data, .sentinel, .sentinel], laidTests := true, laidLooks := .later }
def HeadOnceUptoCardSaid : Prop := Claim7.holds Tryd.pinned (.plain (OpenSpec.upto headOnceSpec)) headOnceUptoCard

/-- THE SECOND FORM's CARD OF 'ostlerlaw11.HeadRefuses'. -/
def headRefusesUptoCard : Claim7 := { stood := { row := headRefusesUptoRow, standIns := [], harness := (true, "0f28513d91e244bd6e3b98480db103aa4afb0ffb6050d2a94a7924f61ccbc748"), looks := true }, kinds := [], alts := [], laidByText := true, laidKinds := [.data, .data, .data, .sentinel, .sentinel], laidTests := true, laidLooks := .later }
def HeadRefusesUptoCardSaid : Prop := Claim7.holds Tryd.pinned (.plain (OpenSpec.upto headRefusesSpec)) headRefusesUptoCard

/-- THE SECOND FORM's CARD OF 'ostlerlaw11.HeadOwn'. -/
def headOwnUptoCard : Claim7 := { stood := { row := headOwnUptoRow, standIns := [], harness := (true, "0f28513d91e244bd6e3b98480db103aa4afb0ffb6050d2a94a7924f61ccbc748"), looks := true }, kinds := [], alts := [], laidByText := true, laidKinds := [.data, .data, .data, .sentinel, .sentinel], laidTests := true, laidLooks := .later }
def HeadOwnUptoCardSaid : Prop := Claim7.holds Tryd.pinned (.plain (OpenSpec.upto headOwnSpec)) headOwnUptoCard

/-- THE SECOND FORM's CARD OF 'ostlerlaw11.HeadNobody'. -/
def headNobodyUptoCard : Claim7 := { stood := { row := headNobodyUptoRow, standIns := [], harness := (true, "0f28513d91e244bd6e3b98480db103aa4afb0ffb6050d2a94a7924f61ccbc748"), looks := true }, kinds := [], alts := [], laidByText := true, laidKinds := [.data, .data, .data, .sentinel, .sentinel], laidTests := true, laidLooks := .later }
def HeadNobodyUptoCardSaid : Prop := Claim7.holds Tryd.pinned (.plain (OpenSpec.upto headNobodySpec)) headNobodyUptoCard
end Rows
end Go.Proofs.YthnhpnmopjbaoaaDoor
