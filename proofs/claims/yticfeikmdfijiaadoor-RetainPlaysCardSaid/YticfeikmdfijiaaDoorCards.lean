/-
  DERIVED. GIVEN WITH THE SEED: THE CARDS: each row of YticfeikmdfijiaaDoorRows.lean that lists a variable, with what it lists TIED to the program's text (the seventh form; the later family's looks); each row that meets fmt, with fmt's text TOLD by the authors' own Lean function (tested against real Go, not proved from fmt's source: count such statements apart). THE CARD IS WHAT COUNTS. Prove the row's statement (the work); the ties are given (YticfeikmdfijiaaDoorTie.lean); close each card by the builder's one call (the guide's Derived/Test/ToyasCard.lean, 'card_holds'). Laid BY PROGRAM, IN A SANDBOX (cutbox-door.mjs). By AI agents, Wed Nov 11 2026. No macro, syntax, notation, axiom, sorry.
-/
import Derived.Test.YticfeikmdfijiaaDoorRows
import GoSem.ClaimSeven
namespace Go.Proofs.YticfeikmdfijiaaDoor
namespace Rows

/-- THE TIED CARD OF 'switchboardlaw25.LedgerRefused'. -/
def ledgerRefusedCard : Claim7 := { stood := { row := ledgerRefusedRow, standIns := [], harness := (true, "c59d1125d28c1f510542370e9044050aedb862f50b10b67cb108a87e5e8b879a"), looks := true }, kinds := [], alts := [], laidByText := true, laidKinds := [.data, .data, .data], laidTests := true, laidLooks := .later }
def LedgerRefusedCardSaid : Prop := Claim7.holds Tryd.pinned (.plain (OpenSpec.ofChange ledgerRefusedSpec)) ledgerRefusedCard

/-- THE TIED CARD OF 'switchboardlaw25.LedgerPlays'. -/
def ledgerPlaysCard : Claim7 := { stood := { row := ledgerPlaysRow, standIns := [], harness := (true, "c59d1125d28c1f510542370e9044050aedb862f50b10b67cb108a87e5e8b879a"), looks := true }, kinds := [], alts := [], laidByText := true, laidKinds := [.data, .data, .data], laidTests := true, laidLooks := .later }
def LedgerPlaysCardSaid : Prop := Claim7.holds Tryd.pinned (.plain (OpenSpec.ofChange ledgerPlaysSpec)) ledgerPlaysCard

/-- THE TIED CARD OF 'switchboardlaw12.RetainLeft'. -/
def retainLeftCard : Claim7 := { stood := { row := retainLeftRow, standIns := [], harness := (true, "c59d1125d28c1f510542370e9044050aedb862f50b10b67cb108a87e5e8b879a"), looks := true }, kinds := [], alts := [], laidByText := true, laidKinds := [.data, .pinned], laidTests := true, laidLooks := .later }
def RetainLeftCardSaid : Prop := Claim7.holds Tryd.pinned (.plain (OpenSpec.ofChange retainLeftSpec)) retainLeftCard

/-- THE TIED CARD OF 'switchboardlaw12.RetainLast'. -/
def retainLastCard : Claim7 := { stood := { row := retainLastRow, standIns := [], harness := (true, "c59d1125d28c1f510542370e9044050aedb862f50b10b67cb108a87e5e8b879a"), looks := true }, kinds := [], alts := [], laidByText := true, laidKinds := [.data, .pinned], laidTests := true, laidLooks := .later }
def RetainLastCardSaid : Prop := Claim7.holds Tryd.pinned (.plain (OpenSpec.ofChange retainLastSpec)) retainLastCard

/-- THE TIED CARD OF 'switchboardlaw12.RetainFull'. -/
def retainFullCard : Claim7 := { stood := { row := retainFullRow, standIns := [], harness := (true, "c59d1125d28c1f510542370e9044050aedb862f50b10b67cb108a87e5e8b879a"), looks := true }, kinds := [], alts := [], laidByText := true, laidKinds := [.data, .pinned], laidTests := true, laidLooks := .later }
def RetainFullCardSaid : Prop := Claim7.holds Tryd.pinned (.plain (OpenSpec.ofChange retainFullSpec)) retainFullCard

/-- THE TIED CARD OF 'switchboardlaw12.RetainApart'. -/
def retainApartCard : Claim7 := { stood := { row := retainApartRow, standIns := [], harness := (true, "c59d1125d28c1f510542370e9044050aedb862f50b10b67cb108a87e5e8b879a"), looks := true }, kinds := [], alts := [], laidByText := true, laidKinds := [.data, .pinned], laidTests := true, laidLooks := .later }
def RetainApartCardSaid : Prop := Claim7.holds Tryd.pinned (.plain (OpenSpec.ofChange retainApartSpec)) retainApartCard

/-- THE TIED CARD OF 'switchboardlaw12.RetainMessages'. -/
def retainMessagesCard : Claim7 := { stood := { row := retainMessagesRow, standIns := [], harness := (true, "c59d1125d28c1f510542370e9044050aedb862f50b10b67cb108a87e5e8b879a"), looks := true }, kinds := [], alts := [], laidByText := true, laidKinds := [.data, .pinned], laidTests := true, laidLooks := .later }
def RetainMessagesCardSaid : Prop := Claim7.holds Tryd.pinned (.plain (OpenSpec.ofChange retainMessagesSpec)) retainMessagesCard

/-- THE TIED CARD OF 'switchboardlaw12.RetainPlays'. -/
def retainPlaysCard : Claim7 := { stood := { row := retainPlaysRow, standIns := [], harness := (true, "c59d1125d28c1f510542370e9044050aedb862f50b10b67cb108a87e5e8b879a"), looks := true }, kinds := [], alts := [], laidByText := true, laidKinds := [.data, .pinned], laidTests := true, laidLooks := .later }
def RetainPlaysCardSaid : Prop := Claim7.holds Tryd.pinned (.plain (OpenSpec.ofChange retainPlaysSpec)) retainPlaysCard

/-- THE SECOND FORM's CARD OF 'switchboardlaw25.LedgerRefused'. -/
def ledgerRefusedUptoCard : Claim7 := { stood := { row := ledgerRefusedUptoRow, standIns := [], harness := (true, "c59d1125d28c1f510542370e9044050aedb862f50b10b67cb108a87e5e8b879a"), looks := true }, kinds := [], alts := [], laidByText := true, laidKinds := [.data, .data, .data], laidTests := true, laidLooks := .later }
def LedgerRefusedUptoCardSaid : Prop := Claim7.holds Tryd.pinned (.plain (OpenSpec.upto ledgerRefusedSpec)) ledgerRefusedUptoCard

/-- THE SECOND FORM's CARD OF 'switchboardlaw25.LedgerPlays'. -/
def ledgerPlaysUptoCard : Claim7 := { stood := { row := ledgerPlaysUptoRow, standIns := [], harness := (true, "c59d1125d28c1f510542370e9044050aedb862f50b10b67cb108a87e5e8b879a"), looks := true }, kinds := [], alts := [], laidByText := true, laidKinds := [.data, .data, .data], laidTests := true, laidLooks := .later }
def LedgerPlaysUptoCardSaid : Prop := Claim7.holds Tryd.pinned (.plain (OpenSpec.upto ledgerPlaysSpec)) ledgerPlaysUptoCard

/-- THE SECOND FORM's CARD OF 'switchboardlaw12.RetainLeft'. -/
def retainLeftUptoCard : Claim7 := { stood := { row := retainLeftUptoRow, standIns := [], harness := (true, "c59d1125d28c1f510542370e9044050aedb862f50b10b67cb108a87e5e8b879a"), looks := true }, kinds := [], alts := [], laidByText := true, laidKinds := [.data, .pinned], laidTests := true, laidLooks := .later }
def RetainLeftUptoCardSaid : Prop := Claim7.holds Tryd.pinned (.plain (OpenSpec.upto retainLeftSpec)) retainLeftUptoCard

/-- THE SECOND FORM's CARD OF 'switchboardlaw12.RetainLast'. -/
def retainLastUptoCard : Claim7 := { stood := { row := retainLastUptoRow, standIns := [], harness := (true, "c59d1125d28c1f510542370e9044050aedb862f50b10b67cb108a87e5e8b879a"), looks := true }, kinds := [], alts := [], laidByText := true, laidKinds := [.data, .pinned], laidTests := true, laidLooks := .later }
def RetainLastUptoCardSaid : Prop := Claim7.holds Tryd.pinned (.plain (OpenSpec.upto retainLastSpec)) retainLastUptoCard

/-- THE SECOND FORM's CARD OF 'switchboardlaw12.RetainFull'. -/
def retainFullUptoCard : Claim7 := { stood := { row := retainFullUptoRow, standIns := [], harness := (true, "c59d1125d28c1f510542370e9044050aedb862f50b10b67cb108a87e5e8b879a"), looks := true }, kinds := [], alts := [], laidByText := true, laidKinds := [.data, .pinned], laidTests := true, laidLooks := .later }
def RetainFullUptoCardSaid : Prop := Claim7.holds Tryd.pinned (.plain (OpenSpec.upto retainFullSpec)) retainFullUptoCard

/-- THE SECOND FORM's CARD OF 'switchboardlaw12.RetainApart'. -/
def retainApartUptoCard : Claim7 := { stood := { row := retainApartUptoRow, standIns := [], harness := (true, "c59d1125d28c1f510542370e9044050aedb862f50b10b67cb108a87e5e8b879a"), looks := true }, kinds := [], alts := [], laidByText := true, laidKinds := [.data, .pinned], laidTests := true, laidLooks := .later }
def RetainApartUptoCardSaid : Prop := Claim7.holds Tryd.pinned (.plain (OpenSpec.upto retainApartSpec)) retainApartUptoCard

/-- THE SECOND FORM's CARD OF 'switchboardlaw12.RetainMessages'. -/
def retainMessagesUptoCard : Claim7 := { stood := { row := retainMessagesUptoRow, standIns := [], harness := (true, "c59d1125d28c1f510542370e9044050aedb862f50b10b67cb108a87e5e8b879a"), looks := true }, kinds := [], alts := [], laidByText := true, laidKinds := [.data, .pinned], laidTests := true, laidLooks := .later }
def RetainMessagesUptoCardSaid : Prop := Claim7.holds Tryd.pinned (.plain (OpenSpec.upto retainMessagesSpec)) retainMessagesUptoCard

/-- THE SECOND FORM's CARD OF 'switchboardlaw12.RetainPlays'. -/
def retainPlaysUptoCard : Claim7 := { stood := { row := retainPlaysUptoRow, standIns := [], harness := (true, "c59d1125d28c1f510542370e9044050aedb862f50b10b67cb108a87e5e8b879a"), looks := true }, kinds := [], alts := [], laidByText := true, laidKinds := [.data, .pinned], laidTests := true, laidLooks := .later }
def RetainPlaysUptoCardSaid : Prop := Claim7.holds Tryd.pinned (.plain (OpenSpec.upto retainPlaysSpec)) retainPlaysUptoCard
end Rows
end Go.Proofs.YticfeikmdfijiaaDoor
