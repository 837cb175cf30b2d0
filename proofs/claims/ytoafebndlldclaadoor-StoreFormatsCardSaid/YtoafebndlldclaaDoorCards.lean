/-
  DERIVED. GIVEN WITH THE SEED: THE CARDS: each row of YtoafebndlldclaaDoorRows.lean that lists a variable, with what it lists TIED to the program's text (the seventh form; the later family's looks); each row that meets fmt, with fmt's text TOLD by the authors' own Lean function (tested against real Go, not proved from fmt's source: count such statements apart). THE CARD IS WHAT COUNTS. Prove the row's statement (the work); the ties are given (YtoafebndlldclaaDoorTie.lean); close each card by the builder's one call (the guide's Derived/Test/ToyasCard.lean, 'card_holds'). Laid BY PROGRAM, IN A SANDBOX (cutbox-door.mjs). By AI agents, Wed Nov 11 2026. No macro, syntax, notation, axiom, sorry.
-/
import Derived.Test.YtoafebndlldclaaDoorRows
import GoSem.ClaimSeven
namespace Go.Proofs.YtoafebndlldclaaDoor
namespace Rows

/-- THE TIED CARD OF 'syzygylaw19.WalOther'. -/
def walOtherCard : Claim7 := { stood := { row := walOtherRow, standIns := [], harness := (true, "77025200ac901dff7626367f3c581b73345f5dfc5ccc1b559edbd46873838ce5"), looks := false }, kinds := [], alts := [], laidByText := true, laidKinds := [.data, .pinned], laidTests := true, laidLooks := .later }
def WalOtherCardSaid : Prop := Claim7.holds Tryd.pinned (.plain (OpenSpec.ofChange walOtherSpec)) walOtherCard

/-- THE TIED CARD OF 'syzygylaw19.WalAll'. -/
def walAllCard : Claim7 := { stood := { row := walAllRow, standIns := [], harness := (true, "77025200ac901dff7626367f3c581b73345f5dfc5ccc1b559edbd46873838ce5"), looks := false }, kinds := [], alts := [], laidByText := true, laidKinds := [.data, .pinned], laidTests := true, laidLooks := .later }
def WalAllCardSaid : Prop := Claim7.holds Tryd.pinned (.plain (OpenSpec.ofChange walAllSpec)) walAllCard

/-- THE TIED CARD OF 'syzygylaw20.StoreArgs'. -/
def storeArgsCard : Claim7 := { stood := { row := storeArgsRow, standIns := [], harness := (true, "77025200ac901dff7626367f3c581b73345f5dfc5ccc1b559edbd46873838ce5"), looks := false }, kinds := [], alts := [], laidByText := true, laidKinds := [.data, .pinned], laidTests := true, laidLooks := .later }
def StoreArgsCardSaid : Prop := Claim7.holds Tryd.pinned (.plain (OpenSpec.ofChange storeArgsSpec)) storeArgsCard

/-- THE TIED CARD OF 'syzygylaw20.StoreKeeps'. -/
def storeKeepsCard : Claim7 := { stood := { row := storeKeepsRow, standIns := [], harness := (true, "77025200ac901dff7626367f3c581b73345f5dfc5ccc1b559edbd46873838ce5"), looks := false }, kinds := [], alts := [], laidByText := true, laidKinds := [.data, .pinned], laidTests := true, laidLooks := .later }
def StoreKeepsCardSaid : Prop := Claim7.holds Tryd.pinned (.plain (OpenSpec.ofChange storeKeepsSpec)) storeKeepsCard

/-- THE TIED CARD OF 'syzygylaw20.StoreEpochs'. -/
def storeEpochsCard : Claim7 := { stood := { row := storeEpochsRow, standIns := [], harness := (true, "77025200ac901dff7626367f3c581b73345f5dfc5ccc1b559edbd46873838ce5"), looks := false }, kinds := [], alts := [], laidByText := true, laidKinds := [.data, .pinned], laidTests := true, laidLooks := .later }
def StoreEpochsCardSaid : Prop := Claim7.holds Tryd.pinned (.plain (OpenSpec.ofChange storeEpochsSpec)) storeEpochsCard

/-- THE TIED CARD OF 'syzygylaw19.WalBytes'. -/
def walBytesCard : Claim7 := { stood := { row := walBytesRow, standIns := [], harness := (true, "77025200ac901dff7626367f3c581b73345f5dfc5ccc1b559edbd46873838ce5"), looks := false }, kinds := [], alts := [], laidByText := true, laidKinds := [.data, .pinned], laidTests := true, laidLooks := .later }
def WalBytesCardSaid : Prop := Claim7.holds Tryd.pinned (.plain (OpenSpec.ofChange walBytesSpec)) walBytesCard

/-- THE TIED CARD OF 'syzygylaw19.WalTells'. -/
def walTellsCard : Claim7 := { stood := { row := walTellsRow, standIns := [], harness := (true, "77025200ac901dff7626367f3c581b73345f5dfc5ccc1b559edbd46873838ce5"), looks := false }, kinds := [], alts := [], laidByText := true, laidKinds := [.data, .pinned], laidTests := true, laidLooks := .later }
def WalTellsCardSaid : Prop := Claim7.holds Tryd.pinned (.plain (OpenSpec.ofChange walTellsSpec)) walTellsCard

/-- THE TIED CARD OF 'syzygylaw20.StoreFormats'. -/
def storeFormatsCard : Claim7 := { stood := { row := storeFormatsRow, standIns := [], harness := (true, "77025200ac901dff7626367f3c581b73345f5dfc5ccc1b559edbd46873838ce5"), looks := false }, kinds := [], alts := [], laidByText := true, laidKinds := [.data, .pinned], laidTests := true, laidLooks := .later }
def StoreFormatsCardSaid : Prop := Claim7.holds Tryd.pinned (.plain (OpenSpec.ofChange storeFormatsSpec)) storeFormatsCard

/-- THE SECOND FORM's CARD OF 'syzygylaw19.WalOther'. -/
def walOtherUptoCard : Claim7 := { stood := { row := walOtherUptoRow, standIns := [], harness := (true, "77025200ac901dff7626367f3c581b73345f5dfc5ccc1b559edbd46873838ce5"), looks := false }, kinds := [], alts := [], laidByText := true, laidKinds := [.data, .pinned], laidTests := true, laidLooks := .later }
def WalOtherUptoCardSaid : Prop := Claim7.holds Tryd.pinned (.plain (OpenSpec.upto walOtherSpec)) walOtherUptoCard

/-- THE SECOND FORM's CARD OF 'syzygylaw19.WalAll'. -/
def walAllUptoCard : Claim7 := { stood := { row := walAllUptoRow, standIns := [], harness := (true, "77025200ac901dff7626367f3c581b73345f5dfc5ccc1b559edbd46873838ce5"), looks := false }, kinds := [], alts := [], laidByText := true, laidKinds := [.data, .pinned], laidTests := true, laidLooks := .later }
def WalAllUptoCardSaid : Prop := Claim7.holds Tryd.pinned (.plain (OpenSpec.upto walAllSpec)) walAllUptoCard

/-- THE SECOND FORM's CARD OF 'syzygylaw20.StoreArgs'. -/
def storeArgsUptoCard : Claim7 := { stood := { row := storeArgsUptoRow, standIns := [], harness := (true, "77025200ac901dff7626367f3c581b73345f5dfc5ccc1b559edbd46873838ce5"), looks := false }, kinds := [], alts := [], laidByText := true, laidKinds := [.data, .pinned], laidTests := true, laidLooks := .later }
def StoreArgsUptoCardSaid : Prop := Claim7.holds Tryd.pinned (.plain (OpenSpec.upto storeArgsSpec)) storeArgsUptoCard

/-- THE SECOND FORM's CARD OF 'syzygylaw20.StoreKeeps'. -/
def storeKeepsUptoCard : Claim7 := { stood := { row := storeKeepsUptoRow, standIns := [], harness := (true, "77025200ac901dff7626367f3c581b73345f5dfc5ccc1b559edbd46873838ce5"), looks := false }, kinds := [], alts := [], laidByText := true, laidKinds := [.data, .pinned], laidTests := true, laidLooks := .later }
def StoreKeepsUptoCardSaid : Prop := Claim7.holds Tryd.pinned (.plain (OpenSpec.upto storeKeepsSpec)) storeKeepsUptoCard

/-- THE SECOND FORM's CARD OF 'syzygylaw20.StoreEpochs'. -/
def storeEpochsUptoCard : Claim7 := { stood := { row := storeEpochsUptoRow, standIns := [], harness := (true, "77025200ac901dff7626367f3c581b73345f5dfc5ccc1b559edbd46873838ce5"), looks := false }, kinds := [], alts := [], laidByText := true, laidKinds := [.data, .pinned], laidTests := true, laidLooks := .later }
def StoreEpochsUptoCardSaid : Prop := Claim7.holds Tryd.pinned (.plain (OpenSpec.upto storeEpochsSpec)) storeEpochsUptoCard

/-- THE SECOND FORM's CARD OF 'syzygylaw19.WalBytes'. -/
def walBytesUptoCard : Claim7 := { stood := { row := walBytesUptoRow, standIns := [], harness := (true, "77025200ac901dff7626367f3c581b73345f5dfc5ccc1b559edbd46873838ce5"), looks := false }, kinds := [], alts := [], laidByText := true, laidKinds := [.data, .pinned], laidTests := true, laidLooks := .later }
def WalBytesUptoCardSaid : Prop := Claim7.holds Tryd.pinned (.plain (OpenSpec.upto walBytesSpec)) walBytesUptoCard

/-- THE SECOND FORM's CARD OF 'syzygylaw19.WalTells'. -/
def walTellsUptoCard : Claim7 := { stood := { row := walTellsUptoRow, standIns := [], harness := (true, "77025200ac901dff7626367f3c581b73345f5dfc5ccc1b559edbd46873838ce5"), looks := false }, kinds := [], alts := [], laidByText := true, laidKinds := [.data, .pinned], laidTests := true, laidLooks := .later }
def WalTellsUptoCardSaid : Prop := Claim7.holds Tryd.pinned (.plain (OpenSpec.upto walTellsSpec)) walTellsUptoCard

/-- THE SECOND FORM's CARD OF 'syzygylaw20.StoreFormats'. -/
def storeFormatsUptoCard : Claim7 := { stood := { row := storeFormatsUptoRow, standIns := [], harness := (true, "77025200ac901dff7626367f3c581b73345f5dfc5ccc1b559edbd46873838ce5"), looks := false }, kinds := [], alts := [], laidByText := true, laidKinds := [.data, .pinned], laidTests := true, laidLooks := .later }
def StoreFormatsUptoCardSaid : Prop := Claim7.holds Tryd.pinned (.plain (OpenSpec.upto storeFormatsSpec)) storeFormatsUptoCard
end Rows
end Go.Proofs.YtoafebndlldclaaDoor
