/-
  DERIVED. GIVEN WITH THE SEED: THE CARDS: each row of YtgdlkpfkaehebaaDoorRows.lean that lists a variable, with what it lists TIED to the program's text (the seventh form; the later family's looks); each row that meets fmt, with fmt's text TOLD by the authors' own Lean function (tested against real Go, not proved from fmt's source: count such statements apart). THE CARD IS WHAT COUNTS. Prove the row's statement (the work); the ties are given (YtgdlkpfkaehebaaDoorTie.lean); close each card by the builder's one call (the guide's Derived/Test/ToyasCard.lean, 'card_holds'). Laid BY PROGRAM, IN A SANDBOX (cutbox-door.mjs). By AI agents, Wed Nov 11 2026. No macro, syntax, notation, axiom, sorry.
-/
import Derived.Test.YtgdlkpfkaehebaaDoorRows
import GoSem.ClaimSeven
namespace Go.Proofs.YtgdlkpfkaehebaaDoor
namespace Rows

/-- THE TIED CARD OF 'syzygylaw04.DigitOrder'. -/
def digitOrderCard : Claim7 := { stood := { row := digitOrderRow, standIns := [], harness := (true, "b52a39e523431f73d6bb90b58a9be6184fe2ec5bc0b734091ae0970c6119f754"), looks := true }, kinds := [], alts := [], laidByText := true, laidKinds := [.data, .data, .data, .data, .pinned], laidTests := true, laidLooks := .later }
def DigitOrderCardSaid : Prop := Claim7.holds Tryd.pinned (.plain (OpenSpec.ofChange digitOrderSpec)) digitOrderCard

/-- THE TIED CARD OF 'syzygylaw04.DigitCounts'. -/
def digitCountsCard : Claim7 := { stood := { row := digitCountsRow, standIns := [], harness := (true, "b52a39e523431f73d6bb90b58a9be6184fe2ec5bc0b734091ae0970c6119f754"), looks := true }, kinds := [], alts := [], laidByText := true, laidKinds := [.data, .data, .data, .data, .pinned], laidTests := true, laidLooks := .later }
def DigitCountsCardSaid : Prop := Claim7.holds Tryd.pinned (.plain (OpenSpec.ofChange digitCountsSpec)) digitCountsCard

/-- THE TIED CARD OF 'syzygylaw04.DigitMore'. -/
def digitMoreCard : Claim7 := { stood := { row := digitMoreRow, standIns := [], harness := (true, "b52a39e523431f73d6bb90b58a9be6184fe2ec5bc0b734091ae0970c6119f754"), looks := true }, kinds := [], alts := [], laidByText := true, laidKinds := [.data, .data, .data, .data, .sentinel, .sentinel, .pinned], laidTests := true, laidLooks := .later }
def DigitMoreCardSaid : Prop := Claim7.holds Tryd.pinned (.plain (OpenSpec.ofChange digitMoreSpec)) digitMoreCard

/-- THE TIED CARD OF 'syzygylaw04.DigitZeros'. -/
def digitZerosCard : Claim7 := { stood := { row := digitZerosRow, standIns := [], harness := (true, "b52a39e523431f73d6bb90b58a9be6184fe2ec5bc0b734091ae0970c6119f754"), looks := true }, kinds := [], alts := [], laidByText := true, laidKinds := [.data, .data, .data, .data, .sentinel, .sentinel, .pinned], laidTests := true, laidLooks := .later }
def DigitZerosCardSaid : Prop := Claim7.holds Tryd.pinned (.plain (OpenSpec.ofChange digitZerosSpec)) digitZerosCard

/-- THE TIED CARD OF 'syzygylaw04.DigitBack'. -/
def digitBackCard : Claim7 := { stood := { row := digitBackRow, standIns := [], harness := (true, "b52a39e523431f73d6bb90b58a9be6184fe2ec5bc0b734091ae0970c6119f754"), looks := true }, kinds := [], alts := [], laidByText := true, laidKinds := [.data, .data, .data, .data, .sentinel, .sentinel, .pinned], laidTests := true, laidLooks := .later }
def DigitBackCardSaid : Prop := Claim7.holds Tryd.pinned (.plain (OpenSpec.ofChange digitBackSpec)) digitBackCard

/-- THE SECOND FORM's CARD OF 'syzygylaw04.DigitOrder'. -/
def digitOrderUptoCard : Claim7 := { stood := { row := digitOrderUptoRow, standIns := [], harness := (true, "b52a39e523431f73d6bb90b58a9be6184fe2ec5bc0b734091ae0970c6119f754"), looks := true }, kinds := [], alts := [], laidByText := true, laidKinds := [.data, .data, .data, .data, .pinned], laidTests := true, laidLooks := .later }
def DigitOrderUptoCardSaid : Prop := Claim7.holds Tryd.pinned (.plain (OpenSpec.upto digitOrderSpec)) digitOrderUptoCard

/-- THE SECOND FORM's CARD OF 'syzygylaw04.DigitCounts'. -/
def digitCountsUptoCard : Claim7 := { stood := { row := digitCountsUptoRow, standIns := [], harness := (true, "b52a39e523431f73d6bb90b58a9be6184fe2ec5bc0b734091ae0970c6119f754"), looks := true }, kinds := [], alts := [], laidByText := true, laidKinds := [.data, .data, .data, .data, .pinned], laidTests := true, laidLooks := .later }
def DigitCountsUptoCardSaid : Prop := Claim7.holds Tryd.pinned (.plain (OpenSpec.upto digitCountsSpec)) digitCountsUptoCard

/-- THE SECOND FORM's CARD OF 'syzygylaw04.DigitMore'. -/
def digitMoreUptoCard : Claim7 := { stood := { row := digitMoreUptoRow, standIns := [], harness := (true, "b52a39e523431f73d6bb90b58a9be6184fe2ec5bc0b734091ae0970c6119f754"), looks := true }, kinds := [], alts := [], laidByText := true, laidKinds := [.data, .data, .data, .data, .sentinel, .sentinel, .pinned], laidTests := true, laidLooks := .later }
def DigitMoreUptoCardSaid : Prop := Claim7.holds Tryd.pinned (.plain (OpenSpec.upto digitMoreSpec)) digitMoreUptoCard

/-- THE SECOND FORM's CARD OF 'syzygylaw04.DigitZeros'. -/
def digitZerosUptoCard : Claim7 := { stood := { row := digitZerosUptoRow, standIns := [], harness := (true, "b52a39e523431f73d6bb90b58a9be6184fe2ec5bc0b734091ae0970c6119f754"), looks := true }, kinds := [], alts := [], laidByText := true, laidKinds := [.data, .data, .data, .data, .sentinel, .sentinel, .pinned], laidTests := true, laidLooks := .later }
def DigitZerosUptoCardSaid : Prop := Claim7.holds Tryd.pinned (.plain (OpenSpec.upto digitZerosSpec)) digitZerosUptoCard

/-- THE SECOND FORM's CARD OF 'syzygylaw04.DigitBack'. -/
def digitBackUptoCard : Claim7 := { stood := { row := digitBackUptoRow, standIns := [], harness := (true, "b52a39e523431f73d6bb90b58a9be6184fe2ec5bc0b734091ae0970c6119f754"), looks := true }, kinds := [], alts := [], laidByText := true, laidKinds := [.data, .data, .data, .data, .sentinel, .sentinel, .pinned], laidTests := true, laidLooks := .later }
def DigitBackUptoCardSaid : Prop := Claim7.holds Tryd.pinned (.plain (OpenSpec.upto digitBackSpec)) digitBackUptoCard
end Rows
end Go.Proofs.YtgdlkpfkaehebaaDoor
