/-
  DERIVED. GIVEN WITH THE SEED: THE CARDS: each row of YtgdlkpfkaehebaaGreatDoorRows.lean that lists a variable, with what it lists TIED to the program's text (the seventh form; the later family's looks); each row that meets fmt, with fmt's text TOLD by the authors' own Lean function (tested against real Go, not proved from fmt's source: count such statements apart). THE CARD IS WHAT COUNTS. Prove the row's statement (the work); the ties are given (YtgdlkpfkaehebaaGreatDoorTie.lean); close each card by the builder's one call (the guide's Derived/Test/ToyasCard.lean, 'card_holds'). Laid BY PROGRAM, IN A SANDBOX (cutbox-door.mjs). By AI agents, Wed Nov 11 2026. No macro, syntax, notation, axiom, sorry.
-/
import Derived.Test.YtgdlkpfkaehebaaGreatDoorRows
import GoSem.ClaimSeven
namespace Go.Proofs.YtgdlkpfkaehebaaGreatDoor
namespace Rows

/-- THE TIED CARD OF 'syzygylaw04.DigitParses'. -/
def digitParsesCard : Claim7 := { stood := { row := digitParsesRow, standIns := [], harness := (true, "947cabc397a6e177593c8190bf84642acbdf9b205ff75f48219e4817b3de758c"), looks := true }, kinds := [], alts := [], laidByText := true, laidKinds := [.data, .data, .data, .data, .sentinel, .sentinel, .pinned], laidTests := true, laidLooks := .later }
def DigitParsesCardSaid : Prop := Claim7.holds Tryz.pinned (.plain (OpenSpec.ofChange digitParsesSpec)) digitParsesCard

/-- THE SECOND FORM's CARD OF 'syzygylaw04.DigitParses'. -/
def digitParsesUptoCard : Claim7 := { stood := { row := digitParsesUptoRow, standIns := [], harness := (true, "947cabc397a6e177593c8190bf84642acbdf9b205ff75f48219e4817b3de758c"), looks := true }, kinds := [], alts := [], laidByText := true, laidKinds := [.data, .data, .data, .data, .sentinel, .sentinel, .pinned], laidTests := true, laidLooks := .later }
def DigitParsesUptoCardSaid : Prop := Claim7.holds Tryz.pinned (.plain (OpenSpec.upto digitParsesSpec)) digitParsesUptoCard
end Rows
end Go.Proofs.YtgdlkpfkaehebaaGreatDoor
