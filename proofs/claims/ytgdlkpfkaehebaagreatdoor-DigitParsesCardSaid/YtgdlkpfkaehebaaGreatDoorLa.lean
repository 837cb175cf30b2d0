/- The world fact of the table that strconv reads, out of a row's laid condition. -/
import Derived.Test.YtgdlkpfkaehebaaGreatDoorFu
import Derived.Lib.LaidTab
import Derived.LaidSub
import Derived.MakeChecks
set_option linter.unusedVariables false
namespace Go.Proofs.YtgdlkpfkaehebaaGreatDoor.La
open Go Go.RowKit
theorem pow_of {W : World} {L : List (String × DataW Unit)} (h : laidMetH Tryz.prog L W) (hf : L.filter (fun x => x.1 == "internal/strconv.uint64pow10") = [("internal/strconv.uint64pow10", Lib.tabData .u64 Lib.pow10Tab)]) : Fu.Pow W := by
  have h1 := laidMetH.filter (fun x => x.1 == "internal/strconv.uint64pow10") h
  rw [hf, MakeChecks.laidMetH_plain _ _ _ (by kernel_rfl)] at h1
  exact Lib.tabIs_of_head (show Tryz.prog.globalNamed "internal/strconv.uint64pow10" = some 4 by kernel_rfl) (show (Tryz.prog.globals[4]?).map (·.type) = some 110 by kernel_rfl) Tryz.underlying110 Tryz.underlying31 (by kernel_rfl) (by kernel_rfl) h1
end Go.Proofs.YtgdlkpfkaehebaaGreatDoor.La
