/- Laid by a program of this session (px.py), out of the translation and of contracts that the session proved: what each Go function answers, as a plain Lean function, and that its call answers just that. -/
import Derived.Test.YtjkjcimoeohijaaProg
import Derived.Below
import Derived.Deep.Draws
import Derived.Deep.AppendLies
import Derived.Maps.AppendAt
import Derived.OwnWalk
import Derived.Laws.BytesArg
import Derived.Laws.MakeOwn
import Derived.Laws.OwnMore
import Derived.Deep.OwnRows
import Derived.Tactics
import Derived.Lib.ConvBytes
import Derived.Laws.Slices
import Derived.WalkKit
import Derived.KernelRfl
import Derived.RowKit3
import Derived.Deep.LoopGhost
import Derived.Deep.QuietTactic
import Derived.BigQuiet
import Derived.WideLaws
import Derived.Deep.DeepCutAuto
import Derived.Deep.CutBlock
import Derived.Deep.RegionHeld3
import Derived.Laws.Rows
import Derived.Lib.AppendStr
import Derived.ArgAppend
import Derived.Laws.IdiomCopy
import Derived.OrdersHeld
import Derived.Laws.BitsLemmas
import Derived.RowKit
import Derived.Test.YtjkjcimoeohijaaGuardA
import Derived.Test.YtjkjcimoeohijaaWWords
import Derived.Test.YtjkjcimoeohijaaWLast
import Derived.Test.YtjkjcimoeohijaaWTab
import Derived.Test.YtjkjcimoeohijaaWFour
import Derived.Test.YtjkjcimoeohijaaWQPut
import Derived.Test.YtjkjcimoeohijaaWApart
import Derived.Test.YtjkjcimoeohijaaWArr
import Derived.Test.YtjkjcimoeohijaaWZeros
import Derived.Test.YtjkjcimoeohijaaWFoot
import Derived.Test.YtjkjcimoeohijaaWKept
import Derived.Test.YtjkjcimoeohijaaWShare
import Derived.Test.YtjkjcimoeohijaaWN
import Derived.Test.YtjkjcimoeohijaaWFootNe
import Derived.Test.YtjkjcimoeohijaaWAt
import Derived.Test.YtjkjcimoeohijaaWEqStruct
import Derived.Test.YtjkjcimoeohijaaWRepsOne
import Derived.Test.YtjkjcimoeohijaaWInv
import Derived.Test.YtjkjcimoeohijaaWInvWords
import Derived.Test.YtjkjcimoeohijaaWGuard
import Derived.Test.YtjkjcimoeohijaaWNEv
import Derived.Test.YtjkjcimoeohijaaWMore
namespace Go.Proofs.Ytjkjcimoeohijaa.PGuardLinear
open Go.RowKit Go.Proofs.YtjkjcimoeohijaaW.PrintWords Go.Proofs.YtjkjcimoeohijaaW.PrintLast Go.Proofs.YtjkjcimoeohijaaW.PrintMore
attribute [local go_sem] max2_int min2_int max_two min_two max_three min_three max_four min_four   -- for this text's walks alone
set_option linter.unusedVariables false
set_option linter.unusedSimpArgs false



def errW : Option Int → Value
  | none => .nilIface
  | some c => .iface 0 (.int .i64 c)
theorem errW_none : errW none = .nilIface := rfl
theorem errW_some (c : Int) : errW (some c) = .iface 0 (.int .i64 c) := rfl

theorem info5 : (Try.prog.info? 5).map (fun i => (i.zero, i.size, i.bytes)) = some (some (.int .u8 0), 1, 1) := by kernel_rfl
-- the values' own types

end Go.Proofs.Ytjkjcimoeohijaa.PGuardLinear
