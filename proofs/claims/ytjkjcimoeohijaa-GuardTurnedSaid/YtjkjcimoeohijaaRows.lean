/-
  No cell of these rows narrows 'for every input' (looked for: loops, veiled, ifaces, maps, wideKeys, modest, calm, conditions, laid).
  DERIVED. THE GIVEN ROWS OF THIS SEAT. 7 by the template 'for every input the law returns true; each argument reads behind the call as it read before'; 0 by the template 'total and deterministic' (their statements: YtjkjcimoeohijaaTotals.lean).
  GIVEN WITH THE SEED: the statements are not yours to turn. If you find one false, say at which input.
  Laid BY PROGRAM, IN A SANDBOX (cutbox-rows.mjs): the forced cells as the released guide's own fill.sh prints them over the translation 7e9ddf78920a8b7a… (all of the seat's roots in one cut). By AI agents, Wed Nov 11 2026. No macro, syntax, notation, axiom, sorry.
-/
import Derived.Test.YtjkjcimoeohijaaChecked
import GoSem.Claim
import GoSem.ClaimJoined
import GoSem.ClaimMapViews
import Derived.JoinedTies
import Derived.KernelRfl
namespace Go.Proofs.Ytjkjcimoeohijaa
/- THE CELL 'sum', in the pinned program and in every row, IS THE sha256 OF THE DUMP (.gsa) THAT YtjkjcimoeohijaaProg.lean LOADS. Nothing in Lean hashes anything: it is a label: what it is worth is what the hold of that sum in a sandbox is worth. -/
noncomputable def Try.pinned : Pinned := { name := "ytjkjcimoeohijaa", sum := "7e9ddf78920a8b7a7cda057f4d2b308a43cc6e5de97fdfb8862c9c470170afe0", checked := Try.checked }
namespace Rows
def none {H : Type} : Left H := { results := [], args := [] }

/-- 'syzygylaw07.GuardLinear': WHATEVER THE INPUT: true; the input reads as it did. -/
def guardLinearSpec : ChangeSpec := { name := "guardLinear", fn := fun _ => fun
  | [d1, d2, d3] => { results := [.lit (.bool true)], args := [d1, d2, d3] }
  | _ => none }
def guardLinearRow : OpenClaim := { program := "ytjkjcimoeohijaa", sum := "7e9ddf78920a8b7a7cda057f4d2b308a43cc6e5de97fdfb8862c9c470170afe0", func := "syzygy/syzygylaw07.GuardLinear", spec := "guardLinear", unfollowed := true, recurses := true, apart := false }
def GuardLinearSaid : Prop := guardLinearRow.holds Try.pinned (OpenSpec.ofChange guardLinearSpec)

/-- ITS FALSE NEIGHBOUR: 'it returns false'. Refute it at one input. -/
def guardLinearWrong : ChangeSpec := { name := "guardLinear", fn := fun _ => fun
  | [d1, d2, d3] => { results := [.lit (.bool false)], args := [d1, d2, d3] }
  | _ => none }
def GuardLinearWrongFalsely : Prop := guardLinearRow.holds Try.pinned (OpenSpec.ofChange guardLinearWrong)

/-- 'syzygylaw07.GuardTurned': WHATEVER THE INPUT: true; the input reads as it did. -/
def guardTurnedSpec : ChangeSpec := { name := "guardTurned", fn := fun _ => fun
  | [d1, d2, d3] => { results := [.lit (.bool true)], args := [d1, d2, d3] }
  | _ => none }
def guardTurnedRow : OpenClaim := { program := "ytjkjcimoeohijaa", sum := "7e9ddf78920a8b7a7cda057f4d2b308a43cc6e5de97fdfb8862c9c470170afe0", func := "syzygy/syzygylaw07.GuardTurned", spec := "guardTurned", unfollowed := true, recurses := true, apart := false }
def GuardTurnedSaid : Prop := guardTurnedRow.holds Try.pinned (OpenSpec.ofChange guardTurnedSpec)

/-- ITS FALSE NEIGHBOUR: 'it returns false'. Refute it at one input. -/
def guardTurnedWrong : ChangeSpec := { name := "guardTurned", fn := fun _ => fun
  | [d1, d2, d3] => { results := [.lit (.bool false)], args := [d1, d2, d3] }
  | _ => none }
def GuardTurnedWrongFalsely : Prop := guardTurnedRow.holds Try.pinned (OpenSpec.ofChange guardTurnedWrong)

/-- 'syzygylaw07.GuardCut': WHATEVER THE INPUT: true; the input reads as it did. -/
def guardCutSpec : ChangeSpec := { name := "guardCut", fn := fun _ => fun
  | [d1, d2, d3] => { results := [.lit (.bool true)], args := [d1, d2, d3] }
  | _ => none }
def guardCutRow : OpenClaim := { program := "ytjkjcimoeohijaa", sum := "7e9ddf78920a8b7a7cda057f4d2b308a43cc6e5de97fdfb8862c9c470170afe0", func := "syzygy/syzygylaw07.GuardCut", spec := "guardCut", unfollowed := true, recurses := true, apart := false }
def GuardCutSaid : Prop := guardCutRow.holds Try.pinned (OpenSpec.ofChange guardCutSpec)

/-- ITS FALSE NEIGHBOUR: 'it returns false'. Refute it at one input. -/
def guardCutWrong : ChangeSpec := { name := "guardCut", fn := fun _ => fun
  | [d1, d2, d3] => { results := [.lit (.bool false)], args := [d1, d2, d3] }
  | _ => none }
def GuardCutWrongFalsely : Prop := guardCutRow.holds Try.pinned (OpenSpec.ofChange guardCutWrong)

/-- 'syzygylaw07.GuardNone': WHATEVER THE INPUT: true; the input reads as it did. -/
def guardNoneSpec : ChangeSpec := { name := "guardNone", fn := fun _ => fun
  | [d] => { results := [.lit (.bool true)], args := [d] }
  | _ => none }
def guardNoneRow : OpenClaim := { program := "ytjkjcimoeohijaa", sum := "7e9ddf78920a8b7a7cda057f4d2b308a43cc6e5de97fdfb8862c9c470170afe0", func := "syzygy/syzygylaw07.GuardNone", spec := "guardNone", unfollowed := true, recurses := true, apart := false }
def GuardNoneSaid : Prop := guardNoneRow.holds Try.pinned (OpenSpec.ofChange guardNoneSpec)

/-- ITS FALSE NEIGHBOUR: 'it returns false'. Refute it at one input. -/
def guardNoneWrong : ChangeSpec := { name := "guardNone", fn := fun _ => fun
  | [d] => { results := [.lit (.bool false)], args := [d] }
  | _ => none }
def GuardNoneWrongFalsely : Prop := guardNoneRow.holds Try.pinned (OpenSpec.ofChange guardNoneWrong)

/-- 'syzygylaw07.GuardTells': WHATEVER THE INPUT: true; the input reads as it did. -/
def guardTellsSpec : ChangeSpec := { name := "guardTells", fn := fun _ => fun
  | [d1, d2, d3] => { results := [.lit (.bool true)], args := [d1, d2, d3] }
  | _ => none }
def guardTellsRow : OpenClaim := { program := "ytjkjcimoeohijaa", sum := "7e9ddf78920a8b7a7cda057f4d2b308a43cc6e5de97fdfb8862c9c470170afe0", func := "syzygy/syzygylaw07.GuardTells", spec := "guardTells", unfollowed := true, recurses := true, apart := false }
def GuardTellsSaid : Prop := guardTellsRow.holds Try.pinned (OpenSpec.ofChange guardTellsSpec)

/-- ITS FALSE NEIGHBOUR: 'it returns false'. Refute it at one input. -/
def guardTellsWrong : ChangeSpec := { name := "guardTells", fn := fun _ => fun
  | [d1, d2, d3] => { results := [.lit (.bool false)], args := [d1, d2, d3] }
  | _ => none }
def GuardTellsWrongFalsely : Prop := guardTellsRow.holds Try.pinned (OpenSpec.ofChange guardTellsWrong)

/-- 'syzygylaw07.GuardBack': WHATEVER THE INPUT: true; the input reads as it did. -/
def guardBackSpec : ChangeSpec := { name := "guardBack", fn := fun _ => fun
  | [d1, d2, d3, d4] => { results := [.lit (.bool true)], args := [d1, d2, d3, d4] }
  | _ => none }
def guardBackRow : OpenClaim := { program := "ytjkjcimoeohijaa", sum := "7e9ddf78920a8b7a7cda057f4d2b308a43cc6e5de97fdfb8862c9c470170afe0", func := "syzygy/syzygylaw07.GuardBack", spec := "guardBack", unfollowed := true, recurses := true, apart := false }
def GuardBackSaid : Prop := guardBackRow.holds Try.pinned (OpenSpec.ofChange guardBackSpec)

/-- ITS FALSE NEIGHBOUR: 'it returns false'. Refute it at one input. -/
def guardBackWrong : ChangeSpec := { name := "guardBack", fn := fun _ => fun
  | [d1, d2, d3, d4] => { results := [.lit (.bool false)], args := [d1, d2, d3, d4] }
  | _ => none }
def GuardBackWrongFalsely : Prop := guardBackRow.holds Try.pinned (OpenSpec.ofChange guardBackWrong)

/-- 'syzygylaw07.GuardOrder': WHATEVER THE INPUT: true; the input reads as it did. -/
def guardOrderSpec : ChangeSpec := { name := "guardOrder", fn := fun _ => fun
  | [d1, d2] => { results := [.lit (.bool true)], args := [d1, d2] }
  | _ => none }
def guardOrderRow : OpenClaim := { program := "ytjkjcimoeohijaa", sum := "7e9ddf78920a8b7a7cda057f4d2b308a43cc6e5de97fdfb8862c9c470170afe0", func := "syzygy/syzygylaw07.GuardOrder", spec := "guardOrder", unfollowed := true, recurses := true, apart := false }
def GuardOrderSaid : Prop := guardOrderRow.holds Try.pinned (OpenSpec.ofChange guardOrderSpec)

/-- ITS FALSE NEIGHBOUR: 'it returns false'. Refute it at one input. -/
def guardOrderWrong : ChangeSpec := { name := "guardOrder", fn := fun _ => fun
  | [d1, d2] => { results := [.lit (.bool false)], args := [d1, d2] }
  | _ => none }
def GuardOrderWrongFalsely : Prop := guardOrderRow.holds Try.pinned (OpenSpec.ofChange guardOrderWrong)

/- THE SECOND FORM. 'bulk': how many values and letters a reading holds, each counted each time it is reached (what is shared counts as often as it is met; a slice's spare places count too). A statement '..UptoSaid' is the law's where the arguments, and the package variables that the reading takes, are together of bulk at most 1048576: NARROWER than '..Said'. Prove '..Said' where nothing that the law and all that it calls make is longer than what came in: it says more and counts as full. Else prove '..UptoSaid'. A law counts once. -/
mutual
def uptoBulk {H : Type} : DataW H → Nat
  | .lit (.string bytes) => bytes.length + 1
  | .lit _ => 1
  | .nil => 1
  | .ptr d => uptoBulk d + 1
  | .slice elems spare => uptoBulkAll elems + uptoBulkAll spare + 1
  | .agg parts => uptoBulkAll parts + 1
  | .iface _ d => uptoBulk d + 1
  | .map entries => uptoBulkEntries entries + 1
  | .held _ => 1
def uptoBulkAll {H : Type} : List (DataW H) → Nat
  | [] => 0
  | d :: r => uptoBulk d + uptoBulkAll r
def uptoBulkEntries {H : Type} : List (Lit × DataW H) → Nat
  | [] => 0
  | x :: r => uptoBulkEntry x + uptoBulkEntries r
def uptoBulkEntry {H : Type} : Lit × DataW H → Nat
  | (.string bytes, d) => bytes.length + uptoBulk d + 1
  | (_, d) => uptoBulk d + 1
 end
def uptoSmall : (H : Type) → List (DataW H) → Bool := fun _ ds => decide (uptoBulkAll ds ≤ 1048576)
def OpenSpec.upto (s : _root_.Go.ChangeSpec) : _root_.Go.OpenSpec := { _root_.Go.OpenSpec.ofChange s with cond := some uptoSmall }

/-- 'syzygylaw07.GuardLinear', WHERE WHAT IT READS IS OF BULK AT MOST 1048576: true; the input reads as it did. -/
def guardLinearUptoRow : OpenClaim := { program := "ytjkjcimoeohijaa", sum := "7e9ddf78920a8b7a7cda057f4d2b308a43cc6e5de97fdfb8862c9c470170afe0", func := "syzygy/syzygylaw07.GuardLinear", spec := "guardLinear", unfollowed := true, recurses := true, apart := false, narrowed := true }
def GuardLinearUptoSaid : Prop := guardLinearUptoRow.holds Try.pinned (OpenSpec.upto guardLinearSpec)

/-- 'syzygylaw07.GuardTurned', WHERE WHAT IT READS IS OF BULK AT MOST 1048576: true; the input reads as it did. -/
def guardTurnedUptoRow : OpenClaim := { program := "ytjkjcimoeohijaa", sum := "7e9ddf78920a8b7a7cda057f4d2b308a43cc6e5de97fdfb8862c9c470170afe0", func := "syzygy/syzygylaw07.GuardTurned", spec := "guardTurned", unfollowed := true, recurses := true, apart := false, narrowed := true }
def GuardTurnedUptoSaid : Prop := guardTurnedUptoRow.holds Try.pinned (OpenSpec.upto guardTurnedSpec)

/-- 'syzygylaw07.GuardCut', WHERE WHAT IT READS IS OF BULK AT MOST 1048576: true; the input reads as it did. -/
def guardCutUptoRow : OpenClaim := { program := "ytjkjcimoeohijaa", sum := "7e9ddf78920a8b7a7cda057f4d2b308a43cc6e5de97fdfb8862c9c470170afe0", func := "syzygy/syzygylaw07.GuardCut", spec := "guardCut", unfollowed := true, recurses := true, apart := false, narrowed := true }
def GuardCutUptoSaid : Prop := guardCutUptoRow.holds Try.pinned (OpenSpec.upto guardCutSpec)

/-- 'syzygylaw07.GuardNone', WHERE WHAT IT READS IS OF BULK AT MOST 1048576: true; the input reads as it did. -/
def guardNoneUptoRow : OpenClaim := { program := "ytjkjcimoeohijaa", sum := "7e9ddf78920a8b7a7cda057f4d2b308a43cc6e5de97fdfb8862c9c470170afe0", func := "syzygy/syzygylaw07.GuardNone", spec := "guardNone", unfollowed := true, recurses := true, apart := false, narrowed := true }
def GuardNoneUptoSaid : Prop := guardNoneUptoRow.holds Try.pinned (OpenSpec.upto guardNoneSpec)

/-- 'syzygylaw07.GuardTells', WHERE WHAT IT READS IS OF BULK AT MOST 1048576: true; the input reads as it did. -/
def guardTellsUptoRow : OpenClaim := { program := "ytjkjcimoeohijaa", sum := "7e9ddf78920a8b7a7cda057f4d2b308a43cc6e5de97fdfb8862c9c470170afe0", func := "syzygy/syzygylaw07.GuardTells", spec := "guardTells", unfollowed := true, recurses := true, apart := false, narrowed := true }
def GuardTellsUptoSaid : Prop := guardTellsUptoRow.holds Try.pinned (OpenSpec.upto guardTellsSpec)

/-- 'syzygylaw07.GuardBack', WHERE WHAT IT READS IS OF BULK AT MOST 1048576: true; the input reads as it did. -/
def guardBackUptoRow : OpenClaim := { program := "ytjkjcimoeohijaa", sum := "7e9ddf78920a8b7a7cda057f4d2b308a43cc6e5de97fdfb8862c9c470170afe0", func := "syzygy/syzygylaw07.GuardBack", spec := "guardBack", unfollowed := true, recurses := true, apart := false, narrowed := true }
def GuardBackUptoSaid : Prop := guardBackUptoRow.holds Try.pinned (OpenSpec.upto guardBackSpec)

/-- 'syzygylaw07.GuardOrder', WHERE WHAT IT READS IS OF BULK AT MOST 1048576: true; the input reads as it did. -/
def guardOrderUptoRow : OpenClaim := { program := "ytjkjcimoeohijaa", sum := "7e9ddf78920a8b7a7cda057f4d2b308a43cc6e5de97fdfb8862c9c470170afe0", func := "syzygy/syzygylaw07.GuardOrder", spec := "guardOrder", unfollowed := true, recurses := true, apart := false, narrowed := true }
def GuardOrderUptoSaid : Prop := guardOrderUptoRow.holds Try.pinned (OpenSpec.upto guardOrderSpec)

end Rows
end Go.Proofs.Ytjkjcimoeohijaa
