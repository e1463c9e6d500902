/- Functions of the translation as plain Lean functions with their contracts: written by the kit's print.py, called by wip/printall.sh for a list of functions. -/
import Derived.Test.YtkjplffpihfliaaGreatDoorProg
import Derived.Below
import Derived.Deep.Draws
import Derived.Deep.AppendLies
import Derived.Maps.AppendAt
import Derived.OwnWalk
import Derived.Laws.BytesArg
import Derived.Laws.MakeOwn
import Derived.Laws.OwnMore
import Derived.Deep.OwnRows
import Derived.Tactics
import Derived.Lib.ConvBytes
import Derived.Laws.Slices
import Derived.WalkKit
import Derived.KernelRfl
import Derived.RowKit3
import Derived.Deep.LoopGhost
import Derived.Deep.QuietTactic
import Derived.BigQuiet
import Derived.WideLaws
import Derived.Deep.DeepCutAuto
import Derived.Deep.CutBlock
import Derived.Deep.RegionHeld3
import Derived.Laws.Rows
import Derived.Lib.AppendStr
import Derived.ArgAppend
import Derived.Laws.IdiomCopy
import Derived.OrdersHeld
import Derived.Laws.BitsLemmas
import Derived.RowKit
import Derived.Test.YtkjplffpihfliaaGreatDoorWWords
import Derived.Test.YtkjplffpihfliaaGreatDoorWLast
import Derived.Test.YtkjplffpihfliaaGreatDoorWTab
import Derived.Test.YtkjplffpihfliaaGreatDoorWFour
import Derived.Test.YtkjplffpihfliaaGreatDoorWQPut
import Derived.Test.YtkjplffpihfliaaGreatDoorWApart
import Derived.Test.YtkjplffpihfliaaGreatDoorWArr
import Derived.Test.YtkjplffpihfliaaGreatDoorWZeros
import Derived.Test.YtkjplffpihfliaaGreatDoorWFoot
import Derived.Test.YtkjplffpihfliaaGreatDoorWKept
import Derived.Test.YtkjplffpihfliaaGreatDoorWShare
import Derived.Test.YtkjplffpihfliaaGreatDoorWN
import Derived.Test.YtkjplffpihfliaaGreatDoorWFootNe
import Derived.Test.YtkjplffpihfliaaGreatDoorWAt
import Derived.Test.YtkjplffpihfliaaGreatDoorWEqStruct
import Derived.Test.YtkjplffpihfliaaGreatDoorWRepsOne
import Derived.Test.YtkjplffpihfliaaGreatDoorWInv
import Derived.Test.YtkjplffpihfliaaGreatDoorWInvWords
import Derived.Test.YtkjplffpihfliaaGreatDoorWGuard
import Derived.Test.YtkjplffpihfliaaGreatDoorWNEv
import Derived.Test.YtkjplffpihfliaaGreatDoorWMore
namespace Go.Proofs.YtkjplffpihfliaaGreatDoor.PAll
open Go.RowKit Go.Proofs.YtkjplffpihfliaaGreatDoorW.PrintWords Go.Proofs.YtkjplffpihfliaaGreatDoorW.PrintLast Go.Proofs.YtkjplffpihfliaaGreatDoorW.PrintMore
attribute [local go_sem] max2_int min2_int max_two min_two max_three min_three max_four min_four   -- for this text's walks alone
set_option linter.unusedVariables false
set_option linter.unusedSimpArgs false



def errW : Option Int → Value
  | none => .nilIface
  | some c => .iface 0 (.int .i64 c)
theorem errW_none : errW none = .nilIface := rfl
theorem errW_some (c : Int) : errW (some c) = .iface 0 (.int .i64 c) := rfl

theorem info5 : (Tryz.prog.info? 5).map (fun i => (i.zero, i.size, i.bytes)) = some (some (.int .u8 0), 1, 1) := by kernel_rfl
-- the values' own types

end Go.Proofs.YtkjplffpihfliaaGreatDoor.PAll
