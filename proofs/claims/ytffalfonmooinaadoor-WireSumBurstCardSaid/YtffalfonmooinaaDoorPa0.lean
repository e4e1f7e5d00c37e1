-- Written by a patched scratch copy of the kit's print program (wip/tools of this session's repo), not by print.sh.
import Derived.Test.YtffalfonmooinaaDoorProg
import Derived.Below
import Derived.Deep.Draws
import Derived.Deep.AppendLies
import Derived.Maps.AppendAt
import Derived.OwnWalk
import Derived.Laws.BytesArg
import Derived.Laws.MakeOwn
import Derived.Laws.OwnMore
import Derived.Deep.OwnRows
import Derived.Tactics
import Derived.Lib.ConvBytes
import Derived.Laws.Slices
import Derived.WalkKit
import Derived.KernelRfl
import Derived.RowKit3
import Derived.Deep.LoopGhost
import Derived.Deep.QuietTactic
import Derived.BigQuiet
import Derived.WideLaws
import Derived.Deep.DeepCutAuto
import Derived.Deep.CutBlock
import Derived.Deep.RegionHeld3
import Derived.Laws.Rows
import Derived.Lib.AppendStr
import Derived.ArgAppend
import Derived.Laws.IdiomCopy
import Derived.OrdersHeld
import Derived.Laws.BitsLemmas
import Derived.RowKit
import Derived.Test.YtffalfonmooinaaDoorPutInt
import Derived.Test.YtffalfonmooinaaDoorSum
import Derived.Test.YtffalfonmooinaaDoorWWords
import Derived.Test.YtffalfonmooinaaDoorWLast
import Derived.Test.YtffalfonmooinaaDoorWTab
import Derived.Test.YtffalfonmooinaaDoorWFour
import Derived.Test.YtffalfonmooinaaDoorWQPut
import Derived.Test.YtffalfonmooinaaDoorWApart
import Derived.Test.YtffalfonmooinaaDoorWArr
import Derived.Test.YtffalfonmooinaaDoorWZeros
import Derived.Test.YtffalfonmooinaaDoorWFoot
import Derived.Test.YtffalfonmooinaaDoorWKept
import Derived.Test.YtffalfonmooinaaDoorWShare
import Derived.Test.YtffalfonmooinaaDoorWN
import Derived.Test.YtffalfonmooinaaDoorWFootNe
import Derived.Test.YtffalfonmooinaaDoorWAt
import Derived.Test.YtffalfonmooinaaDoorWEqStruct
import Derived.Test.YtffalfonmooinaaDoorWRepsOne
import Derived.Test.YtffalfonmooinaaDoorWInv
import Derived.Test.YtffalfonmooinaaDoorWInvWords
import Derived.Test.YtffalfonmooinaaDoorWGuard
import Derived.Test.YtffalfonmooinaaDoorWNEv
import Derived.Test.YtffalfonmooinaaDoorWMore
namespace Go.Proofs.YtffalfonmooinaaDoor.Pa
open Go.RowKit Go.Proofs.YtffalfonmooinaaDoorW.PrintWords Go.Proofs.YtffalfonmooinaaDoorW.PrintLast Go.Proofs.YtffalfonmooinaaDoorW.PrintMore
attribute [local go_sem] max2_int min2_int max_two min_two max_three min_three max_four min_four   -- for this text's walks alone
set_option linter.unusedVariables false
set_option linter.unusedSimpArgs false



def errW : Option Int → Value
  | none => .nilIface
  | some c => .iface 0 (.int .i64 c)
theorem errW_none : errW none = .nilIface := rfl
theorem errW_some (c : Int) : errW (some c) = .iface 0 (.int .i64 c) := rfl

-- the values' own types

end Go.Proofs.YtffalfonmooinaaDoor.Pa
