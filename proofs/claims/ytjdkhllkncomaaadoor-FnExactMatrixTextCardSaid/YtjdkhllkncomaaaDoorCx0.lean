-- printed by drive.py (a program of this session) through the kit's print.py. Not trusted: Lean checks it.
import Derived.Test.YtjdkhllkncomaaaDoorProg
import Derived.Below
import Derived.Deep.Draws
import Derived.Deep.AppendLies
import Derived.Maps.AppendAt
import Derived.OwnWalk
import Derived.Laws.BytesArg
import Derived.Laws.MakeOwn
import Derived.Laws.OwnMore
import Derived.Deep.OwnRows
import Derived.Tactics
import Derived.Lib.ConvBytes
import Derived.Laws.Slices
import Derived.WalkKit
import Derived.KernelRfl
import Derived.RowKit3
import Derived.Deep.LoopGhost
import Derived.Deep.QuietTactic
import Derived.BigQuiet
import Derived.WideLaws
import Derived.Deep.DeepCutAuto
import Derived.Deep.CutBlock
import Derived.Deep.RegionHeld3
import Derived.Laws.Rows
import Derived.Lib.AppendStr
import Derived.ArgAppend
import Derived.Laws.IdiomCopy
import Derived.OrdersHeld
import Derived.Laws.BitsLemmas
import Derived.RowKit
import Derived.Test.YtjdkhllkncomaaaDoorWWords
import Derived.Test.YtjdkhllkncomaaaDoorWLast
import Derived.Test.YtjdkhllkncomaaaDoorWTab
import Derived.Test.YtjdkhllkncomaaaDoorWFour
import Derived.Test.YtjdkhllkncomaaaDoorWQPut
import Derived.Test.YtjdkhllkncomaaaDoorWApart
import Derived.Test.YtjdkhllkncomaaaDoorWArr
import Derived.Test.YtjdkhllkncomaaaDoorWZeros
import Derived.Test.YtjdkhllkncomaaaDoorWFoot
import Derived.Test.YtjdkhllkncomaaaDoorWKept
import Derived.Test.YtjdkhllkncomaaaDoorWShare
import Derived.Test.YtjdkhllkncomaaaDoorWN
import Derived.Test.YtjdkhllkncomaaaDoorWFootNe
import Derived.Test.YtjdkhllkncomaaaDoorWAt
import Derived.Test.YtjdkhllkncomaaaDoorWEqStruct
import Derived.Test.YtjdkhllkncomaaaDoorWRepsOne
import Derived.Test.YtjdkhllkncomaaaDoorWInv
import Derived.Test.YtjdkhllkncomaaaDoorWInvWords
import Derived.Test.YtjdkhllkncomaaaDoorWGuard
import Derived.Test.YtjdkhllkncomaaaDoorWNEv
import Derived.Test.YtjdkhllkncomaaaDoorWMore
namespace Go.Proofs.YtjdkhllkncomaaaDoor.C
open Go.RowKit Go.Proofs.YtjdkhllkncomaaaDoorW.PrintWords Go.Proofs.YtjdkhllkncomaaaDoorW.PrintLast Go.Proofs.YtjdkhllkncomaaaDoorW.PrintMore
attribute [local go_sem] max2_int min2_int max_two min_two max_three min_three max_four min_four   -- for this text's walks alone
set_option linter.unusedVariables false
set_option linter.unusedSimpArgs false



def errW : Option Int → Value
  | none => .nilIface
  | some c => .iface 0 (.int .i64 c)
theorem errW_none : errW none = .nilIface := rfl
theorem errW_some (c : Int) : errW (some c) = .iface 0 (.int .i64 c) := rfl

-- the values' own types

end Go.Proofs.YtjdkhllkncomaaaDoor.C
