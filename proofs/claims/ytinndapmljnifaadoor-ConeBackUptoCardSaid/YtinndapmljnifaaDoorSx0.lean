import Derived.Test.YtinndapmljnifaaDoorProg
import Derived.Below
import Derived.Deep.Draws
import Derived.Deep.AppendLies
import Derived.Maps.AppendAt
import Derived.OwnWalk
import Derived.Laws.BytesArg
import Derived.Laws.MakeOwn
import Derived.Laws.OwnMore
import Derived.Deep.OwnRows
import Derived.Tactics
import Derived.Lib.ConvBytes
import Derived.Laws.Slices
import Derived.WalkKit
import Derived.KernelRfl
import Derived.RowKit3
import Derived.Deep.LoopGhost
import Derived.Deep.QuietTactic
import Derived.BigQuiet
import Derived.WideLaws
import Derived.Deep.DeepCutAuto
import Derived.Deep.CutBlock
import Derived.Deep.RegionHeld3
import Derived.Laws.Rows
import Derived.Lib.AppendStr
import Derived.ArgAppend
import Derived.Laws.IdiomCopy
import Derived.OrdersHeld
import Derived.Laws.BitsLemmas
import Derived.RowKit
import Derived.Test.YtinndapmljnifaaDoorPx0
import Derived.Test.YtinndapmljnifaaDoorPx1
import Derived.Test.YtinndapmljnifaaDoorPx2
import Derived.Test.YtinndapmljnifaaDoorPx3
import Derived.Test.YtinndapmljnifaaDoorPx4
import Derived.Test.YtinndapmljnifaaDoorSem
import Derived.Test.YtinndapmljnifaaDoorWWords
import Derived.Test.YtinndapmljnifaaDoorWLast
import Derived.Test.YtinndapmljnifaaDoorWTab
import Derived.Test.YtinndapmljnifaaDoorWApart
import Derived.Test.YtinndapmljnifaaDoorWFoot
import Derived.Test.YtinndapmljnifaaDoorWKept
import Derived.Test.YtinndapmljnifaaDoorWShare
import Derived.Test.YtinndapmljnifaaDoorWN
import Derived.Laws.StructEq
import Derived.Test.YtinndapmljnifaaDoorWRepsOne
import Derived.Test.YtinndapmljnifaaDoorWGuard
import Derived.Test.YtinndapmljnifaaDoorWMore
namespace Go.Proofs.YtinndapmljnifaaDoor.S
open Go.Proofs.YtinndapmljnifaaDoor.P Go.RowKit Go.Proofs.YtinndapmljnifaaDoorW.PrintWords Go.Proofs.YtinndapmljnifaaDoorW.PrintLast Go.Proofs.YtinndapmljnifaaDoorW.PrintMore
attribute [local go_sem] run_makeFunc_ max2_int min2_int max_two min_two max_three min_three max_four min_four   
set_option linter.unusedVariables false
set_option linter.unusedSimpArgs false
def errW : Option Int → Value
 | none => .nilIface
 | some c => .iface 0 (.int .i64 c)
theorem errW_none : errW none = .nilIface := rfl
theorem errW_some (c : Int) : errW (some c) = .iface 0 (.int .i64 c) := rfl
end Go.Proofs.YtinndapmljnifaaDoor.S
