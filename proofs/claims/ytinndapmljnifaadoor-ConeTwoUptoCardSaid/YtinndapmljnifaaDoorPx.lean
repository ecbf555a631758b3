-- Written by this project's own wip/tools/xprint.py (the kit's printer with contracts given by hand): the machine side of functions. Not trusted: Lean checks it.
import Derived.Test.YtinndapmljnifaaDoorPx0
import Derived.Test.YtinndapmljnifaaDoorPx1
import Derived.Test.YtinndapmljnifaaDoorPx2
import Derived.Test.YtinndapmljnifaaDoorPx3
import Derived.Test.YtinndapmljnifaaDoorPx4
namespace Go.Proofs.YtinndapmljnifaaDoor.P
open Go.RowKit Go.Proofs.YtinndapmljnifaaDoorW.PrintWords Go.Proofs.YtinndapmljnifaaDoorW.PrintLast Go.Proofs.YtinndapmljnifaaDoorW.PrintMore
attribute [local go_sem] run_makeFunc_ max2_int min2_int max_two min_two max_three min_three max_four min_four   -- for this text's walks alone
set_option linter.unusedVariables false
set_option linter.unusedSimpArgs false

end Go.Proofs.YtinndapmljnifaaDoor.P
