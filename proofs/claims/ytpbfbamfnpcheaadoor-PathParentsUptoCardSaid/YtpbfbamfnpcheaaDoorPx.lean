-- Written by this project's own wip/tools/xprint.py (the kit's printer with contracts given by hand): the machine side of functions. Not trusted: Lean checks it.
import Derived.Test.YtpbfbamfnpcheaaDoorPx0
import Derived.Test.YtpbfbamfnpcheaaDoorPx1
import Derived.Test.YtpbfbamfnpcheaaDoorPx2
import Derived.Test.YtpbfbamfnpcheaaDoorPx3
import Derived.Test.YtpbfbamfnpcheaaDoorPx4
import Derived.Test.YtpbfbamfnpcheaaDoorPx5
import Derived.Test.YtpbfbamfnpcheaaDoorPx6
namespace Go.Proofs.YtpbfbamfnpcheaaDoor.P
open Go.RowKit Go.Proofs.YtpbfbamfnpcheaaDoorW.PrintWords Go.Proofs.YtpbfbamfnpcheaaDoorW.PrintLast Go.Proofs.YtpbfbamfnpcheaaDoorW.PrintMore
attribute [local go_sem] run_makeFunc_ max2_int min2_int max_two min_two max_three min_three max_four min_four   -- for this text's walks alone
set_option linter.unusedVariables false
set_option linter.unusedSimpArgs false

end Go.Proofs.YtpbfbamfnpcheaaDoor.P
