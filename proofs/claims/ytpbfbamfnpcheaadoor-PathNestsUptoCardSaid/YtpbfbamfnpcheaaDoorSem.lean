/- Small equations of the model that a walk wants at function values. -/
import Derived.Test.YtpbfbamfnpcheaaDoorWMore
namespace Go.Proofs.YtpbfbamfnpcheaaDoor.P
theorem run_makeFunc_ {P : Program} (fn : Fn) (first cap : Array Value) (w : World) : (Instr.makeFunc fn first cap).run P w = .ok (.func fn first cap) w := rfl
end Go.Proofs.YtpbfbamfnpcheaaDoor.P
