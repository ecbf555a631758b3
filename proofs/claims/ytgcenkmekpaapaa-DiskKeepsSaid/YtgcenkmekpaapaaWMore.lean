import Derived.Test.YtgcenkmekpaapaaWWords
import Derived.Test.YtgcenkmekpaapaaWLast
import Derived.Test.YtgcenkmekpaapaaWApart
import Derived.Test.YtgcenkmekpaapaaWFoot
import Derived.Test.YtgcenkmekpaapaaWKept
import Derived.Test.YtgcenkmekpaapaaWN
namespace Go.Proofs.YtgcenkmekpaapaaW.PrintMore
open Go.RowKit Go.Proofs.YtgcenkmekpaapaaW.PrintWords
namespace Kd
open Go.Proofs.YtgcenkmekpaapaaW.PrintWords.Kd
end Kd
namespace Kd
open Go.Proofs.YtgcenkmekpaapaaW.PrintWords.Kd
end Kd
end Go.Proofs.YtgcenkmekpaapaaW.PrintMore
namespace Go.Proofs.YtgcenkmekpaapaaW.PrintWords
open Go.RowKit
section
variable {P : Program} {ops : Array Oper} {rest : List Oper} {o : Oper} {a : Act} {Q : Exit → Act → World → Prop} {W : World}
theorem gate_builtin {b : Builtin} {xs : Array Operand} {ts : Array TypeId} (_ho : o.op = .call { callee := .builtin b, args := xs, argTypes := ts }) (h : wpList P ops Q (o :: rest) a W) : wpList P ops Q (o :: rest) a W := h
end
namespace Kd
end Kd
end Go.Proofs.YtgcenkmekpaapaaW.PrintWords
namespace Go.Proofs.YtgcenkmekpaapaaW.PrintWords
open Go.RowKit
namespace Kd
end Kd
end Go.Proofs.YtgcenkmekpaapaaW.PrintWords
