import Derived.Test.YthlmbgaipbjbhaaDoorWTab
namespace Go.Proofs.YthlmbgaipbjbhaaDoorW.PrintLast
def up (b : Nat → Bool) (i : Nat) : Nat → Bool := fun j => if j = i then true else b j
end Go.Proofs.YthlmbgaipbjbhaaDoorW.PrintLast
