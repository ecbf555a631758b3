/- What DiskFails does to a disk, call by call. -/
import Derived.Test.YtgcenkmekpaapaaCrsA
import Derived.Test.YtgcenkmekpaapaaArgs2
namespace Go.Proofs.Ytgcenkmekpaapaa.L
open Go.RowKit Go.Lib Go.Maps
set_option linter.unusedVariables false
open Go.Proofs.YtgcenkmekpaapaaW.PrintWords Go.Proofs.YtgcenkmekpaapaaW.PrintLast Go.Proofs.YtgcenkmekpaapaaW.PrintMore
abbrev sK : ByteArray := ⟨#[107, 101, 112, 116]⟩
def onlyK (blk : Nat) : Names := fun t => if t = sK then some blk else none
structure Hold (k : Nat) (D : Dk) (blk : Nat) (b : List Int) (sure : Nat) : Prop where
  d : D.d = k + 3
  dir : D.dir = onlyK blk
  fs : ∃ row, D.fs = [⟨blk, row, b, sure⟩]
  room : D.room = 1048576
  fails : D.fails = fun _ => 0
  loose : ∀ a ∈ D.loose, isDir a = true ∨ ∃ n, a = .grow blk n
section
variable {w0 w : World} {k blk N B sure : Nat} {D D' : Dk} {b : List Int}
theorem Hold.len (o : Hold k D blk b sure) : total D.len [(sK, blk)] = b.length := by
  obtain ⟨row, hf⟩ := o.fs
  simp [total, Dk.len, hf]
structure Firm (k : Nat) (D : Dk) (blk : Nat) (b : List Int) (sure : Nat) : Prop where
  hold : Hold k D blk b sure
  su : D.sure = onlyK blk
  grows : ∀ a ∈ D.loose, ∃ n, a = .grow blk n
def Dk.fail (D : Dk) : Dk := { D with n := D.n + 1, fails := fun t => if t = D.ops then D.fails D.ops + 1 else D.fails t }
end
end Go.Proofs.Ytgcenkmekpaapaa.L
