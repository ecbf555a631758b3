/- The one form again, lines of a profile and what is shown, over plain lists: no program. -/
import Derived.Test.YtinndapmljnifaaDoorConeB
namespace Go.Proofs.YtinndapmljnifaaDoor.P
open Go.RowKit Go.Proofs.YtinndapmljnifaaDoor.S Go.Proofs.YtinndapmljnifaaDoor.Q
open Go.Proofs.YtinndapmljnifaaDoorW.PrintWords Go.Proofs.YtinndapmljnifaaDoorW.PrintLast Go.Proofs.YtinndapmljnifaaDoorW.PrintMore
theorem of_len (ds : List (List UInt8)) : (ofL ds).1.length ≤ 64 := by
  unfold ofL
  split
  · split
    · simp
    · rename_i h; exact Nat.not_lt.1 h
  · simp
def skipL (s : List UInt8) : Bool := s == [] || (s.headD 0 == 35)
def parseG : Nat → List (List UInt8) → List (List UInt8) → List (List UInt8) × Int × Int
  | _, acc, [] => ((ofL acc).1, 0, (ofL acc).2)
  | i, acc, s :: r => if skipL s = true then parseG (i + 1) acc r else if s = [42] then parseG (i + 1) (acc ++ [[]]) r else if isP s = true then parseG (i + 1) (acc ++ [s]) r else ([], ((i + 1 : Nat) : Int), 180)
end Go.Proofs.YtinndapmljnifaaDoor.P
