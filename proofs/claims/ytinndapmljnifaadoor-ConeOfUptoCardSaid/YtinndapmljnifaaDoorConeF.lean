/- The one form again, lines of a profile and what is shown, over plain lists: no program. -/
import Derived.Test.YtinndapmljnifaaDoorConeB
namespace Go.Proofs.YtinndapmljnifaaDoor.P
open Go.RowKit Go.Proofs.YtinndapmljnifaaDoor.S Go.Proofs.YtinndapmljnifaaDoor.Q
open Go.Proofs.YtinndapmljnifaaDoorW.PrintWords Go.Proofs.YtinndapmljnifaaDoorW.PrintLast Go.Proofs.YtinndapmljnifaaDoorW.PrintMore
theorem of_len (ds : List (List UInt8)) : (ofL ds).1.length ≤ 64 := by
  unfold ofL
  split
  · split
    · simp
    · rename_i h; exact Nat.not_lt.1 h
  · simp
def muteL (s : List UInt8) : Bool := s == [42] || (s != [] && s.headD 0 == 35) || s.contains 10
def nameL (s : List UInt8) : List UInt8 := if s = [] then [42] else s
def lineL (s : List UInt8) : List UInt8 := nameL s ++ [10]
def showG : List UInt8 → List (List UInt8) → List UInt8 × Int
  | b, [] => (b, 0)
  | b, s :: r => if muteL s = true then ([], 180) else showG (b ++ lineL s) r
def showL (ds : List (List UInt8)) : List UInt8 × Int := if (ofL ds).2 = 0 then showG [] (ofL ds).1 else ([], (ofL ds).2)
end Go.Proofs.YtinndapmljnifaaDoor.P
