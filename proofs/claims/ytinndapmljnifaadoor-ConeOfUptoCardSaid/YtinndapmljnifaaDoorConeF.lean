/- The one form again, lines of a profile and what is shown, over plain lists: no program. -/
import Derived.Test.YtinndapmljnifaaDoorConeB
namespace Go.Proofs.YtinndapmljnifaaDoor.P
open Go.RowKit Go.Proofs.YtinndapmljnifaaDoor.S Go.Proofs.YtinndapmljnifaaDoor.Q
open Go.Proofs.YtinndapmljnifaaDoorW.PrintWords Go.Proofs.YtinndapmljnifaaDoorW.PrintLast Go.Proofs.YtinndapmljnifaaDoorW.PrintMore
theorem of_len (ds : List (List UInt8)) : (ofL ds).1.length ≤ 64 := by
  unfold ofL
  split
  · split
    · simp
    · rename_i h; exact Nat.not_lt.1 h
  · simp
end Go.Proofs.YtinndapmljnifaaDoor.P
