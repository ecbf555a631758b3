/- The law ConeReads over plain lists. -/
import Derived.Test.YtinndapmljnifaaDoorConeH
import Derived.Test.YtinndapmljnifaaDoorConeJ
import Derived.Test.YtinndapmljnifaaDoorEx1
namespace Go.Proofs.YtinndapmljnifaaDoor.P
open Go.RowKit Go.Proofs.YtinndapmljnifaaDoor.S Go.Proofs.YtinndapmljnifaaDoor.Q Go.Proofs.YtinndapmljnifaaDoor.U Go.Proofs.YtinndapmljnifaaDoor.E
open Go.Proofs.YtinndapmljnifaaDoorW.PrintWords Go.Proofs.YtinndapmljnifaaDoorW.PrintLast Go.Proofs.YtinndapmljnifaaDoorW.PrintMore
theorem parseG_len (ls : List (List UInt8)) : ∀ i acc, (parseG i acc ls).1.length ≤ 64 := by
  induction ls with
  | nil => intro i acc; exact of_len acc
  | cons s r ih =>
    intro i acc
    rw [parseG]
    split
    · exact ih _ _
    · split
      · exact ih _ _
      · split
        · exact ih _ _
        · simp
theorem reads_ev (t : List UInt8) : Ev (fun k => tussocklaw18_ConeReads.f k (ba t)) true := by
  unfold tussocklaw18_ConeReads.f
  have e : (mn ((ba t).size : Int) 10000) = ((min t.length 10000 : Nat) : Int) := by
    rw [ba_size]; unfold mn; split <;> omega
  rw [e]
  have e2 : (ba t).extract 0 (((min t.length 10000 : Nat) : Int)).toNat = ba (t.take 10000) := by
    rw [Int.toNat_natCast, ba_extract, List.drop_zero]
    congr 1
    rw [List.take_eq_take_iff]; omega
  rw [e2]
  have hs : (t.take 10000).length < 3900000000 := by rw [List.length_take]; omega
  generalize t.take 10000 = u at hs
  have h64 := parseG_len (pts 10 u) 0 []
  exact Ev.bind shown_ev (Ev.pos (by omega) (Ev.pos (by rw [ba_size]; omega) (Ev.bind (parse_at u hs) (Ev.bind (refP_ev u hs) (Ev.pos rfl (Ev.bind (refSame_ev _ _ (by omega)) (Ev.pos (by simp) (Ev.pos rfl (Ev.val (by simp))))))))))
end Go.Proofs.YtinndapmljnifaaDoor.P
