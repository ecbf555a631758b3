/- LruUsed, walked. -/
import Derived.Test.YtbiejjncjgapmaaShown
import Derived.StillTailTactics
import Derived.Deep.QuietTactic
import Derived.BigQuiet
import Derived.Deep.RegionHeld3
namespace Go.Proofs.Ytbiejjncjgapmaa.L
open Go.RowKit Go.Lib Go.Proofs.Ytbiejjncjgapmaa.P
open Go.Proofs.YtbiejjncjgapmaaW.PrintWords Go.Proofs.YtbiejjncjgapmaaW.PrintLast Go.Proofs.YtbiejjncjgapmaaW.PrintMore
attribute [local go_sem] max2_int
theorem toList_inj {s t : ByteArray} (h : s.toList = t.toList) : s = t := by
  rw [ByteArray.toList_eq, ByteArray.toList_eq] at h
  cases s; cases t
  simp at h
  rw [h]
end Go.Proofs.Ytbiejjncjgapmaa.L
