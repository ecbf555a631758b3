/- DiskOff, walked. -/
import Derived.Test.YtgcenkmekpaapaaPlayed
import Derived.Test.YtgcenkmekpaapaaShown
namespace Go.Proofs.Ytgcenkmekpaapaa.L
open Go.RowKit Go.Lib Go.Maps
set_option linter.unusedVariables false
open Go.Proofs.YtgcenkmekpaapaaW.PrintWords Go.Proofs.YtgcenkmekpaapaaW.PrintLast Go.Proofs.YtgcenkmekpaapaaW.PrintMore
structure Gone (w0 wr : World) (D : Dk) (v : Value) (l : List ByteArray) (o : Bool) : Prop where
  at_ : DkAt wr { D with cut := D.ops, off := o }
  row : Kd.R Kd.string 9 wr 0 (fun k => k ∉ D.own) v l
  below : Below w0.heap.size w0 wr
  own : ∀ j ∈ D.own, w0.heap.size ≤ j
  ops : 0 ≤ D.ops
section
variable {w0 w w' : World} {D : Dk} {v : Value} {l : List ByteArray} {o : Bool}
theorem Gone.dead (h : Gone w0 w D v l o) : ({ D with cut := D.ops, off := o } : Dk).dead = true := by
  unfold Dk.dead
  show (o || (decide (0 ≤ D.ops) && decide (D.ops ≤ D.ops))) = true
  rw [decide_eq_true h.ops, decide_eq_true (Int.le_refl _)]
  simp
theorem Gone.step (h : Gone w0 w D v l o) (g : Goes w w' { D with cut := D.ops, off := o } { D with cut := D.ops, off := true }) : Gone w0 w' D v l true :=
  ⟨g.at_, Kd.R_step h.row (fun k hk hlt => g.fr.keep k hlt hk), h.below.trans (g.fr.below h.below.size h.own), h.own, h.ops⟩
theorem Gone.new (h : Gone w0 w D v l o) (f : Fr [] w w') : Gone w0 w' D v l o :=
  ⟨h.at_.new f, Kd.R_step h.row (fun k _ hlt => f.keep k hlt (by simp)), h.below.trans (f.below h.below.size (fun k hk => by simp at hk)), h.own, h.ops⟩
end
end Go.Proofs.Ytgcenkmekpaapaa.L
