/- DiskOff, walked. -/
import Derived.Test.YtgcenkmekpaapaaPlay
import Derived.Deep.DeepCutAuto
import Derived.Test.YtgcenkmekpaapaaShown
namespace Go.Proofs.Ytgcenkmekpaapaa.L
open Go.RowKit Go.Lib Go.Maps
set_option linter.unusedVariables false
open Go.Proofs.YtgcenkmekpaapaaW.PrintWords Go.Proofs.YtgcenkmekpaapaaW.PrintLast Go.Proofs.YtgcenkmekpaapaaW.PrintMore
structure Gone (w0 wr : World) (D : Dk) (v : Value) (l : List ByteArray) (o : Bool) : Prop where
  at_ : DkAt wr { D with cut := D.ops, off := o }
  row : Kd.R Kd.string 9 wr 0 (fun k => k ∉ D.own) v l
  below : Below w0.heap.size w0 wr
  own : ∀ j ∈ D.own, w0.heap.size ≤ j
  ops : 0 ≤ D.ops
section
variable {w0 w w' : World} {D : Dk} {v : Value} {l : List ByteArray} {o : Bool}
theorem Gone.dead (h : Gone w0 w D v l o) : ({ D with cut := D.ops, off := o } : Dk).dead = true := by
  unfold Dk.dead
  show (o || (decide (0 ≤ D.ops) && decide (D.ops ≤ D.ops))) = true
  rw [decide_eq_true h.ops, decide_eq_true (Int.le_refl _)]
  simp
theorem Gone.step (h : Gone w0 w D v l o) (g : Goes w w' { D with cut := D.ops, off := o } { D with cut := D.ops, off := true }) : Gone w0 w' D v l true :=
  ⟨g.at_, Kd.R_step h.row (fun k hk hlt => g.fr.keep k hlt hk), h.below.trans (g.fr.below h.below.size h.own), h.own, h.ops⟩
theorem Gone.new (h : Gone w0 w D v l o) (f : Fr [] w w') : Gone w0 w' D v l o :=
  ⟨h.at_.new f, Kd.R_step h.row (fun k _ hlt => f.keep k hlt (by simp)), h.below.trans (f.below h.below.size (fun k hk => by simp at hk)), h.own, h.ops⟩
theorem lies_at {A : Option Addr} (hr : Kd.C Kd.string w A l.length l) (h0 : 0 < l.length) :
    ∃ b o, A = some ⟨b, o, none⟩ ∧ b < w.heap.size ∧ ∀ j, j < l.length → w.cell? ⟨b, o + j, none⟩ = some (.string (l.getD j ByteArray.empty)) := by
  obtain ⟨ad, rfl, hcell⟩ := (Kd.reads_of_C (d := ByteArray.empty) hr).2.2 h0
  have h00 := hcell 0 h0
  have e0 : ad.add 0 = ad := by simp [Addr.add]
  rw [e0] at h00
  obtain ⟨b, o, rfl, hb⟩ := spot_of h00
  refine ⟨b, o, rfl, hb, fun j hj => ?_⟩
  have := hcell j hj
  rw [add_is] at this
  exact this
theorem names_of {N B : Nat} (h : DkAt w D) (g : Good N B D) : ∃ es, Lists D.dir es ∧ es.length ≤ N := by
  obtain ⟨es, hes, _, hel⟩ := h.dirM.list
  exact ⟨es, hes, Nat.le_trans hel g.nN⟩
end
def nameL (es : List (ByteArray × Nat)) : List ByteArray := (namesOf es).map fun b => ⟨b.toArray⟩
end Go.Proofs.Ytgcenkmekpaapaa.L
