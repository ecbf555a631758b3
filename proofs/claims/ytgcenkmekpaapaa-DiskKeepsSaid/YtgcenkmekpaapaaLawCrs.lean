/- DiskCrashes, walked. -/
import Derived.Test.YtgcenkmekpaapaaCrsA
namespace Go.Proofs.Ytgcenkmekpaapaa.L
open Go.RowKit Go.Lib Go.Maps
set_option linter.unusedVariables false
open Go.Proofs.YtgcenkmekpaapaaW.PrintWords Go.Proofs.YtgcenkmekpaapaaW.PrintLast Go.Proofs.YtgcenkmekpaapaaW.PrintMore
section
variable {w0 w w' : World} {N B : Nat} {D Dx Dy : Dk}
structure Two (w0 w : World) (Dx Dy : Dk) (j : Nat) (A1 A2 : Option Addr) (l : List ByteArray) (c1 c2 : Nat) : Prop where
  x : DkAt w { Dx with ops := (j : Int) }
  y : DkAt w { Dy with ops := (j : Int) }
  r1 : Kd.R Kd.string 9 w 0 (fun k => k ∉ Dx.own ∧ k ∉ Dy.own) (.slice A1 l.length c1) l
  r2 : Kd.R Kd.string 9 w 0 (fun k => k ∉ Dx.own ∧ k ∉ Dy.own) (.slice A2 l.length c2) l
  below : Below w0.heap.size w0 w
  xo : ∀ k ∈ Dx.own, w0.heap.size ≤ k
  yo : ∀ k ∈ Dy.own, w0.heap.size ≤ k
  apart : ∀ k ∈ Dy.own, k ∉ Dx.own
  xl : Dx.loose = []
  yl : Dy.loose = []
section
variable {j : Nat} {A1 A2 : Option Addr} {l : List ByteArray} {c1 c2 : Nat}
theorem Two.new (h : Two w0 w Dx Dy j A1 A2 l c1 c2) (f : Fr [] w w') : Two w0 w' Dx Dy j A1 A2 l c1 c2 :=
  ⟨h.x.new f, h.y.new f, Kd.R_step h.r1 (fun k _ hlt => f.keep k hlt (by simp)), Kd.R_step h.r2 (fun k _ hlt => f.keep k hlt (by simp)), h.below.trans (f.below h.below.size (fun k hk => by simp at hk)), h.xo, h.yo, h.apart, h.xl, h.yl⟩
end
structure Half (w0 w : World) (Dx Dy : Dk) (j : Nat) (A1 A2 : Option Addr) (l : List ByteArray) (c1 c2 : Nat) : Prop where
  x : DkAt w { Dx with ops := ((j + 1 : Nat) : Int) }
  y : DkAt w { Dy with ops := (j : Int) }
  r1 : Kd.R Kd.string 9 w 0 (fun k => k ∉ Dx.own ∧ k ∉ Dy.own) (.slice A1 l.length c1) l
  r2 : Kd.R Kd.string 9 w 0 (fun k => k ∉ Dx.own ∧ k ∉ Dy.own) (.slice A2 l.length c2) l
  below : Below w0.heap.size w0 w
end
end Go.Proofs.Ytgcenkmekpaapaa.L
