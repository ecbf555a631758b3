/- What DiskCrashes says, of lists and names. -/
import Derived.Test.YtgcenkmekpaapaaLawOff
namespace Go.Proofs.Ytgcenkmekpaapaa.L
open Go.RowKit Go.Lib Go.Maps
set_option linter.unusedVariables false
open Go.Proofs.YtgcenkmekpaapaaW.PrintWords Go.Proofs.YtgcenkmekpaapaaW.PrintLast Go.Proofs.YtgcenkmekpaapaaW.PrintMore
section
variable {w w' : World} {N B : Nat} {D D' Dx Dy : Dk}
theorem Crashed.isSome {keep torn : Int} (h : Crashed keep torn D D') (g : Good N B D) (s : ByteArray) : (D'.dir s).isSome = (dirU keep D.loose D.sure D.loose.length s).isSome := by
  cases hd : dirU keep D.loose D.sure D.loose.length s with
  | none => rw [h.gone s hd]
  | some b =>
    obtain ⟨_, f, hf, rfl⟩ := g.behind keep s b hd
    obtain ⟨f', _, h2, _⟩ := h.there s f hf hd
    rw [h2]; rfl
theorem codeE_there {s : ByteArray} (hn : nameOk s = true) (hd : (D.dir s).isSome = true) (hf : ∀ k, D.fails k = 0) : codeE D true [s] = 0 := by
  have h1 : ((D.dir ([s].headD ByteArray.empty)).isNone) = false := by
    show (D.dir s).isNone = false
    cases hx : D.dir s with
    | none => rw [hx] at hd; cases hd
    | some _ => rfl
  unfold codeE startE
  rw [h1, hf]
  simp [hn]
end
end Go.Proofs.Ytgcenkmekpaapaa.L
