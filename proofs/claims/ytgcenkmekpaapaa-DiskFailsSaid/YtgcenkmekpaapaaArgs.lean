/- What comes in: a row of bytes, a slice of calls, a slice of such rows, a slice of texts. -/
import Derived.Test.YtgcenkmekpaapaaSteps
import Derived.ProofKit
import Derived.OpenShut
import Derived.SizedLaws
import Derived.ChangeSlices
import Derived.Deep.SlicePairs
import Derived.Deep.Slices
import Derived.Lib.SmallJoins
import Derived.SliceStrings
namespace Go.Proofs.Ytgcenkmekpaapaa.L
open Go.ChangeShapes Go.WideShapes Go.ChangeAt Go.RowKit Go.Deep
open Go.Proofs.YtgcenkmekpaapaaW.PrintWords Go.Proofs.YtgcenkmekpaapaaW.PrintLast Go.Proofs.YtgcenkmekpaapaaW.PrintMore
set_option linter.unusedVariables false
structure Op where
  kind : Int
  name : ByteArray
  too : ByteArray
  at_ : Option Addr
  b : List Int
  cap : Nat
  n : Int
  torn : Int
instance : Inhabited Op := ⟨⟨0, ⟨#[]⟩, ⟨#[]⟩, none, [], 0, 0, 0⟩⟩
structure OpAt (W : World) (b o i : Nat) (q : Op) : Prop where
  c0 : W.cell? ⟨b, o + i * 6, none⟩ = some (.int .i64 q.kind)
  c1 : W.cell? ⟨b, o + i * 6 + 1, none⟩ = some (.string q.name)
  c2 : W.cell? ⟨b, o + i * 6 + 2, none⟩ = some (.string q.too)
  c3 : W.cell? ⟨b, o + i * 6 + 3, none⟩ = some (.slice q.at_ q.b.length q.cap)
  c4 : W.cell? ⟨b, o + i * 6 + 4, none⟩ = some (.int .i64 q.n)
  c5 : W.cell? ⟨b, o + i * 6 + 5, none⟩ = some (.int .i64 q.torn)
structure RowIs (W : World) (a : Option Addr) (l : List Int) (cap : Nat) : Prop where
  row : Kd.C kB W a l.length l
  le : l.length ≤ cap
  cap_le : cap ≤ maxLen
structure OpIs (W : World) (q : Op) : Prop where
  kind : (Lit.int .i64 q.kind).wf = true
  n : (Lit.int .i64 q.n).wf = true
  torn : (Lit.int .i64 q.torn).wf = true
  row : RowIs W q.at_ q.b q.cap
structure OpsAt (W : World) (A : Option Addr) (len : Nat) (Q : Nat → Op) : Prop where
  max : len ≤ 9223372036854775807
  there : 0 < len → ∃ b o, A = some ⟨b, o, none⟩ ∧ b < W.heap.size ∧ ∀ i, i < len → OpAt W b o i (Q i)
  each : ∀ i, i < len → OpIs W (Q i)
theorem cells_one_s : Try.prog.cellsOf 9 = 1 := by kernel_rfl
theorem cells_one_r : Try.prog.cellsOf 22 = 1 := by kernel_rfl
theorem cells_one_b : Try.prog.cellsOf 5 = 1 := by kernel_rfl
theorem add_is (b o j : Nat) : (⟨b, o, none⟩ : Addr).add j = ⟨b, o + j, none⟩ := by
  unfold Addr.add
  split
  · rename_i hz; subst hz; rfl
  · rfl
theorem spot_of {w : World} {x : Addr} {v : Value} (h : w.cell? x = some v) : ∃ b o, x = ⟨b, o, none⟩ ∧ b < w.heap.size := by
  have h1 := World.cell?_spot h
  have h2 := World.block_lt_of_cell? w _ h
  obtain ⟨b, o, sp⟩ := x
  simp only at h1
  subst h1
  exact ⟨b, o, rfl, h2⟩
section
variable {H : Type} {enc : TypeId × Value → H} {W : World} {base fuel : Nat} {spare : Nat → Bool} {held : Bool}
theorem bytes_of {cs : List Value} {x : DataW H × List MemPlace} (h : DataW.trod enc Try.prog W base spare held fuel 22 cs = some x) :
    ∃ (a : Option Addr) (l : List Int) (cap : Nat), cs = [.slice a l.length cap] ∧ RowIs W a l cap := by
  rcases open_ints Try.underlying22 Try.underlying5 cells_one_b h with ⟨rfl, hx⟩ | ⟨a, len, cap, zs, rfl, _, hl, hm, hz, hx, hcell, hwf⟩
  · exact ⟨none, [], 0, rfl, ⟨⟨rfl, by simp, fun h => by simp at h⟩, Nat.le_refl _, Nat.zero_le _⟩⟩
  · have hlz : len ≤ zs.length := by rw [hz]; split <;> omega
    have hlt : (zs.take len).length = len := by rw [List.length_take]; omega
    refine ⟨some a, zs.take len, cap, by rw [hlt], ⟨⟨rfl, by rw [hlt]; unfold maxLen at hm; omega, fun _ => ⟨a, rfl, fun j p hj => ⟨[.int .u8 p], rfl, rfl, fun i u hu => ?_⟩⟩⟩, by rw [hlt]; exact hl, hm⟩⟩
    have hi : i = 0 := by
      cases i with
      | zero => rfl
      | succ i => simp at hu
    subst hi
    have hjl : j < len := by
      have := (List.getElem?_eq_some_iff.1 hj).1
      omega
    rw [List.getElem?_take_of_lt hjl] at hj
    have h1 := hcell j (by omega)
    have e : zs.getD j 0 = p := by rw [List.getD_eq_getElem?_getD, hj]; rfl
    rw [e] at h1
    simp only [List.getElem?_cons_zero, Option.some.injEq] at hu
    rw [← hu]
    show W.cell? (a.add (j * 1 + 0)) = _
    rw [show j * 1 + 0 = j by omega]
    exact h1
theorem row_of {a : Option Addr} {len cap : Nat} {d : DataW H} {ps : List MemPlace} (h : DataW.Trod enc Try.prog W base spare held 22 (.slice a len cap) d ps) : ∃ l : List Int, len = l.length ∧ RowIs W a l cap := by
  obtain ⟨fuel, hf⟩ := h
  obtain ⟨a', l, c', e, hr⟩ := bytes_of hf
  simp [Value.cells] at e
  obtain ⟨rfl, rfl, rfl⟩ := e
  exact ⟨l, rfl, hr⟩
end
section
variable {w w' : World}
theorem RowIs.keep {a : Option Addr} {l : List Int} {cap : Nat} (h : RowIs w a l cap) (hb : Below w.heap.size w w') : RowIs w' a l cap := ⟨Kd.C_below h.row hb, h.le, h.cap_le⟩
theorem OpIs.keep {q : Op} (h : OpIs w q) (hb : Below w.heap.size w w') : OpIs w' q := ⟨h.kind, h.n, h.torn, h.row.keep hb⟩
theorem OpAt.keep {b o i : Nat} {q : Op} (h : OpAt w b o i q) (hb : Below w.heap.size w w') (hl : b < w.heap.size) : OpAt w' b o i q :=
  ⟨(hb.cell (p := ⟨b, _, none⟩) hl).trans h.c0, (hb.cell (p := ⟨b, _, none⟩) hl).trans h.c1, (hb.cell (p := ⟨b, _, none⟩) hl).trans h.c2, (hb.cell (p := ⟨b, _, none⟩) hl).trans h.c3, (hb.cell (p := ⟨b, _, none⟩) hl).trans h.c4, (hb.cell (p := ⟨b, _, none⟩) hl).trans h.c5⟩
end
end Go.Proofs.Ytgcenkmekpaapaa.L
