/- What comes in: a slice of rows of bytes, a slice of texts. -/
import Derived.Test.YtgcenkmekpaapaaArgs
namespace Go.Proofs.Ytgcenkmekpaapaa.L
open Go.ChangeShapes Go.WideShapes Go.ChangeAt Go.RowKit Go.Deep
open Go.Proofs.YtgcenkmekpaapaaW.PrintWords Go.Proofs.YtgcenkmekpaapaaW.PrintLast Go.Proofs.YtgcenkmekpaapaaW.PrintMore
set_option linter.unusedVariables false
structure Rw where
  at_ : Option Addr
  b : List Int
  cap : Nat
instance : Inhabited Rw := ⟨⟨none, [], 0⟩⟩
structure RowsAt (W : World) (A : Option Addr) (len : Nat) (R : Nat → Rw) : Prop where
  max : len ≤ 9223372036854775807
  there : 0 < len → ∃ b o, A = some ⟨b, o, none⟩ ∧ b < W.heap.size ∧ ∀ i, i < len → W.cell? ⟨b, o + i, none⟩ = some (.slice (R i).at_ (R i).b.length (R i).cap)
  each : ∀ i, i < len → RowIs W (R i).at_ (R i).b (R i).cap
structure StrsAt (W : World) (A : Option Addr) (l : List ByteArray) : Prop where
  max : l.length ≤ 9223372036854775807
  there : 0 < l.length → ∃ b o, A = some ⟨b, o, none⟩ ∧ b < W.heap.size ∧ ∀ j, j < l.length → W.cell? ⟨b, o + j, none⟩ = some (.string (l.getD j ByteArray.empty))
section
variable {H : Type} {enc : TypeId × Value → H} {W : World} {base : Nat} {spare : Nat → Bool} {held : Bool}
theorem rows_of {a : Option Addr} {len cap : Nat} {d : DataW H} {ps : List MemPlace} (h : DataW.Trod enc Try.prog W base spare held 23 (.slice a len cap) d ps) : ∃ R : Nat → Rw, RowsAt W a len R := by
  obtain ⟨fuel, hf⟩ := h
  rcases open_slice Try.underlying23 hf with ⟨hcs, hx⟩ | ⟨x, l, c, m, n, D, Pl, hcs, hb, hl, hm, hmm, hx, he⟩
  · simp [Value.cells] at hcs
    obtain ⟨rfl, rfl, rfl⟩ := hcs
    exact ⟨fun _ => default, by omega, fun h => absurd h (Nat.lt_irrefl _), fun i hi => absurd hi (Nat.not_lt_zero _)⟩
  · simp [Value.cells] at hcs
    obtain ⟨rfl, rfl, rfl⟩ := hcs
    have hlm : len ≤ m := by rw [hmm]; split <;> omega
    have each : ∀ i, i < len → ∃ q : Rw, W.cell? (x.add i) = some (.slice q.at_ q.b.length q.cap) ∧ RowIs W q.at_ q.b q.cap := by
      intro i hi
      obtain ⟨cs', h1, h2⟩ := he i (by omega)
      rw [cells_one_r] at h1
      obtain ⟨_, hlen, hcell⟩ := World.cells?_some h1
      obtain ⟨ka, ks, kc, e3, hrow⟩ := bytes_of h2
      subst e3
      have k0 := hcell 0 (by omega)
      rw [Deep.add_add, Nat.mul_one, Nat.add_zero] at k0
      exact ⟨⟨ka, ks, kc⟩, by simpa using k0, hrow⟩
    obtain ⟨q, hq⟩ := choose_lt each
    refine ⟨q, by unfold maxLen at hm; omega, fun h0 => ?_, fun i hi => (hq i hi).2⟩
    have h00 := (hq 0 h0).1
    have ex : x.add 0 = x := by simp [Addr.add]
    rw [ex] at h00
    obtain ⟨b, o, rfl, hbl⟩ := spot_of h00
    refine ⟨b, o, rfl, hbl, fun i hi => ?_⟩
    have k := (hq i hi).1
    rw [add_is] at k
    exact k
end
end Go.Proofs.Ytgcenkmekpaapaa.L
