/- DiskFails, walked. -/
import Derived.Test.YtgcenkmekpaapaaFailsA
import Derived.Test.YtgcenkmekpaapaaLawCrs
namespace Go.Proofs.Ytgcenkmekpaapaa.L
open Go.RowKit Go.Lib Go.Maps
set_option linter.unusedVariables false
open Go.Proofs.YtgcenkmekpaapaaW.PrintWords Go.Proofs.YtgcenkmekpaapaaW.PrintLast Go.Proofs.YtgcenkmekpaapaaW.PrintMore
theorem RowIs.take {w : World} {a : Option Addr} {l : List Int} {cap m : Nat} (h : RowIs w a l cap) (hm : m ≤ l.length) : RowIs w a (l.take m) cap :=
  ⟨Kd.C_take h.row hm, by rw [List.length_take]; have := h.le; omega, h.cap_le⟩
theorem RowsAt.keep {w w' : World} {A : Option Addr} {n : Nat} {R : Nat → Rw} (h : RowsAt w A n R) (hb : Below w.heap.size w w') : RowsAt w' A n R :=
  ⟨h.max, fun h0 => by
    obtain ⟨b, o, e, hl, hc⟩ := h.there h0
    exact ⟨b, o, e, Nat.lt_of_lt_of_le hl hb.size, fun i hi => (hb.cell (p := ⟨b, _, none⟩) hl).trans (hc i hi)⟩, fun i hi => (h.each i hi).keep hb⟩
theorem StrsAt.keep {w w' : World} {A : Option Addr} {l : List ByteArray} (h : StrsAt w A l) (hb : Below w.heap.size w w') : StrsAt w' A l :=
  ⟨h.max, fun h0 => by
    obtain ⟨b, o, e, hl, hc⟩ := h.there h0
    exact ⟨b, o, e, Nat.lt_of_lt_of_le hl hb.size, fun i hi => (hb.cell (p := ⟨b, _, none⟩) hl).trans (hc i hi)⟩⟩
theorem cut_1000 {w : World} {a : Option Addr} {l : List Int} {cap : Nat} (h : RowIs w a l cap) (m : Nat) (hm : m ≤ l.length) : ∀ W : World, (Instr.slice 22 (.slice a l.length cap) none (some (.int .i64 m)) none).run Try.prog W = .ok (.slice a m cap) W := by
  obtain ⟨ji, hji, _⟩ := info_byte
  have e2 := cut_to (P := Try.prog) 22 5 .i64 (Try.underlying22) hji a l.length cap (m : Int) (by omega) (by omega) h.le
  rw [Int.toNat_natCast] at e2
  exact e2
end Go.Proofs.Ytgcenkmekpaapaa.L
