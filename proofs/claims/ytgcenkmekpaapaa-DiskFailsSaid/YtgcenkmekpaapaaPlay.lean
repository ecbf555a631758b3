/- pick, named, and a disk behind a script. -/
import Derived.Test.YtgcenkmekpaapaaArgs
import Derived.Deep.RegionHeld3
import Derived.Deep.QuietTactic
import Derived.BigQuiet
namespace Go.Proofs.Ytgcenkmekpaapaa.L
open Go.RowKit Go.Lib Go.Maps
open Go.Proofs.YtgcenkmekpaapaaW.PrintWords Go.Proofs.YtgcenkmekpaapaaW.PrintLast Go.Proofs.YtgcenkmekpaapaaW.PrintMore
structure Dsk (w0 wr : World) (N B : Nat) (D : Dk) : Prop where
  at_ : DkAt wr D
  good : Good N B D
  below : Below w0.heap.size w0 wr
  own : ∀ j ∈ D.own, w0.heap.size ≤ j
  cut : D.cut < 0
  off : D.off = false
section
variable {w0 w w' : World} {N B L : Nat} {D D' : Dk} {T : ByteArray → Prop}
theorem Dsk.dead (h : Dsk w0 w N B D) : D.dead = false := live_of h.cut h.off
theorem Dsk.step (h : Dsk w0 w N B D) (g : Goes w w' D D') (s : Stp T L D D') : Dsk w0 w' (N + 2) (B + L) D' :=
  ⟨g.at_, s.good h.good, h.below.trans (g.fr.below h.below.size h.own), fun j hj => (g.own j hj).elim (h.own j) (fun e => Nat.le_trans h.below.size e), (s.live h.cut h.off).1, (s.live h.cut h.off).2⟩
theorem Dsk.new (h : Dsk w0 w N B D) (hb : Below w.heap.size w w') : Dsk w0 w' N B D :=
  ⟨h.at_.new (Fr.of_below hb []), h.good, h.below.trans (hb.mono h.below.size), h.own, h.cut, h.off⟩
theorem Dsk.mono (h : Dsk w0 w N B D) {N' B' : Nat} (hN : N ≤ N') (hB : B ≤ B') : Dsk w0 w N' B' D := ⟨h.at_, h.good.mono hN hB, h.below, h.own, h.cut, h.off⟩
theorem Dsk.to (h : Dsk w0 w N B D) (g : Goes w w' D D') (s : Stp T L D D') {N' B' : Nat} (hN : N + 2 ≤ N') (hB : B + L ≤ B') : Dsk w0 w' N' B' D' := (h.step g s).mono hN hB
theorem Dsk.row (h : Dsk w0 w N B D) {W : World} (f : Fr D.own w W) {a : Option Addr} {l : List Int} {cap : Nat} (hr : RowIs w0 a l cap) : RowIs W a l cap :=
  hr.keep (h.below.trans (f.below h.below.size h.own))
end
theorem new_dsk (w w0 : World) (hb : Below w0.heap.size w0 w) (room : Int) (hr : 0 ≤ room) :
    Calls Try.prog 8 #[.int .i64 room] w fun e w' => ∃ k : Nat, e = .returned (.tuple #[P (k + 3), .int .i64 0]) ∧ Dsk w0 w' 0 0 (newD k room) := by
  refine (new_calls room hr w).mono ?_
  rintro e w' ⟨rfl, hd, hb2⟩
  refine ⟨_, rfl, hd, Good.fresh _ _ _ _ hr, hb.trans (hb2.mono hb.size), fun j hj => ?_, by show (-1 : Int) < 0; omega, rfl⟩
  have := hb.size
  simp only [newD, Dk.own, List.mem_cons, Value.ownBlock] at hj
  simp at hj
  omega
end Go.Proofs.Ytgcenkmekpaapaa.L
