/- What comes in: a row of bytes, a slice of calls, a slice of such rows, a slice of texts. -/
import Derived.Test.YtgcenkmekpaapaaSteps
import Derived.ProofKit
import Derived.OpenShut
import Derived.SizedLaws
import Derived.ChangeSlices
import Derived.Deep.SlicePairs
import Derived.Deep.Slices
import Derived.Lib.SmallJoins
import Derived.SliceStrings
namespace Go.Proofs.Ytgcenkmekpaapaa.L
open Go.ChangeShapes Go.WideShapes Go.ChangeAt Go.RowKit Go.Deep
open Go.Proofs.YtgcenkmekpaapaaW.PrintWords Go.Proofs.YtgcenkmekpaapaaW.PrintLast Go.Proofs.YtgcenkmekpaapaaW.PrintMore
set_option linter.unusedVariables false
structure Op where
  kind : Int
  name : ByteArray
  too : ByteArray
  at_ : Option Addr
  b : List Int
  cap : Nat
  n : Int
  torn : Int
instance : Inhabited Op := ⟨⟨0, ⟨#[]⟩, ⟨#[]⟩, none, [], 0, 0, 0⟩⟩
structure OpAt (W : World) (b o i : Nat) (q : Op) : Prop where
  c0 : W.cell? ⟨b, o + i * 6, none⟩ = some (.int .i64 q.kind)
  c1 : W.cell? ⟨b, o + i * 6 + 1, none⟩ = some (.string q.name)
  c2 : W.cell? ⟨b, o + i * 6 + 2, none⟩ = some (.string q.too)
  c3 : W.cell? ⟨b, o + i * 6 + 3, none⟩ = some (.slice q.at_ q.b.length q.cap)
  c4 : W.cell? ⟨b, o + i * 6 + 4, none⟩ = some (.int .i64 q.n)
  c5 : W.cell? ⟨b, o + i * 6 + 5, none⟩ = some (.int .i64 q.torn)
structure RowIs (W : World) (a : Option Addr) (l : List Int) (cap : Nat) : Prop where
  row : Kd.C kB W a l.length l
  le : l.length ≤ cap
  cap_le : cap ≤ maxLen
structure OpIs (W : World) (q : Op) : Prop where
  kind : (Lit.int .i64 q.kind).wf = true
  n : (Lit.int .i64 q.n).wf = true
  torn : (Lit.int .i64 q.torn).wf = true
  row : RowIs W q.at_ q.b q.cap
structure OpsAt (W : World) (A : Option Addr) (len : Nat) (Q : Nat → Op) : Prop where
  max : len ≤ 9223372036854775807
  there : 0 < len → ∃ b o, A = some ⟨b, o, none⟩ ∧ b < W.heap.size ∧ ∀ i, i < len → OpAt W b o i (Q i)
  each : ∀ i, i < len → OpIs W (Q i)
theorem cells_op6 : Try.prog.cellsOf 46 = 6 := by kernel_rfl
theorem cells_one_s : Try.prog.cellsOf 9 = 1 := by kernel_rfl
theorem cells_one_i : Try.prog.cellsOf 3 = 1 := by kernel_rfl
theorem cells_one_r : Try.prog.cellsOf 22 = 1 := by kernel_rfl
theorem cells_one_b : Try.prog.cellsOf 5 = 1 := by kernel_rfl
theorem add_is (b o j : Nat) : (⟨b, o, none⟩ : Addr).add j = ⟨b, o + j, none⟩ := by
  unfold Addr.add
  split
  · rename_i hz; subst hz; rfl
  · rfl
theorem spot_of {w : World} {x : Addr} {v : Value} (h : w.cell? x = some v) : ∃ b o, x = ⟨b, o, none⟩ ∧ b < w.heap.size := by
  have h1 := World.cell?_spot h
  have h2 := World.block_lt_of_cell? w _ h
  obtain ⟨b, o, sp⟩ := x
  simp only at h1
  subst h1
  exact ⟨b, o, rfl, h2⟩
section
variable {H : Type} {enc : TypeId × Value → H} {W : World} {base fuel : Nat} {spare : Nat → Bool} {held : Bool}
theorem trod_struct6 {P : Program} {t : TypeId} {f0 f1 f2 f3 f4 f5 : Field} {cs : List Value} {x : DataW H × List MemPlace} (ht : P.underlying t = some (.struct #[f0, f1, f2, f3, f4, f5])) (h : DataW.trod enc P W base spare held fuel t cs = some x) :
    ∃ y0 y1 y2 y3 y4 y5 n, x.1 = .agg [y0.1, y1.1, y2.1, y3.1, y4.1, y5.1] ∧ cs.length = P.cellsOf t ∧ DataW.trod enc P W base spare held n f0.type ((cs.drop f0.offset).take (P.cellsOf f0.type)) = some y0 ∧
      DataW.trod enc P W base spare held n f1.type ((cs.drop f1.offset).take (P.cellsOf f1.type)) = some y1 ∧ DataW.trod enc P W base spare held n f2.type ((cs.drop f2.offset).take (P.cellsOf f2.type)) = some y2 ∧
      DataW.trod enc P W base spare held n f3.type ((cs.drop f3.offset).take (P.cellsOf f3.type)) = some y3 ∧ DataW.trod enc P W base spare held n f4.type ((cs.drop f4.offset).take (P.cellsOf f4.type)) = some y4 ∧
      DataW.trod enc P W base spare held n f5.type ((cs.drop f5.offset).take (P.cellsOf f5.type)) = some y5 := by
  obtain ⟨xs, n, _, rfl, hl, hlen, hf⟩ := DataW.trod_struct ht h
  match xs, hlen with
  | [y0, y1, y2, y3, y4, y5], _ => exact ⟨y0, y1, y2, y3, y4, y5, n, by simp, hl, by simpa using hf 0 f0 rfl, by simpa using hf 1 f1 rfl, by simpa using hf 2 f2 rfl, by simpa using hf 3 f3 rfl, by simpa using hf 4 f4 rfl, by simpa using hf 5 f5 rfl⟩
theorem bytes_of {cs : List Value} {x : DataW H × List MemPlace} (h : DataW.trod enc Try.prog W base spare held fuel 22 cs = some x) :
    ∃ (a : Option Addr) (l : List Int) (cap : Nat), cs = [.slice a l.length cap] ∧ RowIs W a l cap := by
  rcases open_ints Try.underlying22 Try.underlying5 cells_one_b h with ⟨rfl, hx⟩ | ⟨a, len, cap, zs, rfl, _, hl, hm, hz, hx, hcell, hwf⟩
  · exact ⟨none, [], 0, rfl, ⟨⟨rfl, by simp, fun h => by simp at h⟩, Nat.le_refl _, Nat.zero_le _⟩⟩
  · have hlz : len ≤ zs.length := by rw [hz]; split <;> omega
    have hlt : (zs.take len).length = len := by rw [List.length_take]; omega
    refine ⟨some a, zs.take len, cap, by rw [hlt], ⟨⟨rfl, by rw [hlt]; unfold maxLen at hm; omega, fun _ => ⟨a, rfl, fun j p hj => ⟨[.int .u8 p], rfl, rfl, fun i u hu => ?_⟩⟩⟩, by rw [hlt]; exact hl, hm⟩⟩
    have hi : i = 0 := by
      cases i with
      | zero => rfl
      | succ i => simp at hu
    subst hi
    have hjl : j < len := by
      have := (List.getElem?_eq_some_iff.1 hj).1
      omega
    rw [List.getElem?_take_of_lt hjl] at hj
    have h1 := hcell j (by omega)
    have e : zs.getD j 0 = p := by rw [List.getD_eq_getElem?_getD, hj]; rfl
    rw [e] at h1
    simp only [List.getElem?_cons_zero, Option.some.injEq] at hu
    rw [← hu]
    show W.cell? (a.add (j * 1 + 0)) = _
    rw [show j * 1 + 0 = j by omega]
    exact h1
theorem row_of {a : Option Addr} {len cap : Nat} {d : DataW H} {ps : List MemPlace} (h : DataW.Trod enc Try.prog W base spare held 22 (.slice a len cap) d ps) : ∃ l : List Int, len = l.length ∧ RowIs W a l cap := by
  obtain ⟨fuel, hf⟩ := h
  obtain ⟨a', l, c', e, hr⟩ := bytes_of hf
  simp [Value.cells] at e
  obtain ⟨rfl, rfl, rfl⟩ := e
  exact ⟨l, rfl, hr⟩
set_option maxRecDepth 100000 in
theorem ops_of {a : Option Addr} {len cap : Nat} {d : DataW H} {ps : List MemPlace} (h : DataW.Trod enc Try.prog W base spare held 42 (.slice a len cap) d ps) : ∃ Q : Nat → Op, OpsAt W a len Q := by
  obtain ⟨fuel, hf⟩ := h
  rcases open_slice Try.underlying42 hf with ⟨hcs, hx⟩ | ⟨x, l, c, m, n, D, Pl, hcs, hb, hl, hm, hmm, hx, he⟩
  · simp [Value.cells] at hcs
    obtain ⟨rfl, rfl, rfl⟩ := hcs
    exact ⟨fun _ => default, by omega, fun h => absurd h (Nat.lt_irrefl _), fun i hi => absurd hi (Nat.not_lt_zero _)⟩
  · simp [Value.cells] at hcs
    obtain ⟨rfl, rfl, rfl⟩ := hcs
    have hlm : len ≤ m := by rw [hmm]; split <;> omega
    have each : ∀ i, i < len → ∃ q : Op, (W.cell? (x.add (i * 6)) = some (.int .i64 q.kind) ∧ W.cell? (x.add (i * 6 + 1)) = some (.string q.name) ∧ W.cell? (x.add (i * 6 + 2)) = some (.string q.too) ∧ W.cell? (x.add (i * 6 + 3)) = some (.slice q.at_ q.b.length q.cap) ∧ W.cell? (x.add (i * 6 + 4)) = some (.int .i64 q.n) ∧ W.cell? (x.add (i * 6 + 5)) = some (.int .i64 q.torn)) ∧ OpIs W q := by
      intro i hi
      obtain ⟨cs', h1, h2⟩ := he i (by omega)
      rw [cells_op6] at h1
      obtain ⟨_, hlen, hcell⟩ := World.cells?_some h1
      obtain ⟨y0, y1, y2, y3, y4, y5, k, hy, _, g0, g1, g2, g3, g4, g5⟩ := trod_struct6 Try.underlying46 h2
      match cs', hlen with
      | [v0, v1, v2, v3, v4, v5], _ =>
        simp [cells_one_s] at g1 g2
        simp [cells_one_i] at g0 g4 g5
        simp [cells_one_r] at g3
        obtain ⟨z0, e0, _, wf0⟩ := DataW.trod_int Try.underlying3 g0
        obtain ⟨s1, e1, z1, _⟩ := DataW.trod_string Try.underlying9 g1
        obtain ⟨s2, e2, z2, _⟩ := DataW.trod_string Try.underlying9 g2
        obtain ⟨ka, ks, kc, e3, hrow⟩ := bytes_of g3
        obtain ⟨z4, e4, _, wf4⟩ := DataW.trod_int Try.underlying3 g4
        obtain ⟨z5, e5, _, wf5⟩ := DataW.trod_int Try.underlying3 g5
        have k0 := hcell 0 (by omega)
        have k1 := hcell 1 (by omega)
        have k2 := hcell 2 (by omega)
        have k3 := hcell 3 (by omega)
        have k4 := hcell 4 (by omega)
        have k5 := hcell 5 (by omega)
        rw [Deep.add_add] at k0 k1 k2 k3 k4 k5
        simp only [List.cons.injEq, and_true] at e0 e1 e2 e3 e4 e5
        subst e0; subst e1; subst e2; subst e3; subst e4; subst e5
        exact ⟨⟨z0, s1, s2, ka, ks, kc, z4, z5⟩, ⟨by simpa using k0, by simpa using k1, by simpa using k2, by simpa using k3, by simpa using k4, by simpa using k5⟩, wf0, wf4, wf5, hrow⟩
    obtain ⟨q, hq⟩ := choose_lt each
    refine ⟨q, by unfold maxLen at hm; omega, fun h0 => ?_, fun i hi => (hq i hi).2⟩
    have h00 := (hq 0 h0).1.1
    rw [Nat.zero_mul] at h00
    have ex : x.add 0 = x := by simp [Addr.add]
    rw [ex] at h00
    obtain ⟨b, o, rfl, hbl⟩ := spot_of h00
    refine ⟨b, o, rfl, hbl, fun i hi => ?_⟩
    have k := (hq i hi).1
    rw [add_is, add_is, add_is, add_is, add_is, add_is] at k
    exact ⟨k.1, k.2.1, k.2.2.1, k.2.2.2.1, k.2.2.2.2.1, k.2.2.2.2.2⟩
end
section
variable {w w' : World}
theorem RowIs.keep {a : Option Addr} {l : List Int} {cap : Nat} (h : RowIs w a l cap) (hb : Below w.heap.size w w') : RowIs w' a l cap := ⟨Kd.C_below h.row hb, h.le, h.cap_le⟩
theorem OpIs.keep {q : Op} (h : OpIs w q) (hb : Below w.heap.size w w') : OpIs w' q := ⟨h.kind, h.n, h.torn, h.row.keep hb⟩
theorem OpAt.keep {b o i : Nat} {q : Op} (h : OpAt w b o i q) (hb : Below w.heap.size w w') (hl : b < w.heap.size) : OpAt w' b o i q :=
  ⟨(hb.cell (p := ⟨b, _, none⟩) hl).trans h.c0, (hb.cell (p := ⟨b, _, none⟩) hl).trans h.c1, (hb.cell (p := ⟨b, _, none⟩) hl).trans h.c2, (hb.cell (p := ⟨b, _, none⟩) hl).trans h.c3, (hb.cell (p := ⟨b, _, none⟩) hl).trans h.c4, (hb.cell (p := ⟨b, _, none⟩) hl).trans h.c5⟩
end
end Go.Proofs.Ytgcenkmekpaapaa.L
