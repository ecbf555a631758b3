/- pick, by hand. What comes in: a slice of texts, a slice of calls, a slice of lives, a slice of truths. -/
import Derived.Test.YthlmbgaipbjbhaaDoorShow
import Derived.ProofKit
import Derived.OpenShut
import Derived.SizedLaws
import Derived.ChangeSlices
import Derived.Deep.SlicePairs
import Derived.Deep.Slices
import Derived.Lib.SmallJoins
import Derived.SliceStrings
section
namespace Go.Proofs.YthlmbgaipbjbhaaDoor.L
open Go.RowKit Go.Lib Go.Maps Go.Proofs.YthlmbgaipbjbhaaDoor.P
open Go.Proofs.YthlmbgaipbjbhaaDoorW.PrintWords Go.Proofs.YthlmbgaipbjbhaaDoorW.PrintLast Go.Proofs.YthlmbgaipbjbhaaDoorW.PrintMore
theorem wf_bd {x : Int} (h : (Lit.int .i64 x).wf = true) : -9223372036854775808 ≤ x ∧ x ≤ 9223372036854775807 := by
  simp [Lit.wf, IntKind.min, IntKind.max, IntKind.signed, IntKind.bits] at h
  omega
def pickI (c n : Int) : Int := (if c < 0 then -(c + 1) else c) % n
theorem pick_bd (c n : Int) (hn : 0 < n) : 0 ≤ pickI c n ∧ pickI c n < n := ⟨Int.emod_nonneg _ (by omega), Int.emod_lt_of_pos _ hn⟩
set_option maxHeartbeats 1000000 in
theorem pick_calls (c n : Int) (hc : (Lit.int .i64 c).wf = true) (hn : 0 < n) (w : World) :
    Calls Tryd.prog 12 #[.int .i64 c, .int .i64 n] w fun e w' => e = .returned (.int .i64 (pickI c n)) ∧ w' = w := by
  obtain ⟨h1, h2⟩ := wf_bd hc
  clear hc
  by_cases h : c < 0
  · obtain ⟨r, hr⟩ : ∃ r, r = pickI c n := ⟨_, rfl⟩
    rw [← hr]
    have hp : pickI c n = (-(c + 1)) % n := by unfold pickI; rw [if_pos h]
    have hz : wrap64 (-(c + 1)) = -(c + 1) := by unfold wrap64; omega
    have HR := hid (hr.trans hp)
    clear hr hp
    go_enter Tryd.func12, Tryd.ntmps12
    go_wp2
    go_ret
    refine ⟨congrArg (fun z => Ending.returned (.int .i64 z)) ?_, rfl⟩
    show -((c + 1).tmod n) = r
    rw [HR.out, ← Int.neg_tmod, Int.tmod_eq_emod_of_nonneg (by omega)]
  · obtain ⟨r, hr⟩ : ∃ r, r = pickI c n := ⟨_, rfl⟩
    rw [← hr]
    have hp : pickI c n = c % n := by unfold pickI; rw [if_neg h]
    have HR := hid (hr.trans hp)
    have h0 : 0 ≤ c := by omega
    clear hr hp
    go_enter Tryd.func12, Tryd.ntmps12
    go_wp2
    go_ret
    refine ⟨congrArg (fun z => Ending.returned (.int .i64 z)) ?_, rfl⟩
    show c % n = r
    rw [HR.out]
end Go.Proofs.YthlmbgaipbjbhaaDoor.L
end
section
namespace Go.Proofs.YthlmbgaipbjbhaaDoor.L
open Go.ChangeShapes Go.WideShapes Go.ChangeAt Go.RowKit Go.Deep
open Go.Proofs.YthlmbgaipbjbhaaDoorW.PrintWords Go.Proofs.YthlmbgaipbjbhaaDoorW.PrintLast Go.Proofs.YthlmbgaipbjbhaaDoorW.PrintMore
set_option linter.unusedVariables false
structure Op where
  kind : Int
  at_ : Option Addr
  l : List ByteArray
  cap : Nat
  n : Int
  torn : Int
instance : Inhabited Op := ⟨⟨0, none, [], 0, 0, 0⟩⟩
structure OpAt (W : World) (b o i : Nat) (q : Op) : Prop where
  c0 : W.cell? ⟨b, o + i * 4, none⟩ = some (.int .i64 q.kind)
  c1 : W.cell? ⟨b, o + i * 4 + 1, none⟩ = some (.slice q.at_ q.l.length q.cap)
  c2 : W.cell? ⟨b, o + i * 4 + 2, none⟩ = some (.int .i64 q.n)
  c3 : W.cell? ⟨b, o + i * 4 + 3, none⟩ = some (.int .i64 q.torn)
structure TxIs (W : World) (a : Option Addr) (l : List ByteArray) (cap : Nat) : Prop where
  row : Kd.C Kd.string W a l.length l
  le : l.length ≤ cap
  cap_le : cap ≤ maxLen
structure OpIs (W : World) (q : Op) : Prop where
  kind : (Lit.int .i64 q.kind).wf = true
  n : (Lit.int .i64 q.n).wf = true
  torn : (Lit.int .i64 q.torn).wf = true
  row : TxIs W q.at_ q.l q.cap
structure OpsAt (W : World) (A : Option Addr) (len : Nat) (Q : Nat → Op) : Prop where
  max : len ≤ 9223372036854775807
  there : 0 < len → ∃ b o, A = some ⟨b, o, none⟩ ∧ b < W.heap.size ∧ ∀ i, i < len → OpAt W b o i (Q i)
  each : ∀ i, i < len → OpIs W (Q i)
structure Life where
  at_ : Option Addr
  len : Nat
  cap : Nat
  Q : Nat → Op
  cut : Int
  keep : Int
  torn : Int
instance : Inhabited Life := ⟨⟨none, 0, 0, fun _ => default, 0, 0, 0⟩⟩
structure LifeAt (W : World) (b o i : Nat) (q : Life) : Prop where
  c0 : W.cell? ⟨b, o + i * 4, none⟩ = some (.slice q.at_ q.len q.cap)
  c1 : W.cell? ⟨b, o + i * 4 + 1, none⟩ = some (.int .i64 q.cut)
  c2 : W.cell? ⟨b, o + i * 4 + 2, none⟩ = some (.int .i64 q.keep)
  c3 : W.cell? ⟨b, o + i * 4 + 3, none⟩ = some (.int .i64 q.torn)
structure LifeIs (W : World) (q : Life) : Prop where
  cut : (Lit.int .i64 q.cut).wf = true
  keep : (Lit.int .i64 q.keep).wf = true
  torn : (Lit.int .i64 q.torn).wf = true
  ops : OpsAt W q.at_ q.len q.Q
structure LivesAt (W : World) (A : Option Addr) (len : Nat) (Q : Nat → Life) : Prop where
  max : len ≤ 9223372036854775807
  there : 0 < len → ∃ b o, A = some ⟨b, o, none⟩ ∧ b < W.heap.size ∧ ∀ i, i < len → LifeAt W b o i (Q i)
  each : ∀ i, i < len → LifeIs W (Q i)
structure BoolsAt (W : World) (A : Option Addr) (len : Nat) (Q : Nat → Bool) : Prop where
  max : len ≤ 9223372036854775807
  there : 0 < len → ∃ b o, A = some ⟨b, o, none⟩ ∧ b < W.heap.size ∧ ∀ i, i < len → W.cell? ⟨b, o + i, none⟩ = some (.bool (Q i))
theorem cells_op4 : Tryd.prog.cellsOf 52 = 4 := by kernel_rfl
theorem cells_one_s : Tryd.prog.cellsOf 9 = 1 := by kernel_rfl
theorem cells_one_i : Tryd.prog.cellsOf 3 = 1 := by kernel_rfl
theorem cells_one_r : Tryd.prog.cellsOf 34 = 1 := by kernel_rfl
theorem add_is (b o j : Nat) : (⟨b, o, none⟩ : Addr).add j = ⟨b, o + j, none⟩ := by
  unfold Addr.add
  split
  · rename_i hz; subst hz; rfl
  · rfl
theorem spot_of {w : World} {x : Addr} {v : Value} (h : w.cell? x = some v) : ∃ b o, x = ⟨b, o, none⟩ ∧ b < w.heap.size := by
  have h1 := World.cell?_spot h
  have h2 := World.block_lt_of_cell? w _ h
  obtain ⟨b, o, sp⟩ := x
  simp only at h1
  subst h1
  exact ⟨b, o, rfl, h2⟩
section
variable {H : Type} {enc : TypeId × Value → H} {W : World} {base fuel : Nat} {spare : Nat → Bool} {held : Bool}
theorem trod_struct4 {P : Program} {t : TypeId} {f0 f1 f2 f3 : Field} {cs : List Value} {x : DataW H × List MemPlace} (ht : P.underlying t = some (.struct #[f0, f1, f2, f3])) (h : DataW.trod enc P W base spare held fuel t cs = some x) :
    ∃ y0 y1 y2 y3 n, x.1 = .agg [y0.1, y1.1, y2.1, y3.1] ∧ cs.length = P.cellsOf t ∧ DataW.trod enc P W base spare held n f0.type ((cs.drop f0.offset).take (P.cellsOf f0.type)) = some y0 ∧
      DataW.trod enc P W base spare held n f1.type ((cs.drop f1.offset).take (P.cellsOf f1.type)) = some y1 ∧ DataW.trod enc P W base spare held n f2.type ((cs.drop f2.offset).take (P.cellsOf f2.type)) = some y2 ∧
      DataW.trod enc P W base spare held n f3.type ((cs.drop f3.offset).take (P.cellsOf f3.type)) = some y3 := by
  obtain ⟨xs, n, _, rfl, hl, hlen, hf⟩ := DataW.trod_struct ht h
  match xs, hlen with
  | [y0, y1, y2, y3], _ => exact ⟨y0, y1, y2, y3, n, by simp, hl, by simpa using hf 0 f0 rfl, by simpa using hf 1 f1 rfl, by simpa using hf 2 f2 rfl, by simpa using hf 3 f3 rfl⟩
theorem texts_of {cs : List Value} {x : DataW H × List MemPlace} (h : DataW.trod enc Tryd.prog W base spare held fuel 34 cs = some x) :
    ∃ (a : Option Addr) (l : List ByteArray) (cap : Nat), cs = [.slice a l.length cap] ∧ TxIs W a l cap := by
  rcases open_strings Tryd.underlying34 Tryd.underlying9 cells_one_s h with ⟨hcs, hx⟩ | ⟨y, len, cap, ss, hcs, _, hl, hm, hz, hx, hcell, hsz⟩
  · exact ⟨none, [], 0, hcs, ⟨rfl, by simp, fun h => by simp at h⟩, Nat.le_refl _, Nat.zero_le _⟩
  · have hl2 : len ≤ ss.length := by rw [hz]; split <;> omega
    have hlt : (ss.take len).length = len := by rw [List.length_take]; omega
    refine ⟨some y, ss.take len, cap, by rw [hlt]; exact hcs, Kd.C_of_reads (d := ByteArray.empty) (h1 := fun _ => rfl) ⟨rfl, by rw [hlt]; unfold maxLen at hm; omega, fun hpos => ⟨y, rfl, fun j hj => ?_⟩⟩, by rw [hlt]; exact hl, hm⟩
    rw [hlt] at hj
    have h1 := hcell j (by omega)
    rw [List.getD_eq_getElem?_getD, List.getElem?_take_of_lt hj, ← List.getD_eq_getElem?_getD]
    exact h1
set_option maxRecDepth 100000 in
theorem calls_of {cs : List Value} {xx : DataW H × List MemPlace} (h : DataW.trod enc Tryd.prog W base spare held fuel 42 cs = some xx) : ∃ (a : Option Addr) (len cap : Nat) (Q : Nat → Op), cs = [.slice a len cap] ∧ OpsAt W a len Q := by
  rcases open_slice Tryd.underlying42 h with ⟨hcs, hx⟩ | ⟨x, len, c, m, n, D, Pl, hcs, hb, hl, hm, hmm, hx, he⟩
  · exact ⟨none, 0, 0, fun _ => default, hcs, by omega, fun h => absurd h (Nat.lt_irrefl _), fun i hi => absurd hi (Nat.not_lt_zero _)⟩
  · have hlm : len ≤ m := by rw [hmm]; split <;> omega
    have each : ∀ i, i < len → ∃ q : Op, (W.cell? (x.add (i * 4)) = some (.int .i64 q.kind) ∧ W.cell? (x.add (i * 4 + 1)) = some (.slice q.at_ q.l.length q.cap) ∧ W.cell? (x.add (i * 4 + 2)) = some (.int .i64 q.n) ∧ W.cell? (x.add (i * 4 + 3)) = some (.int .i64 q.torn)) ∧ OpIs W q := by
      intro i hi
      obtain ⟨cs', h1, h2⟩ := he i (by omega)
      rw [cells_op4] at h1
      obtain ⟨_, hlen, hcell⟩ := World.cells?_some h1
      obtain ⟨y0, y1, y2, y3, k, hy, _, g0, g1, g2, g3⟩ := trod_struct4 Tryd.underlying52 h2
      match cs', hlen with
      | [v0, v1, v2, v3], _ =>
        simp [cells_one_i] at g0 g2 g3
        simp [cells_one_r] at g1
        obtain ⟨z0, e0, _, wf0⟩ := DataW.trod_int Tryd.underlying3 g0
        obtain ⟨ka, ks, kc, e1, hrow⟩ := texts_of g1
        obtain ⟨z2, e2, _, wf2⟩ := DataW.trod_int Tryd.underlying3 g2
        obtain ⟨z3, e3, _, wf3⟩ := DataW.trod_int Tryd.underlying3 g3
        have k0 := hcell 0 (by omega)
        have k1 := hcell 1 (by omega)
        have k2 := hcell 2 (by omega)
        have k3 := hcell 3 (by omega)
        rw [Deep.add_add] at k0 k1 k2 k3
        simp only [List.cons.injEq, and_true] at e0 e1 e2 e3
        subst e0; subst e1; subst e2; subst e3
        exact ⟨⟨z0, ka, ks, kc, z2, z3⟩, ⟨by simpa using k0, by simpa using k1, by simpa using k2, by simpa using k3⟩, wf0, wf2, wf3, hrow⟩
    obtain ⟨q, hq⟩ := choose_lt each
    refine ⟨some x, len, c, q, hcs, by unfold maxLen at hm; omega, fun h0 => ?_, fun i hi => (hq i hi).2⟩
    have h00 := (hq 0 h0).1.1
    rw [Nat.zero_mul] at h00
    have ex : x.add 0 = x := by simp [Addr.add]
    rw [ex] at h00
    obtain ⟨b, o, rfl, hbl⟩ := spot_of h00
    refine ⟨b, o, rfl, hbl, fun i hi => ?_⟩
    have k := (hq i hi).1
    rw [add_is, add_is, add_is, add_is] at k
    exact ⟨k.1, k.2.1, k.2.2.1, k.2.2.2⟩
theorem ops_of {a : Option Addr} {len cap : Nat} {d : DataW H} {ps : List MemPlace} (h : DataW.Trod enc Tryd.prog W base spare held 42 (.slice a len cap) d ps) : ∃ Q : Nat → Op, OpsAt W a len Q := by
  obtain ⟨fuel, hf⟩ := h
  obtain ⟨a', len', c', Q, e, hr⟩ := calls_of hf
  simp [Value.cells] at e
  obtain ⟨rfl, rfl, rfl⟩ := e
  exact ⟨Q, hr⟩
end
section
variable {w w' : World}
theorem TxIs.keep {a : Option Addr} {l : List ByteArray} {cap : Nat} (h : TxIs w a l cap) (hb : Below w.heap.size w w') : TxIs w' a l cap := ⟨Kd.C_below h.row hb, h.le, h.cap_le⟩
theorem OpIs.keep {q : Op} (h : OpIs w q) (hb : Below w.heap.size w w') : OpIs w' q := ⟨h.kind, h.n, h.torn, h.row.keep hb⟩
theorem OpAt.keep {b o i : Nat} {q : Op} (h : OpAt w b o i q) (hb : Below w.heap.size w w') (hl : b < w.heap.size) : OpAt w' b o i q :=
  ⟨(hb.cell (p := ⟨b, _, none⟩) hl).trans h.c0, (hb.cell (p := ⟨b, _, none⟩) hl).trans h.c1, (hb.cell (p := ⟨b, _, none⟩) hl).trans h.c2, (hb.cell (p := ⟨b, _, none⟩) hl).trans h.c3⟩
theorem OpsAt.keep {A : Option Addr} {len : Nat} {Q : Nat → Op} (h : OpsAt w A len Q) (hb : Below w.heap.size w w') : OpsAt w' A len Q :=
  ⟨h.max, fun h0 => by
    obtain ⟨b, o, e, hl, hc⟩ := h.there h0
    exact ⟨b, o, e, Nat.lt_of_lt_of_le hl hb.size, fun i hi => (hc i hi).keep hb hl⟩, fun i hi => (h.each i hi).keep hb⟩
theorem LifeAt.keep {b o i : Nat} {q : Life} (h : LifeAt w b o i q) (hb : Below w.heap.size w w') (hl : b < w.heap.size) : LifeAt w' b o i q :=
  ⟨(hb.cell (p := ⟨b, _, none⟩) hl).trans h.c0, (hb.cell (p := ⟨b, _, none⟩) hl).trans h.c1, (hb.cell (p := ⟨b, _, none⟩) hl).trans h.c2, (hb.cell (p := ⟨b, _, none⟩) hl).trans h.c3⟩
end
end Go.Proofs.YthlmbgaipbjbhaaDoor.L
end
