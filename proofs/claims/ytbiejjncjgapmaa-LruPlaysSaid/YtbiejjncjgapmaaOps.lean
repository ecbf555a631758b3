/- A slice of calls, as it came in: each call's kind, texts and keys. -/
import Derived.Test.YtbiejjncjgapmaaLies
import Derived.ProofKit
import Derived.OpenShut
import Derived.SizedLaws
import Derived.Deep.SlicePairs
import Derived.Lib.SmallJoins
import Derived.SliceStrings
namespace Go.Proofs.Ytbiejjncjgapmaa.L
open Go.ChangeShapes Go.WideShapes Go.ChangeAt Go.RowKit Go.Deep
set_option linter.unusedVariables false
structure Op where
  kind : Int
  key : ByteArray
  val : ByteArray
  at_ : Option Addr
  keys : List ByteArray
  cap : Nat
instance : Inhabited Op := ⟨⟨0, ⟨#[]⟩, ⟨#[]⟩, none, [], 0⟩⟩
structure OpAt (W : World) (b o i : Nat) (q : Op) : Prop where
  c0 : W.cell? ⟨b, o + i * 4, none⟩ = some (.int .i64 q.kind)
  c1 : W.cell? ⟨b, o + i * 4 + 1, none⟩ = some (.string q.key)
  c2 : W.cell? ⟨b, o + i * 4 + 2, none⟩ = some (.string q.val)
  c3 : W.cell? ⟨b, o + i * 4 + 3, none⟩ = some (.slice q.at_ q.keys.length q.cap)
structure OpIs (W : World) (q : Op) : Prop where
  wf : (Lit.int .i64 q.kind).wf = true
  row : q.keys ≠ [] → ∃ kb ko, q.at_ = some ⟨kb, ko, none⟩ ∧ kb < W.heap.size ∧ ∀ j, j < q.keys.length → W.cell? ⟨kb, ko + j, none⟩ = some (.string (q.keys.getD j ByteArray.empty))
  short : ∀ s ∈ q.keys, s.size ≤ maxLen
theorem cells_op4 : Try.prog.cellsOf 30 = 4 := by kernel_rfl
theorem cells_one_s : Try.prog.cellsOf 9 = 1 := by kernel_rfl
theorem cells_one_i : Try.prog.cellsOf 3 = 1 := by kernel_rfl
theorem cells_one_r : Try.prog.cellsOf 28 = 1 := by kernel_rfl
theorem bytes_s : Try.prog.bytesOf 9 = 16 := by kernel_rfl
theorem add_is (b o j : Nat) : (⟨b, o, none⟩ : Addr).add j = ⟨b, o + j, none⟩ := by
  unfold Addr.add
  split
  · rename_i hz; subst hz; rfl
  · rfl
theorem spot_of {w : World} {x : Addr} {v : Value} (h : w.cell? x = some v) : ∃ b o, x = ⟨b, o, none⟩ ∧ b < w.heap.size := by
  have h1 := World.cell?_spot h
  have h2 := World.block_lt_of_cell? w _ h
  obtain ⟨b, o, sp⟩ := x
  simp only at h1
  subst h1
  exact ⟨b, o, rfl, h2⟩
theorem all_weights {H : Type} {P : Program} {e : TypeId} {d : DataW H} {n : Nat} (hn : n ∈ d.weights P e) : ∀ l : List (DataW H), d ∈ l → n ∈ DataW.weightsAll P e l := by
  intro l
  induction l with
  | nil => intro h; cases h
  | cons x r ih =>
    intro h
    simp only [DataW.weightsAll, List.mem_append]
    rcases List.mem_cons.1 h with rfl | h
    · exact .inl hn
    · exact .inr (ih h)
theorem texts_of {H : Type} {enc : TypeId × Value → H} {W : World} {base fuel : Nat} {spare : Nat → Bool} {held : Bool} {cs : List Value} {x : DataW H × List MemPlace}
    (h : DataW.trod enc Try.prog W base spare held fuel 28 cs = some x) :
    ∃ (a : Option Addr) (ks : List ByteArray) (cap L : Nat), cs = [.slice a ks.length cap] ∧ ks.length ≤ L ∧ (ks ≠ [] → L * 16 ∈ x.1.weights Try.prog 28) ∧ (∀ s ∈ ks, s.size ≤ maxLen) ∧
      (ks ≠ [] → ∃ kb ko, a = some ⟨kb, ko, none⟩ ∧ kb < W.heap.size ∧ ∀ j, j < ks.length → W.cell? ⟨kb, ko + j, none⟩ = some (.string (ks.getD j ByteArray.empty))) := by
  rcases open_strings Try.underlying28 Try.underlying9 cells_one_s h with ⟨rfl, hx⟩ | ⟨y, l, c, ss, rfl, _, hl, hm, hz, hx, hcell, hsz⟩
  · exact ⟨none, [], 0, 0, rfl, Nat.le_refl _, fun h => absurd rfl h, by simp, fun h => absurd rfl h⟩
  · have hl2 : l ≤ ss.length := by rw [hz]; split <;> omega
    have hlt : (ss.take l).length = l := by rw [List.length_take]; omega
    refine ⟨some y, ss.take l, c, ss.length, by rw [hlt], by rw [hlt]; exact hl2, fun _ => ?_, fun s h => hsz s (List.mem_of_mem_take h), fun hne => ?_⟩
    · rw [hx]
      simp only [DataW.weights, Try.underlying28, List.mem_cons]
      left
      rw [bytes_s]
      have e1 : (strs (H := H) (ss.take l)).length = l := by simp [strs]; omega
      have e2 : (strs (H := H) (ss.drop l)).length = ss.length - l := by simp [strs]
      rw [e1, e2]
      congr 1
      omega
    · have hpos : 0 < l := by
        rcases Nat.eq_zero_or_pos l with h0 | h0
        · rw [h0] at hne; exact absurd rfl hne
        · exact h0
      have h0 := hcell 0 (by omega)
      have ey : y.add 0 = y := by simp [Addr.add]
      rw [ey] at h0
      obtain ⟨b, o, rfl, hb⟩ := spot_of h0
      refine ⟨b, o, rfl, hb, fun j hj => ?_⟩
      rw [hlt] at hj
      have h1 := hcell j (by omega)
      rw [add_is] at h1
      rw [h1, List.getD_eq_getElem?_getD, List.getD_eq_getElem?_getD, List.getElem?_take_of_lt hj]
theorem calls_of {H : Type} {enc : TypeId × Value → H} {W : World} {base : Nat} {spare : Nat → Bool} {held : Bool} {a : Option Addr} {len cap : Nat} {d : DataW H} {ps : List MemPlace}
    (h : DataW.Trod enc Try.prog W base spare held 22 (.slice a len cap) d ps) :
    ∃ Q : Nat → Op, len ≤ 9223372036854775807 ∧ (0 < len → ∃ b o, a = some ⟨b, o, none⟩ ∧ b < W.heap.size ∧ ∀ i, i < len → OpAt W b o i (Q i)) ∧
      ∀ i, i < len → OpIs W (Q i) ∧ (Q i).key.size ∈ d.weights Try.prog 22 ∧ (Q i).val.size ∈ d.weights Try.prog 22 ∧ ∃ L, (Q i).keys.length ≤ L ∧ ((Q i).keys ≠ [] → L * 16 ∈ d.weights Try.prog 22) := by
  obtain ⟨fuel, hf⟩ := h
  rcases open_slice Try.underlying22 hf with ⟨hcs, hx⟩ | ⟨x, l, c, m, n, D, Pl, hcs, hb, hl, hm, hmm, hx, he⟩
  · simp [Value.cells] at hcs
    obtain ⟨rfl, rfl, rfl⟩ := hcs
    exact ⟨fun _ => default, by omega, fun h => absurd h (Nat.lt_irrefl _), fun i hi => absurd hi (Nat.not_lt_zero _)⟩
  · simp [Value.cells] at hcs
    obtain ⟨rfl, rfl, rfl⟩ := hcs
    have hlm : len ≤ m := by rw [hmm]; split <;> omega
    have each : ∀ i, i < len → ∃ q : Op, (W.cell? (x.add (i * 4)) = some (.int .i64 q.kind) ∧ W.cell? (x.add (i * 4 + 1)) = some (.string q.key) ∧ W.cell? (x.add (i * 4 + 2)) = some (.string q.val) ∧ W.cell? (x.add (i * 4 + 3)) = some (.slice q.at_ q.keys.length q.cap)) ∧
        OpIs W q ∧ q.key.size ∈ (D i).weights Try.prog 30 ∧ q.val.size ∈ (D i).weights Try.prog 30 ∧ ∃ L, q.keys.length ≤ L ∧ (q.keys ≠ [] → L * 16 ∈ (D i).weights Try.prog 30) := by
      intro i hi
      obtain ⟨cs', h1, h2⟩ := he i (by omega)
      rw [cells_op4] at h1
      obtain ⟨_, hlen, hcell⟩ := World.cells?_some h1
      obtain ⟨y0, y1, y2, y3, k, hy, _, g0, g1, g2, g3⟩ := Go.Joins.trod_struct4 Try.underlying30 h2
      match cs', hlen with
      | [v0, v1, v2, v3], _ =>
        simp [cells_one_s] at g1 g2
        simp [cells_one_i] at g0
        simp [cells_one_r] at g3
        obtain ⟨z0, e0, _, wf0⟩ := DataW.trod_int Try.underlying3 g0
        obtain ⟨s1, e1, z1, _⟩ := DataW.trod_string Try.underlying9 g1
        obtain ⟨s2, e2, z2, _⟩ := DataW.trod_string Try.underlying9 g2
        obtain ⟨ka, ks, kc, L, e3, hL1, hL2, hks, hrow⟩ := texts_of g3
        have k0 := hcell 0 (by omega)
        have k1 := hcell 1 (by omega)
        have k2 := hcell 2 (by omega)
        have k3 := hcell 3 (by omega)
        rw [add_add] at k0 k1 k2 k3
        simp only [List.cons.injEq, and_true] at e0 e1 e2 e3
        subst e0; subst e1; subst e2; subst e3
        have hD : D i = .agg [y0.1, y1.1, y2.1, y3.1] := congrArg Prod.fst hy
        rw [hD]
        refine ⟨⟨z0, s1, s2, ka, ks, kc⟩, ⟨by simpa using k0, by simpa using k1, by simpa using k2, by simpa using k3⟩, ⟨wf0, hrow, hks⟩, ?_, ?_, L, hL1, fun hne => ?_⟩
        · rw [z1]; simp [DataW.weights, Try.underlying30, DataW.weightsEach]
        · rw [z2]; simp [DataW.weights, Try.underlying30, DataW.weightsEach]
        · have := hL2 hne
          simp only [DataW.weights, Try.underlying30]
          simp only [DataW.weightsEach, List.map_cons, List.map_nil, List.mem_append]
          exact .inr (.inr (.inr (.inl this)))
    obtain ⟨q, hq⟩ := choose_lt each
    have hd : d = .slice ((List.range len).map D) ((List.range (m - len)).map fun j => D (len + j)) := congrArg Prod.fst hx
    refine ⟨q, by unfold maxLen at hm; omega, fun h0 => ?_, fun i hi => ?_⟩
    · have h00 := (hq 0 h0).1.1
      rw [Nat.zero_mul] at h00
      have ex : x.add 0 = x := by simp [Addr.add]
      rw [ex] at h00
      obtain ⟨b, o, rfl, hbl⟩ := spot_of h00
      refine ⟨b, o, rfl, hbl, fun i hi => ?_⟩
      have k := (hq i hi).1
      rw [add_is, add_is, add_is, add_is] at k
      exact ⟨k.1, k.2.1, k.2.2.1, k.2.2.2⟩
    · have hmem : D i ∈ (List.range len).map D := List.mem_map_of_mem (List.mem_range.2 hi)
      obtain ⟨h1, h2, h3, L, h4, h5⟩ := (hq i hi).2
      rw [hd]
      simp only [DataW.weights, Try.underlying22, List.mem_cons, List.mem_append]
      exact ⟨h1, .inr (.inl (all_weights h2 _ hmem)), .inr (.inl (all_weights h3 _ hmem)), L, h4, fun hne => .inr (.inl (all_weights (h5 hne) _ hmem))⟩
end Go.Proofs.Ytbiejjncjgapmaa.L
