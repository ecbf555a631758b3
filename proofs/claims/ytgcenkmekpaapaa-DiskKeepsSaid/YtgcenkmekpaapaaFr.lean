/- What a call turns: blocks of its own alone. -/
import Derived.Test.YtgcenkmekpaapaaProg
import Derived.Test.YtgcenkmekpaapaaWMore
import Derived.Below
import Derived.OwnWalk
import Derived.Deep.OwnRows
import Derived.Tactics
import Derived.WalkKit
import Derived.KernelRfl
import Derived.RowKit3
import Derived.Deep.LoopGhost
import Derived.RegionTactic
import Derived.ChangeAlike
import Derived.BigRegion
import Derived.Maps.OwnSet
import Derived.Lib.Hide
import Derived.RowKit
namespace Go.Proofs.Ytgcenkmekpaapaa.L
open Go.RowKit
open Go.Proofs.YtgcenkmekpaapaaW.PrintWords Go.Proofs.YtgcenkmekpaapaaW.PrintLast Go.Proofs.YtgcenkmekpaapaaW.PrintMore
abbrev P (b : Nat) : Value := .pointer (some ⟨b, 0, none⟩)
structure Fr (own : List Nat) (w w' : World) : Prop where
  os : w'.os = w.os
  tape : w'.tape = w.tape
  output : w'.output = w.output
  size : w.heap.size ≤ w'.heap.size
  keep : ∀ k, k < w.heap.size → k ∉ own → w'.heap[k]? = w.heap[k]?
theorem Fr.refl (own : List Nat) (w : World) : Fr own w w := ⟨rfl, rfl, rfl, Nat.le_refl _, fun _ _ _ => rfl⟩
theorem Fr.trans {own own' : List Nat} {w w1 w2 : World} (h : Fr own w w1) (h' : Fr own' w1 w2) (sub : ∀ k ∈ own', k ∈ own ∨ w.heap.size ≤ k) : Fr own w w2 :=
  ⟨h'.os.trans h.os, h'.tape.trans h.tape, h'.output.trans h.output, Nat.le_trans h.size h'.size, fun k hk hn =>
    (h'.keep k (Nat.lt_of_lt_of_le hk h.size) (fun hm => (sub k hm).elim hn (fun e => by omega))).trans (h.keep k hk hn)⟩
theorem Fr.wider {own own' : List Nat} {w w' : World} (h : Fr own w w') (sub : ∀ k ∈ own, k ∈ own' ∨ w.heap.size ≤ k) : Fr own' w w' :=
  ⟨h.os, h.tape, h.output, h.size, fun k hk hn => h.keep k hk (fun hm => (sub k hm).elim hn (fun e => by omega))⟩
theorem Fr.below {own : List Nat} {w w' : World} (h : Fr own w w') {B : Nat} (hB : B ≤ w.heap.size) (ho : ∀ k ∈ own, B ≤ k) : Below B w w' :=
  ⟨h.os, h.tape, h.output, h.size, fun k hk => h.keep k (by omega) (fun hm => by have := ho k hm; omega)⟩
theorem Fr.of_below {w w' : World} (h : Below w.heap.size w w') (own : List Nat) : Fr own w w' := ⟨h.os, h.tape, h.output, h.size, fun k hk _ => h.block k hk⟩
theorem Fr.set {own : List Nat} (w : World) (a : Addr) (v : Value) (h : a.block ∈ own) : Fr own w (w.setCell a v) :=
  ⟨rfl, rfl, rfl, by simp [World.setCell], fun k _ hn => Below.heap_setCell w a v k (fun e => hn (e ▸ h))⟩
theorem Fr.drew {own : List Nat} {w w' : World} (h : Fr own w w') : Fr own w w'.drew := ⟨h.os, h.tape, h.output, h.size, h.keep⟩
theorem Fr.grown {w w' : World} {row : Option Nat} (h : w.grownBy w' row) : Fr row.toList w w' :=
  ⟨h.os, h.tape, h.output, h.size, fun k hk hn => h.block k hk (fun e => hn (by rw [← e]; simp))⟩
theorem Fr.alloc (own : List Nat) (w : World) (o : Obj) : Fr own w (w.alloc o) := Fr.of_below ((Below.refl _ w).alloc (Nat.le_refl _) o) own
theorem Fr.none {own : List Nat} {w w' : World} (h : Fr [] w w') : Fr own w w' := h.wider (fun _ hk => by simp at hk)
theorem Fr.of_drawn {own : List Nat} {w w' : World} (h : Drawn0 w w') : Fr own w w' := by
  obtain ⟨q, rfl⟩ := h
  exact Fr.of_below (pw_below_drewN (Below.refl _ _) q) own
theorem Fr.turned {own : List Nat} {w w' : World} {m : Nat} (h : w.mapTurned w' m) (hm : m ∈ own) : Fr own w w' := by
  obtain ⟨es, clock, es', clock', hb, rfl⟩ := h
  refine ⟨rfl, rfl, rfl, by simp [ChangeMaps.setBlock], fun k hk hn => ?_⟩
  have : m ≠ k := fun e => hn (e ▸ hm)
  simp [ChangeMaps.setBlock, this]
theorem heap_set {w : World} {b off : Nat} {c : Array Value} {e : TypeId} {f : Nat × Nat} (h : w.heap[b]? = some (.cells c e f)) (v : Value) : (w.setCell ⟨b, off, none⟩ v).heap[b]? = some (.cells (c.setIfInBounds off v) e f) := by
  simp [World.setCell, Array.getElem?_modify, h]
theorem cell_of {w : World} {b : Nat} {c : Array Value} {e : TypeId} {f : Nat × Nat} (h : w.heap[b]? = some (.cells c e f)) (i : Nat) : w.cell? ⟨b, i, none⟩ = c[i]? := by
  simp [World.cell?, h]
theorem free_of {w : World} {b : Nat} {c : Array Value} {e : TypeId} (h : w.heap[b]? = some (.cells c e (0, 0))) (i : Nat) : w.frozen? ⟨b, i, none⟩ = false := by
  simp [World.frozen?, h]
theorem lt_of {w : World} {b : Nat} {o : Obj} (h : w.heap[b]? = some o) : b < w.heap.size := (Array.getElem?_eq_some_iff.1 h).1
theorem str_inj {s t : ByteArray} (h : s.toList = t.toList) : s = t := by
  rw [ByteArray.toList_eq, ByteArray.toList_eq] at h
  cases s; cases t
  simp at h
  rw [h]
theorem str_ne {a b : ByteArray} (h : a ≠ b) : a.toList ≠ b.toList := fun e => h (str_inj e)
end Go.Proofs.Ytgcenkmekpaapaa.L
