/- A cache in memory: a head and items, each a block of its own. -/
import Derived.Test.YtbiejjncjgapmaaProg
import Derived.Test.YtbiejjncjgapmaaRing
import Derived.Below
import Derived.OwnWalk
import Derived.Deep.OwnRows
import Derived.Tactics
import Derived.WalkKit
import Derived.KernelRfl
import Derived.RowKit3
import Derived.Deep.LoopGhost
import Derived.RegionTactic
import Derived.ChangeAlike
import Derived.BigRegion
import Derived.Maps.OwnSet
import Derived.Lib.Hide
import Derived.RowKit
namespace Go.Proofs.Ytbiejjncjgapmaa.L
open Go.RowKit
structure Item where
  blk : Nat
  key : ByteArray
  val : ByteArray
abbrev P (b : Nat) : Value := .pointer (some ⟨b, 0, none⟩)
def headObj (m nxt prv : Nat) (bud byt : Int) : Obj := .cells #[.string ⟨#[]⟩, .string ⟨#[]⟩, P prv, P nxt, .map (some m), .int .i64 bud, .int .i64 byt] 52 (0, 0)
def itemObj (x : Item) (nxt prv : Nat) : Obj := .cells #[.string x.key, .string x.val, P prv, P nxt] 48 (0, 0)
def blks (c : Nat) (is : List Item) : List Nat := c :: is.map (·.blk)
structure Lies (w : World) (c m : Nat) (is : List Item) (nx pv : Nat → Nat) (bud byt : Int) : Prop where
  head : w.heap[c]? = some (headObj m (nx c) (pv c) bud byt)
  item : ∀ x ∈ is, w.heap[x.blk]? = some (itemObj x (nx x.blk) (pv x.blk))
  nodup : (blks c is).Nodup
structure Fr (own : List Nat) (w w' : World) : Prop where
  os : w'.os = w.os
  tape : w'.tape = w.tape
  output : w'.output = w.output
  size : w.heap.size ≤ w'.heap.size
  keep : ∀ k, k < w.heap.size → k ∉ own → w'.heap[k]? = w.heap[k]?
theorem Fr.refl (own : List Nat) (w : World) : Fr own w w := ⟨rfl, rfl, rfl, Nat.le_refl _, fun _ _ _ => rfl⟩
theorem Fr.trans {own own' : List Nat} {w w1 w2 : World} (h : Fr own w w1) (h' : Fr own' w1 w2) (sub : ∀ k ∈ own', k ∈ own ∨ w.heap.size ≤ k) : Fr own w w2 :=
  ⟨h'.os.trans h.os, h'.tape.trans h.tape, h'.output.trans h.output, Nat.le_trans h.size h'.size, fun k hk hn =>
    (h'.keep k (Nat.lt_of_lt_of_le hk h.size) (fun hm => (sub k hm).elim hn (fun e => by omega))).trans (h.keep k hk hn)⟩
theorem Fr.wider {own own' : List Nat} {w w' : World} (h : Fr own w w') (sub : ∀ k ∈ own, k ∈ own' ∨ w.heap.size ≤ k) : Fr own' w w' :=
  ⟨h.os, h.tape, h.output, h.size, fun k hk hn => h.keep k hk (fun hm => (sub k hm).elim hn (fun e => by omega))⟩
theorem Fr.below {own : List Nat} {w w' : World} (h : Fr own w w') {B : Nat} (hB : B ≤ w.heap.size) (ho : ∀ k ∈ own, B ≤ k) : Below B w w' :=
  ⟨h.os, h.tape, h.output, h.size, fun k hk => h.keep k (by omega) (fun hm => by have := ho k hm; omega)⟩
theorem Fr.of_below {w w' : World} (h : Below w.heap.size w w') (own : List Nat) : Fr own w w' := ⟨h.os, h.tape, h.output, h.size, fun k hk _ => h.block k hk⟩
theorem Fr.set {own : List Nat} (w : World) (a : Addr) (v : Value) (h : a.block ∈ own) : Fr own w (w.setCell a v) :=
  ⟨rfl, rfl, rfl, by simp [World.setCell], fun k _ hn => Below.heap_setCell w a v k (fun e => hn (e ▸ h))⟩
theorem Fr.drew {own : List Nat} {w w' : World} (h : Fr own w w') : Fr own w w'.drew := ⟨h.os, h.tape, h.output, h.size, h.keep⟩
theorem heap_set {w : World} {b off : Nat} {c : Array Value} {e : TypeId} {f : Nat × Nat} (h : w.heap[b]? = some (.cells c e f)) (v : Value) : (w.setCell ⟨b, off, none⟩ v).heap[b]? = some (.cells (c.setIfInBounds off v) e f) := by
  simp [World.setCell, Array.getElem?_modify, h]
theorem cell_of {w : World} {b : Nat} {c : Array Value} {e : TypeId} {f : Nat × Nat} (h : w.heap[b]? = some (.cells c e f)) (i : Nat) : w.cell? ⟨b, i, none⟩ = c[i]? := by
  simp [World.cell?, h]
theorem free_of {w : World} {b : Nat} {c : Array Value} {e : TypeId} (h : w.heap[b]? = some (.cells c e (0, 0))) (i : Nat) : w.frozen? ⟨b, i, none⟩ = false := by
  simp [World.frozen?, h]
section
variable {w : World} {c m : Nat} {is : List Item} {nx pv : Nat → Nat} {bud byt : Int}
theorem Lies.keep {w' : World} (h : Lies w c m is nx pv bud byt) (hk : ∀ k ∈ blks c is, w'.heap[k]? = w.heap[k]?) : Lies w' c m is nx pv bud byt :=
  ⟨(hk c List.mem_cons_self).trans h.head, fun x hx => (hk _ (List.mem_cons_of_mem _ (List.mem_map_of_mem hx))).trans (h.item x hx), h.nodup⟩
theorem Lies.lt (h : Lies w c m is nx pv bud byt) : ∀ k ∈ blks c is, k < w.heap.size := by
  intro k hk
  rcases List.mem_cons.1 hk with rfl | hk
  · exact (Array.getElem?_eq_some_iff.1 h.head).1
  · obtain ⟨x, hx, rfl⟩ := List.mem_map.1 hk
    exact (Array.getElem?_eq_some_iff.1 (h.item x hx)).1
theorem Lies.fr {w' : World} {own : List Nat} (h : Lies w c m is nx pv bud byt) (f : Fr own w w') (hd : ∀ k ∈ blks c is, k ∉ own) : Lies w' c m is nx pv bud byt :=
  h.keep (fun k hk => f.keep k (h.lt k hk) (hd k hk))
theorem Lies.ne (h : Lies w c m is nx pv bud byt) {x : Item} (hx : x ∈ is) : c ≠ x.blk := fun e => (List.nodup_cons.1 h.nodup).1 (e ▸ List.mem_map_of_mem hx)
theorem Lies.obj (h : Lies w c m is nx pv bud byt) {a : Nat} (ha : a ∈ blks c is) : ∃ (A : Array Value) (t : TypeId), w.heap[a]? = some (.cells A t (0, 0)) ∧ A[2]? = some (P (pv a)) ∧ A[3]? = some (P (nx a)) := by
  rcases List.mem_cons.1 ha with rfl | ha
  · exact ⟨_, _, h.head, rfl, rfl⟩
  · obtain ⟨x, hx, rfl⟩ := List.mem_map.1 ha
    exact ⟨_, _, h.item x hx, rfl, rfl⟩
theorem Lies.prev (h : Lies w c m is nx pv bud byt) {a : Nat} (ha : a ∈ blks c is) : w.cell? ⟨a, 2, none⟩ = some (P (pv a)) := by
  obtain ⟨A, t, h1, h2, _⟩ := h.obj ha
  rw [cell_of h1, h2]
theorem Lies.next (h : Lies w c m is nx pv bud byt) {a : Nat} (ha : a ∈ blks c is) : w.cell? ⟨a, 3, none⟩ = some (P (nx a)) := by
  obtain ⟨A, t, h1, _, h2⟩ := h.obj ha
  rw [cell_of h1, h2]
theorem Lies.free (h : Lies w c m is nx pv bud byt) {a : Nat} (ha : a ∈ blks c is) (i : Nat) : w.frozen? ⟨a, i, none⟩ = false := by
  obtain ⟨A, t, h1, _, _⟩ := h.obj ha
  exact free_of h1 i
theorem Lies.key (h : Lies w c m is nx pv bud byt) {x : Item} (hx : x ∈ is) : w.cell? ⟨x.blk, 0, none⟩ = some (.string x.key) := (cell_of (h.item x hx) 0).trans rfl
theorem Lies.val (h : Lies w c m is nx pv bud byt) {x : Item} (hx : x ∈ is) : w.cell? ⟨x.blk, 1, none⟩ = some (.string x.val) := (cell_of (h.item x hx) 1).trans rfl
theorem Lies.items (h : Lies w c m is nx pv bud byt) : w.cell? ⟨c, 4, none⟩ = some (.map (some m)) := (cell_of h.head 4).trans rfl
theorem Lies.budget (h : Lies w c m is nx pv bud byt) : w.cell? ⟨c, 5, none⟩ = some (.int .i64 bud) := (cell_of h.head 5).trans rfl
theorem Lies.bytes (h : Lies w c m is nx pv bud byt) : w.cell? ⟨c, 6, none⟩ = some (.int .i64 byt) := (cell_of h.head 6).trans rfl
theorem Lies.drew (h : Lies w c m is nx pv bud byt) : Lies w.drew c m is nx pv bud byt := ⟨h.head, h.item, h.nodup⟩
theorem Lies.set_next (h : Lies w c m is nx pv bud byt) {a : Nat} (ha : a ∈ blks c is) (b : Nat) : Lies (w.setCell ⟨a, 3, none⟩ (P b)) c m is (upd nx a b) pv bud byt := by
  refine ⟨?_, fun x hx => ?_, h.nodup⟩
  · by_cases e : c = a
    · subst e
      rw [heap_set h.head, upd_same]; rfl
    · rw [upd_other _ _ e]
      exact (Below.heap_setCell w _ _ c e).trans h.head
  · by_cases e : x.blk = a
    · rw [e, upd_same]
      have hi := h.item x hx
      rw [e] at hi
      rw [heap_set hi]; rfl
    · rw [upd_other _ _ e]
      exact (Below.heap_setCell w _ _ _ e).trans (h.item x hx)
theorem Lies.set_prev (h : Lies w c m is nx pv bud byt) {a : Nat} (ha : a ∈ blks c is) (b : Nat) : Lies (w.setCell ⟨a, 2, none⟩ (P b)) c m is nx (upd pv a b) bud byt := by
  refine ⟨?_, fun x hx => ?_, h.nodup⟩
  · by_cases e : c = a
    · subst e
      rw [heap_set h.head, upd_same]; rfl
    · rw [upd_other _ _ e]
      exact (Below.heap_setCell w _ _ c e).trans h.head
  · by_cases e : x.blk = a
    · rw [e, upd_same]
      have hi := h.item x hx
      rw [e] at hi
      rw [heap_set hi]; rfl
    · rw [upd_other _ _ e]
      exact (Below.heap_setCell w _ _ _ e).trans (h.item x hx)
theorem Lies.set_bytes (h : Lies w c m is nx pv bud byt) (n : Int) : Lies (w.setCell ⟨c, 6, none⟩ (.int .i64 n)) c m is nx pv bud n := by
  refine ⟨?_, fun x hx => ?_, h.nodup⟩
  · rw [heap_set h.head]; rfl
  · exact (Below.heap_setCell w _ _ _ (h.ne hx).symm).trans (h.item x hx)
theorem Lies.alike {w' : World} (h : Lies w c m is nx pv bud byt) (a : w'.heap = w.heap) : Lies w' c m is nx pv bud byt := ⟨a ▸ h.head, a ▸ h.item, h.nodup⟩
end
end Go.Proofs.Ytbiejjncjgapmaa.L
