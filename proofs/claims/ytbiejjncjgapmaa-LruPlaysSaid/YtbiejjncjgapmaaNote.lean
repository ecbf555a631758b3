/- The cache beside LruLast's notes: what each call and each note leaves. -/
import Derived.Test.YtbiejjncjgapmaaMade
import Derived.Test.YtbiejjncjgapmaaLast
import Derived.Test.YtbiejjncjgapmaaTells
import Derived.Test.YtbiejjncjgapmaaOps
namespace Go.Proofs.Ytbiejjncjgapmaa.L
open Go.RowKit Go.Lib Go.Proofs.Ytbiejjncjgapmaa.P
open Go.Proofs.YtbiejjncjgapmaaW.PrintWords Go.Proofs.YtbiejjncjgapmaaW.PrintLast Go.Proofs.YtbiejjncjgapmaaW.PrintMore
def ow (M m c : Nat) (is : List Item) : List Nat := M :: m :: blks c is
structure St (w0 w : World) (c m M : Nat) (is os : List Item) (bud : Int) (n nn : Nat) (f : ByteArray → Int) : Prop where
  cache : CacheAt w c m is os bud (weightI os) n
  last : LastAt w M nn f
  off : M ∉ m :: blks c is
  base : ∀ k ∈ ow M m c is, w0.heap.size ≤ k
  below : Below w0.heap.size w0 w
def boxObj (q : Op) : Obj := .cells #[.int .i64 q.kind, .string q.key, .string q.val, .slice q.at_ q.keys.length q.cap] 30 (0, 0)
structure Box (w : World) (B : Nat) (own : List Nat) (q : Op) : Prop where
  cell : w.heap[B]? = some (boxObj q)
  off : B ∉ own
section
variable {w0 w : World} {c m M B : Nat} {is os : List Item} {bud : Int} {n nn : Nat} {f : ByteArray → Int} {q : Op}
theorem Box.lt {own : List Nat} (h : Box w B own q) : B < w.heap.size := (Array.getElem?_eq_some_iff.1 h.cell).1
theorem Box.fr {own own' : List Nat} {w' : World} (h : Box w B own q) (f : Fr own w w') (hs : ∀ k ∈ own', k ∈ own ∨ w.heap.size ≤ k) : Box w' B own' q :=
  ⟨(f.keep B h.lt h.off).trans h.cell, fun hm => (hs B hm).elim h.off (fun e => by have := h.lt; omega)⟩
theorem Box.c0 {own : List Nat} (h : Box w B own q) : w.cell? ⟨B, 0, none⟩ = some (.int .i64 q.kind) := (cell_of h.cell 0).trans rfl
theorem Box.c1 {own : List Nat} (h : Box w B own q) : w.cell? ⟨B, 1, none⟩ = some (.string q.key) := (cell_of h.cell 1).trans rfl
theorem Box.c2 {own : List Nat} (h : Box w B own q) : w.cell? ⟨B, 2, none⟩ = some (.string q.val) := (cell_of h.cell 2).trans rfl
theorem Box.c3 {own : List Nat} (h : Box w B own q) : w.cell? ⟨B, 3, none⟩ = some (.slice q.at_ q.keys.length q.cap) := (cell_of h.cell 3).trans rfl
theorem Fr.more {w w' : World} (h : Fr (m :: blks c is) w w') : Fr (ow M m c is) w w' := h.wider (fun _ hk => .inl (List.mem_cons_of_mem _ hk))
theorem St.lt (h : St w0 w c m M is os bud n nn f) : ∀ k ∈ ow M m c is, k < w.heap.size := fun k hk => by
  rcases List.mem_cons.1 hk with e | hk
  · rw [e]; exact h.last.lt
  · exact h.cache.lt k hk
theorem St.keep {w' : World} {own : List Nat} (h : St w0 w c m M is os bud n nn f) (g : Fr own w w') (hd : ∀ k ∈ ow M m c is, k ∉ own) (hb : ∀ k ∈ own, w0.heap.size ≤ k) : St w0 w' c m M is os bud n nn f :=
  ⟨h.cache.fr g (fun k hk => hd k (List.mem_cons_of_mem _ hk)), h.last.keep (g.keep M h.last.lt (hd M List.mem_cons_self)), h.off, h.base, h.below.trans (g.below h.below.size hb)⟩
theorem St.of {w' : World} {is' os' : List Item} {n' : Nat} (h : St w0 w c m M is os bud n nn f) (hc : CacheAt w' c m is' os' bud (weightI os') n') (g : Fr (m :: blks c is) w w') (hi : ∀ k ∈ blks c is', k ∈ blks c is ∨ w.heap.size ≤ k) : St w0 w' c m M is' os' bud n' nn f := by
  have hs := h.below.size
  have hlt := h.last.lt
  refine ⟨hc, h.last.keep (g.keep M hlt h.off), fun hm => ?_, fun k hk => ?_, h.below.trans (g.below hs (fun k hk => h.base k (List.mem_cons_of_mem _ hk)))⟩
  · rcases List.mem_cons.1 hm with e | hm
    · exact h.off (by rw [e]; exact List.mem_cons_self)
    · rcases hi M hm with e | e
      · exact h.off (List.mem_cons_of_mem _ e)
      · omega
  · rcases List.mem_cons.1 hk with e | hk
    · rw [e]; exact h.base M List.mem_cons_self
    · rcases List.mem_cons.1 hk with e | hk
      · rw [e]; exact h.base m (List.mem_cons_of_mem _ List.mem_cons_self)
      · rcases hi k hk with e | e
        · exact h.base k (List.mem_cons_of_mem _ (List.mem_cons_of_mem _ e))
        · omega
end
theorem pick_is (k : Int) : ∃ r, tussocklaw07_pick.f k 7 = some r := by
  unfold tussocklaw07_pick.f
  split
  · exact ⟨_, if_neg (by decide)⟩
  · exact ⟨_, if_neg (by decide)⟩
end Go.Proofs.Ytbiejjncjgapmaa.L
