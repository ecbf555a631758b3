/- A map from texts to places that the call makes (LruLast's 'last'). -/
import Derived.Test.YtbiejjncjgapmaaPut
import Derived.Maps.OwnOps
namespace Go.Proofs.Ytbiejjncjgapmaa.L
open Go.RowKit Go.Lib Go.Maps
abbrev i64D (n : Int) : DataW Nat := .lit (.int .i64 n)
theorem zeroI (w : World) : (zeroValue 3).run Try.prog w = .ok (.int .i64 0) w := by kernel_rfl
def LastAt (w : World) (m n : Nat) (f : ByteArray → Int) : Prop :=
  ∃ D : DataW Nat, w.ownsMap Try.prog 9 (plainElem Try.prog 3) m n D ∧ ∀ s : ByteArray, s.size ≤ maxLen → D.atKey (.string s.data.toList) (i64D 0) = i64D (f s)
section
variable {w : World} {m n : Nat} {f : ByteArray → Int}
theorem LastAt.made (w : World) : LastAt (w.alloc (.map #[] 0)) w.heap.size 0 (fun _ => 0) :=
  ⟨.map [], World.ownsMap_made _ _ _ _, fun _ _ => rfl⟩
theorem LastAt.lt (h : LastAt w m n f) : m < w.heap.size := by
  obtain ⟨D, h, _⟩ := h
  exact h.lt
theorem LastAt.mono (h : LastAt w m n f) {n' : Nat} (hn : n ≤ n') : LastAt w m n' f := by
  obtain ⟨D, h, hf⟩ := h
  exact ⟨D, h.mono hn, hf⟩
theorem LastAt.keep {w' : World} (h : LastAt w m n f) (hk : w'.heap[m]? = w.heap[m]?) : LastAt w' m n f := by
  obtain ⟨D, ⟨es, clock, hb, r⟩, hf⟩ := h
  exact ⟨D, ⟨es, clock, hk.trans hb, r⟩, hf⟩
theorem LastAt.noCells (h : LastAt w m n f) {b : Nat} {A : Array Value} {t : TypeId} {z : Nat × Nat} (hb : w.heap[b]? = some (.cells A t z)) : m ≠ b := by
  obtain ⟨D, ⟨es, clock, hm, r⟩, hf⟩ := h
  rintro rfl
  rw [hm] at hb
  cases hb
theorem LastAt.look (h : LastAt w m n f) {s : ByteArray} (hs : s.size ≤ maxLen) : (Instr.lookup 43 (.map (some m)) (.string s) false).run Try.prog w = .ok (.int .i64 (f s)) w := by
  obtain ⟨D, h, hf⟩ := h
  obtain ⟨c, hrun, hat, _⟩ := h.lookup_int law Try.underlying43 Try.underlying3 (zeroI w) (keyIs hs)
  have e := hat.symm.trans (hf s hs)
  simp only [DataW.lit.injEq, Lit.int.injEq, true_and] at e
  rw [← e]
  exact hrun
end
end Go.Proofs.Ytbiejjncjgapmaa.L
