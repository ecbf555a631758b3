/- A map from texts to places that the call makes (LruLast's 'last'). -/
import Derived.Test.YtbiejjncjgapmaaPut
import Derived.Maps.OwnOps
namespace Go.Proofs.Ytbiejjncjgapmaa.L
open Go.RowKit Go.Lib Go.Maps
abbrev i64D (n : Int) : DataW Nat := .lit (.int .i64 n)
theorem zeroI (w : World) : (zeroValue 3).run Try.prog w = .ok (.int .i64 0) w := by kernel_rfl
def LastAt (w : World) (m n : Nat) (f : ByteArray → Int) : Prop :=
  ∃ D : DataW Nat, w.ownsMap Try.prog 9 (plainElem Try.prog 3) m n D ∧ ∀ s : ByteArray, s.size ≤ maxLen → D.atKey (.string s.data.toList) (i64D 0) = i64D (f s)
section
variable {w : World} {m n : Nat} {f : ByteArray → Int}
theorem LastAt.made (w : World) : LastAt (w.alloc (.map #[] 0)) w.heap.size 0 (fun _ => 0) :=
  ⟨.map [], World.ownsMap_made _ _ _ _, fun _ _ => rfl⟩
theorem LastAt.lt (h : LastAt w m n f) : m < w.heap.size := by
  obtain ⟨D, h, _⟩ := h
  exact h.lt
theorem LastAt.mono (h : LastAt w m n f) {n' : Nat} (hn : n ≤ n') : LastAt w m n' f := by
  obtain ⟨D, h, hf⟩ := h
  exact ⟨D, h.mono hn, hf⟩
theorem LastAt.keep {w' : World} (h : LastAt w m n f) (hk : w'.heap[m]? = w.heap[m]?) : LastAt w' m n f := by
  obtain ⟨D, ⟨es, clock, hb, r⟩, hf⟩ := h
  exact ⟨D, ⟨es, clock, hk.trans hb, r⟩, hf⟩
theorem LastAt.noCells (h : LastAt w m n f) {b : Nat} {A : Array Value} {t : TypeId} {z : Nat × Nat} (hb : w.heap[b]? = some (.cells A t z)) : m ≠ b := by
  obtain ⟨D, ⟨es, clock, hm, r⟩, hf⟩ := h
  rintro rfl
  rw [hm] at hb
  cases hb
theorem LastAt.look (h : LastAt w m n f) {s : ByteArray} (hs : s.size ≤ maxLen) : (Instr.lookup 43 (.map (some m)) (.string s) false).run Try.prog w = .ok (.int .i64 (f s)) w := by
  obtain ⟨D, h, hf⟩ := h
  obtain ⟨c, hrun, hat, _⟩ := h.lookup_int law Try.underlying43 Try.underlying3 (zeroI w) (keyIs hs)
  have e := hat.symm.trans (hf s hs)
  simp only [DataW.lit.injEq, Lit.int.injEq, true_and] at e
  rw [← e]
  exact hrun
end
section
variable (w : World) {ops : Array Oper} {rest : List Oper} {o : Oper} {a : Act} {Q : Exit → Act → World → Prop} {m n : Nat} {f : ByteArray → Int}
theorem wpList_note (hg : o.guard = none) (x y z : Operand) (hop : o.op = Op.mapUpdate 43 x y z)
    (hm : a.eval x = .map (some m)) (h : LastAt w m n f) (hn : n < maxLen) (s : ByteArray) (b : Int) (hy : a.eval y = .string s) (hz : a.eval z = .int .i64 b) (hs : s.size ≤ maxLen) (hb : (Lit.int .i64 b).wf = true)
    (hK : ∀ w', LastAt w' m (n + 1) (fun t => if t = s then b else f t) → w.mapTurned w' m → wpList Try.prog ops Q rest (a.put o.dst undef) w') :
    wpList Try.prog ops Q (o :: rest) a w := by
  obtain ⟨D, h, hf⟩ := h
  refine wpList_mapUpdate_in w hg x y z 43 hop 9 3 law Try.underlying43 (plainElem Try.prog 3) m n D hm h hn (.string s) (.int .i64 b) (.string s.data.toList) hy hz (keyIs hs) (i64D b) [] (plainElem_int Try.underlying3 hb) ?_
  intro w' h' ht
  refine hK w' ⟨D.put (.string s.data.toList) (i64D b), h', fun t hts => ?_⟩ ht
  show _ = i64D (if t = s then b else f t)
  by_cases e : t = s
  · rw [if_pos e, e, atKey_put_same h.isMap (by simp [Go.WideAt.IsKeyLit])]
  · rw [if_neg e, atKey_put_other (lit_ne e)]
    exact hf t hts
end
end Go.Proofs.Ytbiejjncjgapmaa.L
