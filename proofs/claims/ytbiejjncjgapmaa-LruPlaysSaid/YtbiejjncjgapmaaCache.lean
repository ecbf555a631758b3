/- A cache: its ring, its map, its bytes. -/
import Derived.Test.YtbiejjncjgapmaaWalkA
namespace Go.Proofs.Ytbiejjncjgapmaa.L
open Go.RowKit Go.Lib Go.Maps Go.ChangeMaps Go.MapKept Go.WideAt
def ptrElem (v : Value) : Option (DataW Nat × List MemPlace) :=
  match v with
  | .pointer none => some (.nil, [])
  | .pointer (some ⟨b, 0, none⟩) => some (.held b, [])
  | _ => none
def ptrOf : Option Nat → Value
  | none => .pointer none
  | some b => P b
def readOf : Option Nat → DataW Nat
  | none => .nil
  | some b => .held b
theorem ptrElem_inv {v : Value} {o : Option Nat} {ps : List MemPlace} (h : ptrElem v = some (readOf o, ps)) : v = ptrOf o := by
  unfold ptrElem at h
  split at h
  · simp only [Option.some.injEq, Prod.mk.injEq] at h
    cases o with
    | none => rfl
    | some b => simp [readOf] at h
  · simp only [Option.some.injEq, Prod.mk.injEq] at h
    cases o with
    | none => simp [readOf] at h
    | some b => simp only [readOf, DataW.held.injEq] at h; rw [h.1]; rfl
  · cases h
theorem law : Keyed Try.prog 9 := string_keyed Try.underlying9
theorem zeroP (w : World) : (zeroValue 46).run Try.prog w = .ok (.pointer none) w := by kernel_rfl
theorem keyIs {s : ByteArray} (h : s.size ≤ maxLen) : keyOf Try.prog 9 (.string s) = some (.string s.data.toList) := Go.WideMaps.keyOf_string_mk Try.underlying9 h
def MapAt (w : World) (m n : Nat) (f : ByteArray → Option Nat) : Prop :=
  ∃ D : DataW Nat, w.ownsMap Try.prog 9 ptrElem m n D ∧ ∀ s : ByteArray, s.size ≤ maxLen → D.atKey (.string s.data.toList) .nil = readOf (f s)
theorem lit_ne {s t : ByteArray} (h : s ≠ t) : (Lit.string s.data.toList) ≠ .string t.data.toList := by
  intro e
  injection e with e
  apply h
  cases s; cases t
  simp at e
  rw [e]
section
variable {w : World} {m n : Nat} {f : ByteArray → Option Nat}
theorem MapAt.made (w : World) : MapAt (w.alloc (.map #[] 0)) w.heap.size 0 (fun _ => none) :=
  ⟨.map [], World.ownsMap_made _ _ _ _, fun _ _ => rfl⟩
theorem MapAt.lt (h : MapAt w m n f) : m < w.heap.size := by
  obtain ⟨D, h, _⟩ := h
  exact h.lt
theorem MapAt.mono (h : MapAt w m n f) {n' : Nat} (hn : n ≤ n') : MapAt w m n' f := by
  obtain ⟨D, h, hf⟩ := h
  exact ⟨D, h.mono hn, hf⟩
theorem MapAt.keep {w' : World} (h : MapAt w m n f) (hk : w'.heap[m]? = w.heap[m]?) : MapAt w' m n f := by
  obtain ⟨D, ⟨es, clock, hb, r⟩, hf⟩ := h
  exact ⟨D, ⟨es, clock, hk.trans hb, r⟩, hf⟩
theorem MapAt.noCells (h : MapAt w m n f) {b : Nat} {A : Array Value} {t : TypeId} {z : Nat × Nat} (hb : w.heap[b]? = some (.cells A t z)) : m ≠ b := by
  obtain ⟨D, ⟨es, clock, hm, r⟩, hf⟩ := h
  rintro rfl
  rw [hm] at hb
  cases hb
theorem MapAt.look (h : MapAt w m n f) {s : ByteArray} (hs : s.size ≤ maxLen) : (Instr.lookup 45 (.map (some m)) (.string s) false).run Try.prog w = .ok (ptrOf (f s)) w := by
  obtain ⟨D, h, hf⟩ := h
  obtain ⟨v, ps, hrun, hv⟩ := h.lookup law Try.underlying45 (zeroP w) (zd := .nil) (zp := []) rfl (keyIs hs)
  rw [hf s hs] at hv
  rw [← ptrElem_inv hv]
  exact hrun
end
section
variable {P : Program} (w : World) {ops : Array Oper} {rest : List Oper} {o : Oper} {a : Act} {Q : Exit → Act → World → Prop} {m n : Nat} {f : ByteArray → Option Nat}
theorem wpList_drop (hg : o.guard = none) (x y : Operand) (hop : o.op = Op.call { callee := Callee.builtin Builtin.delete, args := #[x, y], argTypes := #[45, 9] })
    (hm : a.eval x = .map (some m)) (h : MapAt w m n f) (s : ByteArray) (hy : a.eval y = .string s) (hs : s.size ≤ maxLen)
    (hK : ∀ w', MapAt w' m n (fun t => if t = s then none else f t) → w.mapTurned w' m → wpList Try.prog ops Q rest (a.put o.dst (.tuple #[])) w') :
    wpList Try.prog ops Q (o :: rest) a w := by
  obtain ⟨D, h, hf⟩ := h
  refine wpList_delete_own w hg x y 45 9 hop 46 law Try.underlying45 ptrElem m n D hm h (.string s) (.string s.data.toList) hy (keyIs hs) ?_
  intro w' h' ht
  refine hK w' ⟨D.del (.string s.data.toList), h', fun t hts => ?_⟩ ht
  show _ = readOf (if t = s then none else f t)
  by_cases e : t = s
  · rw [if_pos e, e, atKey_del_same]; rfl
  · rw [if_neg e, atKey_del_other (lit_ne e)]
    exact hf t hts
theorem wpList_lay (hg : o.guard = none) (x y z : Operand) (hop : o.op = Op.mapUpdate 45 x y z)
    (hm : a.eval x = .map (some m)) (h : MapAt w m n f) (hn : n < maxLen) (s : ByteArray) (b : Nat) (hy : a.eval y = .string s) (hz : a.eval z = L.P b) (hs : s.size ≤ maxLen)
    (hK : ∀ w', MapAt w' m (n + 1) (fun t => if t = s then some b else f t) → w.mapTurned w' m → wpList Try.prog ops Q rest (a.put o.dst undef) w') :
    wpList Try.prog ops Q (o :: rest) a w := by
  obtain ⟨D, h, hf⟩ := h
  refine wpList_mapUpdate_in w hg x y z 45 hop 9 46 law Try.underlying45 ptrElem m n D hm h hn (.string s) (L.P b) (.string s.data.toList) hy hz (keyIs hs) (.held b) [] rfl ?_
  intro w' h' ht
  refine hK w' ⟨D.put (.string s.data.toList) (.held b), h', fun t hts => ?_⟩ ht
  show _ = readOf (if t = s then some b else f t)
  by_cases e : t = s
  · rw [if_pos e, e, atKey_put_same h.isMap (by simp [Go.WideAt.IsKeyLit])]; rfl
  · rw [if_neg e, atKey_put_other (lit_ne e)]
    exact hf t hts
end
theorem Fr.turned {own : List Nat} {w w' : World} {m : Nat} (h : w.mapTurned w' m) (hm : m ∈ own) : Fr own w w' := by
  obtain ⟨es, clock, es', clock', hb, rfl⟩ := h
  refine ⟨rfl, rfl, rfl, by simp [setBlock], fun k hk hn => ?_⟩
  have : m ≠ k := fun e => hn (e ▸ hm)
  simp [setBlock, this]
end Go.Proofs.Ytbiejjncjgapmaa.L
