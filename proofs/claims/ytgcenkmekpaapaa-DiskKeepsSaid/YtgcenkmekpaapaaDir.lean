/- A map from names to files, and one from operations to counts. -/
import Derived.Test.YtgcenkmekpaapaaFr
import Derived.Maps.OwnOps
namespace Go.Proofs.Ytgcenkmekpaapaa.L
open Go.RowKit Go.Lib Go.Maps Go.ChangeMaps Go.MapKept Go.WideAt
open Go.Proofs.YtgcenkmekpaapaaW.PrintWords Go.Proofs.YtgcenkmekpaapaaW.PrintLast Go.Proofs.YtgcenkmekpaapaaW.PrintMore
def ptrElem (v : Value) : Option (DataW Nat × List MemPlace) :=
  match v with
  | .pointer none => some (.nil, [])
  | .pointer (some ⟨b, 0, none⟩) => some (.held b, [])
  | _ => none
def ptrOf : Option Nat → Value
  | none => .pointer none
  | some b => P b
def readOr (zd : DataW Nat) : Option Nat → DataW Nat
  | none => zd
  | some b => .held b
theorem ptrElem_inv {v : Value} {o : Option Nat} {ps : List MemPlace} (h : ptrElem v = some (readOr .nil o, ps)) : v = ptrOf o := by
  unfold ptrElem at h
  split at h
  · simp only [Option.some.injEq, Prod.mk.injEq] at h
    cases o with
    | none => rfl
    | some b => simp [readOr] at h
  · simp only [Option.some.injEq, Prod.mk.injEq] at h
    cases o with
    | none => simp [readOr] at h
    | some b => simp only [readOr, DataW.held.injEq] at h; rw [h.1]; rfl
  · cases h
theorem law : Keyed Try.prog 9 := string_keyed Try.underlying9
theorem zeroP (w : World) : (zeroValue 61).run Try.prog w = .ok (.pointer none) w := by kernel_rfl
theorem keyIs {s : ByteArray} (h : s.size ≤ maxLen) : keyOf Try.prog 9 (.string s) = some (.string s.data.toList) := Go.WideMaps.keyOf_string_mk Try.underlying9 h
def DirAt (w : World) (m n : Nat) (f : ByteArray → Option Nat) : Prop :=
  ∃ D : DataW Nat, w.ownsMap Try.prog 9 ptrElem m n D ∧ ∀ (s : ByteArray) (zd : DataW Nat), s.size ≤ maxLen → D.atKey (.string s.data.toList) zd = readOr zd (f s)
theorem lit_ne {s t : ByteArray} (h : s ≠ t) : (Lit.string s.data.toList) ≠ .string t.data.toList := by
  intro e
  injection e with e
  apply h
  cases s; cases t
  simp at e
  rw [e]
section
variable {w : World} {m n : Nat} {f : ByteArray → Option Nat}
theorem DirAt.made (w : World) : DirAt (w.alloc (.map #[] 0)) w.heap.size 0 (fun _ => none) :=
  ⟨.map [], World.ownsMap_made _ _ _ _, fun _ _ _ => rfl⟩
theorem DirAt.lt (h : DirAt w m n f) : m < w.heap.size := by
  obtain ⟨D, h, _⟩ := h
  exact h.lt
theorem DirAt.mono (h : DirAt w m n f) {n' : Nat} (hn : n ≤ n') : DirAt w m n' f := by
  obtain ⟨D, h, hf⟩ := h
  exact ⟨D, h.mono hn, hf⟩
theorem DirAt.keep {w' : World} (h : DirAt w m n f) (hk : w'.heap[m]? = w.heap[m]?) : DirAt w' m n f := by
  obtain ⟨D, ⟨es, clock, hb, r⟩, hf⟩ := h
  exact ⟨D, ⟨es, clock, hk.trans hb, r⟩, hf⟩
theorem DirAt.look (h : DirAt w m n f) {s : ByteArray} (hs : s.size ≤ maxLen) : (Instr.lookup 54 (.map (some m)) (.string s) false).run Try.prog w = .ok (ptrOf (f s)) w := by
  obtain ⟨D, h, hf⟩ := h
  obtain ⟨v, ps, hrun, hv⟩ := h.lookup law Try.underlying54 (zeroP w) (zd := .nil) (zp := []) rfl (keyIs hs)
  rw [hf s .nil hs] at hv
  rw [← ptrElem_inv hv]
  exact hrun
end
section
variable (w : World) {ops : Array Oper} {rest : List Oper} {o : Oper} {a : Act} {Q : Exit → Act → World → Prop} {m n : Nat} {f : ByteArray → Option Nat}
theorem wpList_drop (hg : o.guard = none) (x y : Operand) (hop : o.op = Op.call { callee := Callee.builtin Builtin.delete, args := #[x, y], argTypes := #[54, 9] })
    (hm : a.eval x = .map (some m)) (h : DirAt w m n f) (s : ByteArray) (hy : a.eval y = .string s) (hs : s.size ≤ maxLen)
    (hK : ∀ w', DirAt w' m n (fun t => if t = s then none else f t) → w.mapTurned w' m → wpList Try.prog ops Q rest (a.put o.dst (.tuple #[])) w') :
    wpList Try.prog ops Q (o :: rest) a w := by
  obtain ⟨D, h, hf⟩ := h
  refine wpList_delete_own w hg x y 54 9 hop 61 law Try.underlying54 ptrElem m n D hm h (.string s) (.string s.data.toList) hy (keyIs hs) ?_
  intro w' h' ht
  refine hK w' ⟨D.del (.string s.data.toList), h', fun t zd hts => ?_⟩ ht
  show _ = readOr zd (if t = s then none else f t)
  by_cases e : t = s
  · rw [if_pos e, e, atKey_del_same]; rfl
  · rw [if_neg e, atKey_del_other (lit_ne e)]
    exact hf t zd hts
theorem wpList_lay (hg : o.guard = none) (x y z : Operand) (hop : o.op = Op.mapUpdate 54 x y z)
    (hm : a.eval x = .map (some m)) (h : DirAt w m n f) (hn : n < maxLen) (s : ByteArray) (b : Nat) (hy : a.eval y = .string s) (hz : a.eval z = L.P b) (hs : s.size ≤ maxLen)
    (hK : ∀ w', DirAt w' m (n + 1) (fun t => if t = s then some b else f t) → w.mapTurned w' m → wpList Try.prog ops Q rest (a.put o.dst undef) w') :
    wpList Try.prog ops Q (o :: rest) a w := by
  obtain ⟨D, h, hf⟩ := h
  refine wpList_mapUpdate_in w hg x y z 54 hop 9 61 law Try.underlying54 ptrElem m n D hm h hn (.string s) (L.P b) (.string s.data.toList) hy hz (keyIs hs) (.held b) [] rfl ?_
  intro w' h' ht
  refine hK w' ⟨D.put (.string s.data.toList) (.held b), h', fun t zd hts => ?_⟩ ht
  show _ = readOr zd (if t = s then some b else f t)
  by_cases e : t = s
  · rw [if_pos e, e, atKey_put_same h.isMap (by simp [Go.WideAt.IsKeyLit])]; rfl
  · rw [if_neg e, atKey_put_other (lit_ne e)]
    exact hf t zd hts
end
abbrev i64D (n : Int) : DataW Nat := .lit (.int .i64 n)
theorem zeroI (w : World) : (zeroValue 3).run Try.prog w = .ok (.int .i64 0) w := by kernel_rfl
theorem lawI : Keyed Try.prog 3 := int_keyed Try.underlying3
theorem keyI {k : Int} (h : (Lit.int .i64 k).wf = true) : keyOf Try.prog 3 (.int .i64 k) = some (.int .i64 k) := by
  simp [keyOf, Try.underlying3, mapKey, h]
def FailAtM (w : World) (m n : Nat) (f : Int → Int) : Prop :=
  ∃ D : DataW Nat, w.ownsMap Try.prog 3 (plainElem Try.prog 3) m n D ∧ ∀ k : Int, (Lit.int .i64 k).wf = true → D.atKey (.int .i64 k) (i64D 0) = i64D (f k)
section
variable {w : World} {m n : Nat} {f : Int → Int}
theorem FailAtM.made (w : World) : FailAtM (w.alloc (.map #[] 0)) w.heap.size 0 (fun _ => 0) :=
  ⟨.map [], World.ownsMap_made _ _ _ _, fun _ _ => rfl⟩
theorem FailAtM.lt (h : FailAtM w m n f) : m < w.heap.size := by
  obtain ⟨D, h, _⟩ := h
  exact h.lt
theorem FailAtM.mono (h : FailAtM w m n f) {n' : Nat} (hn : n ≤ n') : FailAtM w m n' f := by
  obtain ⟨D, h, hf⟩ := h
  exact ⟨D, h.mono hn, hf⟩
theorem FailAtM.keep {w' : World} (h : FailAtM w m n f) (hk : w'.heap[m]? = w.heap[m]?) : FailAtM w' m n f := by
  obtain ⟨D, ⟨es, clock, hb, r⟩, hf⟩ := h
  exact ⟨D, ⟨es, clock, hk.trans hb, r⟩, hf⟩
theorem FailAtM.look (h : FailAtM w m n f) {k : Int} (hk : (Lit.int .i64 k).wf = true) : (Instr.lookup 55 (.map (some m)) (.int .i64 k) false).run Try.prog w = .ok (.int .i64 (f k)) w := by
  obtain ⟨D, h, hf⟩ := h
  obtain ⟨c, hrun, hat, _⟩ := h.lookup_int lawI Try.underlying55 Try.underlying3 (zeroI w) (keyI hk)
  have e := hat.symm.trans (hf k hk)
  simp only [DataW.lit.injEq, Lit.int.injEq, true_and] at e
  rw [← e]
  exact hrun
end
section
variable (w : World) {ops : Array Oper} {rest : List Oper} {o : Oper} {a : Act} {Q : Exit → Act → World → Prop} {m n : Nat} {f : Int → Int}
theorem wpList_fail (hg : o.guard = none) (x y z : Operand) (hop : o.op = Op.mapUpdate 55 x y z)
    (hm : a.eval x = .map (some m)) (h : FailAtM w m n f) (hn : n < maxLen) (k : Int) (b : Int) (hy : a.eval y = .int .i64 k) (hz : a.eval z = .int .i64 b) (hk : (Lit.int .i64 k).wf = true) (hb : (Lit.int .i64 b).wf = true)
    (hK : ∀ w', FailAtM w' m (n + 1) (fun t => if t = k then b else f t) → w.mapTurned w' m → wpList Try.prog ops Q rest (a.put o.dst undef) w') :
    wpList Try.prog ops Q (o :: rest) a w := by
  obtain ⟨D, h, hf⟩ := h
  refine wpList_mapUpdate_in w hg x y z 55 hop 3 3 lawI Try.underlying55 (plainElem Try.prog 3) m n D hm h hn (.int .i64 k) (.int .i64 b) (.int .i64 k) hy hz (keyI hk) (i64D b) [] (plainElem_int Try.underlying3 hb) ?_
  intro w' h' ht
  refine hK w' ⟨D.put (.int .i64 k) (i64D b), h', fun t hts => ?_⟩ ht
  show _ = i64D (if t = k then b else f t)
  by_cases e : t = k
  · rw [if_pos e, e, atKey_put_same h.isMap (by simp [Go.WideAt.IsKeyLit])]
  · rw [if_neg e, atKey_put_other (by intro h; injection h with _ h; exact e h)]
    exact hf t hts
end
end Go.Proofs.Ytgcenkmekpaapaa.L
