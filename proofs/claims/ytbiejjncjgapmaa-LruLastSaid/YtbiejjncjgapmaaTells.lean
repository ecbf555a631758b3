/- What LruLast's notes tell of the cache: plain lists. -/
import Derived.Test.YtbiejjncjgapmaaPut
namespace Go.Proofs.Ytbiejjncjgapmaa.L
def Tells (vals : Nat → ByteArray) (done : Nat) (os : List Item) (f : ByteArray → Int) : Prop :=
  ∀ s : ByteArray, match findI os s with
    | none => f s = 0
    | some x => ∃ j : Nat, j < done ∧ f s = ((j + 1 : Nat) : Int) ∧ vals j = x.val
section
variable {vals : Nat → ByteArray} {done : Nat} {os : List Item} {f : ByteArray → Int}
theorem Tells.none_ (h : Tells vals done os f) {s : ByteArray} (hs : findI os s = none) : f s = 0 := by
  have := h s
  rw [hs] at this
  exact this
theorem Tells.some_ (h : Tells vals done os f) {s : ByteArray} {x : Item} (hs : findI os s = some x) : ∃ j : Nat, j < done ∧ f s = ((j + 1 : Nat) : Int) ∧ vals j = x.val := by
  have := h s
  rw [hs] at this
  exact this
theorem Tells.start : Tells vals 0 [] (fun _ => 0) := fun _ => rfl
theorem Tells.mono (h : Tells vals done os f) {d : Nat} (hd : done ≤ d) : Tells vals d os f := by
  intro s
  cases hs : findI os s with
  | none => exact h.none_ hs
  | some x =>
    obtain ⟨j, h1, h2, h3⟩ := h.some_ hs
    exact ⟨j, by omega, h2, h3⟩
theorem Tells.out (h : Tells vals done os f) (k : ByteArray) : Tells vals done (outI os k) (fun t => if t = k then 0 else f t) := by
  intro s
  rw [find_out]
  by_cases e : s = k
  · rw [if_pos e]
    show (if s = k then 0 else f s) = 0
    rw [if_pos e]
  · rw [if_neg e]
    have hf : (fun t => if t = k then (0 : Int) else f t) s = f s := if_neg e
    cases hs : findI os s with
    | none => exact hf.trans (h.none_ hs)
    | some x =>
      obtain ⟨j, h1, h2, h3⟩ := h.some_ hs
      exact ⟨j, h1, hf.trans h2, h3⟩
theorem Tells.put (h : Tells vals done os f) (y : Item) (hv : vals done = y.val) : Tells vals (done + 1) (y :: outI os y.key) (fun t => if t = y.key then ((done + 1 : Nat) : Int) else f t) := by
  intro s
  rw [find_cons]
  by_cases e : s = y.key
  · rw [if_pos e]
    exact ⟨done, by omega, if_pos e, hv⟩
  · rw [if_neg e, find_out, if_neg e]
    have hf : (fun t => if t = y.key then ((done + 1 : Nat) : Int) else f t) s = f s := if_neg e
    cases hs : findI os s with
    | none => exact hf.trans (h.none_ hs)
    | some x =>
      obtain ⟨j, h1, h2, h3⟩ := h.some_ hs
      exact ⟨j, by omega, hf.trans h2, h3⟩
theorem find_get (s t : ByteArray) : findI (getI os s) t = findI os t := by
  unfold getI
  cases hs : findI os s with
  | none => rfl
  | some x =>
    show findI (x :: outI os s) t = _
    rw [find_cons, find_out]
    have hk := (find_key hs).2
    by_cases e : t = s
    · rw [if_pos (e.trans hk.symm), e, hs]
    · rw [if_neg (fun h => e (h.trans hk)), if_neg e]
theorem Tells.get (h : Tells vals done os f) (s : ByteArray) : Tells vals done (getI os s) f := by
  intro t
  rw [find_get]
  exact h t
end
theorem ev_gone (bud : Int) : ∀ l : List Item, (l.reverse.map (·.key)).Nodup → (evR bud l).1.reverse = dropI l.reverse (evR bud l).2 ∧ ∀ k (hk : k < (evR bud l).2.length), (findI (dropI l.reverse ((evR bud l).2.take k)) ((evR bud l).2[k])).isSome = true := by
  intro l
  induction l with
  | nil => intro _; exact ⟨rfl, fun k hk => absurd hk (Nat.not_lt_zero _)⟩
  | cons x r ih =>
    intro hn
    rw [List.reverse_cons] at hn ⊢
    have hn' : (r.reverse.map (·.key)).Nodup := by
      rw [List.map_append, List.nodup_append] at hn
      exact hn.1
    obtain ⟨h1, h2⟩ := ih hn'
    have ho := out_last r.reverse x hn
    rw [evR]
    by_cases hw : (weightI (x :: r) : Int) > bud
    · rw [if_pos hw]
      refine ⟨?_, fun k hk => ?_⟩
      · show _ = dropI (outI (r.reverse ++ [x]) x.key) (evR bud r).2
        rw [ho]; exact h1
      · cases k with
        | zero =>
          show (findI (r.reverse ++ [x]) x.key).isSome = true
          unfold findI
          rw [List.find?_isSome]
          exact ⟨x, by simp, by simp⟩
        | succ k =>
          show (findI (dropI (outI (r.reverse ++ [x]) x.key) ((evR bud r).2.take k)) ((evR bud r).2[k]'(by simpa using hk))).isSome = true
          rw [ho]
          exact h2 k (by simpa using hk)
    · rw [if_neg hw]
      refine ⟨by simp [dropI], fun k hk => absurd hk (Nat.not_lt_zero _)⟩
theorem ev_weight (bud : Int) (hb : 0 ≤ bud) : ∀ l : List Item, (weightI (evR bud l).1 : Int) ≤ bud := by
  intro l
  induction l with
  | nil => simpa [evR, weightI] using hb
  | cons x r ih =>
    rw [evR]
    by_cases hw : (weightI (x :: r) : Int) > bud
    · rw [if_pos hw]; exact ih
    · rw [if_neg hw]
      show (weightI (x :: r) : Int) ≤ bud
      omega
theorem drop_weight (ks : List ByteArray) : ∀ os : List Item, weightI (dropI os ks) ≤ weightI os := by
  induction ks with
  | nil => intro os; exact Nat.le_refl _
  | cons k r ih =>
    intro os
    exact Nat.le_trans (ih (outI os k)) (weight_filter os k)
theorem drop_length (ks : List ByteArray) : ∀ os : List Item, (dropI os ks).length ≤ os.length := by
  induction ks with
  | nil => intro os; exact Nat.le_refl _
  | cons k r ih =>
    intro os
    exact Nat.le_trans (ih (outI os k)) (List.length_filter_le _ _)
theorem drop_snoc (ks : List ByteArray) (k : ByteArray) : ∀ os : List Item, dropI os (ks ++ [k]) = outI (dropI os ks) k := by
  induction ks with
  | nil => intro os; rfl
  | cons a r ih => intro os; exact ih (outI os a)
end Go.Proofs.Ytbiejjncjgapmaa.L
