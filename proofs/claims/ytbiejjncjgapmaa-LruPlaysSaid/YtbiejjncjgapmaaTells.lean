/- What LruLast's notes tell of the cache: plain lists. -/
import Derived.Test.YtbiejjncjgapmaaPut
namespace Go.Proofs.Ytbiejjncjgapmaa.L
def Tells (vals : Nat → ByteArray) (done : Nat) (os : List Item) (f : ByteArray → Int) : Prop :=
  ∀ s : ByteArray, match findI os s with
    | none => f s = 0
    | some x => ∃ j : Nat, j < done ∧ f s = ((j + 1 : Nat) : Int) ∧ vals j = x.val
section
variable {vals : Nat → ByteArray} {done : Nat} {os : List Item} {f : ByteArray → Int}
theorem Tells.none_ (h : Tells vals done os f) {s : ByteArray} (hs : findI os s = none) : f s = 0 := by
  have := h s
  rw [hs] at this
  exact this
theorem Tells.some_ (h : Tells vals done os f) {s : ByteArray} {x : Item} (hs : findI os s = some x) : ∃ j : Nat, j < done ∧ f s = ((j + 1 : Nat) : Int) ∧ vals j = x.val := by
  have := h s
  rw [hs] at this
  exact this
theorem Tells.mono (h : Tells vals done os f) {d : Nat} (hd : done ≤ d) : Tells vals d os f := by
  intro s
  cases hs : findI os s with
  | none => exact h.none_ hs
  | some x =>
    obtain ⟨j, h1, h2, h3⟩ := h.some_ hs
    exact ⟨j, by omega, h2, h3⟩
theorem Tells.out (h : Tells vals done os f) (k : ByteArray) : Tells vals done (outI os k) (fun t => if t = k then 0 else f t) := by
  intro s
  rw [find_out]
  by_cases e : s = k
  · rw [if_pos e]
    show (if s = k then 0 else f s) = 0
    rw [if_pos e]
  · rw [if_neg e]
    have hf : (fun t => if t = k then (0 : Int) else f t) s = f s := if_neg e
    cases hs : findI os s with
    | none => exact hf.trans (h.none_ hs)
    | some x =>
      obtain ⟨j, h1, h2, h3⟩ := h.some_ hs
      exact ⟨j, h1, hf.trans h2, h3⟩
theorem Tells.put (h : Tells vals done os f) (y : Item) (hv : vals done = y.val) : Tells vals (done + 1) (y :: outI os y.key) (fun t => if t = y.key then ((done + 1 : Nat) : Int) else f t) := by
  intro s
  rw [find_cons]
  by_cases e : s = y.key
  · rw [if_pos e]
    exact ⟨done, by omega, if_pos e, hv⟩
  · rw [if_neg e, find_out, if_neg e]
    have hf : (fun t => if t = y.key then ((done + 1 : Nat) : Int) else f t) s = f s := if_neg e
    cases hs : findI os s with
    | none => exact hf.trans (h.none_ hs)
    | some x =>
      obtain ⟨j, h1, h2, h3⟩ := h.some_ hs
      exact ⟨j, by omega, hf.trans h2, h3⟩
end
theorem drop_weight (ks : List ByteArray) : ∀ os : List Item, weightI (dropI os ks) ≤ weightI os := by
  induction ks with
  | nil => intro os; exact Nat.le_refl _
  | cons k r ih =>
    intro os
    exact Nat.le_trans (ih (outI os k)) (weight_filter os k)
theorem drop_length (ks : List ByteArray) : ∀ os : List Item, (dropI os ks).length ≤ os.length := by
  induction ks with
  | nil => intro os; exact Nat.le_refl _
  | cons k r ih =>
    intro os
    exact Nat.le_trans (ih (outI os k)) (List.length_filter_le _ _)
end Go.Proofs.Ytbiejjncjgapmaa.L
