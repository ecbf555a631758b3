/- Rings: which node follows which. Plain lists of numbers; no program. -/
import Derived.Below
namespace Go.Proofs.Ytbiejjncjgapmaa.L
def upd (f : Nat → Nat) (a b : Nat) : Nat → Nat := fun x => if x = a then b else f x
theorem upd_same (f : Nat → Nat) (a b : Nat) : upd f a b a = b := if_pos rfl
theorem upd_other (f : Nat → Nat) {a x : Nat} (b : Nat) (h : x ≠ a) : upd f a b x = f x := if_neg h
def Linked (nx pv : Nat → Nat) : List Nat → Prop
  | a :: b :: r => nx a = b ∧ pv b = a ∧ Linked nx pv (b :: r)
  | _ => True
theorem Linked.congr {nx pv nx' pv' : Nat → Nat} : ∀ (l : List Nat), (∀ a ∈ l.dropLast, nx' a = nx a) → (∀ b ∈ l.tail, pv' b = pv b) → Linked nx pv l → Linked nx' pv' l := by
  intro l
  induction l with
  | nil => intro _ _ _; trivial
  | cons a r ih =>
    cases r with
    | nil => intro _ _ _; trivial
    | cons b r =>
      intro h1 h2 h
      have hd : (a :: b :: r).dropLast = a :: (b :: r).dropLast := rfl
      refine ⟨(h1 a (by rw [hd]; exact List.mem_cons_self)).trans h.1, (h2 b List.mem_cons_self).trans h.2.1, ih (fun x hx => h1 x ?_) (fun x hx => h2 x ?_) h.2.2⟩
      · rw [hd]; exact List.mem_cons_of_mem _ hx
      · exact List.mem_cons_of_mem _ hx
theorem Linked.left {nx pv : Nat → Nat} (l : List Nat) : ∀ (a : Nat) (r : List Nat), Linked nx pv (l ++ a :: r) → Linked nx pv (l ++ [a]) := by
  induction l with
  | nil => intro a r _; trivial
  | cons x l ih =>
    intro a r h
    cases l with
    | nil => exact ⟨h.1, h.2.1, trivial⟩
    | cons y l => exact ⟨h.1, h.2.1, ih a r h.2.2⟩
theorem Linked.right {nx pv : Nat → Nat} (l : List Nat) : ∀ (a : Nat) (r : List Nat), Linked nx pv (l ++ a :: r) → Linked nx pv (a :: r) := by
  induction l with
  | nil => intro a r h; exact h
  | cons x l ih =>
    intro a r h
    cases l with
    | nil => exact h.2.2
    | cons y l => exact ih a r h.2.2
theorem Linked.join {nx pv : Nat → Nat} (l : List Nat) : ∀ (a : Nat) (r : List Nat), Linked nx pv (l ++ [a]) → Linked nx pv (a :: r) → Linked nx pv (l ++ a :: r) := by
  induction l with
  | nil => intro a r _ h; exact h
  | cons x l ih =>
    intro a r h1 h2
    cases l with
    | nil => exact ⟨h1.1, h1.2.1, h2⟩
    | cons y l => exact ⟨h1.1, h1.2.1, ih a r h1.2.2 h2⟩
theorem Linked.step {nx pv : Nat → Nat} (l : List Nat) (a b : Nat) (r : List Nat) (h : Linked nx pv (l ++ a :: b :: r)) : nx a = b ∧ pv b = a := by
  have := Linked.right l a (b :: r) h
  exact ⟨this.1, this.2.1⟩
theorem last_of (c : Nat) (xs : List Nat) : ∃ A p, c :: xs = A ++ [p] := ⟨(c :: xs).dropLast, (c :: xs).getLast (by simp), (List.dropLast_concat_getLast (by simp)).symm⟩
theorem first_of (ys : List Nat) (c : Nat) : ∃ q B, ys ++ [c] = q :: B := by
  cases ys with
  | nil => exact ⟨c, [], rfl⟩
  | cons y r => exact ⟨y, r ++ [c], rfl⟩
theorem nodup_first {ys B : List Nat} {c q : Nat} (hn : (c :: ys).Nodup) (e : ys ++ [c] = q :: B) : q ∉ B := by
  cases ys with
  | nil =>
    injection e with e1 e2
    subst e2; simp
  | cons y r =>
    injection e with e1 e2
    subst e1; subst e2
    rw [List.nodup_cons, List.nodup_cons] at hn
    intro h
    rcases List.mem_append.1 h with h | h
    · exact hn.2.1 h
    · rw [List.mem_singleton.1 h] at hn
      exact hn.1 List.mem_cons_self
theorem ring_out {nx pv : Nat → Nat} (c x : Nat) (xs ys : List Nat) (h : Linked nx pv (c :: (xs ++ x :: ys) ++ [c])) (hn : (c :: (xs ++ x :: ys)).Nodup) :
    Linked (upd nx (pv x) (nx x)) (upd pv (nx x) (pv x)) (c :: (xs ++ ys) ++ [c]) ∧ pv x ∈ c :: xs ∧ nx x ∈ ys ++ [c] := by
  obtain ⟨A, p, hA⟩ := last_of c xs
  obtain ⟨q, B, hB⟩ := first_of ys c
  have e : c :: (xs ++ x :: ys) ++ [c] = A ++ p :: x :: q :: B := by
    have : c :: (xs ++ x :: ys) ++ [c] = (c :: xs) ++ x :: (ys ++ [c]) := by simp
    rw [this, hA, hB]; simp
  have e2 : c :: (xs ++ ys) ++ [c] = A ++ p :: q :: B := by
    have : c :: (xs ++ ys) ++ [c] = (c :: xs) ++ (ys ++ [c]) := by simp
    rw [this, hA, hB]; simp
  rw [e] at h
  have s1 := h.step A p x (q :: B)
  have hpx : Linked nx pv ((A ++ [p]) ++ x :: q :: B) := by simpa using h
  have s2 := hpx.step (A ++ [p]) x q B
  rw [s1.2, s2.1, e2]
  have hp : p ∈ c :: xs := by rw [hA]; simp
  have hq : q ∈ ys ++ [c] := by rw [hB]; simp
  have n1 : (c :: xs).Nodup := by
    rw [List.nodup_cons] at hn ⊢
    exact ⟨fun m => hn.1 (List.mem_append_left _ m), (List.nodup_append.1 hn.2).1⟩
  have n2 : (c :: ys).Nodup := by
    rw [List.nodup_cons] at hn ⊢
    refine ⟨fun m => hn.1 (List.mem_append_right _ (List.mem_cons_of_mem _ m)), ?_⟩
    exact (List.nodup_cons.1 (List.nodup_append.1 hn.2).2.1).2
  have dis : ∀ a ∈ c :: xs, a ∉ ys := by
    rw [List.nodup_cons] at hn
    intro a ha hy
    rcases List.mem_cons.1 ha with rfl | ha
    · exact hn.1 (List.mem_append_right _ (List.mem_cons_of_mem _ hy))
    · exact (List.nodup_append.1 hn.2).2.2 a ha a (List.mem_cons_of_mem _ hy) rfl
  refine ⟨Linked.join A p (q :: B) ?_ ?_, hp, hq⟩
  · refine Linked.congr _ (fun a ha => upd_other _ _ ?_) (fun b hb => upd_other _ _ ?_) (h.left A p _)
    · rw [List.dropLast_concat] at ha
      rintro rfl
      rw [hA, List.nodup_append] at n1
      exact n1.2.2 a ha a (by simp) rfl
    · rintro rfl
      rw [← hA, List.tail_cons] at hb
      rcases List.mem_append.1 hq with hq | hq
      · exact dis b (List.mem_cons_of_mem _ hb) hq
      · rw [List.mem_singleton.1 hq] at hb
        exact (List.nodup_cons.1 n1).1 hb
  · refine ⟨upd_same _ _ _, upd_same _ _ _, ?_⟩
    refine Linked.congr _ (fun a ha => upd_other _ _ ?_) (fun b hb => upd_other _ _ ?_) (hpx.right (A ++ [p]) x _).2.2
    · rw [← hB, List.dropLast_concat] at ha
      rintro rfl
      exact dis a hp ha
    · rintro rfl
      exact nodup_first n2 hB hb
theorem ring_in {nx pv : Nat → Nat} (c x : Nat) (os : List Nat) (h : Linked nx pv (c :: os ++ [c])) (hn : (c :: os).Nodup) (hx : x ∉ c :: os) :
    Linked (upd (upd nx x (nx c)) c x) (upd (upd pv x c) (nx c) x) (c :: (x :: os) ++ [c]) ∧ nx c ∈ os ++ [c] := by
  obtain ⟨q, B, hB⟩ := first_of os c
  have e : c :: os ++ [c] = c :: q :: B := by rw [List.cons_append, hB]
  have e2 : c :: (x :: os) ++ [c] = c :: x :: q :: B := by rw [List.cons_append, List.cons_append, hB]
  rw [e] at h
  rw [e2]
  have hq : q ∈ os ++ [c] := by rw [hB]; simp
  have hcx : c ≠ x := fun e => hx (e ▸ List.mem_cons_self)
  have hxo : x ∉ os := fun m => hx (List.mem_cons_of_mem _ m)
  have hxq : x ≠ q := by
    rintro rfl
    rcases List.mem_append.1 hq with hq | hq
    · exact hxo hq
    · exact hcx (List.mem_singleton.1 hq).symm
  rw [h.1]
  refine ⟨⟨upd_same _ _ _, ?_, ?_, upd_same _ _ _, ?_⟩, hq⟩
  · rw [upd_other _ _ hxq, upd_same]
  · rw [upd_other _ _ hcx.symm, upd_same]
  · refine Linked.congr _ (fun a ha => ?_) (fun b hb => ?_) h.2.2
    · rw [← hB, List.dropLast_concat] at ha
      rw [upd_other _ _ (fun e : a = c => (List.nodup_cons.1 hn).1 (e ▸ ha)), upd_other _ _ (fun e : a = x => hxo (e ▸ ha))]
    · rw [List.tail_cons] at hb
      have hbq : b ≠ q := fun e => nodup_first hn hB (e ▸ hb)
      rw [upd_other _ _ hbq, upd_other]
      rintro rfl
      have : b ∈ os ++ [c] := by rw [hB]; exact List.mem_cons_of_mem _ hb
      rcases List.mem_append.1 this with m | m
      · exact hxo m
      · exact hcx (List.mem_singleton.1 m).symm
theorem ring_last {nx pv : Nat → Nat} (c x : Nat) (xs : List Nat) (h : Linked nx pv (c :: (xs ++ [x]) ++ [c])) : pv c = x := by
  have : c :: (xs ++ [x]) ++ [c] = (c :: xs) ++ x :: c :: [] := by simp
  rw [this] at h
  exact (h.step (c :: xs) x c []).2
end Go.Proofs.Ytbiejjncjgapmaa.L
