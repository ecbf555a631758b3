/- Plain facts on bytes: the pieces of a text between the instances of one byte, and joining them again. No program. -/
import Derived.Lib.Bytealg
import Derived.Lib.Split
namespace Go.Proofs.YtinndapmljnifaaDoor.P
def ba (l : List UInt8) : ByteArray := ⟨l.toArray⟩
theorem ba_data (l : List UInt8) : (ba l).data.toList = l := by simp [ba]
theorem ba_toList (l : List UInt8) : (ba l).toList = l := by rw [Lib.toList_data]; exact ba_data l
theorem ba_of (s : ByteArray) : ba s.data.toList = s := by cases s; simp [ba]
theorem ba_size (l : List UInt8) : (ba l).size = l.length := by rw [Lib.size_eq, ba_data]
theorem ba_ext {s t : ByteArray} (h : s.data.toList = t.data.toList) : s = t := by rw [← ba_of s, ← ba_of t, h]
def pts (c : UInt8) : List UInt8 → List (List UInt8)
  | [] => [[]]
  | x :: t => if x = c then [] :: pts c t else match pts c t with
    | [] => [[x]]
    | h :: r => (x :: h) :: r
theorem pts_ne (c : UInt8) (l : List UInt8) : pts c l ≠ [] := by
  cases l with
  | nil => simp [pts]
  | cons x t => unfold pts; split
                · simp
                · split <;> simp
theorem pts_length (c : UInt8) (l : List UInt8) : (pts c l).length = l.count c + 1 := by
  induction l with
  | nil => rfl
  | cons x t ih =>
    unfold pts
    by_cases h : x = c
    · rw [if_pos h, List.length_cons, ih, h, List.count_cons_self]
    · rw [if_neg h, List.count_cons_of_ne h]
      have := pts_ne c t
      cases hp : pts c t with
      | nil => exact absurd hp this
      | cons a r => rw [hp] at ih; simpa using ih
theorem pts_not (c : UInt8) (l : List UInt8) (h : c ∉ l) : pts c l = [l] := by
  induction l with
  | nil => rfl
  | cons x t ih =>
    unfold pts
    rw [if_neg (fun e => h (by rw [e]; exact List.mem_cons_self)), ih (fun hm => h (List.mem_cons_of_mem _ hm))]
theorem pts_append (c : UInt8) (a b : List UInt8) (h : c ∉ a) : pts c (a ++ c :: b) = a :: pts c b := by
  induction a with
  | nil => simp [pts]
  | cons x t ih =>
    have hx : x ≠ c := fun e => h (by rw [e]; exact List.mem_cons_self)
    show pts c (x :: (t ++ c :: b)) = _
    rw [pts, if_neg hx, ih (fun hm => h (List.mem_cons_of_mem _ hm))]
theorem pts_mem (c : UInt8) (l : List UInt8) : ∀ p ∈ pts c l, c ∉ p := by
  induction l with
  | nil => intro p hp; simp [pts] at hp; simp [hp]
  | cons x t ih =>
    intro p hp
    unfold pts at hp
    by_cases h : x = c
    · rw [if_pos h] at hp
      rcases List.mem_cons.1 hp with rfl | hp
      · simp
      · exact ih p hp
    · rw [if_neg h] at hp
      cases hq : pts c t with
      | nil => exact absurd hq (pts_ne c t)
      | cons a r =>
        rw [hq] at hp
        simp only at hp
        rcases List.mem_cons.1 hp with rfl | hp
        · intro hm
          rcases List.mem_cons.1 hm with rfl | hm
          · exact h rfl
          · exact ih a (by rw [hq]; exact List.mem_cons_self) hm
        · exact ih p (by rw [hq]; exact List.mem_cons_of_mem _ hp)
def jn (c : UInt8) : List (List UInt8) → List UInt8
  | [] => []
  | [a] => a
  | a :: b :: r => a ++ c :: jn c (b :: r)
theorem jn_cons (c : UInt8) (a : List UInt8) (l : List (List UInt8)) (h : l ≠ []) : jn c (a :: l) = a ++ c :: jn c l := by
  cases l with
  | nil => exact absurd rfl h
  | cons b r => rfl
theorem jn_pts (c : UInt8) (l : List UInt8) : jn c (pts c l) = l := by
  induction l with
  | nil => rfl
  | cons x t ih =>
    unfold pts
    by_cases h : x = c
    · rw [if_pos h, jn_cons _ _ _ (pts_ne c t), ih, h]; rfl
    · rw [if_neg h]
      cases hq : pts c t with
      | nil => exact absurd hq (pts_ne c t)
      | cons a r =>
        rw [hq] at ih
        simp only
        cases r with
        | nil => simp only [jn] at ih ⊢; rw [ih]
        | cons b r => simp only [jn] at ih ⊢; rw [← ih]; rfl
theorem pts_jn (c : UInt8) (l : List (List UInt8)) (hne : l ≠ []) (h : ∀ p ∈ l, c ∉ p) : pts c (jn c l) = l := by
  induction l with
  | nil => exact absurd rfl hne
  | cons a r ih =>
    have ha := h a List.mem_cons_self
    cases r with
    | nil => exact pts_not c a ha
    | cons b r => rw [jn_cons _ _ _ (by simp), pts_append c a _ ha, ih (by simp) (fun p hp => h p (List.mem_cons_of_mem _ hp))]
theorem jn_length (c : UInt8) (l : List (List UInt8)) : (jn c l).length ≤ (l.map List.length).sum + l.length := by
  induction l with
  | nil => simp [jn]
  | cons a r ih =>
    cases r with
    | nil => simp [jn]
    | cons b r => rw [jn_cons _ _ _ (by simp)]; simp only [List.length_append, List.length_cons, List.map_cons, List.sum_cons] at ih ⊢; omega
theorem indexByte_none (l : List UInt8) (c : UInt8) (h : Lib.indexByte l c = -1) : c ∉ l := by
  induction l with
  | nil => simp
  | cons b t ih =>
    unfold Lib.indexByte at h
    intro hm
    by_cases hb : b = c
    · subst hb; simp at h
    · have hb' : (b == c) = false := beq_eq_false_iff_ne.2 hb
      rw [hb'] at h
      simp only [Bool.false_eq_true, if_false] at h
      rcases List.mem_cons.1 hm with e | hm
      · exact hb e.symm
      · split at h
        · rename_i h1; exact ih (by simpa using h1) hm
        · have := Lib.indexByte_ge t c; omega
theorem indexByte_some (l : List UInt8) (c : UInt8) (h : Lib.indexByte l c ≠ -1) : ∃ i : Nat, Lib.indexByte l c = i ∧ i < l.length ∧ l = l.take i ++ c :: l.drop (i + 1) ∧ c ∉ l.take i := by
  induction l with
  | nil => exact absurd rfl h
  | cons b t ih =>
    unfold Lib.indexByte at h ⊢
    by_cases hb : b = c
    · subst hb; exact ⟨0, by simp, by simp, by simp, by simp⟩
    · have hb' : (b == c) = false := beq_eq_false_iff_ne.2 hb
      rw [hb'] at h ⊢
      simp only [Bool.false_eq_true, if_false] at h ⊢
      split at h
      · exact absurd rfl h
      · rename_i h1
        obtain ⟨i, hi, hl, he, hn⟩ := ih (by simpa using h1)
        rw [if_neg h1]
        refine ⟨i + 1, by rw [hi]; rfl, by simpa using hl, ?_, ?_⟩
        · simp only [List.take_succ_cons, List.drop_succ_cons, List.cons_append]; rw [← he]
        · intro hm; rcases List.mem_cons.1 hm with e | hm
          · exact hb e.symm
          · exact hn hm
theorem indexByte_cases (l : List UInt8) (c : UInt8) : (Lib.indexByte l c = -1 ∧ c ∉ l) ∨ ∃ i : Nat, Lib.indexByte l c = i ∧ i < l.length ∧ l = l.take i ++ c :: l.drop (i + 1) ∧ c ∉ l.take i := by
  by_cases h : Lib.indexByte l c = -1
  · exact .inl ⟨h, indexByte_none l c h⟩
  · exact .inr (indexByte_some l c h)
end Go.Proofs.YtinndapmljnifaaDoor.P
