/- Cones over plain lists: order and containment; Dir, Has and their references. -/
import Derived.Test.YtinndapmljnifaaDoorPath
import Derived.Test.YtinndapmljnifaaDoorSx1
namespace Go.Proofs.YtinndapmljnifaaDoor.P
open Go.RowKit Go.Proofs.YtinndapmljnifaaDoor.S
open Go.Proofs.YtinndapmljnifaaDoorW.PrintWords Go.Proofs.YtinndapmljnifaaDoorW.PrintLast Go.Proofs.YtinndapmljnifaaDoorW.PrintMore
def isP (s : List UInt8) : Bool := decide ((parseL s).2 = 0)
theorem isP_iff (s : List UInt8) : isP s = true ↔ (parseL s).2 = 0 := decide_eq_true_iff
theorem within_l {a b : List UInt8} (h : withinL a b = true) : isP a = true := (isP_iff a).2 ((within_iff a b).1 h).1
theorem within_self {a : List UInt8} (h : isP a = true) : withinL a a = true := by
  rw [isP_iff] at h
  exact (within_iff a a).2 ⟨h, h, by simp [holdsL]⟩
theorem within_cmp {a b : List UInt8} (h : withinL a b = true) : cmpL a b ≤ 0 := holds_cmp a b ((within_iff a b).1 h).2.2
theorem cmp_anti {a b : List UInt8} (h1 : cmpL a b ≤ 0) (h2 : cmpL b a ≤ 0) : a = b := by
  have := cmpL_swap a b
  exact (cmpL_zero a b).1 (by omega)
theorem within_anti {a b : List UInt8} (h1 : withinL a b = true) (h2 : withinL b a = true) : a = b := cmp_anti (within_cmp h1) (within_cmp h2)
theorem rk_low (x : UInt8) : -1 ≤ rk x := by
  unfold rk
  split <;> omega
theorem rk_slash : rk 47 = -1 := rfl
theorem between (a : List UInt8) : ∀ b t : List UInt8, cmpL a b ≤ 0 → cmpL b (a ++ 47 :: t) ≤ 0 → b = a ∨ (a ++ [47]) <+: b := by
  induction a with
  | nil =>
    intro b t h1 h2
    cases b with
    | nil => left; rfl
    | cons y b =>
      right
      rw [List.nil_append, cmpL_cons, rk_slash] at h2
      have hy := rk_low y
      rw [if_neg (by omega)] at h2
      by_cases e : -1 < rk y
      · rw [if_pos e] at h2; omega
      · have : y = 47 := rk_inj (by rw [rk_slash]; omega)
        subst this
        exact ⟨b, rfl⟩
  | cons x a ih =>
    intro b t h1 h2
    cases b with
    | nil => simp [cmpL] at h1
    | cons y b =>
      rw [cmpL_cons] at h1
      rw [List.cons_append, cmpL_cons] at h2
      by_cases e1 : rk x < rk y
      · rw [if_neg (by omega), if_pos e1] at h2; omega
      · rw [if_neg e1] at h1
        by_cases e2 : rk y < rk x
        · rw [if_pos e2] at h1; omega
        · rw [if_neg e2] at h1
          rw [if_neg e2, if_neg e1] at h2
          obtain rfl : x = y := rk_inj (by omega)
          rcases ih b t h1 h2 with h | ⟨q, h⟩
          · left; rw [h]
          · right; exact ⟨q, by rw [← h]; rfl⟩
theorem within_between {a b c : List UInt8} (h : withinL a c = true) (hb : isP b = true) (h1 : cmpL a b ≤ 0) (h2 : cmpL b c ≤ 0) : withinL a b = true := by
  have hh := (within_iff a c).1 h
  have ha := hh.1
  rw [isP_iff] at hb
  refine (within_iff a b).2 ⟨ha, hb, ?_⟩
  have hc := hh.2.2
  unfold holdsL at hc ⊢
  simp only [Bool.or_eq_true, beq_iff_eq] at hc ⊢
  rw [List.isPrefixOf_iff_prefix] at hc ⊢
  rcases hc with (hc | hc) | ⟨t, hc⟩
  · exact .inl (.inl hc)
  · subst hc; exact .inl (.inr (cmp_anti h2 h1))
  · rw [← hc, List.append_assoc, List.singleton_append] at h2
    rcases between a b t h1 h2 with h | h
    · exact .inl (.inr h)
    · exact .inr h
theorem within_either {a b c : List UInt8} (h1 : withinL a c = true) (h2 : withinL b c = true) : withinL a b = true ∨ withinL b a = true := by
  by_cases e : cmpL a b ≤ 0
  · exact .inl (within_between h1 (within_l h2) e (within_cmp h2))
  · exact .inr (within_between h2 (within_l h1) (by have := cmpL_swap a b; omega) (within_cmp h1))
def dirFrom (o : Int) (s : List UInt8) : List (List UInt8) → Int
  | [] => o
  | c :: r => if withinL c s = true then 2 else dirFrom (if withinL s c = true then 1 else o) s r
def dirL (cone : List (List UInt8)) (s : List UInt8) : Int := if isP s = true then dirFrom (if s = [] then 1 else 0) s cone else 0
def hasL (cone : List (List UInt8)) (s : List UInt8) : Bool := decide ((splitL s).2.2 = 0) && (decide (dirL cone (splitL s).1 > 0) || decide (dirL cone s = 2))
theorem isPath_ev (s : List UInt8) (hs : s.length < 4294967281) : Ev (fun k => cone_isPath.f k (ba s)) (isP s) := by
  unfold cone_isPath.f
  exact Ev.bind (parse_ev s hs) (Ev.val (by unfold isP; rw [Bool.eq_iff_iff]; simp))
theorem cone_Dir_j0_eq (k : Nat) (x0 : List ByteArray) (x1 : ByteArray) (x5 : Int) : cone_Dir.j0 (k + 1) x0 x1 x5 = cone_Dir.l0 k x1 x5 x0 (x0.length : Int) 0 := by simp only [cone_Dir.j0]
theorem cone_Dir_l0_eq (k : Nat) (x1 : ByteArray) (x5 : Int) (x13 : List ByteArray) (x14 : Int) (x15 : Int) : cone_Dir.l0 (k + 1) x1 x5 x13 x14 x15 = if x15 < x14 then (if 0 ≤ x15 then (if x15 < (x13.length : Int) then ((path_Within.f k (rdOf ByteArray.empty x13 x15) x1).bind fun t130 => (if t130 = true then (some 2) else ((path_Within.f k x1 (rdOf ByteArray.empty x13 x15)).bind fun t131 => (if t131 = true then (cone_Dir.l0 k x1 1 x13 x14 (wrap64 (x15 + 1))) else (cone_Dir.l0 k x1 x5 x13 x14 (wrap64 (x15 + 1))))))) else (none)) else (none)) else (some x5) := by simp only [cone_Dir.l0]
theorem splitL_short (s : List UInt8) : (splitL s).1.length < 4294967281 := by
  by_cases hp : (parseL s).2 = 0 ∧ (parseL s).1 ≠ []
  · obtain ⟨m, hsp, _, hd, _⟩ := nests_parts s _ rfl hp.1 hp.2
    rw [hsp]; exact hd
  · rw [splitL_none s (fun x => Classical.not_not.1 fun y => hp ⟨x, y⟩)]
    decide
theorem drop_at (l : List (List UInt8)) (n : Nat) (h : n < l.length) : l.drop n = l.getD n [] :: l.drop (n + 1) := by
  rw [List.drop_eq_getElem_cons h, List.getD_eq_getElem?_getD, List.getElem?_eq_getElem h]; rfl
theorem getD_mem (l : List (List UInt8)) (n : Nat) (h : n < l.length) : l.getD n [] ∈ l := by
  rw [List.getD_eq_getElem?_getD, List.getElem?_eq_getElem h]; exact List.getElem_mem _
theorem dir_loop (s : List UInt8) (hs : s.length < 4294967281) (cone : List (List UInt8)) (hc : ∀ c ∈ cone, c.length < 4294967281) (hl : cone.length < 4611686018427387904) : ∀ d n (o : Int), n ≤ cone.length → cone.length - n = d →
    Ev (fun k => cone_Dir.l0 k (ba s) o (cone.map ba) ((cone.map ba).length : Int) (n : Int)) (dirFrom o s (cone.drop n)) := by
  intro d
  induction d with
  | zero =>
    intro n o hn hd
    rw [List.drop_of_length_le (by omega)]
    exact Ev.step (fun k => cone_Dir_l0_eq k _ _ _ _ _) (Ev.neg (by rw [List.length_map]; omega) (Ev.val rfl))
  | succ d ih =>
    intro n o hn hd
    have h1 : n < cone.length := by omega
    have hm := hc _ (getD_mem cone n h1)
    rw [drop_at cone n h1, dirFrom]
    refine Ev.step (fun k => cone_Dir_l0_eq k _ _ _ _ _) (Ev.pos (by rw [List.length_map]; omega) (Ev.pos (by omega) (Ev.pos (by rw [List.length_map]; omega) ?_)))
    rw [rd_map]
    refine Ev.bind (within_ev _ s hm hs) ?_
    by_cases w1 : withinL (cone.getD n []) s = true
    · rw [if_pos w1]; exact Ev.pos w1 (Ev.val rfl)
    · rw [if_neg w1]
      refine Ev.neg w1 (Ev.bind (within_ev s _ hs hm) ?_)
      have ih1 := fun o => ih (n + 1) o (by omega) (by omega)
      by_cases w2 : withinL s (cone.getD n []) = true
      · rw [if_pos w2]
        refine Ev.pos w2 ?_
        rw [wrapN n (by omega)]
        exact ih1 1
      · rw [if_neg w2]
        refine Ev.neg w2 ?_
        rw [wrapN n (by omega)]
        exact ih1 o
theorem dir_ev (cone : List (List UInt8)) (s : List UInt8) (hs : s.length < 4294967281) (hc : ∀ c ∈ cone, c.length < 4294967281) (hl : cone.length < 4611686018427387904) : Ev (fun k => cone_Dir.f k (cone.map ba) (ba s)) (dirL cone s) := by
  unfold cone_Dir.f dirL
  refine Ev.bind (isPath_ev s hs) ?_
  have go := fun o => dir_loop s hs cone hc hl _ 0 o (Nat.zero_le _) rfl
  by_cases h : isP s = true
  · rw [if_pos h]
    refine Ev.pos h ?_
    rw [ba_toList]
    by_cases e : s = []
    · rw [if_pos e]
      exact Ev.pos e (Ev.step (fun k => cone_Dir_j0_eq k _ _ _) (go 1))
    · rw [if_neg e]
      exact Ev.neg e (Ev.step (fun k => cone_Dir_j0_eq k _ _ _) (go 0))
  · rw [if_neg h]
    exact Ev.neg h (Ev.val rfl)
theorem has_ev (cone : List (List UInt8)) (s : List UInt8) (hs : s.length < 4294967281) (hc : ∀ c ∈ cone, c.length < 4294967281) (hl : cone.length < 4611686018427387904) : Ev (fun k => cone_Has.f k (cone.map ba) (ba s)) (hasL cone s) := by
  unfold cone_Has.f hasL
  refine Ev.bind (split_ev s hs) ?_
  have hd : (splitL s).1.length < 4294967281 := splitL_short s
  by_cases h : (splitL s).2.2 = 0
  · refine Ev.pos h (Ev.bind (dir_ev cone _ hd hc hl) ?_)
    by_cases h1 : dirL cone (splitL s).1 > 0
    · exact Ev.pos h1 (Ev.val (by simp [h, h1]))
    · refine Ev.neg h1 (Ev.bind (dir_ev cone s hs hc hl) (Ev.val ?_))
      rw [Bool.eq_iff_iff]; simp [h, h1]
  · exact Ev.neg h (Ev.val (by simp [h]))
theorem dirFrom_two (s : List UInt8) (cone : List (List UInt8)) : ∀ o : Int, o ≤ 1 → (dirFrom o s cone = 2 ↔ ∃ c ∈ cone, withinL c s = true) := by
  induction cone with
  | nil => intro o ho; simp [dirFrom]; omega
  | cons c r ih =>
    intro o ho
    rw [dirFrom]
    by_cases h : withinL c s = true
    · rw [if_pos h]; simp [h]
    · rw [if_neg h, ih _ (by split <;> omega)]; simp [h]
theorem dirFrom_val (s : List UInt8) (cone : List (List UInt8)) : ∀ o : Int, (¬ ∃ c ∈ cone, withinL c s = true) → dirFrom o s cone = if ∃ c ∈ cone, withinL s c = true then 1 else o := by
  induction cone with
  | nil => intro o _; simp [dirFrom]
  | cons c r ih =>
    intro o hn
    rw [dirFrom, if_neg (fun h => hn ⟨c, List.mem_cons_self, h⟩), ih _ (fun ⟨c, hc, h⟩ => hn ⟨c, List.mem_cons_of_mem _ hc, h⟩)]
    by_cases h1 : ∃ c ∈ r, withinL s c = true
    · obtain ⟨d, hd, hw⟩ := h1
      rw [if_pos ⟨d, hd, hw⟩, if_pos ⟨d, List.mem_cons_of_mem _ hd, hw⟩]
    · rw [if_neg h1]
      by_cases h2 : withinL s c = true
      · rw [if_pos h2, if_pos ⟨c, List.mem_cons_self, h2⟩]
      · rw [if_neg h2, if_neg]
        rintro ⟨d, hd, hw⟩
        rcases List.mem_cons.1 hd with e | e
        · exact h2 (e ▸ hw)
        · exact h1 ⟨d, e, hw⟩
def anyIn (cone : List (List UInt8)) (s : List UInt8) : Prop := ∃ c ∈ cone, withinL c s = true
def anyAbove (cone : List (List UInt8)) (s : List UInt8) : Prop := ∃ c ∈ cone, withinL s c = true
open Classical in
theorem dirL_val (cone : List (List UInt8)) (s : List UInt8) : dirL cone s = if isP s = true then (if anyIn cone s then 2 else if anyAbove cone s ∨ s = [] then 1 else 0) else 0 := by
  unfold dirL
  by_cases hp : isP s = true
  · rw [if_pos hp, if_pos hp]
    by_cases h : anyIn cone s
    · rw [if_pos h]
      exact (dirFrom_two s cone _ (by split <;> omega)).2 h
    · rw [if_neg h, dirFrom_val s cone _ h]
      by_cases h1 : anyAbove cone s
      · rw [if_pos (show anyAbove cone s ∨ s = [] from .inl h1), if_pos (show ∃ c ∈ cone, withinL s c = true from h1)]
      · rw [if_neg (show ¬ ∃ c ∈ cone, withinL s c = true from h1)]
        by_cases h2 : s = []
        · rw [if_pos h2, if_pos (show anyAbove cone s ∨ s = [] from .inr h2)]
        · rw [if_neg h2, if_neg (show ¬ (anyAbove cone s ∨ s = []) from fun x => x.elim h1 h2)]
  · rw [if_neg hp, if_neg hp]
end Go.Proofs.YtinndapmljnifaaDoor.P
