/- Orders, directories, and what lies within what: the package path and its reference, over plain lists. -/
import Derived.Test.YtinndapmljnifaaDoorRef
namespace Go.Proofs.YtinndapmljnifaaDoor.P
open Go.RowKit
open Go.Proofs.YtinndapmljnifaaDoorW.PrintWords Go.Proofs.YtinndapmljnifaaDoorW.PrintLast Go.Proofs.YtinndapmljnifaaDoorW.PrintMore
def cmpL : List UInt8 → List UInt8 → Int
  | [], [] => 0
  | [], _ :: _ => -1
  | _ :: _, [] => 1
  | x :: s, y :: t => if x = y then cmpL s t else if x = 47 then -1 else if y = 47 then 1 else if x.toNat < y.toNat then -1 else 1
theorem cmpL_step (x y : UInt8) (s t : List UInt8) : cmpL (x :: s) (y :: t) = if x = y then cmpL s t else if x = 47 then -1 else if y = 47 then 1 else if x.toNat < y.toNat then -1 else 1 := rfl
theorem cmpL_swap (a : List UInt8) : ∀ b, cmpL b a = -cmpL a b := by
  induction a with
  | nil => intro b; cases b <;> rfl
  | cons x s ih =>
    intro b
    cases b with
    | nil => rfl
    | cons y t =>
      rw [cmpL_step, cmpL_step]
      by_cases e : x = y
      · subst e; rw [if_pos rfl, if_pos rfl, ih]
      · have e' : ¬ y = x := fun h => e h.symm
        have hn : x.toNat ≠ y.toNat := fun h => e (UInt8.toNat_inj.1 h)
        rw [if_neg e, if_neg e']
        by_cases h1 : x = 47
        · have h2 : ¬ y = 47 := fun h => e (h1.trans h.symm)
          rw [if_neg h2, if_pos h1, if_pos h1]; rfl
        · by_cases h2 : y = 47
          · rw [if_pos h2, if_neg h1, if_pos h2]
          · rw [if_neg h2, if_neg h1, if_neg h1, if_neg h2]
            by_cases h3 : x.toNat < y.toNat
            · rw [if_neg (by omega), if_pos h3]; rfl
            · rw [if_pos (by omega), if_neg h3]
theorem cmpL_zero (a : List UInt8) : ∀ b, cmpL a b = 0 ↔ a = b := by
  induction a with
  | nil => intro b; cases b <;> simp [cmpL]
  | cons x s ih =>
    intro b
    cases b with
    | nil => simp [cmpL]
    | cons y t =>
      rw [cmpL_step]
      by_cases e : x = y
      · subst e; rw [if_pos rfl, ih]; simp
      · rw [if_neg e]
        constructor
        · intro h
          repeat' split at h
          all_goals omega
        · intro h; exact absurd (List.cons.inj h).1 e
def rk (x : UInt8) : Int := if x = 47 then -1 else x.toNat
theorem rk_inj {x y : UInt8} (h : rk x = rk y) : x = y := by
  unfold rk at h
  by_cases h1 : x = 47 <;> by_cases h2 : y = 47
  · rw [h1, h2]
  · rw [if_pos h1, if_neg h2] at h; omega
  · rw [if_neg h1, if_pos h2] at h; omega
  · rw [if_neg h1, if_neg h2] at h; exact UInt8.toNat_inj.1 (by omega)
theorem cmpL_cons (x y : UInt8) (s t : List UInt8) : cmpL (x :: s) (y :: t) = if rk x < rk y then -1 else if rk y < rk x then 1 else cmpL s t := by
  rw [cmpL_step]
  by_cases e : x = y
  · subst e; rw [if_pos rfl, if_neg (by omega), if_neg (by omega)]
  · have hr : rk x ≠ rk y := fun h => e (rk_inj h)
    rw [if_neg e]
    by_cases h1 : x = 47
    · have h2 : ¬ y = 47 := fun h => e (h1.trans h.symm)
      rw [if_pos h1, if_pos]
      unfold rk; rw [if_pos h1, if_neg h2]; omega
    · by_cases h2 : y = 47
      · rw [if_neg h1, if_pos h2, if_neg, if_pos]
        · unfold rk; rw [if_neg h1, if_pos h2]; omega
        · unfold rk; rw [if_neg h1, if_pos h2]; omega
      · have ex : rk x = x.toNat := if_neg h1
        have ey : rk y = y.toNat := if_neg h2
        rw [if_neg h1, if_neg h2]
        by_cases h3 : x.toNat < y.toNat
        · rw [if_pos h3, if_pos (by omega)]
        · rw [if_neg h3, if_neg (by omega), if_pos (by omega)]
theorem cmpL_trans (a : List UInt8) : ∀ b c, cmpL a b ≤ 0 → cmpL b c ≤ 0 → cmpL a c ≤ 0 := by
  induction a with
  | nil => intro b c _ _; cases c <;> simp [cmpL]
  | cons x s ih =>
    intro b c h1 h2
    cases b with
    | nil => simp [cmpL] at h1
    | cons y t =>
      cases c with
      | nil => simp [cmpL] at h2
      | cons z u =>
        rw [cmpL_cons] at h1 h2 ⊢
        by_cases a1 : rk x < rk y
        · by_cases b1 : rk y < rk z
          · rw [if_pos (by omega)]; omega
          · rw [if_neg b1] at h2
            by_cases b2 : rk z < rk y
            · rw [if_pos b2] at h2; omega
            · rw [if_pos (by omega)]; omega
        · rw [if_neg a1] at h1
          by_cases a2 : rk y < rk x
          · rw [if_pos a2] at h1; omega
          · rw [if_neg a2] at h1
            by_cases b1 : rk y < rk z
            · rw [if_pos (by omega)]; omega
            · rw [if_neg b1] at h2
              by_cases b2 : rk z < rk y
              · rw [if_pos b2] at h2; omega
              · rw [if_neg b2] at h2
                rw [if_neg (by omega), if_neg (by omega)]
                exact ih t u h1 h2
theorem cmpL_self (a : List UInt8) : cmpL a a = 0 := (cmpL_zero a a).2 rfl
def sgn (a b : Int) : Int := if a < b then -1 else if a > b then 1 else 0
theorem cmpB_eq (a b : Int) : cmp_Compare_byte.f a b = some (sgn a b) := by
  unfold cmp_Compare_byte.f cmp_isNaN_byte.f sgn
  simp only [Option.bind_some, bne_self_eq_false, Bool.false_eq_true, if_false]
  split
  · rfl
  · split <;> rfl
theorem cmpI_eq (a b : Int) : cmp_Compare_int.f a b = some (sgn a b) := by
  unfold cmp_Compare_int.f cmp_isNaN_int.f sgn
  simp only [Option.bind_some, bne_self_eq_false, Bool.false_eq_true, if_false]
  split
  · rfl
  · split <;> rfl
theorem cmpL_nil_len (a b : List UInt8) (h : a = [] ∨ b = []) : cmpL a b = sgn (a.length : Int) (b.length : Int) := by
  rcases h with rfl | rfl
  · cases b with
    | nil => rfl
    | cons y t => unfold sgn; rw [if_pos (by simp only [List.length_nil, List.length_cons]; omega)]; rfl
  · cases a with
    | nil => rfl
    | cons y t => unfold sgn; rw [if_neg (by simp only [List.length_nil, List.length_cons]; omega), if_pos (by simp only [List.length_nil, List.length_cons]; omega)]; rfl
theorem cmp_loop (a b : List UInt8) (ha : a.length < 4611686018427387904) : ∀ d n, n ≤ a.length → n ≤ b.length → min a.length b.length - n = d →
    Ev (fun k => path_Compare.l0 k (ba a) (ba b) (mn ((ba a).size : Int) ((ba b).size : Int)) (n : Int)) (cmpL (a.drop n) (b.drop n)) := by
  intro d
  have hm : mn ((ba a).size : Int) ((ba b).size : Int) = ((min a.length b.length : Nat) : Int) := by
    unfold mn; rw [ba_size, ba_size]
    split <;> omega
  rw [hm]
  induction d with
  | zero =>
    intro n h1 h2 hd
    refine Ev.step (fun k => rfl) (Ev.neg (by omega) (Ev.have_ (cmpI_eq _ _) (Ev.val ?_)))
    rw [cmpL_nil_len]
    · rw [ba_size, ba_size, List.length_drop, List.length_drop]
      unfold sgn
      repeat' split
      all_goals omega
    · by_cases h : n = a.length
      · left; rw [h, List.drop_length]
      · right; exact List.drop_of_length_le (by omega)
  | succ d ih =>
    intro n h1 h2 hd
    have g1 : n < a.length := by omega
    have g2 : n < b.length := by omega
    refine Ev.step (fun k => rfl) (Ev.pos (by omega) (Ev.pos (by omega) (Ev.pos (by rw [ba_size]; omega) (Ev.pos (by rw [ba_size]; omega) ?_))))
    rw [ba_get, ba_get, List.getD_eq_getElem?_getD, List.getD_eq_getElem?_getD, List.getElem?_eq_getElem g1, List.getElem?_eq_getElem g2, List.drop_eq_getElem_cons g1, List.drop_eq_getElem_cons g2]
    simp only [Option.getD_some]
    by_cases e : a[n] = b[n]
    · refine Ev.pos (by rw [e]) ?_
      rw [wrapN n (by omega)]
      have h := ih (n + 1) (by omega) (by omega) (by omega)
      have e2 : cmpL (a[n] :: a.drop (n + 1)) (b[n] :: b.drop (n + 1)) = cmpL (a.drop (n + 1)) (b.drop (n + 1)) := by
        rw [e]
        show (if b[n] = b[n] then _ else _) = _
        rw [if_pos rfl]
      rw [e2]; exact h
    · refine Ev.neg (fun h => e ((toNat_eq _ _).1 h)) ?_
      have e2 : cmpL (a[n] :: a.drop (n + 1)) (b[n] :: b.drop (n + 1)) = if a[n] = 47 then -1 else if b[n] = 47 then 1 else if a[n].toNat < b[n].toNat then -1 else 1 := by
        show (if a[n] = b[n] then _ else _) = _
        rw [if_neg e]
      rw [e2]
      by_cases h3 : a[n] = 47
      · refine Ev.pos ((toNat_eq _ 47).2 h3) (Ev.val ?_)
        rw [if_pos h3]
      · refine Ev.neg (fun h => h3 ((toNat_eq _ 47).1 h)) ?_
        rw [if_neg h3]
        by_cases h4 : b[n] = 47
        · refine Ev.pos ((toNat_eq _ 47).2 h4) (Ev.val ?_)
          rw [if_pos h4]
        · refine Ev.neg (fun h => h4 ((toNat_eq _ 47).1 h)) (Ev.have_ (cmpB_eq _ _) (Ev.val ?_))
          rw [if_neg h4]
          have hn : a[n].toNat ≠ b[n].toNat := fun h => e (UInt8.toNat_inj.1 h)
          unfold sgn
          repeat' split
          all_goals omega
theorem cmp_ev (a b : List UInt8) (ha : a.length < 4611686018427387904) : Ev (fun k => path_Compare.f k (ba a) (ba b)) (cmpL a b) := by
  have := cmp_loop a b ha _ 0 (Nat.zero_le _) (Nat.zero_le _) rfl
  simpa [path_Compare.f] using this
end Go.Proofs.YtinndapmljnifaaDoor.P
