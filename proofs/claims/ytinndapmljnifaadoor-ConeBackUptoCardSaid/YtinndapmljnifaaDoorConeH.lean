/- cone.Parse answers what the plain lists say. -/
import Derived.Test.YtinndapmljnifaaDoorConeF
import Derived.Test.YtinndapmljnifaaDoorGivenE
namespace Go.Proofs.YtinndapmljnifaaDoor.P
open Go.RowKit Go.Proofs.YtinndapmljnifaaDoor.S Go.Proofs.YtinndapmljnifaaDoor.Q
open Go.Proofs.YtinndapmljnifaaDoorW.PrintWords Go.Proofs.YtinndapmljnifaaDoorW.PrintLast Go.Proofs.YtinndapmljnifaaDoorW.PrintMore
theorem skip_eq (s : List UInt8) : skipped (ba s) = skipL s := by
  unfold skipped skipL
  rw [ba_data]
theorem parseFrom_ev (ls : List (List UInt8)) (hs : ∀ x ∈ ls, x.length < 4294967281) : ∀ i acc, acc.length + ls.length < 4000000000 → (∀ x ∈ acc, x.length < 4294967281) →
    Ev (fun k => parseFrom k i (acc.map ba) (ls.map ba)) ((parseG i acc ls).1.map ba, (parseG i acc ls).2.1, (parseG i acc ls).2.2) := by
  induction ls with
  | nil =>
    intro i acc ha hsa
    exact Ev.bind (of_ev acc (by rw [List.length_nil] at ha; omega) hsa) (Ev.val rfl)
  | cons s r ih =>
    intro i acc ha hsa
    have h1 := hs s List.mem_cons_self
    rw [List.length_cons] at ha
    have ih' := fun i acc => ih (fun x hx => hs x (List.mem_cons_of_mem _ hx)) i acc
    rw [List.map_cons, parseG]
    unfold parseFrom
    rw [skip_eq, ba_data]
    by_cases hk : skipL s = true
    · rw [if_pos hk]
      exact Ev.pos hk (ih' _ _ (by omega) hsa)
    · rw [if_neg hk]
      refine Ev.neg hk (Ev.pos (by rw [List.length_map]; omega) ?_)
      by_cases h42 : s = [42]
      · rw [if_pos h42]
        refine Ev.pos (beq_iff_eq.2 h42) ?_
        have := ih' (i + 1) (acc ++ [[]]) (by rw [List.length_append, List.length_singleton]; omega) (fun x hx => by
          rcases List.mem_append.1 hx with h | h
          · exact hsa x h
          · rw [List.mem_singleton.1 h]; decide)
        rw [List.map_append] at this
        exact this
      · rw [if_neg h42]
        refine Ev.neg (fun h => h42 (beq_iff_eq.1 h)) (Ev.bind (isPath_ev s h1) ?_)
        by_cases hp : isP s = true
        · rw [if_pos hp]
          refine Ev.pos hp ?_
          have := ih' (i + 1) (acc ++ [s]) (by rw [List.length_append, List.length_singleton]; omega) (fun x hx => by
            rcases List.mem_append.1 hx with h | h
            · exact hsa x h
            · rw [List.mem_singleton.1 h]; exact h1)
          rw [List.map_append] at this
          exact this
        · rw [if_neg hp]
          exact Ev.neg hp (Ev.val rfl)
theorem pts_short (c : UInt8) (l : List UInt8) : ∀ p ∈ pts c l, p.length ≤ l.length := by
  induction l with
  | nil => intro p hp; simp [pts] at hp; simp [hp]
  | cons x t ih =>
    intro p hp
    unfold pts at hp
    by_cases h : x = c
    · rw [if_pos h] at hp
      rcases List.mem_cons.1 hp with rfl | hp
      · simp
      · have := ih p hp; simp; omega
    · rw [if_neg h] at hp
      cases hq : pts c t with
      | nil => exact absurd hq (pts_ne c t)
      | cons a r =>
        rw [hq] at hp
        simp only at hp
        rcases List.mem_cons.1 hp with rfl | hp
        · have := ih a (by rw [hq]; exact List.mem_cons_self); simp; omega
        · have := ih p (by rw [hq]; exact List.mem_cons_of_mem _ hp); simp; omega
theorem parse_at (t : List UInt8) (ht : t.length < 3900000000) : Ev (fun k => cone_Parse.f k (ba t)) ((parseG 0 [] (pts 10 t)).1.map ba, (parseG 0 [] (pts 10 t)).2.1, (parseG 0 [] (pts 10 t)).2.2) := by
  unfold cone_Parse.f
  have h : strings_Split.f (ba t) ⟨#[10]⟩ = some ((pts 10 t).map ba) := by
    unfold strings_Split.f
    show (if (ba t).size < 4294967281 then some ((pts 10 (ba t).data.toList).map ba) else none) = _
    rw [if_pos (by rw [ba_size]; omega), ba_data]
  refine Ev.have_ h ?_
  have hc : (pts 10 t).length ≤ t.length + 1 := by
    rw [pts_length]
    have := List.count_le_length (a := (10 : UInt8)) (l := t)
    omega
  exact parseFrom_ev (pts 10 t) (fun x hx => by have := pts_short 10 t x hx; omega) 0 [] (by rw [List.length_nil]; omega) (by simp)
end Go.Proofs.YtinndapmljnifaaDoor.P
