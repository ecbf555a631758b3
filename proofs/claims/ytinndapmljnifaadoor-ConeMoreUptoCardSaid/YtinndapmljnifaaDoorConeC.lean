/- The laws ConeAsks and ConeFiles over plain lists. -/
import Derived.Test.YtinndapmljnifaaDoorConeB
import Derived.Test.YtinndapmljnifaaDoorAx1
namespace Go.Proofs.YtinndapmljnifaaDoor.P
open Go.RowKit Go.Proofs.YtinndapmljnifaaDoor.S Go.Proofs.YtinndapmljnifaaDoor.Q Go.Proofs.YtinndapmljnifaaDoor.A
open Go.Proofs.YtinndapmljnifaaDoorW.PrintWords Go.Proofs.YtinndapmljnifaaDoorW.PrintLast Go.Proofs.YtinndapmljnifaaDoorW.PrintMore

theorem few_eq (l : List (List UInt8)) : tussocklaw18_few.f (l.map ba) = some ((l.take 200).map ba) := by
  unfold tussocklaw18_few.f
  rw [List.map_take]
theorem take_all {l : List (List UInt8)} {p : List UInt8 → Prop} (h : ∀ x ∈ l, p x) (n : Nat) : ∀ x ∈ l.take n, p x := fun x hx => h x (List.mem_of_mem_take hx)
theorem take_len (l : List (List UInt8)) : (l.take 200).length ≤ 200 := by rw [List.length_take]; omega
theorem asks_ev (l : List (List UInt8)) (s : List UInt8) (hl : ∀ x ∈ l, x.length < 4294967281) (hs : s.length < 4294967281) : Ev (fun k => tussocklaw18_ConeAsks.f k (l.map ba) (ba s)) true := by
  unfold tussocklaw18_ConeAsks.f
  have hm := take_all hl 200
  have h2 := take_len l
  generalize hmm : l.take 200 = m at hm h2
  have hf := few_eq l
  rw [hmm] at hf
  exact Ev.bind shown_ev (Ev.have_ hf (Ev.pos rfl (Ev.bind (has_ev m s hs hm (by omega)) (Ev.bind (refHas_ev m s hs hm (by omega)) (Ev.pos (by simp) (Ev.bind (dir_ev m s hs hm (by omega)) (Ev.bind (refDir_ev m s hs hm (by omega)) (Ev.val (by simp)))))))))
theorem dir_two_in (m : List (List UInt8)) (s : List UInt8) (h : (splitL s).2.2 = 0) (h2 : dirL m (splitL s).1 = 2) : dirL m s = 2 := by
  rw [dirL_two] at h2 ⊢
  obtain ⟨c, hc, hw⟩ := h2
  exact ⟨c, hc, within_trans _ _ _ hw (split_within s h).2⟩
theorem files_ev (l : List (List UInt8)) (s : List UInt8) (hl : ∀ x ∈ l, x.length < 4294967281) (hs : s.length < 4294967281) : Ev (fun k => tussocklaw18_ConeFiles.f k (l.map ba) (ba s)) true := by
  unfold tussocklaw18_ConeFiles.f
  have hm := take_all hl 200
  have h2 := take_len l
  generalize hmm : l.take 200 = m at hm h2
  have hf := few_eq l
  rw [hmm] at hf
  refine Ev.bind shown_ev (Ev.have_ hf (Ev.bind (split_ev s hs) ?_))
  have hh := has_ev m s hs hm (by omega)
  by_cases h0 : (splitL s).2.2 = 0
  · have hd := dir_ev m (splitL s).1 (splitL_short s) hm (by omega)
    have e : hasL m s = (decide (dirL m (splitL s).1 > 0) || decide (dirL m s = 2)) := by unfold hasL; rw [decide_eq_true h0, Bool.true_and]
    refine Ev.pos h0 (Ev.bind (dir_ev m s hs hm (by omega)) (Ev.pos rfl (Ev.bind hh (Ev.bind hd ?_))))
    have fin : Ev (fun k => (cone_Dir.f k (m.map ba) (ba (splitL s).1)).bind fun t => if t = 2 then some (dirL m s == 2) else some true) true := by
      refine Ev.bind hd ?_
      by_cases h4 : dirL m (splitL s).1 = 2
      · exact Ev.pos h4 (Ev.val (by simp [dir_two_in m s h0 h4]))
      · exact Ev.neg h4 (Ev.now true)
    by_cases h3 : dirL m (splitL s).1 > 0
    · exact Ev.pos h3 (Ev.pos (by rw [e, decide_eq_true h3]; rfl) fin)
    · refine Ev.neg h3 (Ev.pos ?_ fin)
      rw [e, decide_eq_false h3, Bool.false_or, beq_iff_eq, Bool.eq_iff_iff]
      simp
  · refine Ev.neg h0 (Ev.pos rfl (Ev.bind hh (Ev.val ?_)))
    unfold hasL
    rw [decide_eq_false h0]; rfl
end Go.Proofs.YtinndapmljnifaaDoor.P
