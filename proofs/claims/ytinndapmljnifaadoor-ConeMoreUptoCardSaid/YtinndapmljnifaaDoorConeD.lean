/- The law ConeMore over plain lists. -/
import Derived.Test.YtinndapmljnifaaDoorConeC
import Derived.Test.YtinndapmljnifaaDoorBx1
namespace Go.Proofs.YtinndapmljnifaaDoor.P
open Go.RowKit Go.Proofs.YtinndapmljnifaaDoor.S Go.Proofs.YtinndapmljnifaaDoor.Q Go.Proofs.YtinndapmljnifaaDoor.B
open Go.Proofs.YtinndapmljnifaaDoorW.PrintWords Go.Proofs.YtinndapmljnifaaDoorW.PrintLast Go.Proofs.YtinndapmljnifaaDoorW.PrintMore

theorem hasL_iff (m : List (List UInt8)) (s : List UInt8) : hasL m s = true ↔ (splitL s).2.2 = 0 ∧ (dirL m (splitL s).1 > 0 ∨ dirL m s = 2) := by
  unfold hasL; simp
theorem hasL_mono (m all : List (List UInt8)) (s : List UInt8) (h : ∀ c ∈ m, c ∈ all) (hm : hasL m s = true) : hasL all s = true := by
  rw [hasL_iff] at hm ⊢
  refine ⟨hm.1, hm.2.imp (fun h1 => ?_) (fun h1 => ?_)⟩
  · have := dirL_le m all (splitL s).1 h; omega
  · rw [dirL_two] at h1 ⊢
    obtain ⟨c, hc, hw⟩ := h1
    exact ⟨c, h c hc, hw⟩
theorem hasL_root (m : List (List UInt8)) (s : List UInt8) : hasL (m ++ [[]]) s = decide ((splitL s).2.2 = 0) := by
  rw [Bool.eq_iff_iff, hasL_iff, decide_eq_true_iff]
  constructor
  · exact fun h => h.1
  · intro h
    refine ⟨h, .inl ?_⟩
    have : dirL (m ++ [[]]) (splitL s).1 = 2 := (dirL_two _ _).2 ⟨[], by simp, within_nil (within_l (split_within s h).2)⟩
    omega
theorem more_ev (l more : List (List UInt8)) (s : List UInt8) (hl : ∀ x ∈ l, x.length < 4294967281) (hk : ∀ x ∈ more, x.length < 4294967281) (hs : s.length < 4294967281) (hn : more.length < 8000000000000) : Ev (fun k => tussocklaw18_ConeMore.f k (l.map ba) (more.map ba) (ba s)) true := by
  unfold tussocklaw18_ConeMore.f
  have hm := take_all hl 200
  have h2 := take_len l
  have hm' := take_all hk 200
  have h2' := take_len more
  have hf := few_eq l
  have hf' := few_eq more
  generalize l.take 200 = m at hm h2 hf
  generalize more.take 200 = q at hm' h2' hf'
  have e1 : wrap64 (((m.map ba).length : Int) + ((more.map ba).length : Int)) = ((m.length + more.length : Nat) : Int) := by
    rw [List.length_map, List.length_map]; unfold wrap64; omega
  have e2 : wrap64 (((m.map ba).length : Int) + 1) = ((m.length + 1 : Nat) : Int) := by
    rw [List.length_map]; unfold wrap64; omega
  have hall : ∀ x ∈ m ++ q, x.length < 4294967281 := fun x hx => (List.mem_append.1 hx).elim (hm x) (hm' x)
  have hroot : ∀ x ∈ m ++ [[]], x.length < 4294967281 := fun x hx => (List.mem_append.1 hx).elim (hm x) (fun h => by rw [List.mem_singleton.1 h]; decide)
  have d1 := dir_ev m s hs hm (by omega)
  have d2 := dir_ev (m ++ q) s hs hall (by rw [List.length_append]; omega)
  have a1 := has_ev m s hs hm (by omega)
  have a2 := has_ev (m ++ q) s hs hall (by rw [List.length_append]; omega)
  have a3 := has_ev (m ++ [[]]) s hs hroot (by rw [List.length_append, List.length_singleton]; omega)
  rw [List.map_append] at d2 a2 a3
  have eb : ([[]] : List (List UInt8)).map ba = [(⟨#[]⟩ : ByteArray)] := rfl
  rw [eb] at a3
  have sub : ∀ c ∈ m, c ∈ m ++ q := fun c hc => List.mem_append_left _ hc
  have last : Ev (fun k => (cone_Has.f k (m.map ba ++ [(⟨#[]⟩ : ByteArray)]) (ba s)).bind fun t => some (t == ((splitL s).2.2 == 0))) true := by
    refine Ev.bind a3 (Ev.val ?_)
    rw [hasL_root, beq_iff_eq, Bool.eq_iff_iff]; simp
  refine Ev.bind shown_ev (Ev.have_ hf ?_)
  simp only [e1, e2]
  refine Ev.pos (by omega) (Ev.pos (by omega) (Ev.have_ rfl (Ev.pos (by rw [List.length_map, List.length_nil]; omega) (Ev.have_ rfl (Ev.have_ hf' (Ev.pos (by rw [List.length_append, List.length_map, List.length_map, List.length_nil]; omega) (Ev.have_ rfl ?_)))))))
  refine Ev.pos (by omega) (Ev.pos (by omega) (Ev.have_ rfl (Ev.pos (by rw [List.length_map, List.length_nil]; omega) (Ev.have_ rfl (Ev.pos (by rw [List.length_append, List.length_map, List.length_nil]; omega) (Ev.have_ rfl (Ev.bind (split_ev s hs) (Ev.pos trivial (Ev.bind a1 ?_)))))))))
  rw [List.nil_append]
  by_cases h : hasL m s = true
  · exact Ev.pos h (Ev.bind a2 (Ev.pos (hasL_mono m _ s sub h) (Ev.bind d1 (Ev.bind d2 (Ev.pos (dirL_le m _ s sub) last)))))
  · exact Ev.neg h (Ev.bind d1 (Ev.bind d2 (Ev.pos (dirL_le m _ s sub) last)))
end Go.Proofs.YtinndapmljnifaaDoor.P
