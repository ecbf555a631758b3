/- The laws PathReads, PathOrders, PathJoins, PathBack over plain lists. -/
import Derived.Test.YtpbfbamfnpcheaaDoorMore
namespace Go.Proofs.YtpbfbamfnpcheaaDoor.P
open Go.RowKit
open Go.Proofs.YtpbfbamfnpcheaaDoorW.PrintWords Go.Proofs.YtpbfbamfnpcheaaDoorW.PrintLast Go.Proofs.YtpbfbamfnpcheaaDoorW.PrintMore

theorem reads_loop (s : List UInt8) (hs : s.length < 4294967281) (e : Int) (qs : List (List UInt8)) (hq : (parseL s).1 = qs) : ∀ d (x4 : List ByteArray) n, x4.length < 4611686018427387904 → n ≤ x4.length → x4.length - n = d →
    Ev (fun k => tussocklaw04_PathReads.l0 k (ba s) true x4 e (qs.map ba) e true (n : Int)) true := by
  intro d
  induction d with
  | zero =>
    intro x4 n hb hn hd
    refine Ev.step (fun k => rfl) (Ev.neg (by omega) (Ev.bind (parse_ev s hs) (Ev.pos rfl (Ev.pos rfl (Ev.pos rfl (Ev.have_ (isName_eq s) (Ev.bind (refIsName_ev s) (Ev.pos (by simp) ?_))))))))
    rw [hq]
    refine Ev.bind (refSame_ev qs qs ?_) (Ev.val (by simp))
    have : (parseL s).1.length ≤ 16 := by
      unfold parseL
      split
      · simp
      · split
        · rename_i h
          unfold okParts at h
          simp only [Bool.and_eq_true, decide_eq_true_eq] at h
          exact h.1
        · simp
    rw [hq] at this
    omega
  | succ d ih =>
    intro x4 n hb hn hd
    refine Ev.step (fun k => rfl) (Ev.pos (by omega) (Ev.pos (by omega) ?_))
    rw [wrapN n (by omega)]
    exact ih _ (n + 1) (by rw [List.length_set]; exact hb) (by rw [List.length_set]; omega) (by rw [List.length_set]; omega)
theorem parse_le (s : List UInt8) : (parseL s).1.length ≤ 16 := by
  unfold parseL
  split
  · simp
  · split
    · rename_i h
      unfold okParts at h
      simp only [Bool.and_eq_true, decide_eq_true_eq] at h
      exact h.1
    · simp
theorem reads_ev (s : List UInt8) (hs : s.length < 4294967281) : Ev (fun k => tussocklaw04_PathReads.f k (ba s)) true := by
  unfold tussocklaw04_PathReads.f
  have hl := parse_le s
  refine Ev.bind shown_ev (Ev.bind (parse_ev s hs) (Ev.bind (refParse_ev s (by omega)) (Ev.bind (refSame_ev _ _ (by omega)) ?_)))
  have := reads_loop s hs (parseL s).2 _ rfl _ ((parseL s).1.map ba) 0 (by rw [List.length_map]; omega) (Nat.zero_le _) rfl
  simpa using this

theorem orders_ev (a b c : List UInt8) (ha : a.length < 4611686018427387904) (hb : b.length < 4611686018427387904) : Ev (fun k => tussocklaw04_PathOrders.f k (ba a) (ba b) (ba c)) true := by
  unfold tussocklaw04_PathOrders.f
  refine Ev.bind shown_ev (Ev.bind (cmp_ev a b ha) (Ev.bind (cmp_ev b c hb) (Ev.bind (cmp_ev a c ha) (Ev.pos rfl (Ev.bind (refCmp_ev a b ha) (Ev.pos rfl (Ev.bind (refCmp_ev b c hb) (Ev.pos rfl (Ev.bind (cmp_ev b a hb) ?_)))))))))
  have h1 := cmpL_range a b
  refine Ev.pos (by rw [cmpL_swap a b]; unfold wrap64; omega) (Ev.pos ?_ ?_)
  · rw [ba_toList, ba_toList, beq_iff_eq, Bool.eq_iff_iff]
    simp only [beq_iff_eq]
    exact cmpL_zero a b
  · by_cases c1 : cmpL a b > 0
    · exact Ev.pos c1 (Ev.now true)
    · refine Ev.neg c1 ?_
      by_cases c2 : cmpL b c > 0
      · exact Ev.pos c2 (Ev.now true)
      · refine Ev.neg c2 (Ev.val ?_)
        exact decide_eq_true (cmpL_trans a b c (by omega) (by omega))

theorem jn_snoc (ps : List (List UInt8)) (h : ps ≠ []) (x : List UInt8) : jn 47 (ps ++ [x]) = jn 47 ps ++ 47 :: x := by
  induction ps with
  | nil => exact absurd rfl h
  | cons a r ih =>
    cases r with
    | nil => rfl
    | cons b r => rw [List.cons_append, jn_cons 47 a _ (by simp), ih (by simp), jn_cons 47 a (b :: r) (by simp)]; simp
theorem refJoin_loop (ps : List (List UInt8)) (hl : ps.length ≤ 16) : ∀ d n, n ≤ ps.length → ps.length - n = d → (ps.take n).all nameOk = true →
    Ev (fun k => tussockref04_Join.l0 k (ps.map ba) (ba (jn 47 (ps.take n))) (n : Int)) (ba (joinL ps).1, (joinL ps).2) := by
  intro d
  induction d with
  | zero =>
    intro n hn hd ht
    obtain rfl : n = ps.length := by omega
    rw [List.take_length] at ht ⊢
    refine Ev.step (fun k => rfl) (Ev.neg (by rw [List.length_map]; omega) (Ev.val ?_))
    simp [joinL, okParts, hl, ht]
  | succ d ih =>
    intro n hn hd ht
    have hlt : n < ps.length := by omega
    have hg : ps.getD n [] = ps[n] := by rw [List.getD_eq_getElem?_getD, List.getElem?_eq_getElem hlt]; rfl
    have hs : ps.take (n + 1) = ps.take n ++ [ps[n]] := by rw [List.take_succ_eq_append_getElem hlt]
    refine Ev.step (fun k => rfl) (Ev.pos (by rw [List.length_map]; omega) (Ev.pos (by omega) ?_))
    rw [rd_map, hg]
    refine Ev.bind (refIsName_ev _) ?_
    cases hn' : nameOk ps[n] with
    | true =>
      refine Ev.pos rfl ?_
      have hj := join_short (ps.take n) ht (by rw [List.length_take]; omega)
      have hx := (nameOk_length hn').2
      have e47 : (⟨#[47]⟩ : ByteArray) = ba [47] := rfl
      by_cases h0 : n = 0
      · subst h0
        have ih1 := ih 1 (by omega) (by omega) (by rw [hs, List.all_append, ht]; simp [hn'])
        refine Ev.neg (by omega) (Ev.pos (by rw [ba_size, ba_size]; omega) ?_)
        rw [wrapN 0 (by omega), ba_append]
        rw [hs] at ih1
        exact ih1
      · refine Ev.pos (by omega) (Ev.pos (by rw [ba_size]; omega) (Ev.pos (by rw [e47, ba_append, ba_size, ba_size, List.length_append, List.length_singleton]; omega) ?_))
        rw [wrapN n (by omega), e47, ba_append, ba_append]
        have ih1 := ih (n + 1) (by omega) (by omega) (by rw [hs, List.all_append, ht]; simp [hn'])
        rw [hs, jn_snoc _ (by intro e; have h := congrArg List.length e; rw [List.length_take, List.length_nil] at h; omega)] at ih1
        have e2 : jn 47 (ps.take n) ++ [47] ++ ps[n] = jn 47 (ps.take n) ++ 47 :: ps[n] := by simp
        rw [e2]
        exact ih1
    | false =>
      refine Ev.neg (by decide) (Ev.val ?_)
      have : ps.all nameOk = false := List.all_eq_false.2 ⟨ps[n], List.getElem_mem hlt, by simp [hn']⟩
      simp [joinL, okParts, this, ba]
theorem refJoin_ev (ps : List (List UInt8)) : Ev (fun k => tussockref04_Join.f k (ps.map ba)) (ba (joinL ps).1, (joinL ps).2) := by
  unfold tussockref04_Join.f
  by_cases h : (((ps.map ba).length : Nat) : Int) > 16
  · refine Ev.pos h (Ev.val ?_)
    have : ¬ ps.length ≤ 16 := by rw [List.length_map] at h; omega
    simp [joinL, okParts, this, ba]
  · exact Ev.neg h (refJoin_loop ps (by rw [List.length_map] at h; omega) _ 0 (Nat.zero_le _) rfl rfl)
theorem joins_ev (ps : List (List UInt8)) : Ev (fun k => tussocklaw04_PathJoins.f k (ps.map ba)) true := by
  unfold tussocklaw04_PathJoins.f
  exact Ev.bind shown_ev (Ev.bind (join_ev ps) (Ev.bind (refJoin_ev ps) (Ev.pos rfl (Ev.pos rfl (Ev.val (by simp))))))

theorem parse_join (ps : List (List UInt8)) (h : okParts ps = true) : parseL (jn 47 ps) = (ps, 0) := by
  have hk := h
  unfold okParts at h
  simp only [Bool.and_eq_true, decide_eq_true_eq] at h
  cases ps with
  | nil => rfl
  | cons a r =>
    have ha : nameOk a = true := by have := h.2; simp only [List.all_cons, Bool.and_eq_true] at this; exact this.1
    have hp : pts 47 (jn 47 (a :: r)) = a :: r := pts_jn 47 _ (by simp) (fun p hp => nameOk_no (List.all_eq_true.1 h.2 p hp))
    have hne : jn 47 (a :: r) ≠ [] := by
      have h1 := (nameOk_length ha).1
      cases r with
      | nil => intro e; simp only [jn] at e; rw [e] at h1; simp at h1
      | cons b r => rw [jn_cons _ _ _ (by simp)]; simp
    unfold parseL
    rw [if_neg hne, hp, if_pos hk]
theorem join_parse (s : List UInt8) (h : (parseL s).2 = 0) : okParts (parseL s).1 = true ∧ jn 47 (parseL s).1 = s := by
  unfold parseL at h ⊢
  by_cases h0 : s = []
  · rw [if_pos h0]; exact ⟨rfl, h0.symm⟩
  · rw [if_neg h0] at h ⊢
    by_cases hk : okParts (pts 47 s) = true
    · rw [if_pos hk]; exact ⟨hk, jn_pts 47 s⟩
    · rw [if_neg hk] at h; exact absurd h (by decide)
theorem back_j0 (ps : List (List UInt8)) : Ev (fun k => tussocklaw04_PathBack.j0 k (ps.map ba) true) true := by
  refine Ev.step (fun k => rfl) (Ev.bind (join_ev ps) ?_)
  by_cases h : okParts ps = true
  · have e : joinL ps = (jn 47 ps, 0) := by unfold joinL; rw [if_pos h]
    rw [e]
    have hk := h
    unfold okParts at h
    simp only [Bool.and_eq_true, decide_eq_true_eq] at h
    have hs := join_short ps h.2 h.1
    refine Ev.pos rfl (Ev.bind (parse_ev (jn 47 ps) (by omega)) ?_)
    rw [parse_join ps hk]
    exact Ev.pos rfl (Ev.pos rfl (Ev.bind (refSame_ev ps ps (by omega)) (Ev.val (by simp))))
  · have e : joinL ps = ([], 40) := by unfold joinL; rw [if_neg h]
    rw [e]
    exact Ev.neg (by decide) (Ev.now true)
theorem back_ev (s : List UInt8) (hs : s.length < 4294967281) (ps : List (List UInt8)) : Ev (fun k => tussocklaw04_PathBack.f k (ba s) (ps.map ba)) true := by
  unfold tussocklaw04_PathBack.f
  refine Ev.bind shown_ev (Ev.bind (parse_ev s hs) ?_)
  by_cases h : (parseL s).2 = 0
  · obtain ⟨h1, h2⟩ := join_parse s h
    refine Ev.pos h (Ev.bind (join_ev _) ?_)
    have e : joinL (parseL s).1 = (s, 0) := by unfold joinL; rw [if_pos h1, h2]
    rw [e]
    exact Ev.pos rfl (Ev.pos rfl (back_j0 ps))
  · exact Ev.neg h (back_j0 ps)
end Go.Proofs.YtpbfbamfnpcheaaDoor.P
