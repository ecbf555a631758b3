/- The laws PathParents and PathNests over plain lists. -/
import Derived.Test.YtpbfbamfnpcheaaDoorLawB
namespace Go.Proofs.YtpbfbamfnpcheaaDoor.P
open Go.RowKit
open Go.Proofs.YtpbfbamfnpcheaaDoorW.PrintWords Go.Proofs.YtpbfbamfnpcheaaDoorW.PrintLast Go.Proofs.YtpbfbamfnpcheaaDoorW.PrintMore

theorem jn_take_short (ps : List (List UInt8)) (h : okParts ps = true) (n : Nat) : (jn 47 (ps.take n)).length < 4294967281 := by
  have h1 := okParts_all (okParts_take h n)
  have := join_short _ h1.1 h1.2
  omega
theorem within_take (ps : List (List UInt8)) (h : okParts ps = true) (n : Nat) (q : List UInt8) (hq : (parseL q).2 = 0) (hp : ps.take n <+: (parseL q).1) : withinL (jn 47 (ps.take n)) q = true := by
  have e := parse_join _ (okParts_take h n)
  unfold withinL
  rw [holds_parts _ _ (by rw [e]) hq, e]
  simp only [decide_true, Bool.true_and, hq]
  rw [List.isPrefixOf_iff_prefix]
  exact hp
theorem split_take (ps : List (List UInt8)) (h : okParts ps = true) (n : Nat) (hn : n < ps.length) : splitL (jn 47 (ps.take (n + 1))) = (jn 47 (ps.take n), ps.getD n [], 0) := by
  have e := parse_join _ (okParts_take h (n + 1))
  rw [splitL_some _ (ps.take (n + 1)) n (by rw [e]) (by rw [e]) (by rw [List.length_take]; omega), List.take_take, Nat.min_eq_left (by omega)]
  congr 2
  rw [List.getD_eq_getElem?_getD, List.getD_eq_getElem?_getD, List.getElem?_take, if_pos (by omega)]
theorem parents_loop (s : List UInt8) (hs : s.length < 4294967281) (h : (parseL s).2 = 0) (ps : List (List UInt8)) (hps : (parseL s).1 = ps) (ok : okParts ps = true) : ∀ n (i : Int), n ≤ ps.length → i = (n : Int) - 1 →
    Ev (fun k => tussocklaw04_PathParents.l0 k (ba s) true (ps.map ba) (ba (jn 47 (ps.take n))) i) true := by
  intro n
  induction n with
  | zero =>
    intro i hn hi
    refine Ev.step (fun k => rfl) (Ev.neg (by omega) (Ev.pos rfl (Ev.val ?_)))
    rw [ba_toList]; rfl
  | succ n ih =>
    intro i hn hi
    have hl := okParts_all ok
    refine Ev.step (fun k => rfl) (Ev.pos (by omega) (Ev.bind (split_ev _ (jn_take_short ps ok _)) ?_))
    rw [split_take ps ok n (by omega)]
    obtain rfl : i = (n : Int) := by omega
    refine Ev.pos rfl (Ev.pos (by omega) (Ev.pos (by rw [List.length_map]; omega) (Ev.pos (by rw [rd_map]) (Ev.bind (within_ev _ s (jn_take_short ps ok _) hs) (Ev.pos ?_ (Ev.bind (within_ev _ _ (jn_take_short ps ok _) (jn_take_short ps ok _)) (Ev.pos ?_ ?_)))))))
    · exact within_take ps ok n s h (by rw [hps]; exact List.take_prefix _ _)
    · have e := parse_join _ (okParts_take ok (n + 1))
      refine within_take ps ok n _ (by rw [e]) ?_
      rw [e]
      refine ⟨(ps.drop n).take 1, ?_⟩
      rw [← List.take_add]
    · exact ih _ (by omega) (by unfold wrap64; omega)
theorem parents_ev (s : List UInt8) (hs : s.length < 4294967281) : Ev (fun k => tussocklaw04_PathParents.f k (ba s)) true := by
  unfold tussocklaw04_PathParents.f
  refine Ev.bind shown_ev (Ev.bind (parse_ev s hs) ?_)
  by_cases h : (parseL s).2 = 0
  · refine Ev.pos h ?_
    have hj := join_parse s h
    have hl := okParts_all hj.1
    have := parents_loop s hs h _ rfl hj.1 (parseL s).1.length (((parseL s).1.length : Int) - 1) (Nat.le_refl _) rfl
    rw [List.take_length, hj.2] at this
    have e : wrap64 ((((parseL s).1.map ba).length : Int) - 1) = ((parseL s).1.length : Int) - 1 := by rw [List.length_map]; unfold wrap64; omega
    simp only [e]
    exact this
  · exact Ev.neg h (Ev.val rfl)

theorem cmpL_pre (d : List UInt8) (x : UInt8) (r : List UInt8) : cmpL d (d ++ x :: r) = -1 := by
  induction d with
  | nil => rfl
  | cons y d ih => rw [List.cons_append, cmpL_step, if_pos rfl, ih]
theorem holds_cmp (a b : List UInt8) (h : holdsL a b = true) : cmpL a b ≤ 0 := by
  unfold holdsL at h
  simp only [Bool.or_eq_true, beq_iff_eq] at h
  rw [List.isPrefixOf_iff_prefix] at h
  rcases h with (h | h) | ⟨t, h⟩
  · subst h; cases b <;> simp [cmpL]
  · subst h; rw [cmpL_self]; omega
  · rw [← h, List.append_assoc, List.singleton_append, cmpL_pre]; omega
theorem within_iff (a b : List UInt8) : withinL a b = true ↔ (parseL a).2 = 0 ∧ (parseL b).2 = 0 ∧ holdsL a b = true := by
  unfold withinL; simp [and_assoc]
theorem within_trans (a b c : List UInt8) (h1 : withinL a b = true) (h2 : withinL b c = true) : withinL a c = true := by
  rw [within_iff] at h1 h2 ⊢
  refine ⟨h1.1, h2.2.1, ?_⟩
  rw [holds_parts _ _ h1.1 h2.2.1]
  have p1 := h1.2.2
  have p2 := h2.2.2
  rw [holds_parts _ _ h1.1 h1.2.1] at p1
  rw [holds_parts _ _ h2.1 h2.2.1] at p2
  rw [List.isPrefixOf_iff_prefix] at p1 p2 ⊢
  exact p1.trans p2
theorem nests_j1_eq (k : Nat) (x0 x1 x2 : ByteArray) (x7 : Bool) : tussocklaw04_PathNests.j1 (k + 1) x0 x1 x2 x7 = (path_Within.f k x0 x1).bind fun t256 => (if x7 = true then (if t256 = true then ((path_Within.f k x1 x2).bind fun t257 => (if t257 = true then ((path_Within.f k x0 x2).bind fun t258 => (if t258 = true then ((path_Compare.f k x0 x1).bind fun t259 => (some (decide (t259 ≤ 0)))) else (some false))) else ((path_Compare.f k x0 x1).bind fun t260 => (some (decide (t260 ≤ 0)))))) else (some true)) else (some false)) := by simp only [tussocklaw04_PathNests.j1]
theorem nests_j0_eq (k : Nat) (x0 x1 x2 : ByteArray) (x7 : Bool) (x8 x11 : ByteArray) : tussocklaw04_PathNests.j0 (k + 1) x0 x1 x2 x7 x8 x11 = if x11.toList = x2.toList then ((path_Within.f k x8 x2).bind fun t253 => (if t253 = true then ((path_Within.f k x2 x8).bind fun t254 => (if t254 = true then (some false) else ((path_Compare.f k x8 x2).bind fun t255 => (if t255 ≥ 0 then (some false) else (tussocklaw04_PathNests.j1 k x0 x1 x2 x7))))) else (some false))) else (some false) := by simp only [tussocklaw04_PathNests.j0]
theorem nests_j1 (a b c : List UInt8) (ha : a.length < 4294967281) (hb : b.length < 4294967281) (hc : c.length < 4294967281) : Ev (fun k => tussocklaw04_PathNests.j1 k (ba a) (ba b) (ba c) true) true := by
  refine Ev.step (fun k => nests_j1_eq k _ _ _ _) (Ev.bind (within_ev a b ha hb) (Ev.pos rfl ?_))
  by_cases h1 : withinL a b = true
  · have hle := holds_cmp a b ((within_iff a b).1 h1).2.2
    refine Ev.pos h1 (Ev.bind (within_ev b c hb hc) ?_)
    by_cases h2 : withinL b c = true
    · exact Ev.pos h2 (Ev.bind (within_ev a c ha hc) (Ev.pos (within_trans a b c h1 h2) (Ev.bind (cmp_ev a b (by omega)) (Ev.val (decide_eq_true hle)))))
    · exact Ev.neg h2 (Ev.bind (cmp_ev a b (by omega)) (Ev.val (decide_eq_true hle)))
  · exact Ev.neg h1 (Ev.now true)
theorem nests_j0 (a b c d t : List UInt8) (ha : a.length < 4294967281) (hb : b.length < 4294967281) (hc : c.length < 4294967281) (hd : d.length < 4294967281) (ht : t = c) (h1 : withinL d c = true) (h2 : withinL c d = false) (h3 : cmpL d c < 0) : Ev (fun k => tussocklaw04_PathNests.j0 k (ba a) (ba b) (ba c) true (ba d) (ba t)) true :=
  Ev.step (fun k => nests_j0_eq k _ _ _ _ _ _) (Ev.pos (by rw [ht]) (Ev.bind (within_ev d c hd hc) (Ev.pos h1 (Ev.bind (within_ev c d hc hd) (Ev.neg (by rw [h2]; decide) (Ev.bind (cmp_ev d c (by omega)) (Ev.neg (by omega) (nests_j1 a b c ha hb hc))))))))
theorem nests_parts (c : List UInt8) (ps : List (List UInt8)) (hps : (parseL c).1 = ps) (h0 : (parseL c).2 = 0) (hne : ps ≠ []) : ∃ m, splitL c = (jn 47 (ps.take m), ps.getD m [], 0) ∧ (1 ≤ (ps.getD m []).length ∧ (ps.getD m []).length ≤ 64) ∧ (jn 47 (ps.take m)).length < 4294967281 ∧ ps = ps.take m ++ [ps.getD m []] ∧ parseL (jn 47 (ps.take m)) = (ps.take m, 0) ∧ withinL (jn 47 (ps.take m)) c = true ∧ withinL c (jn 47 (ps.take m)) = false ∧ jn 47 ps = c := by
  have hj := join_parse c h0
  rw [hps] at hj
  obtain ⟨m, hm⟩ : ∃ m, ps.length = m + 1 := ⟨ps.length - 1, by have := List.length_pos_iff.2 hne; omega⟩
  have hsp := splitL_some c ps m h0 hps hm
  have hok := okParts_all hj.1
  have hnl := nameOk_length (List.all_eq_true.1 hok.1 (ps.getD m []) (by rw [List.getD_eq_getElem?_getD, List.getElem?_eq_getElem (by omega)]; exact List.getElem_mem _))
  have hdl := jn_take_short ps hj.1 m
  have hcs := jn_take_short ps hj.1 ps.length
  have htk : ps = ps.take m ++ [ps.getD m []] := by
    rw [List.getD_eq_getElem?_getD, List.getElem?_eq_getElem (by omega), Option.getD_some, ← List.take_succ_eq_append_getElem (by omega), ← hm, List.take_length]
  have pd := parse_join _ (okParts_take hj.1 m)
  have w1 : withinL (jn 47 (ps.take m)) c = true := within_take ps hj.1 m c h0 (by rw [hps]; exact List.take_prefix _ _)
  have w2 : withinL c (jn 47 (ps.take m)) = false := by
    rw [← Bool.not_eq_true, within_iff]
    rintro ⟨_, _, h⟩
    rw [holds_parts _ _ h0 (by rw [pd]), pd, hps, List.isPrefixOf_iff_prefix] at h
    have := h.length_le
    rw [List.length_take] at this
    omega
  exact ⟨m, hsp, hnl, hdl, htk, pd, w1, w2, hj.2⟩
theorem nests_ev (a b c : List UInt8) (ha : a.length < 4294967281) (hb : b.length < 4294967281) (hc : c.length < 4294967281) : Ev (fun k => tussocklaw04_PathNests.f k (ba a) (ba b) (ba c)) true := by
  unfold tussocklaw04_PathNests.f
  refine Ev.bind shown_ev (Ev.bind (split_ev c hc) ?_)
  by_cases h : (parseL c).2 = 0 ∧ (parseL c).1 ≠ []
  · obtain ⟨m, hsp, hnl, hdl, htk, pd, w1, w2, hjc⟩ := nests_parts c _ rfl h.1 h.2
    rw [hsp]
    generalize jn 47 ((parseL c).1.take m) = d at *
    have e47 : (⟨#[47]⟩ : ByteArray) = ba [47] := rfl
    rw [e47]
    simp only [ba_append, ba_size, ba_toList, List.length_append, List.length_singleton]
    refine Ev.pos trivial (Ev.pos (by omega) (Ev.pos (by omega) ?_))
    by_cases hd0 : d = []
    · subst hd0
      have e0 : (parseL c).1.take m = [] := (congrArg Prod.fst pd).symm
      have ec : c = (parseL c).1.getD m [] := by
        rw [e0, List.nil_append] at htk
        have := hjc
        rw [htk] at this
        exact this.symm
      refine Ev.pos rfl (nests_j0 a b c [] _ ha hb hc hdl ec.symm w1 w2 ?_)
      have : c ≠ [] := by intro e; rw [← ec, e] at hnl; simp at hnl
      cases c with
      | nil => exact absurd rfl this
      | cons x r => simp [cmpL]
    · have e0 : (parseL c).1.take m ≠ [] := by
        intro e
        have h1 : parseL d = ([], 0) := by rw [pd, e]
        have := (join_parse d (by rw [h1])).2
        rw [h1] at this
        exact hd0 this.symm
      have ec : c = d ++ 47 :: (parseL c).1.getD m [] := by
        have h1 := (join_parse d (by rw [pd])).2
        rw [pd] at h1
        have h2 := hjc
        rw [htk, jn_snoc _ e0, h1] at h2
        exact h2.symm
      refine Ev.neg hd0 (nests_j0 a b c d _ ha hb hc hdl (by rw [List.append_assoc, List.singleton_append]; exact ec.symm) w1 w2 ?_)
      generalize (parseL c).1.getD m [] = nm at ec
      rw [ec, cmpL_pre]
      omega
  · rw [splitL_none c (fun x => Classical.not_not.1 fun y => h ⟨x, y⟩)]
    exact Ev.neg (by decide) (nests_j1 a b c ha hb hc)
end Go.Proofs.YtpbfbamfnpcheaaDoor.P
