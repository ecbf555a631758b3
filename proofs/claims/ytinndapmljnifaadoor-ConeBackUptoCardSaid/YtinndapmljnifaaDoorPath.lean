/- Paths and their reference over plain lists: what the laws of path and of cone share. -/
import Derived.Test.YtinndapmljnifaaDoorMore
namespace Go.Proofs.YtinndapmljnifaaDoor.P
open Go.RowKit
open Go.Proofs.YtinndapmljnifaaDoorW.PrintWords Go.Proofs.YtinndapmljnifaaDoorW.PrintLast Go.Proofs.YtinndapmljnifaaDoorW.PrintMore
theorem parse_join (ps : List (List UInt8)) (h : okParts ps = true) : parseL (jn 47 ps) = (ps, 0) := by
  have hk := h
  unfold okParts at h
  simp only [Bool.and_eq_true, decide_eq_true_eq] at h
  cases ps with
  | nil => rfl
  | cons a r =>
    have ha : nameOk a = true := by have := h.2; simp only [List.all_cons, Bool.and_eq_true] at this; exact this.1
    have hp : pts 47 (jn 47 (a :: r)) = a :: r := pts_jn 47 _ (by simp) (fun p hp => nameOk_no (List.all_eq_true.1 h.2 p hp))
    have hne : jn 47 (a :: r) ≠ [] := by
      have h1 := (nameOk_length ha).1
      cases r with
      | nil => intro e; simp only [jn] at e; rw [e] at h1; simp at h1
      | cons b r => rw [jn_cons _ _ _ (by simp)]; simp
    unfold parseL
    rw [if_neg hne, hp, if_pos hk]
theorem join_parse (s : List UInt8) (h : (parseL s).2 = 0) : okParts (parseL s).1 = true ∧ jn 47 (parseL s).1 = s := by
  unfold parseL at h ⊢
  by_cases h0 : s = []
  · rw [if_pos h0]; exact ⟨rfl, h0.symm⟩
  · rw [if_neg h0] at h ⊢
    by_cases hk : okParts (pts 47 s) = true
    · rw [if_pos hk]; exact ⟨hk, jn_pts 47 s⟩
    · rw [if_neg hk] at h; exact absurd h (by decide)
def splitL (s : List UInt8) : List UInt8 × List UInt8 × Int :=
  if (parseL s).2 = 0 ∧ (parseL s).1 ≠ [] then (jn 47 ((parseL s).1.take ((parseL s).1.length - 1)), (parseL s).1.getD ((parseL s).1.length - 1) [], 0) else ([], [], 40)
theorem okParts_take {ps : List (List UInt8)} (h : okParts ps = true) (n : Nat) : okParts (ps.take n) = true := by
  unfold okParts at h ⊢
  simp only [Bool.and_eq_true, decide_eq_true_eq] at h ⊢
  refine ⟨by rw [List.length_take]; omega, ?_⟩
  rw [List.all_eq_true] at h ⊢
  exact fun x hx => h.2 x (List.mem_of_mem_take hx)
theorem wrapM (n : Nat) (h : n < 4611686018427387904) : wrap64 (((n + 1 : Nat) : Int) - 1) = (n : Int) := by
  unfold wrap64; omega
theorem okParts_all {ps : List (List UInt8)} (h : okParts ps = true) : ps.all nameOk = true ∧ ps.length ≤ 16 := by
  unfold okParts at h
  simp only [Bool.and_eq_true, decide_eq_true_eq] at h
  exact ⟨h.2, h.1⟩
theorem splitL_some (s : List UInt8) (ps : List (List UInt8)) (m : Nat) (h : (parseL s).2 = 0) (e : (parseL s).1 = ps) (hm : ps.length = m + 1) : splitL s = (jn 47 (ps.take m), ps.getD m [], 0) := by
  unfold splitL
  rw [if_pos ⟨h, by rw [e]; intro x; rw [x] at hm; exact absurd hm (by simp)⟩, e, hm]
  rfl
theorem splitL_none (s : List UInt8) (h : (parseL s).2 = 0 → (parseL s).1 = []) : splitL s = ([], [], 40) := by
  unfold splitL
  rw [if_neg (fun x => x.2 (h x.1))]
theorem split_ev (s : List UInt8) (hs : s.length < 4294967281) : Ev (fun k => path_Split.f k (ba s)) (ba (splitL s).1, ba (splitL s).2.1, (splitL s).2.2) := by
  unfold path_Split.f
  refine Ev.bind (parse_ev s hs) ?_
  by_cases h : (parseL s).2 = 0
  · obtain ⟨h1, _⟩ := join_parse s h
    refine Ev.pos h ?_
    obtain ⟨ps, hps⟩ : ∃ ps, (parseL s).1 = ps := ⟨_, rfl⟩
    rw [hps] at h1 ⊢
    rcases Nat.eq_zero_or_pos ps.length with h0 | h0
    · obtain rfl := List.eq_nil_of_length_eq_zero h0
      rw [splitL_none s (fun _ => hps)]
      exact Ev.pos rfl (Ev.val rfl)
    · obtain ⟨m, hm⟩ : ∃ m, ps.length = m + 1 := ⟨ps.length - 1, by omega⟩
      have ha := okParts_all h1
      have hw : wrap64 (((ps.map ba).length : Int) - 1) = (m : Int) := by rw [List.length_map, hm]; exact wrapM m (by omega)
      have hj := strings_Join_eq (ps.take m) (okParts_all (okParts_take h1 m)).1 (okParts_all (okParts_take h1 m)).2
      rw [splitL_some s ps m h hps hm]
      simp only [hw, Int.toNat_natCast]
      rw [← List.map_take]
      refine Ev.neg (by rw [List.length_map]; omega) (Ev.pos (by omega) (Ev.pos (by rw [List.length_map]; omega) (Ev.have_ hj (Ev.pos (by rw [List.length_map]; omega) (Ev.val ?_)))))
      rw [rd_map]
  · rw [splitL_none s (fun x => absurd x h)]
    exact Ev.neg h (Ev.val rfl)
def holdsL (d s : List UInt8) : Bool := d == [] || s == d || (d ++ [47]).isPrefixOf s
def withinL (d s : List UInt8) : Bool := decide ((parseL d).2 = 0) && decide ((parseL s).2 = 0) && holdsL d s
theorem prefix_eq (s p : List UInt8) : (s.take p.length == p) = p.isPrefixOf s := by
  rw [Bool.eq_iff_iff, beq_iff_eq, List.isPrefixOf_iff_prefix]
  constructor
  · intro e; rw [← e]; exact List.take_prefix _ _
  · intro e; exact (List.prefix_iff_eq_take.1 e).symm
theorem hasPrefix_eq (s p : List UInt8) : strings_HasPrefix.f (ba s) (ba p) = some (p.isPrefixOf s) := by
  unfold strings_HasPrefix.f stringslite_HasPrefix.f
  rw [ba_size, ba_size]
  by_cases h : (s.length : Int) ≥ (p.length : Int)
  · rw [if_pos h, if_pos (by omega), if_pos (by omega)]
    simp only [Int.toNat_natCast, Option.bind_some]
    rw [ba_extract, ba_toList, ba_toList, List.drop_zero, prefix_eq s p]
  · rw [if_neg h]
    simp only [Option.bind_some]
    congr 1
    rw [eq_comm, ← Bool.not_eq_true, List.isPrefixOf_iff_prefix]
    intro e
    have := e.length_le
    omega
theorem holds_eq (d s : List UInt8) (hd : d.length < 4294967281) : path_text_holds.f (ba d) (ba s) = some (holdsL d s) := by
  unfold path_text_holds.f holdsL
  rw [ba_toList, ba_toList, ba_size]
  by_cases h1 : d = []
  · rw [if_pos h1]; simp [h1]
  · rw [if_neg h1]
    by_cases h2 : s = d
    · rw [if_pos h2]; simp [h2]
    · have e : (⟨#[47]⟩ : ByteArray) = ba [47] := rfl
      rw [if_neg h2, if_pos (by omega), e, ba_append, hasPrefix_eq]
      rw [show (d == []) = false from beq_eq_false_iff_ne.2 h1, show (s == d) = false from beq_eq_false_iff_ne.2 h2]
      rfl
theorem within_ev (d s : List UInt8) (hd : d.length < 4294967281) (hs : s.length < 4294967281) : Ev (fun k => path_Within.f k (ba d) (ba s)) (withinL d s) := by
  unfold path_Within.f withinL
  refine Ev.bind (parse_ev d hd) (Ev.bind (parse_ev s hs) ?_)
  by_cases h1 : (parseL d).2 = 0
  · refine Ev.pos h1 ?_
    by_cases h2 : (parseL s).2 = 0
    · refine Ev.pos h2 (Ev.have_ (holds_eq d s hd) (Ev.val ?_))
      simp [h1, h2]
    · exact Ev.neg h2 (Ev.val (by simp [h2]))
  · exact Ev.neg h1 (Ev.val (by simp [h1]))
theorem pts_app (d t : List UInt8) : pts 47 (d ++ 47 :: t) = pts 47 d ++ pts 47 t := by
  have h := pts_jn 47 (pts 47 d ++ pts 47 t) (by simp [pts_ne]) (fun p hp => by
    rcases List.mem_append.1 hp with h | h
    · exact pts_mem 47 d p h
    · exact pts_mem 47 t p h)
  have e : jn 47 (pts 47 d ++ pts 47 t) = d ++ 47 :: t := by
    have g : ∀ l : List (List UInt8), l ≠ [] → jn 47 (l ++ pts 47 t) = jn 47 l ++ 47 :: t := by
      intro l
      induction l with
      | nil => intro h; exact absurd rfl h
      | cons a r ih =>
        intro _
        cases r with
        | nil => rw [List.singleton_append, jn_cons 47 a _ (pts_ne 47 t), jn_pts]; rfl
        | cons b r => rw [List.cons_append, jn_cons 47 a _ (by simp), ih (by simp), jn_cons 47 a (b :: r) (by simp)]; simp
    rw [g _ (pts_ne 47 d), jn_pts]
  rw [e] at h
  exact h
theorem jn_app (p q : List (List UInt8)) (hp : p ≠ []) (hq : q ≠ []) : jn 47 (p ++ q) = jn 47 p ++ 47 :: jn 47 q := by
  induction p with
  | nil => exact absurd rfl hp
  | cons a r ih =>
    cases r with
    | nil => rw [List.singleton_append, jn_cons 47 a _ hq]; rfl
    | cons b r => rw [List.cons_append, jn_cons 47 a _ (by simp), ih (by simp), jn_cons 47 a (b :: r) (by simp)]; simp
theorem holds_parts (d s : List UInt8) (h1 : (parseL d).2 = 0) (h2 : (parseL s).2 = 0) : holdsL d s = (parseL d).1.isPrefixOf (parseL s).1 := by
  have j1 := (join_parse d h1).2
  have j2 := (join_parse s h2).2
  rw [Bool.eq_iff_iff, List.isPrefixOf_iff_prefix]
  unfold holdsL
  simp only [Bool.or_eq_true, beq_iff_eq]
  rw [List.isPrefixOf_iff_prefix]
  by_cases hd : d = []
  · subst hd
    have : (parseL []).1 = [] := rfl
    rw [this]
    simp
  constructor
  · rintro ((h | h) | ⟨t, ht⟩)
    · exact absurd h hd
    · rw [h]; exact List.prefix_refl _
    · have hs : s ≠ [] := by intro e; rw [e] at ht; simp at ht
      have ed : (parseL d).1 = pts 47 d := by
        unfold parseL at h1 ⊢
        rw [if_neg hd] at h1 ⊢
        split at h1
        · rename_i hk; rw [if_pos hk]
        · exact absurd h1 (by decide)
      have es : (parseL s).1 = pts 47 s := by
        unfold parseL at h2 ⊢
        rw [if_neg hs] at h2 ⊢
        split at h2
        · rename_i hk; rw [if_pos hk]
        · exact absurd h2 (by decide)
      rw [ed, es, ← ht, List.append_assoc, List.singleton_append, pts_app]
      exact List.prefix_append _ _
  · rintro ⟨r, hr⟩
    by_cases h0 : r = []
    · left; right; rw [← j1, ← j2, ← hr, h0, List.append_nil]
    · by_cases hp : (parseL d).1 = []
      · exfalso; rw [hp] at j1; exact hd j1.symm
      · right
        refine ⟨jn 47 r, ?_⟩
        rw [← j2, ← hr, jn_app _ _ hp h0, j1]; simp
theorem jn_take_short (ps : List (List UInt8)) (h : okParts ps = true) (n : Nat) : (jn 47 (ps.take n)).length < 4294967281 := by
  have h1 := okParts_all (okParts_take h n)
  have := join_short _ h1.1 h1.2
  omega
theorem within_take (ps : List (List UInt8)) (h : okParts ps = true) (n : Nat) (q : List UInt8) (hq : (parseL q).2 = 0) (hp : ps.take n <+: (parseL q).1) : withinL (jn 47 (ps.take n)) q = true := by
  have e := parse_join _ (okParts_take h n)
  unfold withinL
  rw [holds_parts _ _ (by rw [e]) hq, e]
  simp only [decide_true, Bool.true_and, hq]
  rw [List.isPrefixOf_iff_prefix]
  exact hp
theorem cmpL_pre (d : List UInt8) (x : UInt8) (r : List UInt8) : cmpL d (d ++ x :: r) = -1 := by
  induction d with
  | nil => rfl
  | cons y d ih => rw [List.cons_append, cmpL_step, if_pos rfl, ih]
theorem holds_cmp (a b : List UInt8) (h : holdsL a b = true) : cmpL a b ≤ 0 := by
  unfold holdsL at h
  simp only [Bool.or_eq_true, beq_iff_eq] at h
  rw [List.isPrefixOf_iff_prefix] at h
  rcases h with (h | h) | ⟨t, h⟩
  · subst h; cases b <;> simp [cmpL]
  · subst h; rw [cmpL_self]; omega
  · rw [← h, List.append_assoc, List.singleton_append, cmpL_pre]; omega
theorem within_iff (a b : List UInt8) : withinL a b = true ↔ (parseL a).2 = 0 ∧ (parseL b).2 = 0 ∧ holdsL a b = true := by
  unfold withinL; simp [and_assoc]
theorem within_trans (a b c : List UInt8) (h1 : withinL a b = true) (h2 : withinL b c = true) : withinL a c = true := by
  rw [within_iff] at h1 h2 ⊢
  refine ⟨h1.1, h2.2.1, ?_⟩
  rw [holds_parts _ _ h1.1 h2.2.1]
  have p1 := h1.2.2
  have p2 := h2.2.2
  rw [holds_parts _ _ h1.1 h1.2.1] at p1
  rw [holds_parts _ _ h2.1 h2.2.1] at p2
  rw [List.isPrefixOf_iff_prefix] at p1 p2 ⊢
  exact p1.trans p2
theorem nests_parts (c : List UInt8) (ps : List (List UInt8)) (hps : (parseL c).1 = ps) (h0 : (parseL c).2 = 0) (hne : ps ≠ []) : ∃ m, splitL c = (jn 47 (ps.take m), ps.getD m [], 0) ∧ (1 ≤ (ps.getD m []).length ∧ (ps.getD m []).length ≤ 64) ∧ (jn 47 (ps.take m)).length < 4294967281 ∧ ps = ps.take m ++ [ps.getD m []] ∧ parseL (jn 47 (ps.take m)) = (ps.take m, 0) ∧ withinL (jn 47 (ps.take m)) c = true ∧ withinL c (jn 47 (ps.take m)) = false ∧ jn 47 ps = c := by
  have hj := join_parse c h0
  rw [hps] at hj
  obtain ⟨m, hm⟩ : ∃ m, ps.length = m + 1 := ⟨ps.length - 1, by have := List.length_pos_iff.2 hne; omega⟩
  have hsp := splitL_some c ps m h0 hps hm
  have hok := okParts_all hj.1
  have hnl := nameOk_length (List.all_eq_true.1 hok.1 (ps.getD m []) (by rw [List.getD_eq_getElem?_getD, List.getElem?_eq_getElem (by omega)]; exact List.getElem_mem _))
  have hdl := jn_take_short ps hj.1 m
  have hcs := jn_take_short ps hj.1 ps.length
  have htk : ps = ps.take m ++ [ps.getD m []] := by
    rw [List.getD_eq_getElem?_getD, List.getElem?_eq_getElem (by omega), Option.getD_some, ← List.take_succ_eq_append_getElem (by omega), ← hm, List.take_length]
  have pd := parse_join _ (okParts_take hj.1 m)
  have w1 : withinL (jn 47 (ps.take m)) c = true := within_take ps hj.1 m c h0 (by rw [hps]; exact List.take_prefix _ _)
  have w2 : withinL c (jn 47 (ps.take m)) = false := by
    rw [← Bool.not_eq_true, within_iff]
    rintro ⟨_, _, h⟩
    rw [holds_parts _ _ h0 (by rw [pd]), pd, hps, List.isPrefixOf_iff_prefix] at h
    have := h.length_le
    rw [List.length_take] at this
    omega
  exact ⟨m, hsp, hnl, hdl, htk, pd, w1, w2, hj.2⟩
end Go.Proofs.YtinndapmljnifaaDoor.P
