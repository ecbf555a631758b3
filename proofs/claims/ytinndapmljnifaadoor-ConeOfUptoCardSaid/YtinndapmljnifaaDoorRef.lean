/- What the reference's functions of layer 4 answer: the same plain lists. -/
import Derived.Test.YtinndapmljnifaaDoorSpec
namespace Go.Proofs.YtinndapmljnifaaDoor.P
open Go.RowKit
open Go.Proofs.YtinndapmljnifaaDoorW.PrintWords Go.Proofs.YtinndapmljnifaaDoorW.PrintLast Go.Proofs.YtinndapmljnifaaDoorW.PrintMore
def sepB (c : UInt8) : Bool := c == 47 || c == 0
theorem toNat_eq (c : UInt8) (n : UInt8) : ((c.toNat : Int) = (n.toNat : Int)) ↔ c = n := by
  constructor
  · intro h; apply UInt8.toNat_inj.1; omega
  · rintro rfl; rfl
theorem isName_j0 (k : Nat) (x : ByteArray) (b : Bool) : tussockref04_IsName.j0 (k + 1) x b = if b = true then some false else tussockref04_IsName.l0 k x 0 := by simp only [tussockref04_IsName.j0]
theorem isName_l0 (k : Nat) (x0 : ByteArray) (x3 : Int) : tussockref04_IsName.l0 (k + 1) x0 x3 = if x3 < (x0.size : Int) then (if 0 ≤ x3 then (if (bt x0 x3) = 47 then (some false) else (if (bt x0 x3) = 0 then (some false) else (tussockref04_IsName.l0 k x0 (wrap64 (x3 + 1))))) else (none)) else (some true) := by simp only [tussockref04_IsName.l0]
theorem parse_l0 (k : Nat) (x0 : ByteArray) (x4 : List ByteArray) (x5 x6 : Int) : tussockref04_Parse.l0 (k + 1) x0 x4 x5 x6 = if x6 ≤ (x0.size : Int) then (if x6 < (x0.size : Int) then (if 0 ≤ x6 then (tussockref04_Parse.j1 k x0 x4 x5 x6 ((bt x0 x6) != 47)) else (none)) else (tussockref04_Parse.j1 k x0 x4 x5 x6 false)) else (some (x4, 0)) := by simp only [tussockref04_Parse.l0]
theorem parse_j1 (k : Nat) (x0 : ByteArray) (x4 : List ByteArray) (x5 x6 : Int) (x26 : Bool) : tussockref04_Parse.j1 (k + 1) x0 x4 x5 x6 x26 = if x26 = true then (tussockref04_Parse.l0 k x0 x4 x5 (wrap64 (x6 + 1))) else (if 0 ≤ x5 then (if x5 ≤ x6 then (if x6 ≤ (x0.size : Int) then ((tussockref04_IsName.f k (x0.extract (x5 : Int).toNat (x6 : Int).toNat)).bind fun t123 => (if t123 = true then (if (x4.length : Int) = 16 then (some (([] : List ByteArray), 40)) else (if x4.length < 8796093022208 then (tussockref04_Parse.l0 k x0 (x4 ++ [x0.extract (x5 : Int).toNat (x6 : Int).toNat]) (wrap64 (x6 + 1)) (wrap64 (x6 + 1))) else (none))) else (some (([] : List ByteArray), 40)))) else (none)) else (none)) else (none)) := by simp only [tussockref04_Parse.j1]
theorem refIsName_loop (l : List UInt8) (hl : l.length < 4611686018427387904) : ∀ d n, n ≤ l.length → l.length - n = d →
    Ev (fun k => tussockref04_IsName.l0 k (ba l) (n : Int)) (!((l.drop n).any sepB)) := by
  intro d
  induction d with
  | zero =>
    intro n hn hd
    obtain rfl : n = l.length := by omega
    refine Ev.step (fun k => isName_l0 k _ _) (Ev.neg (by rw [ba_size]; omega) (Ev.val ?_))
    simp
  | succ d ih =>
    intro n hn hd
    have hlt : n < l.length := by omega
    have hdr : l.drop n = l.getD n 0 :: l.drop (n + 1) := by
      rw [List.getD_eq_getElem?_getD, List.getElem?_eq_getElem hlt]
      exact List.drop_eq_getElem_cons hlt
    rw [hdr, List.any_cons]
    refine Ev.step (fun k => isName_l0 k _ _) (Ev.pos (by rw [ba_size]; omega) (Ev.pos (by omega) ?_))
    rw [ba_get]
    by_cases h1 : l.getD n 0 = 47
    · refine Ev.pos ((toNat_eq _ 47).2 h1) (Ev.val ?_)
      rw [h1]; rfl
    · refine Ev.neg (fun h => h1 ((toNat_eq _ 47).1 h)) ?_
      by_cases h2 : l.getD n 0 = 0
      · refine Ev.pos ((toNat_eq _ 0).2 h2) (Ev.val ?_)
        rw [h2]; rfl
      · refine Ev.neg (fun h => h2 ((toNat_eq _ 0).1 h)) ?_
        rw [wrapN n (by omega)]
        have e : sepB (l.getD n 0) = false := by
          unfold sepB
          rw [beq_eq_false_iff_ne.2 h1, beq_eq_false_iff_ne.2 h2]; rfl
        rw [e, Bool.false_or]
        exact ih (n + 1) (by omega) (by omega)
theorem refIsName_ev (l : List UInt8) : Ev (fun k => tussockref04_IsName.f k (ba l)) (nameOk l) := by
  unfold tussockref04_IsName.f
  simp only [ba_size, ba_toList]
  have yes : ∀ {r : Bool}, r = false → Ev (fun k => tussockref04_IsName.j0 k (ba l) true) r := fun h => Ev.step (fun k => isName_j0 k _ _) (Ev.pos rfl (Ev.val h.symm))
  by_cases h1 : (l.length : Int) < 1
  · refine Ev.pos h1 (yes ?_)
    have : l = [] := List.eq_nil_of_length_eq_zero (by omega)
    simp [nameOk, this]
  refine Ev.neg h1 ?_
  by_cases h2 : (l.length : Int) > 64
  · refine Ev.pos h2 (yes ?_)
    have : ¬ l.length ≤ 64 := by omega
    simp [nameOk, this]
  refine Ev.neg h2 ?_
  by_cases h3 : l = [46]
  · refine Ev.pos h3 (yes ?_)
    simp [nameOk, h3]
  refine Ev.neg h3 ?_
  by_cases h4 : l = [46, 46]
  · rw [show (l == [46, 46]) = true from beq_iff_eq.2 h4]
    refine yes ?_
    simp [nameOk, h4]
  rw [show (l == [46, 46]) = false from beq_eq_false_iff_ne.2 h4]
  refine Ev.step (fun k => isName_j0 k _ _) (Ev.neg (by decide) ?_)
  have h := refIsName_loop l (by omega) l.length 0 (Nat.zero_le _) rfl
  have e : nameOk l = !((l.drop 0).any sepB) := by
    have h0 : l ≠ [] := by intro e; subst e; exact h1 (by decide)
    have hs : l.length ≤ 64 := by omega
    unfold nameOk
    rw [decide_eq_true hs, beq_eq_false_iff_ne.2 h0, beq_eq_false_iff_ne.2 h3, beq_eq_false_iff_ne.2 h4]
    rfl
  rw [e]
  exact h
def goP : List (List UInt8) → List (List UInt8) → List (List UInt8) × Int
  | acc, [] => (acc, 0)
  | acc, p :: r => if nameOk p = true then (if acc.length = 16 then ([], 40) else goP (acc ++ [p]) r) else ([], 40)
theorem goP_eq (ps : List (List UInt8)) : ∀ acc : List (List UInt8), acc.length ≤ 16 → goP acc ps = if ps.all nameOk = true ∧ acc.length + ps.length ≤ 16 then (acc ++ ps, 0) else ([], 40) := by
  induction ps with
  | nil => intro acc h; simp [goP, h]
  | cons p r ih =>
    intro acc h
    unfold goP
    by_cases hp : nameOk p = true
    · rw [if_pos hp]
      by_cases h16 : acc.length = 16
      · rw [if_pos h16, if_neg]
        simp only [List.length_cons]; omega
      · rw [if_neg h16, ih _ (by simp; omega)]
        have e : (r.all nameOk = true ∧ (acc ++ [p]).length + r.length ≤ 16) ↔ ((p :: r).all nameOk = true ∧ acc.length + (p :: r).length ≤ 16) := by
          simp only [List.all_cons, hp, Bool.true_and, List.length_append, List.length_cons, List.length_nil]
          constructor
          · rintro ⟨a, b⟩; exact ⟨a, by omega⟩
          · rintro ⟨a, b⟩; exact ⟨a, by omega⟩
        by_cases hh : r.all nameOk = true ∧ (acc ++ [p]).length + r.length ≤ 16
        · rw [if_pos hh, if_pos (e.1 hh)]; simp
        · rw [if_neg hh, if_neg (fun x => hh (e.2 x))]
    · rw [if_neg hp, if_neg]
      simp [hp]
theorem goP_parse (s : List UInt8) (h : s ≠ []) : goP [] (pts 47 s) = parseL s := by
  rw [goP_eq _ [] (by simp)]
  unfold parseL okParts
  rw [if_neg h]
  by_cases h1 : (pts 47 s).all nameOk = true
  · by_cases h2 : (pts 47 s).length ≤ 16
    · simp [h1, h2]
    · simp [h1, h2]
  · simp [h1]
theorem refParse_loop (rest : List UInt8) : ∀ (pre cur : List UInt8) (acc : List (List UInt8)), (pre ++ cur ++ rest).length < 4611686018427387904 → (47 : UInt8) ∉ cur → acc.length ≤ 16 →
    Ev (fun k => tussockref04_Parse.l0 k (ba (pre ++ cur ++ rest)) (acc.map ba) (pre.length : Int) ((pre.length + cur.length : Nat) : Int)) ((goP acc (pts 47 (cur ++ rest))).1.map ba, (goP acc (pts 47 (cur ++ rest))).2) := by
  induction rest with
  | nil =>
    intro pre cur acc hl hc ha
    have e1 : ((pre ++ cur ++ []).take (pre.length + cur.length)).drop pre.length = cur := by rw [List.append_nil, List.take_of_length_le (by simp), List.drop_left]
    rw [show cur ++ [] = cur from List.append_nil _, pts_not _ _ hc]
    refine Ev.step (fun k => parse_l0 k _ _ _ _) (Ev.pos (by rw [ba_size]; simp) (Ev.neg (by rw [ba_size]; simp) ?_))
    refine Ev.step (fun k => parse_j1 k _ _ _ _ _) (Ev.neg (by decide) (Ev.pos (by omega) (Ev.pos (by omega) (Ev.pos (by rw [ba_size]; simp) ?_))))
    simp only [Int.toNat_natCast]
    rw [ba_extract, e1]
    refine Ev.bind (refIsName_ev cur) ?_
    unfold goP
    by_cases hn : nameOk cur = true
    · rw [if_pos hn]
      refine Ev.pos hn ?_
      by_cases h16 : acc.length = 16
      · rw [if_pos h16]
        exact Ev.pos (by rw [List.length_map]; omega) (Ev.val rfl)
      · rw [if_neg h16]
        refine Ev.neg (by rw [List.length_map]; omega) (Ev.pos (by rw [List.length_map]; omega) ?_)
        rw [wrapN _ (by simp at hl; omega)]
        refine Ev.step (fun k => parse_l0 k _ _ _ _) (Ev.neg (by rw [ba_size]; simp; omega) (Ev.val ?_))
        simp [goP]
    · rw [if_neg hn]
      exact Ev.neg hn (Ev.val rfl)
  | cons c t ih =>
    intro pre cur acc hl hc ha
    have hl' : pre.length + cur.length + t.length + 1 < 4611686018427387904 := by simp at hl; omega
    have eg : (pre ++ cur ++ c :: t).getD (pre.length + cur.length) 0 = c := by
      rw [List.getD_eq_getElem?_getD, List.getElem?_append_right (by simp)]
      simp
    refine Ev.step (fun k => parse_l0 k _ _ _ _) (Ev.pos (by rw [ba_size]; simp; omega) (Ev.pos (by rw [ba_size]; simp; omega) (Ev.pos (by omega) ?_)))
    rw [ba_get, eg]
    by_cases h47 : c = 47
    · subst h47
      have ev : (((47 : UInt8).toNat : Int) != 47) = false := rfl
      rw [ev]
      have e1 : ((pre ++ cur ++ (47 : UInt8) :: t).take (pre.length + cur.length)).drop pre.length = cur := by
        rw [List.take_append_of_le_length (by simp), List.take_of_length_le (by simp), List.drop_left]
      rw [pts_append _ _ _ hc]
      refine Ev.step (fun k => parse_j1 k _ _ _ _ _) (Ev.neg (by decide) (Ev.pos (by omega) (Ev.pos (by omega) (Ev.pos (by rw [ba_size]; simp; omega) ?_))))
      simp only [Int.toNat_natCast]
      rw [ba_extract, e1]
      refine Ev.bind (refIsName_ev cur) ?_
      unfold goP
      by_cases hn : nameOk cur = true
      · rw [if_pos hn]
        refine Ev.pos hn ?_
        by_cases h16 : acc.length = 16
        · rw [if_pos h16]
          exact Ev.pos (by rw [List.length_map]; omega) (Ev.val rfl)
        · rw [if_neg h16]
          refine Ev.neg (by rw [List.length_map]; omega) (Ev.pos (by rw [List.length_map]; omega) ?_)
          rw [wrapN _ (by omega)]
          have h2 := ih (pre ++ cur ++ [47]) [] (acc ++ [cur]) (by simp at hl ⊢; omega) (by simp) (by simp; omega)
          have e2 : pre ++ cur ++ [47] ++ [] ++ t = pre ++ cur ++ 47 :: t := by simp
          have e3 : (((pre ++ cur ++ [47]).length + ([] : List UInt8).length : Nat) : Int) = ((pre.length + cur.length + 1 : Nat) : Int) := by simp; omega
          have e4 : (((pre ++ cur ++ [47]).length : Nat) : Int) = ((pre.length + cur.length + 1 : Nat) : Int) := by simp; omega
          rw [e2, e3, e4, List.nil_append, List.map_append] at h2
          exact h2
      · rw [if_neg hn]
        exact Ev.neg hn (Ev.val rfl)
    · have ev : ((c.toNat : Int) != 47) = true := bne_iff_ne.2 (fun h => h47 ((toNat_eq c 47).1 h))
      rw [ev]
      refine Ev.step (fun k => parse_j1 k _ _ _ _ _) (Ev.pos rfl ?_)
      rw [wrapN _ (by omega)]
      have h2 := ih pre (cur ++ [c]) acc (by simp at hl ⊢; omega) (by simp [hc]; exact fun e => h47 e.symm) ha
      have e2 : pre ++ (cur ++ [c]) ++ t = pre ++ cur ++ c :: t := by simp
      have e3 : ((pre.length + (cur ++ [c]).length : Nat) : Int) = ((pre.length + cur.length + 1 : Nat) : Int) := by simp; omega
      have e4 : cur ++ [c] ++ t = cur ++ c :: t := by simp
      rw [e2, e3, e4] at h2
      exact h2
theorem refParse_ev (s : List UInt8) (h : s.length < 4611686018427387904) : Ev (fun k => tussockref04_Parse.f k (ba s)) ((parseL s).1.map ba, (parseL s).2) := by
  unfold tussockref04_Parse.f
  rw [ba_toList]
  by_cases h0 : s = []
  · refine Ev.pos h0 (Ev.val ?_)
    simp [parseL, h0]
  · refine Ev.neg h0 ?_
    have := refParse_loop s [] [] [] (by simpa using h) (by simp) (by simp)
    simp only [List.nil_append, List.length_nil, goP_parse s h0] at this
    exact this
theorem refSame_loop (ps qs : List (List UInt8)) (hl : ps.length = qs.length) (hb : ps.length < 4611686018427387904) : ∀ d n, n ≤ ps.length → ps.length - n = d →
    Ev (fun k => tussockref04_Same.l0 k (ps.map ba) (qs.map ba) (n : Int)) (ps.drop n == qs.drop n) := by
  intro d
  induction d with
  | zero =>
    intro n hn hd
    obtain rfl : n = ps.length := by omega
    refine Ev.step (fun k => rfl) (Ev.neg (by rw [List.length_map]; omega) (Ev.val ?_))
    rw [List.drop_length, List.drop_of_length_le (by omega)]; rfl
  | succ d ih =>
    intro n hn hd
    have h1 : n < ps.length := by omega
    have h2 : n < qs.length := by omega
    refine Ev.step (fun k => rfl) (Ev.pos (by rw [List.length_map]; omega) (Ev.pos (by omega) (Ev.pos (by rw [List.length_map]; omega) ?_)))
    rw [rd_map, rd_map, ba_toList, ba_toList, List.getD_eq_getElem?_getD, List.getD_eq_getElem?_getD, List.getElem?_eq_getElem h1, List.getElem?_eq_getElem h2, List.drop_eq_getElem_cons h1, List.drop_eq_getElem_cons h2]
    simp only [Option.getD_some]
    by_cases e : ps[n] = qs[n]
    · refine Ev.pos e ?_
      rw [wrapN n (by omega)]
      have := ih (n + 1) (by omega) (by omega)
      have e2 : (ps[n] :: ps.drop (n + 1) == qs[n] :: qs.drop (n + 1)) = (ps.drop (n + 1) == qs.drop (n + 1)) := by rw [e, Bool.eq_iff_iff]; simp only [beq_iff_eq, List.cons.injEq, true_and]
      rw [e2]
      exact this
    · refine Ev.neg e (Ev.val ?_)
      rw [eq_comm, beq_eq_false_iff_ne]
      intro h
      exact e (List.cons.inj h).1
theorem refSame_ev (ps qs : List (List UInt8)) (hb : ps.length < 4611686018427387904) : Ev (fun k => tussockref04_Same.f k (ps.map ba) (qs.map ba)) (ps == qs) := by
  unfold tussockref04_Same.f
  simp only [List.length_map]
  by_cases h : ps.length = qs.length
  · refine Ev.pos (by omega) ?_
    have := refSame_loop ps qs h hb ps.length 0 (Nat.zero_le _) rfl
    simpa using this
  · refine Ev.neg (by omega) (Ev.val ?_)
    rw [eq_comm, beq_eq_false_iff_ne]
    rintro rfl
    exact h rfl
end Go.Proofs.YtinndapmljnifaaDoor.P
