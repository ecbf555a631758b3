/- The reference reads a text as the plain lists say. -/
import Derived.Test.YtinndapmljnifaaDoorConeI
import Derived.Test.YtinndapmljnifaaDoorUx3
namespace Go.Proofs.YtinndapmljnifaaDoor.P
open Go.RowKit Go.Proofs.YtinndapmljnifaaDoor.S Go.Proofs.YtinndapmljnifaaDoor.Q Go.Proofs.YtinndapmljnifaaDoor.U
open Go.Proofs.YtinndapmljnifaaDoorW.PrintWords Go.Proofs.YtinndapmljnifaaDoorW.PrintLast Go.Proofs.YtinndapmljnifaaDoorW.PrintMore
theorem refP_l0 (k : Nat) (x0 : ByteArray) (x5 : List ByteArray) (x6 x7 x8 : Int) : tussockref18_Parse.l0 (k + 1) x0 x5 x6 x7 x8 = if x8 ≤ (x0.size : Int) then (if x8 < (x0.size : Int) then (if 0 ≤ x8 then (tussockref18_Parse.j1 k x0 x5 x6 x7 x8 ((bt x0 x8) != 10)) else (none)) else (tussockref18_Parse.j1 k x0 x5 x6 x7 x8 false)) else ((tussockref18_Of.f k x5).bind fun bt158 => (some (bt158.1, 0, bt158.2))) := by simp only [tussockref18_Parse.l0]
theorem refP_j1 (k : Nat) (x0 : ByteArray) (x5 : List ByteArray) (x6 x7 x8 : Int) (x29 : Bool) : tussockref18_Parse.j1 (k + 1) x0 x5 x6 x7 x8 x29 = if x29 = true then (tussockref18_Parse.l0 k x0 x5 x6 x7 (wrap64 (x8 + 1))) else (if 0 ≤ x7 then (if x7 ≤ x8 then (if x8 ≤ (x0.size : Int) then (if (x0.extract (x7 : Int).toNat (x8 : Int).toNat).toList = ([42] : List UInt8) then (if x5.length < 8796093022208 then (tussockref18_Parse.l0 k x0 (x5 ++ [(⟨#[]⟩ : ByteArray)]) (wrap64 (x6 + 1)) (wrap64 (x8 + 1)) (wrap64 (x8 + 1))) else (none)) else (if (x0.extract (x7 : Int).toNat (x8 : Int).toNat).toList = ([] : List UInt8) then (tussockref18_Parse.j2 k x0 x5 x6 x8 (x0.extract (x7 : Int).toNat (x8 : Int).toNat) false) else (if 0 < ((x0.extract (x7 : Int).toNat (x8 : Int).toNat).size : Int) then (tussockref18_Parse.j2 k x0 x5 x6 x8 (x0.extract (x7 : Int).toNat (x8 : Int).toNat) ((bt (x0.extract (x7 : Int).toNat (x8 : Int).toNat) 0) != 35)) else (none)))) else (none)) else (none)) else (none)) := by simp only [tussockref18_Parse.j1]
theorem refP_j2 (k : Nat) (x0 : ByteArray) (x5 : List ByteArray) (x6 x8 : Int) (x9 : ByteArray) (x45 : Bool) : tussockref18_Parse.j2 (k + 1) x0 x5 x6 x8 x9 x45 = if x45 = true then ((tussockref04_Parse.f k x9).bind fun bt165 => (if bt165.2 = 0 then (if x5.length < 8796093022208 then (tussockref18_Parse.l0 k x0 (x5 ++ [x9]) (wrap64 (x6 + 1)) (wrap64 (x8 + 1)) (wrap64 (x8 + 1))) else (none)) else (some (([] : List ByteArray), x6, 180)))) else (tussockref18_Parse.l0 k x0 x5 (wrap64 (x6 + 1)) (wrap64 (x8 + 1)) (wrap64 (x8 + 1))) := by simp only [tussockref18_Parse.j2]
def resP (r : List (List UInt8) × Int × Int) : List ByteArray × Int × Int := (r.1.map ba, r.2.1, r.2.2)
theorem bt_head (s : List UInt8) : bt (ba s) 0 = ((s.headD 0).toNat : Int) := by
  have := ba_get s 0
  rw [show ((0 : Nat) : Int) = 0 from rfl] at this
  rw [this]
  cases s <;> rfl
theorem refP_line (pre cur rest : List UInt8) (acc : List (List UInt8)) (i : Nat) (r : List (List UInt8) × Int × Int) (hl : pre.length + cur.length + rest.length < 4000000000) (hi : i < 4000000000) (ha : acc.length < 4000000000)
    (h1 : skipL cur = true → Ev (fun k => tussockref18_Parse.l0 k (ba (pre ++ cur ++ rest)) (acc.map ba) ((i + 2 : Nat) : Int) ((pre.length + cur.length + 1 : Nat) : Int) ((pre.length + cur.length + 1 : Nat) : Int)) (resP r))
    (h2 : skipL cur ≠ true → cur = [42] → Ev (fun k => tussockref18_Parse.l0 k (ba (pre ++ cur ++ rest)) ((acc ++ [[]]).map ba) ((i + 2 : Nat) : Int) ((pre.length + cur.length + 1 : Nat) : Int) ((pre.length + cur.length + 1 : Nat) : Int)) (resP r))
    (h3 : skipL cur ≠ true → cur ≠ [42] → isP cur = true → Ev (fun k => tussockref18_Parse.l0 k (ba (pre ++ cur ++ rest)) ((acc ++ [cur]).map ba) ((i + 2 : Nat) : Int) ((pre.length + cur.length + 1 : Nat) : Int) ((pre.length + cur.length + 1 : Nat) : Int)) (resP r))
    (h4 : skipL cur ≠ true → cur ≠ [42] → isP cur ≠ true → r = ([], ((i + 1 : Nat) : Int), 180)) :
    Ev (fun k => tussockref18_Parse.j1 k (ba (pre ++ cur ++ rest)) (acc.map ba) ((i + 1 : Nat) : Int) (pre.length : Int) ((pre.length + cur.length : Nat) : Int) false) (resP r) := by
  have e1 : ((pre ++ cur ++ rest).take (pre.length + cur.length)).drop pre.length = cur := by
    rw [List.take_append_of_le_length (by simp), List.take_of_length_le (by simp), List.drop_left]
  have w1 : wrap64 (((i + 1 : Nat) : Int) + 1) = ((i + 2 : Nat) : Int) := wrapN _ (by omega)
  have w2 : wrap64 (((pre.length + cur.length : Nat) : Int) + 1) = ((pre.length + cur.length + 1 : Nat) : Int) := wrapN _ (by omega)
  refine Ev.step (fun k => refP_j1 k _ _ _ _ _ _) (Ev.neg (by decide) (Ev.pos (by omega) (Ev.pos (by omega) (Ev.pos (by rw [ba_size]; simp; omega) ?_))))
  simp only [Int.toNat_natCast]
  rw [ba_extract, e1, ba_toList, w1, w2]
  by_cases h42 : cur = [42]
  · have hk : skipL cur ≠ true := by rw [h42]; decide
    refine Ev.pos h42 (Ev.pos (by rw [List.length_map]; omega) ?_)
    have := h2 hk h42
    rw [List.map_append] at this
    exact this
  · refine Ev.neg h42 ?_
    have nx : skipL cur = true → Ev (fun k => tussockref18_Parse.j2 k (ba (pre ++ cur ++ rest)) (acc.map ba) ((i + 1 : Nat) : Int) ((pre.length + cur.length : Nat) : Int) (ba cur) false) (resP r) := fun hk => by
      refine Ev.step (fun k => refP_j2 k _ _ _ _ _ _) (Ev.neg (by decide) ?_)
      rw [w1, w2]
      exact h1 hk
    by_cases h0 : cur = []
    · exact Ev.pos h0 (nx (by rw [h0]; rfl))
    · refine Ev.neg h0 (Ev.pos (by rw [ba_size]; have := List.length_pos_iff.2 h0; omega) ?_)
      rw [bt_head]
      by_cases h35 : cur.headD 0 = 35
      · have e : (((cur.headD 0).toNat : Int) != 35) = false := by rw [h35]; rfl
        rw [e]
        exact nx (by unfold skipL; rw [h35]; simp)
      · have e : (((cur.headD 0).toNat : Int) != 35) = true := bne_iff_ne.2 (fun h => h35 ((toNat_eq _ 35).1 h))
        have hk : skipL cur ≠ true := by
          unfold skipL
          rw [beq_eq_false_iff_ne.2 h0, beq_eq_false_iff_ne.2 h35]; decide
        rw [e]
        refine Ev.step (fun k => refP_j2 k _ _ _ _ _ _) (Ev.pos rfl (Ev.bind (refParse_ev cur (by omega)) ?_))
        rw [w1, w2]
        by_cases hp : (parseL cur).2 = 0
        · refine Ev.pos hp (Ev.pos (by rw [List.length_map]; omega) ?_)
          have := h3 hk h42 ((isP_iff _).2 hp)
          rw [List.map_append] at this
          exact this
        · refine Ev.neg hp (Ev.val ?_)
          rw [h4 hk h42 (fun h => hp ((isP_iff _).1 h))]; rfl
theorem refP_loop (rest : List UInt8) : ∀ (pre cur : List UInt8) (acc : List (List UInt8)) (i : Nat), pre.length + cur.length + rest.length < 3900000000 → (10 : UInt8) ∉ cur → i + rest.length < 3900000000 → acc.length ≤ i → (∀ x ∈ acc, x.length < 4294967281) →
    Ev (fun k => tussockref18_Parse.l0 k (ba (pre ++ cur ++ rest)) (acc.map ba) ((i + 1 : Nat) : Int) (pre.length : Int) ((pre.length + cur.length : Nat) : Int)) (resP (parseG i acc (pts 10 (cur ++ rest)))) := by
  induction rest with
  | nil =>
    intro pre cur acc i hl hc hi ha hsa
    rw [show cur ++ [] = cur from List.append_nil _, pts_not _ _ hc]
    have fin : ∀ acc' : List (List UInt8), acc'.length < 4000000000 → (∀ x ∈ acc', x.length < 4294967281) → Ev (fun k => tussockref18_Parse.l0 k (ba (pre ++ cur ++ [])) (acc'.map ba) ((i + 2 : Nat) : Int) ((pre.length + cur.length + 1 : Nat) : Int) ((pre.length + cur.length + 1 : Nat) : Int)) (resP ((ofL acc').1, 0, (ofL acc').2)) := fun acc' h1 h2 => by
      refine Ev.step (fun k => refP_l0 k _ _ _ _ _) (Ev.neg (by rw [ba_size]; simp; omega) ?_)
      exact Ev.bind (refOf_ev acc' h1 h2) (Ev.val rfl)
    refine Ev.step (fun k => refP_l0 k _ _ _ _ _) (Ev.pos (by rw [ba_size]; simp) (Ev.neg (by rw [ba_size]; simp) ?_))
    rw [List.length_nil] at hl hi
    refine refP_line pre cur [] acc i _ (by rw [List.length_nil]; omega) (by omega) (by omega) (fun hk => ?_) (fun hk h42 => ?_) (fun hk h42 hp => ?_) (fun hk h42 hp => ?_)
    · rw [parseG, if_pos hk, parseG]
      exact fin acc (by omega) hsa
    · rw [parseG, if_neg hk, if_pos h42, parseG]
      exact fin _ (by rw [List.length_append, List.length_singleton]; omega) (fun x hx => by
        rcases List.mem_append.1 hx with h | h
        · exact hsa x h
        · rw [List.mem_singleton.1 h]; decide)
    · rw [parseG, if_neg hk, if_neg h42, if_pos hp, parseG]
      exact fin _ (by rw [List.length_append, List.length_singleton]; omega) (fun x hx => by
        rcases List.mem_append.1 hx with h | h
        · exact hsa x h
        · rw [List.mem_singleton.1 h]; omega)
    · rw [parseG, if_neg hk, if_neg h42, if_neg hp]
  | cons c t ih =>
    intro pre cur acc i hl hc hi ha hsa
    rw [List.length_cons] at hl hi
    have eg : (pre ++ cur ++ c :: t).getD (pre.length + cur.length) 0 = c := by
      rw [List.getD_eq_getElem?_getD, List.getElem?_append_right (by simp)]
      simp
    refine Ev.step (fun k => refP_l0 k _ _ _ _ _) (Ev.pos (by rw [ba_size]; simp; omega) (Ev.pos (by rw [ba_size]; simp; omega) (Ev.pos (by omega) ?_)))
    rw [ba_get, eg]
    by_cases h10 : c = 10
    · subst h10
      have ev : (((10 : UInt8).toNat : Int) != 10) = false := rfl
      rw [ev, pts_append _ _ _ hc]
      have nxt : ∀ acc' : List (List UInt8), acc'.length ≤ i + 1 → (∀ x ∈ acc', x.length < 4294967281) → Ev (fun k => tussockref18_Parse.l0 k (ba (pre ++ cur ++ (10 : UInt8) :: t)) (acc'.map ba) ((i + 2 : Nat) : Int) ((pre.length + cur.length + 1 : Nat) : Int) ((pre.length + cur.length + 1 : Nat) : Int)) (resP (parseG (i + 1) acc' (pts 10 t))) := fun acc' h1 h2 => by
        have h := ih (pre ++ cur ++ [10]) [] acc' (i + 1) (by simp; omega) (by simp) (by omega) h1 h2
        have e2 : pre ++ cur ++ [10] ++ [] ++ t = pre ++ cur ++ 10 :: t := by simp
        have e3 : (((pre ++ cur ++ [10]).length + ([] : List UInt8).length : Nat) : Int) = ((pre.length + cur.length + 1 : Nat) : Int) := by simp; omega
        have e4 : (((pre ++ cur ++ [10]).length : Nat) : Int) = ((pre.length + cur.length + 1 : Nat) : Int) := by simp; omega
        rw [e2, e3, e4, List.nil_append] at h
        exact h
      refine refP_line pre cur _ acc i _ (by rw [List.length_cons]; omega) (by omega) (by omega) (fun hk => ?_) (fun hk h42 => ?_) (fun hk h42 hp => ?_) (fun hk h42 hp => ?_)
      · rw [parseG, if_pos hk]
        exact nxt acc (by omega) hsa
      · rw [parseG, if_neg hk, if_pos h42]
        exact nxt _ (by rw [List.length_append, List.length_singleton]; omega) (fun x hx => by
          rcases List.mem_append.1 hx with h | h
          · exact hsa x h
          · rw [List.mem_singleton.1 h]; decide)
      · rw [parseG, if_neg hk, if_neg h42, if_pos hp]
        exact nxt _ (by rw [List.length_append, List.length_singleton]; omega) (fun x hx => by
          rcases List.mem_append.1 hx with h | h
          · exact hsa x h
          · rw [List.mem_singleton.1 h]; omega)
      · rw [parseG, if_neg hk, if_neg h42, if_neg hp]
    · have ev : ((c.toNat : Int) != 10) = true := bne_iff_ne.2 (fun h => h10 ((toNat_eq c 10).1 h))
      rw [ev]
      refine Ev.step (fun k => refP_j1 k _ _ _ _ _ _) (Ev.pos rfl ?_)
      rw [wrapN _ (by omega)]
      have h2 := ih pre (cur ++ [c]) acc i (by rw [List.length_append, List.length_singleton]; omega) (by simp [hc]; exact fun e => h10 e.symm) (by omega) ha hsa
      have e2 : pre ++ (cur ++ [c]) ++ t = pre ++ cur ++ c :: t := by simp
      have e3 : ((pre.length + (cur ++ [c]).length : Nat) : Int) = ((pre.length + cur.length + 1 : Nat) : Int) := by simp; omega
      have e4 : cur ++ [c] ++ t = cur ++ c :: t := by simp
      rw [e2, e3, e4] at h2
      exact h2
theorem refP_ev (t : List UInt8) (ht : t.length < 3900000000) : Ev (fun k => tussockref18_Parse.f k (ba t)) ((parseG 0 [] (pts 10 t)).1.map ba, (parseG 0 [] (pts 10 t)).2.1, (parseG 0 [] (pts 10 t)).2.2) := by
  unfold tussockref18_Parse.f
  have h := refP_loop t [] [] [] 0 (by simpa using ht) (by simp) (by omega) (Nat.le_refl _) (by simp)
  simp only [List.nil_append, List.length_nil] at h
  exact h
end Go.Proofs.YtinndapmljnifaaDoor.P
