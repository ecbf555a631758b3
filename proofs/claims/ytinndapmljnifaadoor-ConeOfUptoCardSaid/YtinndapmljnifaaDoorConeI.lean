/- The reference's one form of directories is that of the program: plain lists. -/
import Derived.Test.YtinndapmljnifaaDoorConeF
import Derived.Test.YtinndapmljnifaaDoorUx2
namespace Go.Proofs.YtinndapmljnifaaDoor.P
open Go.RowKit Go.Proofs.YtinndapmljnifaaDoor.S Go.Proofs.YtinndapmljnifaaDoor.Q Go.Proofs.YtinndapmljnifaaDoor.U
open Go.Proofs.YtinndapmljnifaaDoorW.PrintWords Go.Proofs.YtinndapmljnifaaDoorW.PrintLast Go.Proofs.YtinndapmljnifaaDoorW.PrintMore
def insL : List (List UInt8) → List UInt8 → List (List UInt8)
  | [], x => [x]
  | o :: r, x => if cmpL o x < 0 then o :: insL r x else if o = x then o :: r else x :: o :: r
theorem cmp_lt_trans {a b c : List UInt8} (h1 : cmpL a b < 0) (h2 : cmpL b c < 0) : cmpL a c < 0 := by
  have h := cmpL_trans a b c (by omega) (by omega)
  have hn : cmpL a c ≠ 0 := fun e => by
    rw [cmpL_zero] at e
    subst e
    have := cmpL_swap a b
    omega
  omega
theorem ins_mem (out : List (List UInt8)) (x y : List UInt8) : y ∈ insL out x ↔ y = x ∨ y ∈ out := by
  induction out with
  | nil => simp [insL]
  | cons o r ih =>
    rw [insL]
    by_cases h1 : cmpL o x < 0
    · rw [if_pos h1, List.mem_cons, ih, List.mem_cons]
      constructor
      · rintro (h | h | h)
        · exact .inr (.inl h)
        · exact .inl h
        · exact .inr (.inr h)
      · rintro (h | h | h)
        · exact .inr (.inl h)
        · exact .inl h
        · exact .inr (.inr h)
    · rw [if_neg h1]
      by_cases h2 : o = x
      · rw [if_pos h2, List.mem_cons]
        subst h2
        constructor
        · exact .inr
        · rintro (h | h)
          · exact .inl h
          · exact h
      · rw [if_neg h2, List.mem_cons]
theorem ins_SS (out : List (List UInt8)) (x : List UInt8) (h : SS out) : SS (insL out x) := by
  induction out with
  | nil => unfold insL SS; simp
  | cons o r ih =>
    have h0 := List.pairwise_cons.1 h
    rw [insL]
    by_cases h1 : cmpL o x < 0
    · rw [if_pos h1]
      refine List.pairwise_cons.2 ⟨fun y hy => ?_, ih h0.2⟩
      rcases (ins_mem r x y).1 hy with e | e
      · rw [e]; exact h1
      · exact h0.1 y e
    · rw [if_neg h1]
      by_cases h2 : o = x
      · rw [if_pos h2]; exact h
      · rw [if_neg h2]
        have h3 : cmpL x o < 0 := by
          have hs := cmpL_swap o x
          have hn : cmpL o x ≠ 0 := fun e => h2 ((cmpL_zero o x).1 e)
          omega
        refine List.pairwise_cons.2 ⟨fun y hy => ?_, h⟩
        rcases List.mem_cons.1 hy with e | e
        · rw [e]; exact h3
        · exact cmp_lt_trans h3 (h0.1 y e)
theorem ins_length (out : List (List UInt8)) (x : List UInt8) : (insL out x).length ≤ out.length + 1 := by
  induction out with
  | nil => simp [insL]
  | cons o r ih =>
    rw [insL]
    split
    · simp; omega
    · split <;> simp
def innerL (ds : List (List UInt8)) (x : List UInt8) : Bool := ds.any fun d => withinL d x && d != x
def putL (ds out : List (List UInt8)) (x : List UInt8) : List (List UInt8) := if innerL ds x = true then out else insL out x
theorem inner_Min (ds : List (List UInt8)) (x : List UInt8) : Min ds x ↔ x ∈ ds ∧ innerL ds x = false := by
  unfold Min innerL
  rw [List.any_eq_false]
  constructor
  · rintro ⟨h1, h2⟩
    refine ⟨h1, fun d hd h => ?_⟩
    rw [Bool.and_eq_true, bne_iff_ne] at h
    exact h.2 (h2 d hd h.1)
  · rintro ⟨h1, h2⟩
    refine ⟨h1, fun d hd hw => ?_⟩
    have := h2 d hd
    rw [hw, Bool.true_and, bne_iff_ne] at this
    exact Classical.not_not.1 this
theorem put_inv (ds r : List (List UInt8)) : ∀ p out, SS out → (∀ x, x ∈ out ↔ x ∈ p ∧ innerL ds x = false) →
    SS (r.foldl (putL ds) out) ∧ ∀ x, x ∈ r.foldl (putL ds) out ↔ x ∈ p ++ r ∧ innerL ds x = false := by
  induction r with
  | nil => intro p out h1 h2; rw [List.append_nil]; exact ⟨h1, h2⟩
  | cons s r ih =>
    intro p out h1 h2
    have e : p ++ s :: r = (p ++ [s]) ++ r := by simp
    rw [e, List.foldl_cons]
    refine ih (p ++ [s]) _ ?_ (fun x => ?_)
    · unfold putL
      split
      · exact h1
      · exact ins_SS _ _ h1
    · unfold putL
      by_cases hi : innerL ds s = true
      · rw [if_pos hi, h2 x, List.mem_append, List.mem_singleton]
        constructor
        · rintro ⟨a, b⟩; exact ⟨.inl a, b⟩
        · rintro ⟨a | a, b⟩
          · exact ⟨a, b⟩
          · rw [a, hi] at b; exact absurd b (by decide)
      · rw [if_neg hi, ins_mem, h2 x, List.mem_append, List.mem_singleton]
        constructor
        · rintro (a | ⟨a, b⟩)
          · exact ⟨.inr a, by rw [a]; exact Bool.eq_false_iff.2 hi⟩
          · exact ⟨.inl a, b⟩
        · rintro ⟨a | a, b⟩
          · exact .inr ⟨a, b⟩
          · exact .inl a
theorem put_form (ds : List (List UInt8)) (h : ds.all isP = true) : ds.foldl (putL ds) [] = formL ds := by
  have i := put_inv ds ds [] [] List.Pairwise.nil (by simp)
  rw [List.nil_append] at i
  exact (form_is ds _ h i.1 (fun x => (i.2 x).trans (inner_Min ds x).symm)).symm
theorem refOf_l0_eq (k : Nat) (x0 : List ByteArray) (x4 : Int) : tussockref18_Of.l0 (k + 1) x0 x4 = if x4 < (x0.length : Int) then (if 0 ≤ x4 then ((tussockref04_Parse.f k (rdOf ByteArray.empty x0 x4)).bind fun bt102 => (if bt102.2 = 0 then (tussockref18_Of.l0 k x0 (wrap64 (x4 + 1))) else (some (([] : List ByteArray), 40)))) else (none)) else (tussockref18_Of.l1 k x0 ([] : List ByteArray) 0) := by simp only [tussockref18_Of.l0]
theorem refOf_l1_eq (k : Nat) (x0 x7 : List ByteArray) (x8 : Int) : tussockref18_Of.l1 (k + 1) x0 x7 x8 = if x8 < (x0.length : Int) then (tussockref18_Of.l2 k x0 x7 x8 false 0) else (if (x7.length : Int) > 64 then (some (([] : List ByteArray), 181)) else (some (x7, 0))) := by simp only [tussockref18_Of.l1]
theorem refOf_l2_eq (k : Nat) (x0 x7 : List ByteArray) (x8 : Int) (x9 : Bool) (x10 : Int) : tussockref18_Of.l2 (k + 1) x0 x7 x8 x9 x10 = if x10 < (x0.length : Int) then (if 0 ≤ x10 then (if 0 ≤ x8 then (if x8 < (x0.length : Int) then ((tussockref04_Within.f k (rdOf ByteArray.empty x0 x10) (rdOf ByteArray.empty x0 x8)).bind fun t108 => (if x9 = true then (tussockref18_Of.l2 k x0 x7 x8 true (wrap64 (x10 + 1))) else (if t108 = true then (tussockref18_Of.l2 k x0 x7 x8 ((rdOf ByteArray.empty x0 x10).toList != (rdOf ByteArray.empty x0 x8).toList) (wrap64 (x10 + 1))) else (tussockref18_Of.l2 k x0 x7 x8 false (wrap64 (x10 + 1)))))) else (none)) else (none)) else (none)) else (tussockref18_Of.l3 k x0 x7 x8 x9 0) := by simp only [tussockref18_Of.l2]
def insAt (x0 x7 : List ByteArray) (x8 x12 : Int) (k : Nat) : Option (List ByteArray × Int) :=
  if 0 ≤ (wrap64 ((x7.length : Int) + 1)) then (if (wrap64 ((x7.length : Int) + 1) : Int).toNat ≤ 17592186044416 then ((some (([] : List ByteArray) : List ByteArray)).bind fun y116 => (if x12 ≤ (x7.length : Int) then ((some (x7.take (x12 : Int).toNat : List ByteArray)).bind fun y119 => (if y116.length + y119.length < 8796093022208 then ((some (y116 ++ y119 : List ByteArray)).bind fun y123 => (if y123.length < 8796093022208 then ((some (y123 ++ [rdOf ByteArray.empty x0 x8] : List ByteArray)).bind fun y127 => ((some (x7.drop (x12 : Int).toNat : List ByteArray)).bind fun y130 => (if y127.length + y130.length < 8796093022208 then (tussockref18_Of.l1 k x0 (y127 ++ y130) (wrap64 (x8 + 1))) else (none)))) else (none))) else (none))) else (none))) else (none)) else (none)
theorem refOf_l3_go (k : Nat) (x0 x7 : List ByteArray) (x8 : Int) (x9 : Bool) (x12 : Int) (h : x12 < (x7.length : Int)) : tussockref18_Of.l3 (k + 1) x0 x7 x8 x9 x12 = if 0 ≤ x12 then (if 0 ≤ x8 then (if x8 < (x0.length : Int) then ((tussockref04_Compare.f k (rdOf ByteArray.empty x7 x12) (rdOf ByteArray.empty x0 x8)).bind fun t113 => (if t113 < 0 then (tussockref18_Of.l3 k x0 x7 x8 x9 (wrap64 (x12 + 1))) else (if x9 = true then (tussockref18_Of.l1 k x0 x7 (wrap64 (x8 + 1))) else (if (rdOf ByteArray.empty x7 x12).toList = (rdOf ByteArray.empty x0 x8).toList then (tussockref18_Of.l1 k x0 x7 (wrap64 (x8 + 1))) else (insAt x0 x7 x8 x12 k))))) else (none)) else (none)) else (none) := by
  unfold insAt
  simp only [tussockref18_Of.l3]
  rw [if_pos h]
theorem refOf_l3_end (k : Nat) (x0 x7 : List ByteArray) (x8 : Int) (x9 : Bool) (x12 : Int) (h : ¬ x12 < (x7.length : Int)) (h2 : 0 ≤ x12) (h3 : 0 ≤ x8) (h4 : x8 < (x0.length : Int)) : tussockref18_Of.l3 (k + 1) x0 x7 x8 x9 x12 = if x9 = true then (tussockref18_Of.l1 k x0 x7 (wrap64 (x8 + 1))) else insAt x0 x7 x8 x12 k := by
  unfold insAt
  simp only [tussockref18_Of.l3]
  rw [if_neg h]
  simp only [if_pos h2, if_pos h3, if_pos h4]
theorem insAt_ev (ds out : List (List UInt8)) (i n : Nat) (hi : i < ds.length) (hl : ds.length < 4000000000) (ho : out.length ≤ i) (hn : n ≤ out.length) (r : List ByteArray × Int)
    (h : Ev (fun k => tussockref18_Of.l1 k (ds.map ba) ((out.take n ++ ds.getD i [] :: out.drop n).map ba) ((i + 1 : Nat) : Int)) r) : Ev (fun k => insAt (ds.map ba) (out.map ba) (i : Int) (n : Int) k) r := by
  unfold insAt
  have e1 : wrap64 (((out.map ba).length : Int) + 1) = ((out.length + 1 : Nat) : Int) := by rw [List.length_map]; exact wrapN _ (by omega)
  rw [e1, wrapN i (by omega)]
  refine Ev.pos (by omega) (Ev.pos (by omega) (Ev.have_ rfl (Ev.pos (by rw [List.length_map]; omega) (Ev.have_ rfl (Ev.pos ?_ (Ev.have_ rfl (Ev.pos ?_ (Ev.have_ rfl (Ev.have_ rfl (Ev.pos ?_ ?_))))))))))
  · rw [List.length_nil, List.length_take, List.length_map]; omega
  · rw [List.nil_append, List.length_take, List.length_map]; omega
  · rw [List.nil_append, List.length_append, List.length_take, List.length_drop, List.length_map, List.length_singleton]; omega
  · have e2 : ([] ++ (out.map ba).take (n : Int).toNat ++ [rdOf ByteArray.empty (ds.map ba) (i : Int)] ++ (out.map ba).drop (n : Int).toNat : List ByteArray) = (out.take n ++ ds.getD i [] :: out.drop n).map ba := by
      rw [rd_map, Int.toNat_natCast, List.nil_append, ← List.map_take, ← List.map_drop]
      simp
    rw [e2]
    exact h
theorem ins_take (out : List (List UInt8)) (x : List UInt8) (n : Nat) (hn : n < out.length) (h : cmpL (out.getD n []) x < 0) : out.take n ++ insL (out.drop n) x = out.take (n + 1) ++ insL (out.drop (n + 1)) x := by
  have e : out.take (n + 1) = out.take n ++ [out.getD n []] := by
    rw [List.take_succ_eq_append_getElem hn, List.getD_eq_getElem?_getD, List.getElem?_eq_getElem hn]; rfl
  rw [e, drop_at out n hn, insL, if_pos h, List.append_assoc]; rfl
theorem refOf_l3 (ds out : List (List UInt8)) (i : Nat) (b : Bool) (hi : i < ds.length) (hl : ds.length < 4000000000) (_hs : ∀ x ∈ ds, x.length < 4294967281) (ho : out.length ≤ i) (hos : ∀ x ∈ out, x.length < 4294967281) (r : List ByteArray × Int) : ∀ d n, n ≤ out.length → out.length - n = d →
    Ev (fun k => tussockref18_Of.l1 k (ds.map ba) ((if b = true then out else out.take n ++ insL (out.drop n) (ds.getD i [])).map ba) ((i + 1 : Nat) : Int)) r →
    Ev (fun k => tussockref18_Of.l3 k (ds.map ba) (out.map ba) (i : Int) b (n : Int)) r := by
  intro d
  induction d with
  | zero =>
    intro n hn hd h
    refine Ev.step (fun k => refOf_l3_end k _ _ _ _ _ (by rw [List.length_map]; omega) (by omega) (by omega) (by rw [List.length_map]; omega)) ?_
    cases b with
    | true =>
      rw [if_pos rfl] at h
      refine Ev.pos rfl ?_
      rw [wrapN i (by omega)]
      exact h
    | false =>
      rw [if_neg (by decide)] at h
      refine Ev.neg (by decide) (insAt_ev ds out i n hi hl ho hn r ?_)
      rw [List.drop_of_length_le (by omega), insL] at h
      rw [List.drop_of_length_le (by omega)]
      exact h
  | succ d ih =>
    intro n hn hd h
    have hlt : n < out.length := by omega
    have hm := getD_mem out n hlt
    refine Ev.step (fun k => refOf_l3_go k _ _ _ _ _ (by rw [List.length_map]; omega)) (Ev.pos (by omega) (Ev.pos (by omega) (Ev.pos (by rw [List.length_map]; omega) ?_)))
    rw [rd_map, rd_map, wrapN i (by omega), wrapN n (by omega)]
    refine Ev.bind (refCmp_ev _ _ (by have := hos _ hm; omega)) ?_
    by_cases hc : cmpL (out.getD n []) (ds.getD i []) < 0
    · refine Ev.pos hc (ih (n + 1) (by omega) (by omega) ?_)
      rw [← ins_take out _ n hlt hc]
      exact h
    · refine Ev.neg hc ?_
      cases b with
      | true =>
        rw [if_pos rfl] at h
        exact Ev.pos rfl h
      | false =>
        rw [if_neg (by decide)] at h
        refine Ev.neg (by decide) ?_
        rw [ba_toList, ba_toList]
        rw [drop_at out n hlt, insL, if_neg hc] at h
        by_cases e : out.getD n [] = ds.getD i []
        · refine Ev.pos e ?_
          rw [if_pos e, ← drop_at out n hlt, List.take_append_drop] at h
          exact h
        · refine Ev.neg e (insAt_ev ds out i n hi hl ho hn r ?_)
          rw [if_neg e, ← drop_at out n hlt] at h
          exact h
theorem refOf_l2 (ds out : List (List UInt8)) (i : Nat) (hi : i < ds.length) (hl : ds.length < 4000000000) (hs : ∀ x ∈ ds, x.length < 4294967281) (r : List ByteArray × Int) : ∀ d n b, n ≤ ds.length → ds.length - n = d →
    Ev (fun k => tussockref18_Of.l3 k (ds.map ba) (out.map ba) (i : Int) (b || innerL (ds.drop n) (ds.getD i [])) 0) r →
    Ev (fun k => tussockref18_Of.l2 k (ds.map ba) (out.map ba) (i : Int) b (n : Int)) r := by
  intro d
  induction d with
  | zero =>
    intro n b hn hd h
    rw [List.drop_of_length_le (by omega)] at h
    refine Ev.step (fun k => refOf_l2_eq k _ _ _ _ _) (Ev.neg (by rw [List.length_map]; omega) ?_)
    rw [show (b || innerL [] (ds.getD i [])) = b from Bool.or_false b] at h
    exact h
  | succ d ih =>
    intro n b hn hd h
    have hlt : n < ds.length := by omega
    have hm := hs _ (getD_mem ds n hlt)
    have hm2 := hs _ (getD_mem ds i hi)
    have e0 : innerL (ds.getD n [] :: ds.drop (n + 1)) (ds.getD i []) = ((withinL (ds.getD n []) (ds.getD i []) && ds.getD n [] != ds.getD i []) || innerL (ds.drop (n + 1)) (ds.getD i [])) := rfl
    rw [drop_at ds n hlt, e0] at h
    refine Ev.step (fun k => refOf_l2_eq k _ _ _ _ _) (Ev.pos (by rw [List.length_map]; omega) (Ev.pos (by omega) (Ev.pos (by omega) (Ev.pos (by rw [List.length_map]; omega) ?_))))
    rw [rd_map, rd_map, wrapN n (by omega), ba_toList, ba_toList]
    refine Ev.bind (refWithin_ev _ _ (by omega) (by omega)) ?_
    cases b with
    | true =>
      refine Ev.pos rfl (ih (n + 1) true (by omega) (by omega) ?_)
      rw [Bool.true_or] at h ⊢
      exact h
    | false =>
      rw [Bool.false_or] at h
      refine Ev.neg (by decide) ?_
      by_cases hw : withinL (ds.getD n []) (ds.getD i []) = true
      · refine Ev.pos hw (ih (n + 1) _ (by omega) (by omega) ?_)
        rw [hw, Bool.true_and] at h
        exact h
      · refine Ev.neg hw (ih (n + 1) false (by omega) (by omega) ?_)
        rw [Bool.eq_false_iff.2 hw, Bool.false_and] at h
        exact h
theorem put_length (ds out : List (List UInt8)) (x : List UInt8) : (putL ds out x).length ≤ out.length + 1 := by
  unfold putL
  split
  · omega
  · exact ins_length _ _
theorem refOf_l1 (ds : List (List UInt8)) (hl : ds.length < 4000000000) (hs : ∀ x ∈ ds, x.length < 4294967281) : ∀ d n out, n ≤ ds.length → ds.length - n = d → out.length ≤ n → (∀ x ∈ out, x.length < 4294967281) →
    Ev (fun k => tussockref18_Of.l1 k (ds.map ba) (out.map ba) (n : Int)) (if ((ds.drop n).foldl (putL ds) out).length > 64 then ([], 181) else (((ds.drop n).foldl (putL ds) out).map ba, 0)) := by
  intro d
  induction d with
  | zero =>
    intro n out hn hd ha hsa
    rw [List.drop_of_length_le (by omega), List.foldl_nil]
    refine Ev.step (fun k => refOf_l1_eq k _ _ _) (Ev.neg (by rw [List.length_map]; omega) ?_)
    rw [List.length_map]
    by_cases h : out.length > 64
    · rw [if_pos h]; exact Ev.pos (by omega) (Ev.val rfl)
    · rw [if_neg h]; exact Ev.neg (by omega) (Ev.val rfl)
  | succ d ih =>
    intro n out hn hd ha hsa
    have hlt : n < ds.length := by omega
    have hm := hs _ (getD_mem ds n hlt)
    rw [drop_at ds n hlt, List.foldl_cons]
    have h1 := ih (n + 1) (putL ds out (ds.getD n [])) (by omega) (by omega) (by have := put_length ds out (ds.getD n []); omega) (fun x hx => by
      unfold putL at hx
      split at hx
      · exact hsa x hx
      · rcases (ins_mem _ _ _).1 hx with e | e
        · rw [e]; exact hm
        · exact hsa x e)
    refine Ev.step (fun k => refOf_l1_eq k _ _ _) (Ev.pos (by rw [List.length_map]; omega) ?_)
    refine refOf_l2 ds out n hlt hl hs _ _ 0 false (Nat.zero_le _) rfl ?_
    rw [Bool.false_or, List.drop_zero]
    refine refOf_l3 ds out n _ hlt hl hs ha hsa _ _ 0 (Nat.zero_le _) rfl ?_
    rw [List.take_zero, List.drop_zero, List.nil_append]
    exact h1
theorem refOf_l0 (ds : List (List UInt8)) (hl : ds.length < 4000000000) (hs : ∀ x ∈ ds, x.length < 4294967281) (r : List ByteArray × Int) (hr : Ev (fun k => tussockref18_Of.l1 k (ds.map ba) [] 0) r) : ∀ d n, n ≤ ds.length → ds.length - n = d →
    Ev (fun k => tussockref18_Of.l0 k (ds.map ba) (n : Int)) (if (ds.drop n).all isP = true then r else ([], 40)) := by
  intro d
  induction d with
  | zero =>
    intro n hn hd
    rw [List.drop_of_length_le (by omega), if_pos (by rfl)]
    exact Ev.step (fun k => refOf_l0_eq k _ _) (Ev.neg (by rw [List.length_map]; omega) hr)
  | succ d ih =>
    intro n hn hd
    have hlt : n < ds.length := by omega
    have hm := hs _ (getD_mem ds n hlt)
    have h1 := ih (n + 1) (by omega) (by omega)
    rw [drop_at ds n hlt, List.all_cons]
    refine Ev.step (fun k => refOf_l0_eq k _ _) (Ev.pos (by rw [List.length_map]; omega) (Ev.pos (by omega) ?_))
    rw [rd_map, wrapN n (by omega)]
    refine Ev.bind (refParse_ev _ (by omega)) ?_
    by_cases hp : (parseL (ds.getD n [])).2 = 0
    · rw [(isP_iff _).2 hp, Bool.true_and]
      exact Ev.pos hp h1
    · have e : isP (ds.getD n []) = false := Bool.eq_false_iff.2 (fun h => hp ((isP_iff _).1 h))
      rw [e, Bool.false_and, if_neg (by decide)]
      exact Ev.neg hp (Ev.val rfl)
theorem refOf_ev (ds : List (List UInt8)) (hl : ds.length < 4000000000) (hs : ∀ x ∈ ds, x.length < 4294967281) : Ev (fun k => tussockref18_Of.f k (ds.map ba)) ((ofL ds).1.map ba, (ofL ds).2) := by
  unfold tussockref18_Of.f
  have h1 := refOf_l1 ds hl hs _ 0 [] (Nat.zero_le _) rfl (Nat.zero_le _) (by simp)
  have h := refOf_l0 ds hl hs _ h1 _ 0 (Nat.zero_le _) rfl
  rw [List.drop_zero] at h
  unfold ofL
  by_cases hp : ds.all isP = true
  · rw [if_pos hp, put_form ds hp] at h
    rw [if_pos hp]
    by_cases h64 : (formL ds).length > 64
    · rw [if_pos h64] at h ⊢; exact h
    · rw [if_neg h64] at h ⊢; exact h
  · rw [if_neg hp] at h ⊢
    exact h
end Go.Proofs.YtinndapmljnifaaDoor.P
