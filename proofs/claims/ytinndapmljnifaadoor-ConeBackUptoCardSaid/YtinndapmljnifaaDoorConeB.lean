/- The one form of directories, over plain lists; cone.Of; what is shown. -/
import Derived.Test.YtinndapmljnifaaDoorConeA
import Derived.Test.YtinndapmljnifaaDoorQx1
namespace Go.Proofs.YtinndapmljnifaaDoor.P
open Go.RowKit Go.Proofs.YtinndapmljnifaaDoor.S Go.Proofs.YtinndapmljnifaaDoor.Q
open Go.Proofs.YtinndapmljnifaaDoorW.PrintWords Go.Proofs.YtinndapmljnifaaDoorW.PrintLast Go.Proofs.YtinndapmljnifaaDoorW.PrintMore
def SS (l : List (List UInt8)) : Prop := l.Pairwise fun a b => cmpL a b < 0
theorem SS_ext : ∀ {l m : List (List UInt8)}, SS l → SS m → (∀ x, x ∈ l ↔ x ∈ m) → l = m := by
  intro l
  induction l with
  | nil =>
    intro m _ _ h
    cases m with
    | nil => rfl
    | cons b m => exact absurd ((h b).2 List.mem_cons_self) (by simp)
  | cons a l ih =>
    intro m hl hm h
    cases m with
    | nil => exact absurd ((h a).1 List.mem_cons_self) (by simp)
    | cons b m =>
      have h1 := List.pairwise_cons.1 hl
      have h2 := List.pairwise_cons.1 hm
      have e : a = b := by
        rcases List.mem_cons.1 ((h a).1 List.mem_cons_self) with e | e
        · exact e
        · rcases List.mem_cons.1 ((h b).2 List.mem_cons_self) with f | f
          · exact f.symm
          · have x := h2.1 a e
            have y := h1.1 b f
            have := cmpL_swap a b
            omega
      subst e
      rw [ih h1.2 h2.2 (fun x => ?_)]
      have n1 : a ∉ l := fun hx => by have := h1.1 a hx; rw [cmpL_self] at this; omega
      have n2 : a ∉ m := fun hx => by have := h2.1 a hx; rw [cmpL_self] at this; omega
      constructor
      · intro hx
        rcases List.mem_cons.1 ((h x).1 (List.mem_cons_of_mem _ hx)) with e | e
        · subst e; exact absurd hx n1
        · exact e
      · intro hx
        rcases List.mem_cons.1 ((h x).2 (List.mem_cons_of_mem _ hx)) with e | e
        · subst e; exact absurd hx n2
        · exact e
def Min (ds : List (List UInt8)) (x : List UInt8) : Prop := x ∈ ds ∧ ∀ d ∈ ds, withinL d x = true → d = x
theorem Min_congr {ds es : List (List UInt8)} (h : ∀ x, x ∈ ds ↔ x ∈ es) (x : List UInt8) : Min ds x ↔ Min es x := by
  unfold Min
  rw [h x]
  constructor
  · rintro ⟨a, b⟩; exact ⟨a, fun d hd => b d ((h d).2 hd)⟩
  · rintro ⟨a, b⟩; exact ⟨a, fun d hd => b d ((h d).1 hd)⟩
def Cover (os ds : List (List UInt8)) : Prop := ∀ d ∈ ds, ∃ a ∈ os, withinL a d = true
def lastL (l : List (List UInt8)) : List UInt8 := l.getD (l.length - 1) []
def keepL : List (List UInt8) → List (List UInt8) → List (List UInt8)
  | acc, [] => acc
  | acc, s :: r => keepL (if acc = [] ∨ withinL (lastL acc) s = false then acc ++ [s] else acc) r
theorem lastL_snoc (l : List (List UInt8)) (x : List UInt8) : lastL (l ++ [x]) = x := by
  unfold lastL
  rw [List.getD_eq_getElem?_getD, List.length_append, List.length_singleton, Nat.add_sub_cancel, List.getElem?_append_right (Nat.le_refl _), Nat.sub_self]
  rfl
theorem last_cases (l : List (List UInt8)) (h : l ≠ []) : ∃ m, l = m ++ [lastL l] := by
  have := List.dropLast_concat_getLast h
  refine ⟨l.dropLast, ?_⟩
  rw [← this, lastL_snoc, List.dropLast_concat]
theorem le_last {l : List (List UInt8)} (h : SS l) (hne : l ≠ []) : ∀ a ∈ l, cmpL a (lastL l) ≤ 0 := by
  obtain ⟨m, hm⟩ := last_cases l hne
  generalize lastL l = z at hm ⊢
  subst hm
  intro a ha
  rcases List.mem_append.1 ha with ha | ha
  · have := (List.pairwise_append.1 h).2.2 a ha z (by simp); omega
  · rw [List.mem_singleton.1 ha, cmpL_self]; omega
theorem last_mem {l : List (List UInt8)} (hne : l ≠ []) : lastL l ∈ l := by
  obtain ⟨m, hm⟩ := last_cases l hne
  rw [hm, lastL_snoc]; simp
theorem keep_inv (r : List (List UInt8)) : ∀ p acc : List (List UInt8), (p ++ r).Pairwise (fun a b => cmpL a b ≤ 0) → (∀ x ∈ p ++ r, isP x = true) → SS acc → (∀ x, x ∈ acc ↔ Min p x) → Cover acc p →
    SS (keepL acc r) ∧ (∀ x, x ∈ keepL acc r ↔ Min (p ++ r) x) ∧ Cover (keepL acc r) (p ++ r) := by
  induction r with
  | nil => intro p acc _ _ h1 h2 h3; rw [List.append_nil]; exact ⟨h1, h2, h3⟩
  | cons s r ih =>
    intro p acc hs hp h1 h2 h3
    have e : p ++ s :: r = (p ++ [s]) ++ r := by simp
    rw [e] at hs hp ⊢
    have hps : ∀ d ∈ p, cmpL d s ≤ 0 := fun d hd => (List.pairwise_append.1 (List.pairwise_append.1 hs).1).2.2 d hd s (by simp)
    have isS : isP s = true := hp s (by simp)
    have hpP : ∀ d ∈ p, isP d = true := fun d hd => hp d (by simp [hd])
    rw [keepL]
    by_cases hc : acc = [] ∨ withinL (lastL acc) s = false
    · rw [if_pos hc]
      have hno : ∀ d ∈ p, withinL d s ≠ true := by
        intro d hd hw
        obtain ⟨a, ha, haw⟩ := h3 d hd
        have hne : acc ≠ [] := by intro e; rw [e] at ha; simp at ha
        rcases hc with hc | hc
        · exact hne hc
        · have has := within_trans _ _ _ haw hw
          have hl := last_mem hne
          have hl2 := (h2 _).1 hl
          have hal := within_between has (hpP _ hl2.1) (le_last h1 hne a ha) (hps _ hl2.1)
          have := hl2.2 a ((h2 a).1 ha).1 hal
          rw [this] at has
          rw [has] at hc; exact absurd hc (by decide)
      have hsn : s ∉ p := fun h => hno s h (within_self isS)
      refine ih (p ++ [s]) (acc ++ [s]) hs hp ?_ ?_ ?_
      · refine List.pairwise_append.2 ⟨h1, by simp, ?_⟩
        intro a ha b hb
        rw [List.mem_singleton.1 hb]
        have hap := ((h2 a).1 ha).1
        have h := hps a hap
        have hne : cmpL a s ≠ 0 := fun e => by rw [cmpL_zero] at e; rw [e] at hap; exact hsn hap
        omega
      · intro x
        rw [List.mem_append, List.mem_singleton]
        constructor
        · rintro (hx | hx)
          · have hm := (h2 x).1 hx
            refine ⟨by simp [hm.1], fun d hd hw => ?_⟩
            rcases List.mem_append.1 hd with hd | hd
            · exact hm.2 d hd hw
            · rw [List.mem_singleton.1 hd] at hw ⊢
              exact cmp_anti (within_cmp hw) (hps x hm.1)
          · subst hx
            refine ⟨by simp, fun d hd hw => ?_⟩
            rcases List.mem_append.1 hd with hd | hd
            · exact absurd hw (hno d hd)
            · exact List.mem_singleton.1 hd
        · rintro ⟨hx, hm⟩
          rcases List.mem_append.1 hx with hx | hx
          · exact .inl ((h2 x).2 ⟨hx, fun d hd => hm d (by simp [hd])⟩)
          · exact .inr (List.mem_singleton.1 hx)
      · intro d hd
        rcases List.mem_append.1 hd with hd | hd
        · obtain ⟨a, ha, hw⟩ := h3 d hd
          exact ⟨a, by simp [ha], hw⟩
        · rw [List.mem_singleton.1 hd]
          exact ⟨s, by simp, within_self isS⟩
    · rw [if_neg hc]
      have hne : acc ≠ [] := fun h => hc (.inl h)
      have hw : withinL (lastL acc) s = true := by
        cases h : withinL (lastL acc) s with
        | true => rfl
        | false => exact absurd (.inr h) hc
      have hl := last_mem hne
      refine ih (p ++ [s]) acc hs hp h1 ?_ ?_
      · intro x
        rw [h2 x]
        constructor
        · rintro ⟨hx, hm⟩
          refine ⟨by simp [hx], fun d hd hdw => ?_⟩
          rcases List.mem_append.1 hd with hd | hd
          · exact hm d hd hdw
          · rw [List.mem_singleton.1 hd] at hdw ⊢
            exact cmp_anti (within_cmp hdw) (hps x hx)
        · rintro ⟨hx, hm⟩
          have hlp := ((h2 _).1 hl).1
          rcases List.mem_append.1 hx with hx | hx
          · exact ⟨hx, fun d hd => hm d (by simp [hd])⟩
          · rw [List.mem_singleton.1 hx] at hm ⊢
            have e := hm _ (by simp [hlp]) hw
            rw [← e]
            exact (h2 _).1 hl
      · intro d hd
        rcases List.mem_append.1 hd with hd | hd
        · exact h3 d hd
        · rw [List.mem_singleton.1 hd]
          exact ⟨_, hl, hw⟩
def leL (x y : List UInt8) : Bool := !decide (cmpL y x < 0)
def sortL (l : List (List UInt8)) : List (List UInt8) := l.mergeSort leL
def formL (ds : List (List UInt8)) : List (List UInt8) := keepL [] (sortL ds)
def ofL (ds : List (List UInt8)) : List (List UInt8) × Int := if ds.all isP = true then (if (formL ds).length > 64 then ([], 181) else (formL ds, 0)) else ([], 40)
theorem sort_mem (l : List (List UInt8)) (x : List UInt8) : x ∈ sortL l ↔ x ∈ l := List.mem_mergeSort
theorem leL_iff (x y : List UInt8) : leL x y = true ↔ cmpL x y ≤ 0 := by
  unfold leL
  have := cmpL_swap x y
  simp only [Bool.not_eq_true', decide_eq_false_iff_not]
  omega
theorem sort_sorted (l : List (List UInt8)) : (sortL l).Pairwise fun a b => cmpL a b ≤ 0 := by
  have h := List.pairwise_mergeSort (le := leL) (fun a b c h1 h2 => by rw [leL_iff] at *; exact cmpL_trans a b c h1 h2) (fun a b => by
    simp only [Bool.or_eq_true, leL_iff]
    have := cmpL_swap a b
    omega) l
  exact h.imp fun h => (leL_iff _ _).1 h
theorem form_all (ds : List (List UInt8)) (hp : ds.all isP = true) : SS (formL ds) ∧ (∀ x, x ∈ formL ds ↔ Min ds x) ∧ Cover (formL ds) ds := by
  have hP : ∀ x ∈ ds, isP x = true := List.all_eq_true.1 hp
  have h := keep_inv (sortL ds) [] [] (by simpa using sort_sorted ds) (by simpa using fun x hx => hP x ((sort_mem ds x).1 hx)) List.Pairwise.nil (by simp [Min]) (by intro d hd; simp at hd)
  rw [List.nil_append] at h
  refine ⟨h.1, fun x => (h.2.1 x).trans (Min_congr (sort_mem ds) x), fun d hd => h.2.2 d ((sort_mem ds d).2 hd)⟩
theorem form_is (ds o : List (List UInt8)) (hp : ds.all isP = true) (h1 : SS o) (h2 : ∀ x, x ∈ o ↔ Min ds x) : formL ds = o := by
  have h := form_all ds hp
  exact SS_ext h.1 h1 (fun x => (h.2.1 x).trans (h2 x).symm)
theorem keep_length (r : List (List UInt8)) : ∀ acc, (keepL acc r).length ≤ acc.length + r.length := by
  induction r with
  | nil => intro acc; simp [keepL]
  | cons s r ih =>
    intro acc
    rw [keepL]
    refine Nat.le_trans (ih _) ?_
    split <;> simp <;> omega
theorem sort_length (l : List (List UInt8)) : (sortL l).length = l.length := List.length_mergeSort _
theorem form_length (ds : List (List UInt8)) : (formL ds).length ≤ ds.length := by
  have := keep_length (sortL ds) []
  rw [sort_length] at this
  simpa [formL] using this
theorem sortB_map (l : List (List UInt8)) : sortB (l.map ba) = (sortL l).map ba := by
  unfold sortB sortL
  exact (List.map_mergeSort (fun a _ b _ => by unfold leL leB cmpB; rw [ba_data, ba_data])).symm
theorem anyNot_ev (l : List (List UInt8)) (h : ∀ x ∈ l, x.length < 4294967281) : Ev (fun k => anyNot k (l.map ba)) (!l.all isP) := by
  induction l with
  | nil => exact Ev.val rfl
  | cons s r ih =>
    rw [List.map_cons]
    unfold anyNot
    refine Ev.bind (isPath_ev s (h s List.mem_cons_self)) ?_
    by_cases e : isP s = true
    · refine Ev.pos e ?_
      rw [List.all_cons, e, Bool.true_and]
      exact ih fun x hx => h x (List.mem_cons_of_mem _ hx)
    · refine Ev.neg e (Ev.val ?_)
      rw [List.all_cons, Bool.eq_false_iff.2 e]; rfl
theorem cone_Of_l0_eq (k : Nat) (x5 : List ByteArray) (x15 : List ByteArray) (x16 : Int) (x17 : Int) : cone_Of.l0 (k + 1) x5 x15 x16 x17 = if x17 < x16 then (if 0 ≤ x17 then (if x17 < (x15.length : Int) then (if (x5.length : Int) = 0 then (if x5.length < 8796093022208 then (cone_Of.l0 k (x5 ++ [rdOf ByteArray.empty x15 x17]) x15 x16 (wrap64 (x17 + 1))) else (none)) else (if 0 ≤ (wrap64 ((x5.length : Int) - 1)) then (if (wrap64 ((x5.length : Int) - 1)) < (x5.length : Int) then ((path_Within.f k (rdOf ByteArray.empty x5 (wrap64 ((x5.length : Int) - 1))) (rdOf ByteArray.empty x15 x17)).bind fun t113 => (if t113 = true then (cone_Of.l0 k x5 x15 x16 (wrap64 (x17 + 1))) else (if x5.length < 8796093022208 then (cone_Of.l0 k (x5 ++ [rdOf ByteArray.empty x15 x17]) x15 x16 (wrap64 (x17 + 1))) else (none)))) else (none)) else (none))) else (none)) else (none)) else (if (x5.length : Int) > 64 then (some (([] : List ByteArray), 181)) else (some (x5, 0))) := by simp only [cone_Of.l0]
theorem wrapL (l : List (List UInt8)) (h : l.length < 4611686018427387904) (hne : l ≠ []) : wrap64 (((l.map ba).length : Int) - 1) = ((l.length - 1 : Nat) : Int) := by
  have := List.length_pos_iff.2 hne
  rw [List.length_map]
  unfold wrap64; omega
theorem of_loop (l : List (List UInt8)) (hl : l.length < 4000000000) (hs : ∀ x ∈ l, x.length < 4294967281) : ∀ d n acc, n ≤ l.length → l.length - n = d → acc.length ≤ n → (∀ x ∈ acc, x.length < 4294967281) →
    Ev (fun k => cone_Of.l0 k (acc.map ba) (l.map ba) ((l.map ba).length : Int) (n : Int)) (if (keepL acc (l.drop n)).length > 64 then ([], 181) else ((keepL acc (l.drop n)).map ba, 0)) := by
  intro d
  induction d with
  | zero =>
    intro n acc hn hd ha hsa
    rw [List.drop_of_length_le (by omega), keepL]
    refine Ev.step (fun k => cone_Of_l0_eq k _ _ _ _) (Ev.neg (by rw [List.length_map]; omega) ?_)
    rw [List.length_map]
    by_cases h : acc.length > 64
    · rw [if_pos h]; exact Ev.pos (by omega) (Ev.val rfl)
    · rw [if_neg h]; exact Ev.neg (by omega) (Ev.val rfl)
  | succ d ih =>
    intro n acc hn hd ha hsa
    have h1 : n < l.length := by omega
    have hm := hs _ (getD_mem l n h1)
    rw [drop_at l n h1, keepL]
    have hsa' : ∀ x ∈ acc ++ [l.getD n []], x.length < 4294967281 := fun x hx => by
      rcases List.mem_append.1 hx with hx | hx
      · exact hsa x hx
      · rw [List.mem_singleton.1 hx]; exact hm
    have ihS := ih (n + 1) (acc ++ [l.getD n []]) (by omega) (by omega) (by rw [List.length_append, List.length_singleton]; omega) hsa'
    have ihK := ih (n + 1) acc (by omega) (by omega) (by omega) hsa
    rw [List.map_append, List.map_singleton] at ihS
    refine Ev.step (fun k => cone_Of_l0_eq k _ _ _ _) (Ev.pos (by rw [List.length_map]; omega) (Ev.pos (by omega) (Ev.pos (by rw [List.length_map]; omega) ?_)))
    rw [rd_map, wrapN n (by omega)]
    generalize hz : (if acc = [] ∨ withinL (lastL acc) (l.getD n []) = false then acc ++ [l.getD n []] else acc) = z
    by_cases h0 : acc = []
    · obtain rfl : acc ++ [l.getD n []] = z := by rw [← hz, if_pos (.inl h0)]
      exact Ev.pos (by rw [h0]; rfl) (Ev.pos (by rw [List.length_map]; omega) ihS)
    · have hpos := List.length_pos_iff.2 h0
      refine Ev.neg (by rw [List.length_map]; omega) ?_
      rw [wrapL acc (by omega) h0, rd_map]
      refine Ev.pos (by omega) (Ev.pos (by rw [List.length_map]; omega) (Ev.bind (within_ev _ _ (hsa _ (last_mem h0)) hm) ?_))
      change Ev (fun k => if withinL (lastL acc) (l.getD n []) = true then _ else _) _
      by_cases hw : withinL (lastL acc) (l.getD n []) = true
      · obtain rfl : acc = z := by rw [← hz, if_neg (fun h => h.elim h0 fun h => by rw [hw] at h; exact absurd h (by decide))]
        exact Ev.pos hw ihK
      · obtain rfl : acc ++ [l.getD n []] = z := by rw [← hz, if_pos (.inr (Bool.eq_false_iff.2 hw))]
        exact Ev.neg hw (Ev.pos (by rw [List.length_map]; omega) ihS)
theorem of_ev (ds : List (List UInt8)) (hl : ds.length < 4000000000) (hs : ∀ x ∈ ds, x.length < 4294967281) : Ev (fun k => cone_Of.f k (ds.map ba)) ((ofL ds).1.map ba, (ofL ds).2) := by
  unfold cone_Of.f ofL
  have hc : Ev (fun k => slices_ContainsFunc_string_string.f k (ds.map ba)) (!ds.all isP) := by
    unfold slices_ContainsFunc_string_string.f
    exact Ev.pos (by rw [List.length_map]; omega) (anyNot_ev ds hs)
  refine Ev.bind hc ?_
  by_cases hp : ds.all isP = true
  · rw [if_pos hp]
    refine Ev.neg (by rw [hp]; decide) ?_
    have h1 : slices_Clone_string_string.f (ds.map ba) = some (ds.map ba) := if_pos (by rw [List.length_map]; omega)
    have h2 : slices_SortFunc_string_string.f (ds.map ba) = some ((sortL ds).map ba) := by
      unfold slices_SortFunc_string_string.f
      have hb : ∀ x ∈ ds.map ba, x.size < 4611686018427387904 := fun x hx => by
        obtain ⟨y, hy, rfl⟩ := List.mem_map.1 hx
        have := hs y hy
        rw [ba_size]; omega
      rw [if_pos ⟨by rw [List.length_map]; omega, hb⟩, sortB_map]
    refine Ev.have_ h1 (Ev.have_ h2 ?_)
    have h := of_loop (sortL ds) (by rw [sort_length]; exact hl) (fun x hx => hs x ((sort_mem ds x).1 hx)) _ 0 [] (Nat.zero_le _) rfl (Nat.zero_le _) (by simp)
    rw [List.drop_zero] at h
    have e : ((if (formL ds).length > 64 then (([] : List (List UInt8)), (181 : Int)) else (formL ds, 0)).1.map ba, (if (formL ds).length > 64 then (([] : List (List UInt8)), (181 : Int)) else (formL ds, 0)).2) = if (formL ds).length > 64 then ([], 181) else ((formL ds).map ba, 0) := by
      split <;> rfl
    rw [e]
    exact h
  · rw [if_neg hp]
    exact Ev.pos (by rw [Bool.eq_false_iff.2 hp]; rfl) (Ev.val rfl)
def minB (ds : List (List UInt8)) (x : List UInt8) : Bool := ds.contains x && ds.all fun d => !withinL d x || d == x
theorem minB_iff (ds : List (List UInt8)) (x : List UInt8) : minB ds x = true ↔ Min ds x := by
  unfold minB Min
  simp only [Bool.and_eq_true, List.contains_iff_mem, List.all_eq_true, Bool.or_eq_true, Bool.not_eq_true', beq_iff_eq]
  constructor
  · rintro ⟨a, b⟩
    refine ⟨a, fun d hd hw => ?_⟩
    rcases b d hd with h | h
    · rw [hw] at h; exact absurd h (by decide)
    · exact h
  · rintro ⟨a, b⟩
    refine ⟨a, fun d hd => ?_⟩
    cases hw : withinL d x with
    | false => exact .inl rfl
    | true => exact .inr (b d hd hw)
def shownL : List (List UInt8) := [[98], [97, 47, 99], [97, 47, 99, 47, 100], [98]]
theorem shown_form : formL shownL = [[97, 47, 99], [98]] := by
  refine form_is shownL _ (by decide) ?_ (fun x => ?_)
  · unfold SS; decide
  · rw [← minB_iff]
    constructor
    · intro hx
      have : ∀ y ∈ [[97, 47, 99], [98]], minB shownL y = true := by decide
      exact this x hx
    · intro hx
      have hm := ((minB_iff _ _).1 hx).1
      have : ∀ y ∈ shownL, minB shownL y = true → y ∈ ([[97, 47, 99], [98]] : List (List UInt8)) := by decide
      exact this x hm hx
theorem shown_of : ofL shownL = ([[97, 47, 99], [98]], 0) := by
  unfold ofL
  rw [if_pos (by decide), shown_form]; rfl
theorem shown_0 : (rdOf ByteArray.empty (([[97, 47, 99], [98]] : List (List UInt8)).map ba) 0).toList = [97, 47, 99] := by
  rw [show (0 : Int) = ((0 : Nat) : Int) from rfl, rd_map, ba_toList]; rfl
theorem shown_1 : (rdOf ByteArray.empty (([[97, 47, 99], [98]] : List (List UInt8)).map ba) 1).toList = [98] := by
  rw [show (1 : Int) = ((1 : Nat) : Int) from rfl, rd_map, ba_toList]; rfl
theorem shown_ev : Ev (fun k => tussocklaw18_shown.f k) true := by
  unfold tussocklaw18_shown.f
  have h := of_ev shownL (by decide) (by decide)
  rw [shown_of] at h
  refine Ev.bind h ?_
  have h1 := has_ev [[97, 47, 99], [98]] [97, 47, 120] (by decide) (by decide) (by decide)
  have h2 := has_ev [[97, 47, 99], [98]] [97, 47, 98, 47, 120] (by decide) (by decide) (by decide)
  have e1 : hasL [[97, 47, 99], [98]] [97, 47, 120] = true := by decide
  have e2 : hasL [[97, 47, 99], [98]] [97, 47, 98, 47, 120] = false := by decide
  rw [e1] at h1
  rw [e2] at h2
  exact Ev.pos rfl (Ev.pos rfl (Ev.pos (by decide) (Ev.pos shown_0 (Ev.pos (by decide) (Ev.pos shown_1 (Ev.bind h1 (Ev.pos rfl (Ev.bind h2 (Ev.val rfl)))))))))
end Go.Proofs.YtinndapmljnifaaDoor.P
