/- The one form again, lines of a profile and what is shown, over plain lists: no program. -/
import Derived.Test.YtinndapmljnifaaDoorConeB
namespace Go.Proofs.YtinndapmljnifaaDoor.P
open Go.RowKit Go.Proofs.YtinndapmljnifaaDoor.S Go.Proofs.YtinndapmljnifaaDoor.Q
open Go.Proofs.YtinndapmljnifaaDoorW.PrintWords Go.Proofs.YtinndapmljnifaaDoorW.PrintLast Go.Proofs.YtinndapmljnifaaDoorW.PrintMore
theorem Min_cover {a ds : List (List UInt8)} (hsub : ∀ x ∈ a, x ∈ ds) (hc : Cover a ds) (x : List UInt8) : Min a x ↔ Min ds x := by
  constructor
  · rintro ⟨hx, hm⟩
    refine ⟨hsub x hx, fun d hd hw => ?_⟩
    obtain ⟨y, hy, hyd⟩ := hc d hd
    have e := hm y hy (within_trans _ _ _ hyd hw)
    rw [e] at hyd
    exact within_anti hw hyd
  · rintro ⟨hx, hm⟩
    obtain ⟨y, hy, hyx⟩ := hc x hx
    have e := hm y (hsub y hy) hyx
    rw [e] at hy
    exact ⟨hy, fun d hd => hm d (hsub d hd)⟩
theorem of_zero (ds : List (List UInt8)) (h : (ofL ds).2 = 0) : ds.all isP = true ∧ (ofL ds).1 = formL ds ∧ (formL ds).length ≤ 64 := by
  unfold ofL at h ⊢
  by_cases hp : ds.all isP = true
  · rw [if_pos hp] at h ⊢
    by_cases hl : (formL ds).length > 64
    · rw [if_pos hl] at h; exact absurd h (by decide)
    · rw [if_neg hl]; exact ⟨hp, rfl, by omega⟩
  · rw [if_neg hp] at h; exact absurd h (by decide)
theorem of_one (ds es : List (List UInt8)) (h1 : ds.all isP = true) (h2 : es.all isP = true) (h : ∀ x, Min ds x ↔ Min es x) : ofL ds = ofL es := by
  have f := form_all es h2
  have e : formL ds = formL es := form_is ds _ h1 f.1 (fun x => (f.2.1 x).trans (h x).symm)
  unfold ofL
  rw [if_pos h1, if_pos h2, e]
theorem of_len (ds : List (List UInt8)) : (ofL ds).1.length ≤ 64 := by
  unfold ofL
  split
  · split
    · simp
    · rename_i h; exact Nat.not_lt.1 h
  · simp
theorem form_isP {ds : List (List UInt8)} (h : ds.all isP = true) : (formL ds).all isP = true := by
  rw [List.all_eq_true] at *
  intro x hx
  exact h x (((form_all ds (List.all_eq_true.2 h)).2.1 x).1 hx).1
theorem of_form (ds : List (List UInt8)) (h : ds.all isP = true) : ofL (formL ds) = ofL ds := by
  have f := form_all ds h
  exact of_one _ _ (form_isP h) h (fun x => Min_cover (fun x hx => ((f.2.1 x).1 hx).1) f.2.2 x)
theorem form_dir (ds : List (List UInt8)) (h : ds.all isP = true) (s : List UInt8) : dirL (formL ds) s = dirL ds s := by
  have f := form_all ds h
  have hin : anyIn (formL ds) s ↔ anyIn ds s := by
    constructor
    · rintro ⟨c, hc, hw⟩; exact ⟨c, ((f.2.1 c).1 hc).1, hw⟩
    · rintro ⟨c, hc, hw⟩
      obtain ⟨a, ha, haw⟩ := f.2.2 c hc
      exact ⟨a, ha, within_trans _ _ _ haw hw⟩
  have hab : ¬ anyIn ds s → (anyAbove (formL ds) s ↔ anyAbove ds s) := by
    intro hn
    constructor
    · rintro ⟨c, hc, hw⟩; exact ⟨c, ((f.2.1 c).1 hc).1, hw⟩
    · rintro ⟨c, hc, hw⟩
      obtain ⟨a, ha, haw⟩ := f.2.2 c hc
      rcases within_either haw hw with h1 | h1
      · exact absurd (hin.1 ⟨a, ha, h1⟩) hn
      · exact ⟨a, ha, h1⟩
  rw [dirL_val, dirL_val]
  by_cases hp : isP s = true
  · rw [if_pos hp, if_pos hp]
    by_cases h1 : anyIn ds s
    · rw [if_pos h1, if_pos (hin.2 h1)]
    · rw [if_neg h1, if_neg (fun x => h1 (hin.1 x))]
      have e := hab h1
      by_cases h2 : anyAbove ds s ∨ s = []
      · rw [if_pos h2, if_pos (h2.imp e.2 id)]
      · rw [if_neg h2, if_neg (fun x => h2 (x.imp e.1 id))]
  · rw [if_neg hp, if_neg hp]
theorem form_has (ds : List (List UInt8)) (h : ds.all isP = true) (s : List UInt8) : hasL (formL ds) s = hasL ds s := by
  unfold hasL
  rw [form_dir ds h, form_dir ds h]
def skipL (s : List UInt8) : Bool := s == [] || (s.headD 0 == 35)
def parseG : Nat → List (List UInt8) → List (List UInt8) → List (List UInt8) × Int × Int
  | _, acc, [] => ((ofL acc).1, 0, (ofL acc).2)
  | i, acc, s :: r => if skipL s = true then parseG (i + 1) acc r else if s = [42] then parseG (i + 1) (acc ++ [[]]) r else if isP s = true then parseG (i + 1) (acc ++ [s]) r else ([], ((i + 1 : Nat) : Int), 180)
def muteL (s : List UInt8) : Bool := s == [42] || (s != [] && s.headD 0 == 35) || s.contains 10
def nameL (s : List UInt8) : List UInt8 := if s = [] then [42] else s
def lineL (s : List UInt8) : List UInt8 := nameL s ++ [10]
def showG : List UInt8 → List (List UInt8) → List UInt8 × Int
  | b, [] => (b, 0)
  | b, s :: r => if muteL s = true then ([], 180) else showG (b ++ lineL s) r
def showL (ds : List (List UInt8)) : List UInt8 × Int := if (ofL ds).2 = 0 then showG [] (ofL ds).1 else ([], (ofL ds).2)
theorem showG_mute (l : List (List UInt8)) : ∀ b, l.any muteL = true → showG b l = ([], 180) := by
  induction l with
  | nil => intro b h; simp at h
  | cons s r ih =>
    intro b h
    rw [showG]
    by_cases hm : muteL s = true
    · rw [if_pos hm]
    · rw [if_neg hm]
      refine ih _ ?_
      rw [List.any_cons, Bool.eq_false_iff.2 hm, Bool.false_or] at h
      exact h
theorem showG_said (l : List (List UInt8)) : ∀ b, l.any muteL = false → showG b l = (b ++ (l.map lineL).flatten, 0) := by
  induction l with
  | nil => intro b _; simp [showG]
  | cons s r ih =>
    intro b h
    rw [List.any_cons, Bool.or_eq_false_iff] at h
    rw [showG, if_neg (by rw [h.1]; decide), ih _ h.2]
    simp
theorem name_no (s : List UInt8) (h : muteL s = false) : (10 : UInt8) ∉ nameL s := by
  unfold muteL at h
  rw [Bool.or_eq_false_iff, Bool.or_eq_false_iff] at h
  unfold nameL
  split
  · decide
  · intro hm
    have := h.2
    rw [List.contains_iff_mem.2 hm] at this
    exact absurd this (by decide)
theorem pts_lines (l : List (List UInt8)) (h : l.any muteL = false) : pts 10 ((l.map lineL).flatten) = l.map nameL ++ [[]] := by
  induction l with
  | nil => rfl
  | cons s r ih =>
    rw [List.any_cons, Bool.or_eq_false_iff] at h
    rw [List.map_cons, List.flatten_cons, lineL, List.append_assoc, List.singleton_append, pts_append 10 _ _ (name_no s h.1), ih h.2]
    rfl
theorem parse_lines (l : List (List UInt8)) : ∀ i acc, l.any muteL = false → l.all isP = true → parseG i acc (l.map nameL ++ [[]]) = ((ofL (acc ++ l)).1, 0, (ofL (acc ++ l)).2) := by
  induction l with
  | nil =>
    intro i acc _ _
    rw [List.map_nil, List.nil_append, List.append_nil, parseG, if_pos (by rfl), parseG]
  | cons s r ih =>
    intro i acc hm hp
    rw [List.any_cons, Bool.or_eq_false_iff] at hm
    rw [List.all_cons, Bool.and_eq_true] at hp
    have e : acc ++ s :: r = (acc ++ [s]) ++ r := by simp
    rw [List.map_cons, List.cons_append, parseG, e]
    by_cases h0 : s = []
    · subst h0
      rw [if_neg (by decide), if_pos (by rfl)]
      exact ih _ _ hm.2 hp.2
    · have hn : nameL s = s := if_neg h0
      have h1 := hm.1
      unfold muteL at h1
      rw [Bool.or_eq_false_iff, Bool.or_eq_false_iff, bne_iff_ne.2 h0, Bool.true_and] at h1
      rw [hn, if_neg (by unfold skipL; rw [h1.1.2, beq_eq_false_iff_ne.2 h0]; decide), if_neg (beq_eq_false_iff_ne.1 h1.1.1), if_pos hp.1]
      exact ih _ _ hm.2 hp.2
theorem shown_reads (ds : List (List UInt8)) (h : ds.all isP = true) (hm : (formL ds).any muteL = false) : parseG 0 [] (pts 10 (showG [] (formL ds)).1) = ((ofL ds).1, 0, (ofL ds).2) := by
  rw [showG_said _ _ hm, List.nil_append, pts_lines _ hm, parse_lines _ _ _ hm (form_isP h), List.nil_append, of_form ds h]
end Go.Proofs.YtinndapmljnifaaDoor.P
