/- The law ConeTwo over plain lists. -/
import Derived.Test.YtinndapmljnifaaDoorConeB
import Derived.Test.YtinndapmljnifaaDoorCx2
namespace Go.Proofs.YtinndapmljnifaaDoor.P
open Go.RowKit Go.Proofs.YtinndapmljnifaaDoor.S Go.Proofs.YtinndapmljnifaaDoor.Q Go.Proofs.YtinndapmljnifaaDoor.C
open Go.Proofs.YtinndapmljnifaaDoorW.PrintWords Go.Proofs.YtinndapmljnifaaDoorW.PrintLast Go.Proofs.YtinndapmljnifaaDoorW.PrintMore

theorem few_eqE (l : List (List UInt8)) : tussocklaw18_few.f (l.map ba) = some ((l.take 200).map ba) := by
  unfold tussocklaw18_few.f
  rw [List.map_take]
theorem Min_cover {a ds : List (List UInt8)} (hsub : ∀ x ∈ a, x ∈ ds) (hc : Cover a ds) (x : List UInt8) : Min a x ↔ Min ds x := by
  constructor
  · rintro ⟨hx, hm⟩
    refine ⟨hsub x hx, fun d hd hw => ?_⟩
    obtain ⟨y, hy, hyd⟩ := hc d hd
    have e := hm y hy (within_trans _ _ _ hyd hw)
    rw [e] at hyd
    exact within_anti hw hyd
  · rintro ⟨hx, hm⟩
    obtain ⟨y, hy, hyx⟩ := hc x hx
    have e := hm y (hsub y hy) hyx
    rw [e] at hy
    exact ⟨hy, fun d hd => hm d (hsub d hd)⟩
theorem of_zero (ds : List (List UInt8)) (h : (ofL ds).2 = 0) : ds.all isP = true ∧ (ofL ds).1 = formL ds ∧ (formL ds).length ≤ 64 := by
  unfold ofL at h ⊢
  by_cases hp : ds.all isP = true
  · rw [if_pos hp] at h ⊢
    by_cases hl : (formL ds).length > 64
    · rw [if_pos hl] at h; exact absurd h (by decide)
    · rw [if_neg hl]; exact ⟨hp, rfl, by omega⟩
  · rw [if_neg hp] at h; exact absurd h (by decide)
theorem of_one (ds es : List (List UInt8)) (h1 : ds.all isP = true) (h2 : es.all isP = true) (h : ∀ x, Min ds x ↔ Min es x) : ofL ds = ofL es := by
  have f := form_all es h2
  have e : formL ds = formL es := form_is ds _ h1 f.1 (fun x => (f.2.1 x).trans (h x).symm)
  unfold ofL
  rw [if_pos h1, if_pos h2, e]
theorem two_same (p q : List (List UInt8)) (h1 : p.all isP = true) (h2 : q.all isP = true) : ofL (p ++ q) = ofL (formL p ++ formL q) := by
  have f := form_all p h1
  have g := form_all q h2
  have P1 := List.all_eq_true.1 h1
  have P2 := List.all_eq_true.1 h2
  have s1 : ∀ x ∈ formL p, x ∈ p := fun x hx => ((f.2.1 x).1 hx).1
  have s2 : ∀ x ∈ formL q, x ∈ q := fun x hx => ((g.2.1 x).1 hx).1
  refine of_one _ _ (by rw [List.all_append, h1, h2]; rfl) ?_ (fun x => (Min_cover ?_ ?_ x).symm)
  · rw [List.all_eq_true]
    intro x hx
    rcases List.mem_append.1 hx with hx | hx
    · exact P1 x (s1 x hx)
    · exact P2 x (s2 x hx)
  · intro x hx
    rcases List.mem_append.1 hx with hx | hx
    · exact List.mem_append_left _ (s1 x hx)
    · exact List.mem_append_right _ (s2 x hx)
  · intro d hd
    rcases List.mem_append.1 hd with hd | hd
    · obtain ⟨a, ha, hw⟩ := f.2.2 d hd
      exact ⟨a, List.mem_append_left _ ha, hw⟩
    · obtain ⟨a, ha, hw⟩ := g.2.2 d hd
      exact ⟨a, List.mem_append_right _ ha, hw⟩
theorem of_len (ds : List (List UInt8)) : (ofL ds).1.length ≤ 64 := by
  unfold ofL
  split
  · split
    · simp
    · rename_i h; exact Nat.not_lt.1 h
  · simp
theorem two_j0_eq (k : Nat) (x0 x1 : List ByteArray) (x5 : Bool) (x6 x8 : List ByteArray) (x33 : Bool) : tussocklaw18_ConeTwo.j0 (k + 1) x0 x1 x5 x6 x8 x33 = if x33 = true then (some x5) else (if 0 ≤ (wrap64 ((x0.length : Int) + (x1.length : Int))) then (if (wrap64 ((x0.length : Int) + (x1.length : Int)) : Int).toNat ≤ 17592186044416 then ((some (([] : List ByteArray) : List ByteArray)).bind fun y116 => ((tussocklaw18_few.f x0).bind fun t119 => (if y116.length + t119.length < 8796093022208 then ((some (y116 ++ t119 : List ByteArray)).bind fun y122 => ((tussocklaw18_few.f x1).bind fun t125 => (if y122.length + t125.length < 8796093022208 then ((cone_Of.f k (y122 ++ t125)).bind fun bt131 => (if 0 ≤ (wrap64 ((x6.length : Int) + (x8.length : Int))) then (if (wrap64 ((x6.length : Int) + (x8.length : Int)) : Int).toNat ≤ 17592186044416 then ((some (([] : List ByteArray) : List ByteArray)).bind fun y135 => (if y135.length + x6.length < 8796093022208 then ((some (y135 ++ x6 : List ByteArray)).bind fun y138 => (if y138.length + x8.length < 8796093022208 then ((cone_Of.f k (y138 ++ x8)).bind fun bt144 => (if x5 = true then (if bt131.2 = bt144.2 then ((tussockref04_Same.f k bt131.1 bt144.1).bind fun t148 => (some t148)) else (some false)) else (some false))) else (none))) else (none))) else (none)) else (none))) else (none)))) else (none)))) else (none)) else (none)) := by simp only [tussocklaw18_ConeTwo.j0]
theorem two_ev (l r : List (List UInt8)) (hl : ∀ x ∈ l, x.length < 4294967281) (hr : ∀ x ∈ r, x.length < 4294967281) (nl : l.length < 4000000000000) (nr : r.length < 4000000000000) : Ev (fun k => tussocklaw18_ConeTwo.f k (l.map ba) (r.map ba)) true := by
  unfold tussocklaw18_ConeTwo.f
  have hp : ∀ x ∈ l.take 200, x.length < 4294967281 := fun x hx => hl x (List.mem_of_mem_take hx)
  have hq : ∀ x ∈ r.take 200, x.length < 4294967281 := fun x hx => hr x (List.mem_of_mem_take hx)
  have lp : (l.take 200).length ≤ 200 := by rw [List.length_take]; omega
  have lq : (r.take 200).length ≤ 200 := by rw [List.length_take]; omega
  have hf := few_eqE l
  have hf' := few_eqE r
  have e1 : wrap64 (((l.map ba).length : Int) + ((r.map ba).length : Int)) = ((l.length + r.length : Nat) : Int) := by
    rw [List.length_map, List.length_map]; unfold wrap64; omega
  generalize l.take 200 = p at hp lp hf
  generalize r.take 200 = q at hq lq hf'
  refine Ev.bind shown_ev (Ev.have_ hf (Ev.bind (of_ev p (by omega) hp) (Ev.have_ hf' (Ev.bind (of_ev q (by omega) hq) ?_))))
  have no : ∀ {x y : List ByteArray}, Ev (fun k => tussocklaw18_ConeTwo.j0 k (l.map ba) (r.map ba) true x y true) true := Ev.step (fun k => two_j0_eq k _ _ _ _ _ _) (Ev.pos rfl (Ev.now true))
  by_cases h0 : (ofL p).2 = 0
  · refine Ev.pos h0 ?_
    by_cases h1 : (ofL q).2 = 0
    · obtain ⟨pa, pf, pl⟩ := of_zero p h0
      obtain ⟨qa, qf, ql⟩ := of_zero q h1
      have hsame := two_same p q pa qa
      have F := form_all p pa
      have G := form_all q qa
      simp only [h1, pf, qf]
      rw [show ((0 : Int) != 0) = false from rfl]
      have e2 : wrap64 ((((formL p).map ba).length : Int) + (((formL q).map ba).length : Int)) = (((formL p).length + (formL q).length : Nat) : Int) := by
        rw [List.length_map, List.length_map]; unfold wrap64; omega
      have o1 := of_ev (p ++ q) (by rw [List.length_append]; omega) (fun x hx => (List.mem_append.1 hx).elim (hp x) (hq x))
      have o2 := of_ev (formL p ++ formL q) (by rw [List.length_append]; omega) (fun x hx => (List.mem_append.1 hx).elim (fun h => hp x ((F.2.1 x).1 h).1) (fun h => hq x ((G.2.1 x).1 h).1))
      rw [← hsame] at o2
      rw [List.map_append] at o1 o2
      refine Ev.step (fun k => two_j0_eq k _ _ _ _ _ _) (Ev.neg (by decide) ?_)
      simp only [e1, e2]
      refine Ev.pos (by omega) (Ev.pos (by omega) (Ev.have_ rfl (Ev.have_ hf (Ev.pos (by rw [List.length_nil, List.length_map]; omega) (Ev.have_ rfl (Ev.have_ hf' (Ev.pos (by rw [List.nil_append, List.length_map, List.length_map]; omega) ?_)))))))
      rw [List.nil_append]
      refine Ev.bind o1 (Ev.pos (by omega) (Ev.pos (by omega) (Ev.have_ rfl (Ev.pos (by rw [List.length_nil, List.length_map]; omega) (Ev.have_ rfl (Ev.pos (by rw [List.nil_append, List.length_map, List.length_map]; omega) ?_))))))
      rw [List.nil_append]
      have hlen := of_len (p ++ q)
      exact Ev.bind o2 (Ev.pos trivial (Ev.pos rfl (Ev.bind (refSame_ev _ _ (by omega)) (Ev.val (by simp)))))
    · rw [show ((ofL q).2 != 0) = true from bne_iff_ne.2 h1]
      exact no
  · exact Ev.neg h0 no
end Go.Proofs.YtinndapmljnifaaDoor.P
