/- The law ConeBack over plain lists. -/
import Derived.Test.YtinndapmljnifaaDoorConeG
import Derived.Test.YtinndapmljnifaaDoorConeH
import Derived.Test.YtinndapmljnifaaDoorConeL
import Derived.Test.YtinndapmljnifaaDoorFx1
namespace Go.Proofs.YtinndapmljnifaaDoor.P
open Go.RowKit Go.Proofs.YtinndapmljnifaaDoor.S Go.Proofs.YtinndapmljnifaaDoor.Q Go.Proofs.YtinndapmljnifaaDoor.F
open Go.Proofs.YtinndapmljnifaaDoorW.PrintWords Go.Proofs.YtinndapmljnifaaDoorW.PrintLast Go.Proofs.YtinndapmljnifaaDoorW.PrintMore
theorem back_l0 (k : Nat) (x0 : List ByteArray) (x1 : ByteArray) (x5 : Bool) (x6 : List ByteArray) (x8 : ByteArray) (x9 : Int) (x10 : List ByteArray) (x11 x12 : Int) : tussocklaw18_ConeBack.l0 (k + 1) x0 x1 x5 x6 x8 x9 x10 x11 x12 = if x12 < (x6.length : Int) then (if 0 ≤ x12 then ((tussockref18_Said.f k (rdOf ByteArray.empty x6 x12)).bind fun t116 => (if t116 = true then (tussocklaw18_ConeBack.l0 k x0 x1 x5 x6 x8 x9 x10 x11 (wrap64 (x12 + 1))) else (if x5 = true then (if x9 = 180 then (if x8.toList = ([] : List UInt8) then (if x11 = 0 then ((tussockref04_Same.f k x10 x6).bind fun t117 => (some t117)) else (some false)) else (some false)) else (some false)) else (some false)))) else (none)) else ((cone_Parse.f k x8).bind fun bt118 => (if x5 = true then (if x9 = 0 then (if bt118.2.2 = 0 then (if bt118.2.1 = 0 then (if x11 = 0 then ((tussockref04_Same.f k bt118.1 x6).bind fun t123 => (if t123 = true then ((tussockref04_Same.f k x10 x6).bind fun t124 => (if t124 = true then ((cone_Has.f k x6 x1).bind fun t125 => ((cone_Has.f k x0 x1).bind fun t126 => (if (t125 == t126) = true then ((cone_Dir.f k x6 x1).bind fun t127 => ((cone_Dir.f k x0 x1).bind fun t128 => (some (t127 == t128)))) else (some false)))) else (some false))) else (some false))) else (some false)) else (some false)) else (some false)) else (some false)) else (some false))) := by simp only [tussocklaw18_ConeBack.l0]
theorem few_eqN (l : List (List UInt8)) : tussocklaw18_few.f (l.map ba) = some ((l.take 200).map ba) := by
  unfold tussocklaw18_few.f
  rw [List.map_take]
theorem flat_length (l : List (List UInt8)) (hs : ∀ x ∈ l, x.length < 16777216) : ((l.map lineL).flatten).length ≤ l.length * 16777218 := by
  induction l with
  | nil => simp
  | cons s r ih =>
    have h1 := ih (fun x hx => hs x (List.mem_cons_of_mem _ hx))
    have h2 := line_length s
    have h3 := hs s List.mem_cons_self
    rw [List.map_cons, List.flatten_cons, List.length_append, List.length_cons]
    omega
theorem back_loop (m : List (List UInt8)) (s : List UInt8) (hs : s.length < 4294967281) (hm : ∀ x ∈ m, x.length < 16777216) (h200 : m.length ≤ 200) (hp : m.all isP = true) (hof : ofL m = (formL m, 0)) : ∀ d n, n ≤ (formL m).length → (formL m).length - n = d → ((formL m).take n).any muteL = false →
    Ev (fun k => tussocklaw18_ConeBack.l0 k (m.map ba) (ba s) true ((formL m).map ba) (ba (showG [] (formL m)).1) (showG [] (formL m)).2 ((formL m).map ba) 0 (n : Int)) true := by
  have hl64 : (formL m).length ≤ 200 := by have := form_length m; omega
  have hfs : ∀ x ∈ formL m, x.length < 16777216 := fun x hx => hm x (((form_all m hp).2.1 x).1 hx).1
  have hfs' : ∀ x ∈ formL m, x.length < 4294967281 := fun x hx => by have := hfs x hx; omega
  have hms' : ∀ x ∈ m, x.length < 4294967281 := fun x hx => by have := hm x hx; omega
  intro d
  induction d with
  | zero =>
    intro n hn hd hq
    rw [List.take_of_length_le (by omega)] at hq
    have hsh := showG_said (formL m) [] hq
    have hrd := shown_reads m hp hq
    have hlen := flat_length (formL m) hfs
    rw [hsh, List.nil_append] at hrd ⊢
    rw [hof] at hrd
    refine Ev.step (fun k => back_l0 k _ _ _ _ _ _ _ _ _) (Ev.neg (by rw [List.length_map]; omega) ?_)
    have hpa := parse_at ((formL m).map lineL).flatten (by omega)
    rw [hrd] at hpa
    have hb1 : (formL m).length < 4611686018427387904 := by omega
    refine Ev.bind hpa (Ev.pos rfl (Ev.pos rfl (Ev.pos rfl (Ev.pos rfl (Ev.pos rfl (Ev.bind (refSame_ev (formL m) (formL m) hb1) (Ev.pos (by simp) (Ev.bind (refSame_ev _ _ hb1) (Ev.pos (by simp) ?_)))))))))
    refine Ev.bind (has_ev _ s hs hfs' (by omega)) (Ev.bind (has_ev _ s hs hms' (by omega)) (Ev.pos (by rw [form_has m hp]; simp) (Ev.bind (dir_ev _ s hs hfs' (by omega)) (Ev.bind (dir_ev _ s hs hms' (by omega)) (Ev.val (by rw [form_dir m hp]; simp))))))
  | succ d ih =>
    intro n hn hd hq
    have hlt : n < (formL m).length := by omega
    have hx := hfs _ (getD_mem _ n hlt)
    refine Ev.step (fun k => back_l0 k _ _ _ _ _ _ _ _ _) (Ev.pos (by rw [List.length_map]; omega) (Ev.pos (by omega) ?_))
    rw [rd_map, wrapN n (by omega)]
    refine Ev.bind (refSaid_ev _ (by omega)) ?_
    by_cases hmu : muteL ((formL m).getD n []) = true
    · have hany : (formL m).any muteL = true := List.any_eq_true.2 ⟨_, getD_mem _ n hlt, hmu⟩
      have hsh := showG_mute (formL m) [] hany
      rw [hsh]
      exact Ev.neg (by rw [hmu]; decide) (Ev.pos rfl (Ev.pos rfl (Ev.pos (by rw [ba_toList]) (Ev.pos rfl (Ev.bind (refSame_ev _ _ (by omega)) (Ev.val (by simp)))))))
    · have e := Bool.eq_false_iff.2 hmu
      refine Ev.pos (by rw [e]; rfl) (ih (n + 1) (by omega) (by omega) ?_)
      have et : (formL m).take (n + 1) = (formL m).take n ++ [(formL m).getD n []] := by
        rw [List.take_succ_eq_append_getElem hlt, List.getD_eq_getElem?_getD, List.getElem?_eq_getElem hlt]; rfl
      rw [et, List.any_append, hq, Bool.false_or, List.any_cons, e]; rfl
theorem back_ev (l : List (List UInt8)) (s : List UInt8) (hl : ∀ x ∈ l, x.length < 16777216) (hs : s.length < 4294967281) : Ev (fun k => tussocklaw18_ConeBack.f k (l.map ba) (ba s)) true := by
  unfold tussocklaw18_ConeBack.f
  have hm : ∀ x ∈ l.take 200, x.length < 16777216 := fun x hx => hl x (List.mem_of_mem_take hx)
  have h2 : (l.take 200).length ≤ 200 := by rw [List.length_take]; omega
  have hf := few_eqN l
  generalize l.take 200 = m at hm h2 hf
  have hm' : ∀ x ∈ m, x.length < 4294967281 := fun x hx => by have := hm x hx; omega
  have hz := of_short m hm'
  refine Ev.bind shown_ev (Ev.have_ hf (Ev.bind (of_ev m (by omega) hm') (Ev.bind (show_ev m (by omega) hm') ?_)))
  by_cases h0 : (ofL m).2 = 0
  · obtain ⟨hp, h1, _⟩ := of_zero m h0
    have hof : ofL m = (formL m, 0) := Prod.ext h1 h0
    have hsh : showL m = showG [] (formL m) := by unfold showL; rw [if_pos h0, h1]
    refine Ev.pos h0 ?_
    have ho := of_ev (formL m) (by have := form_length m; omega) (fun x hx => hm' x (((form_all m hp).2.1 x).1 hx).1)
    rw [of_form m hp] at ho
    simp only [hof, hsh] at ho ⊢
    refine Ev.bind ho ?_
    exact back_loop m s hs hm h2 hp hof _ 0 (Nat.zero_le _) rfl rfl
  · have hsh : showL m = ([], (ofL m).2) := by unfold showL; rw [if_neg h0]
    refine Ev.neg h0 (Ev.pos rfl (Ev.pos (by rw [hsh]) (Ev.val ?_)))
    rw [hsh, ba_toList]; rfl
end Go.Proofs.YtinndapmljnifaaDoor.P
