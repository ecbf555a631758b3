/- The law ConeOf over plain lists; the reference's Show. -/
import Derived.Test.YtinndapmljnifaaDoorConeG
import Derived.Test.YtinndapmljnifaaDoorConeI
import Derived.Test.YtinndapmljnifaaDoorConeL
import Derived.Test.YtinndapmljnifaaDoorDx1
namespace Go.Proofs.YtinndapmljnifaaDoor.P
open Go.RowKit Go.Proofs.YtinndapmljnifaaDoor.S Go.Proofs.YtinndapmljnifaaDoor.Q Go.Proofs.YtinndapmljnifaaDoor.U Go.Proofs.YtinndapmljnifaaDoor.D
open Go.Proofs.YtinndapmljnifaaDoorW.PrintWords Go.Proofs.YtinndapmljnifaaDoorW.PrintLast Go.Proofs.YtinndapmljnifaaDoorW.PrintMore
theorem refShow_l0 (k : Nat) (x4 : List ByteArray) (x5 : Int) (x6 : ByteArray) (x7 : Int) : tussockref18_Show.l0 (k + 1) x4 x5 x6 x7 = if x7 < (x4.length : Int) then (if 0 ≤ x7 then ((tussockref18_Said.f k (rdOf ByteArray.empty x4 x7)).bind fun t177 => (if t177 = true then (if (rdOf ByteArray.empty x4 x7).toList = ([] : List UInt8) then (if x6.size + 2 ≤ 9223372036854775807 then (tussockref18_Show.l0 k x4 x5 (x6 ++ (⟨#[42, 10]⟩ : ByteArray)) (wrap64 (x7 + 1))) else (none)) else (if x6.size + (rdOf ByteArray.empty x4 x7).size ≤ 9223372036854775807 then (if (x6 ++ (rdOf ByteArray.empty x4 x7)).size + 1 ≤ 9223372036854775807 then (tussockref18_Show.l0 k x4 x5 ((x6 ++ (rdOf ByteArray.empty x4 x7)) ++ (⟨#[10]⟩ : ByteArray)) (wrap64 (x7 + 1))) else (none)) else (none))) else (some ((⟨#[]⟩ : ByteArray), 180)))) else (none)) else (some (x6, x5)) := by simp only [tussockref18_Show.l0]
theorem refShow_loop (l : List (List UInt8)) (hs : ∀ x ∈ l, x.length < 4294967281) (hl : l.length ≤ 64) : ∀ d n (b : List UInt8), n ≤ l.length → l.length - n = d → b.length + (l.length - n) * 4294967290 ≤ 140737488355328 →
    Ev (fun k => tussockref18_Show.l0 k (l.map ba) 0 (ba b) (n : Int)) (ba (showG b (l.drop n)).1, (showG b (l.drop n)).2) := by
  intro d
  induction d with
  | zero =>
    intro n b hn hd hb
    rw [List.drop_of_length_le (by omega)]
    exact Ev.step (fun k => refShow_l0 k _ _ _ _) (Ev.neg (by rw [List.length_map]; omega) (Ev.val rfl))
  | succ d ih =>
    intro n b hn hd hb
    have hlt : n < l.length := by omega
    have hm := hs _ (getD_mem l n hlt)
    have h2 := line_length (l.getD n [])
    rw [drop_at l n hlt, showG]
    refine Ev.step (fun k => refShow_l0 k _ _ _ _) (Ev.pos (by rw [List.length_map]; omega) (Ev.pos (by omega) ?_))
    rw [rd_map, wrapN n (by omega)]
    refine Ev.bind (refSaid_ev _ (by omega)) ?_
    by_cases hmu : muteL (l.getD n []) = true
    · rw [if_pos hmu]
      exact Ev.neg (by rw [hmu]; decide) (Ev.val rfl)
    · rw [if_neg hmu]
      have e := Bool.eq_false_iff.2 hmu
      refine Ev.pos (by rw [e]; rfl) ?_
      have nx := ih (n + 1) (b ++ lineL (l.getD n [])) (by omega) (by omega) (by rw [List.length_append]; omega)
      rw [ba_toList]
      by_cases h0 : l.getD n [] = []
      · refine Ev.pos h0 (Ev.pos (by rw [ba_size]; omega) ?_)
        have e2 : lineL (l.getD n []) = [42, 10] := by rw [h0]; rfl
        rw [e2, ← ba_append] at nx
        exact e2 ▸ nx
      · refine Ev.neg h0 (Ev.pos (by rw [ba_size, ba_size]; omega) (Ev.pos (by rw [ba_append, ba_size, List.length_append]; omega) ?_))
        have e2 : lineL (l.getD n []) = l.getD n [] ++ [10] := by unfold lineL nameL; rw [if_neg h0]
        rw [e2, ← List.append_assoc, ← ba_append, ← ba_append] at nx
        rw [e2, ← List.append_assoc]
        exact nx
theorem refShow_ev (ds : List (List UInt8)) (hl : ds.length < 4000000000) (hs : ∀ x ∈ ds, x.length < 4294967281) : Ev (fun k => tussockref18_Show.f k (ds.map ba)) (ba (showL ds).1, (showL ds).2) := by
  unfold tussockref18_Show.f showL
  have hz := of_short ds hs
  refine Ev.bind (refOf_ev ds hl hs) ?_
  by_cases h0 : (ofL ds).2 = 0
  · rw [if_pos h0]
    have h := refShow_loop (ofL ds).1 hz.2 hz.1 _ 0 [] (Nat.zero_le _) rfl (by rw [List.length_nil]; omega)
    rw [List.drop_zero] at h
    simp only [h0]
    exact h
  · rw [if_neg h0]
    have e : (ofL ds).1 = [] := by
      unfold ofL at h0 ⊢
      by_cases hp : ds.all isP = true
      · rw [if_pos hp] at h0 ⊢
        by_cases h64 : (formL ds).length > 64
        · rw [if_pos h64]
        · rw [if_neg h64] at h0; exact absurd rfl h0
      · rw [if_neg hp]
    rw [e]
    exact Ev.step (fun k => refShow_l0 k _ _ _ _) (Ev.neg (by simp) (Ev.val rfl))
theorem few_eqK (l : List (List UInt8)) : tussocklaw18_few.f (l.map ba) = some ((l.take 200).map ba) := by
  unfold tussocklaw18_few.f
  rw [List.map_take]
theorem law_of_ev (l : List (List UInt8)) (hl : ∀ x ∈ l, x.length < 4294967281) : Ev (fun k => tussocklaw18_ConeOf.f k (l.map ba)) true := by
  unfold tussocklaw18_ConeOf.f
  have hm : ∀ x ∈ l.take 200, x.length < 4294967281 := fun x hx => hl x (List.mem_of_mem_take hx)
  have h2 : (l.take 200).length ≤ 200 := by rw [List.length_take]; omega
  have hf := few_eqK l
  generalize l.take 200 = m at hm h2 hf
  have hlen := of_len m
  exact Ev.bind shown_ev (Ev.have_ hf (Ev.bind (of_ev m (by omega) hm) (Ev.bind (refOf_ev m (by omega) hm) (Ev.bind (show_ev m (by omega) hm) (Ev.bind (refShow_ev m (by omega) hm) (Ev.pos rfl (Ev.bind (refSame_ev _ _ (by omega)) (Ev.pos (by simp) (Ev.pos rfl (Ev.pos rfl (Ev.val (by simp))))))))))))
end Go.Proofs.YtinndapmljnifaaDoor.P
