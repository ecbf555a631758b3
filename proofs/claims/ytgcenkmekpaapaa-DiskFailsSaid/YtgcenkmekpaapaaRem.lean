/- Remove, Rename. -/
import Derived.Test.YtgcenkmekpaapaaActs
namespace Go.Proofs.Ytgcenkmekpaapaa.L
open Go.RowKit Go.Lib Go.Maps
open Go.Proofs.YtgcenkmekpaapaaW.PrintWords Go.Proofs.YtgcenkmekpaapaaW.PrintLast Go.Proofs.YtgcenkmekpaapaaW.PrintMore
section
variable {w : World} {D : Dk}
def codeE (D : Dk) (must : Bool) (names : List ByteArray) : Int := if (startE D must names).2 = 0 then (if (startE D must names).1 then 34 else 0) else (startE D must names).2
def Dk.count (D : Dk) : Dk := { D with ops := D.ops + 1 }
theorem Goes.count {w' : World} (h' : DkAt w' { D with ops := D.ops + 1 }) (f : Fr [D.d] w w') : Goes w w' D D.count := Goes.head h' f rfl rfl
theorem Goes.dead {w' : World} (h' : DkAt w' { D with off := true }) (f : Fr [D.d] w w') : Goes w w' D { D with off := true } := Goes.head h' f rfl rfl
theorem Goes.acted {w1 w2 : World} {D1 D2 : Dk} (g1 : Goes w w1 D D1) (h2 : DkAt w2 D2) (f2 : Fr D1.own w1 w2) (o2 : ∀ k ∈ D2.own, k ∈ D1.own ∨ w1.heap.size ≤ k) (hb : ∀ k ∈ D2.boxes, k ∈ D1.boxes ∨ w.heap.size ≤ k) : Goes w w2 D D2 :=
  ⟨h2, g1.fr.trans f2 g1.own, fun k hk => (o2 k hk).elim (fun e => g1.own k e) (fun e => .inr (Nat.le_trans g1.fr.size e)), fun k hk => (hb k hk).elim (fun e => g1.box k e) .inr⟩
theorem boxes_snoc {D2 : Dk} {l : List Ac} {a : Ac} {S : Nat} (e : D2.loose = l ++ [a]) (e1 : l = D.loose) (h : ∀ k ∈ bxs a, S ≤ k) : ∀ k ∈ D2.boxes, k ∈ D.boxes ∨ S ≤ k := by
  intro k hk
  unfold Dk.boxes at hk ⊢
  rw [e, e1, List.flatMap_append, List.mem_append] at hk
  rcases hk with hk | hk
  · exact .inl hk
  · exact .inr (h k (by simpa using hk))
theorem codeE_zero {must : Bool} {names : List ByteArray} (h : codeE D must names = 0) : startE D must names = (false, 0) := by
  unfold codeE at h
  split at h
  · rename_i h2
    split at h
    · cases h
    · rename_i h1
      cases hs : startE D must names with
      | mk a b =>
        rw [hs] at h1 h2
        simp only at h1 h2
        rw [h2]
        cases a
        · rfl
        · exact absurd rfl h1
  · rename_i h2
    exact absurd h h2
theorem startE_ok {must : Bool} {names : List ByteArray} (h : startE D must names = (false, 0)) : names.all nameOk = true ∧ (must = true → (D.dir (names.headD ByteArray.empty)).isSome = true) ∧ ¬ 0 < D.fails D.ops := by
  unfold startE at h
  by_cases h1 : names.all nameOk = true
  · rw [if_pos h1] at h
    by_cases h2 : (must && (D.dir (names.headD ByteArray.empty)).isNone) = true
    · rw [if_pos h2] at h
      injection h with _ h4
      cases h4
    · rw [if_neg h2] at h
      refine ⟨h1, fun hm => ?_, ?_⟩
      · rw [hm, Bool.true_and] at h2
        cases hd : D.dir (names.headD ByteArray.empty) with
        | none => rw [hd] at h2; exact absurd rfl h2
        | some _ => rfl
      · injection h with h3 h4
        simpa using h3
  · rw [if_neg h1] at h
    injection h with _ h4
    cases h4
theorem startE_name {must : Bool} {s : ByteArray} (h : startE D must [s] = (false, 0)) : nameOk s = true ∧ (must = true → (D.dir s).isSome = true) ∧ ¬ 0 < D.fails D.ops := by
  obtain ⟨h1, h2, h3⟩ := startE_ok h
  exact ⟨by simpa using h1, h2, h3⟩
end
end Go.Proofs.Ytgcenkmekpaapaa.L
