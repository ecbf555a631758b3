/- What the reference's functions of layer 4 answer: the same plain lists. -/
import Derived.Test.YtinndapmljnifaaDoorSpec
namespace Go.Proofs.YtinndapmljnifaaDoor.P
open Go.RowKit
open Go.Proofs.YtinndapmljnifaaDoorW.PrintWords Go.Proofs.YtinndapmljnifaaDoorW.PrintLast Go.Proofs.YtinndapmljnifaaDoorW.PrintMore
theorem toNat_eq (c : UInt8) (n : UInt8) : ((c.toNat : Int) = (n.toNat : Int)) ↔ c = n := by
  constructor
  · intro h; apply UInt8.toNat_inj.1; omega
  · rintro rfl; rfl
theorem refSame_loop (ps qs : List (List UInt8)) (hl : ps.length = qs.length) (hb : ps.length < 4611686018427387904) : ∀ d n, n ≤ ps.length → ps.length - n = d →
    Ev (fun k => tussockref04_Same.l0 k (ps.map ba) (qs.map ba) (n : Int)) (ps.drop n == qs.drop n) := by
  intro d
  induction d with
  | zero =>
    intro n hn hd
    obtain rfl : n = ps.length := by omega
    refine Ev.step (fun k => rfl) (Ev.neg (by rw [List.length_map]; omega) (Ev.val ?_))
    rw [List.drop_length, List.drop_of_length_le (by omega)]; rfl
  | succ d ih =>
    intro n hn hd
    have h1 : n < ps.length := by omega
    have h2 : n < qs.length := by omega
    refine Ev.step (fun k => rfl) (Ev.pos (by rw [List.length_map]; omega) (Ev.pos (by omega) (Ev.pos (by rw [List.length_map]; omega) ?_)))
    rw [rd_map, rd_map, ba_toList, ba_toList, List.getD_eq_getElem?_getD, List.getD_eq_getElem?_getD, List.getElem?_eq_getElem h1, List.getElem?_eq_getElem h2, List.drop_eq_getElem_cons h1, List.drop_eq_getElem_cons h2]
    simp only [Option.getD_some]
    by_cases e : ps[n] = qs[n]
    · refine Ev.pos e ?_
      rw [wrapN n (by omega)]
      have := ih (n + 1) (by omega) (by omega)
      have e2 : (ps[n] :: ps.drop (n + 1) == qs[n] :: qs.drop (n + 1)) = (ps.drop (n + 1) == qs.drop (n + 1)) := by rw [e, Bool.eq_iff_iff]; simp only [beq_iff_eq, List.cons.injEq, true_and]
      rw [e2]
      exact this
    · refine Ev.neg e (Ev.val ?_)
      rw [eq_comm, beq_eq_false_iff_ne]
      intro h
      exact e (List.cons.inj h).1
theorem refSame_ev (ps qs : List (List UInt8)) (hb : ps.length < 4611686018427387904) : Ev (fun k => tussockref04_Same.f k (ps.map ba) (qs.map ba)) (ps == qs) := by
  unfold tussockref04_Same.f
  simp only [List.length_map]
  by_cases h : ps.length = qs.length
  · refine Ev.pos (by omega) ?_
    have := refSame_loop ps qs h hb ps.length 0 (Nat.zero_le _) rfl
    simpa using this
  · refine Ev.neg (by omega) (Ev.val ?_)
    rw [eq_comm, beq_eq_false_iff_ne]
    rintro rfl
    exact h rfl
end Go.Proofs.YtinndapmljnifaaDoor.P
