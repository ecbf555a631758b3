/- What a line may say: the reference's Said. -/
import Derived.Test.YtinndapmljnifaaDoorConeF
namespace Go.Proofs.YtinndapmljnifaaDoor.P
open Go.RowKit Go.Proofs.YtinndapmljnifaaDoor.S Go.Proofs.YtinndapmljnifaaDoor.Q
open Go.Proofs.YtinndapmljnifaaDoorW.PrintWords Go.Proofs.YtinndapmljnifaaDoorW.PrintLast Go.Proofs.YtinndapmljnifaaDoorW.PrintMore
theorem refSaid_j0 (k : Nat) (x0 : ByteArray) (x14 : Bool) : tussockref18_Said.j0 (k + 1) x0 x14 = if x14 = true then (some false) else (tussockref18_Said.l0 k x0 0) := by simp only [tussockref18_Said.j0]
theorem refSaid_l0 (k : Nat) (x0 : ByteArray) (x3 : Int) : tussockref18_Said.l0 (k + 1) x0 x3 = if x3 < (x0.size : Int) then (if 0 ≤ x3 then (if (bt x0 x3) = 10 then (some false) else (tussockref18_Said.l0 k x0 (wrap64 (x3 + 1)))) else (none)) else (some true) := by simp only [tussockref18_Said.l0]
theorem refSaid_loop (l : List UInt8) (hl : l.length < 4611686018427387904) : ∀ d n, n ≤ l.length → l.length - n = d → Ev (fun k => tussockref18_Said.l0 k (ba l) (n : Int)) (!((l.drop n).contains 10)) := by
  intro d
  induction d with
  | zero =>
    intro n hn hd
    rw [List.drop_of_length_le (by omega)]
    exact Ev.step (fun k => refSaid_l0 k _ _) (Ev.neg (by rw [ba_size]; omega) (Ev.val rfl))
  | succ d ih =>
    intro n hn hd
    have hlt : n < l.length := by omega
    have hdr : l.drop n = l.getD n 0 :: l.drop (n + 1) := by
      rw [List.getD_eq_getElem?_getD, List.getElem?_eq_getElem hlt]
      exact List.drop_eq_getElem_cons hlt
    rw [hdr, List.contains_cons]
    refine Ev.step (fun k => refSaid_l0 k _ _) (Ev.pos (by rw [ba_size]; omega) (Ev.pos (by omega) ?_))
    rw [ba_get]
    by_cases h1 : l.getD n 0 = 10
    · refine Ev.pos ((toNat_eq _ 10).2 h1) (Ev.val ?_)
      rw [h1]; rfl
    · refine Ev.neg (fun h => h1 ((toNat_eq _ 10).1 h)) ?_
      rw [wrapN n (by omega), beq_eq_false_iff_ne.2 (fun h => h1 h.symm), Bool.false_or]
      exact ih (n + 1) (by omega) (by omega)
theorem bt_headL (s : List UInt8) : bt (ba s) 0 = ((s.headD 0).toNat : Int) := by
  have := ba_get s 0
  rw [show ((0 : Nat) : Int) = 0 from rfl] at this
  rw [this]
  cases s <;> rfl
theorem refSaid_ev (s : List UInt8) (hs : s.length < 4611686018427387904) : Ev (fun k => tussockref18_Said.f k (ba s)) (!muteL s) := by
  unfold tussockref18_Said.f
  rw [ba_toList]
  have lp := refSaid_loop s hs _ 0 (Nat.zero_le _) rfl
  rw [List.drop_zero] at lp
  have no : ∀ {r : Bool}, r = false → Ev (fun k => tussockref18_Said.j0 k (ba s) true) r := fun h => Ev.step (fun k => refSaid_j0 k _ _) (Ev.pos rfl (Ev.val h.symm))
  have yes : ∀ {r : Bool}, r = (!s.contains 10) → Ev (fun k => tussockref18_Said.j0 k (ba s) false) r := fun h => Ev.step (fun k => refSaid_j0 k _ _) (Ev.neg (by decide) (h ▸ lp))
  by_cases h42 : s = [42]
  · exact Ev.pos h42 (no (by rw [h42]; rfl))
  · refine Ev.neg h42 ?_
    by_cases h0 : s = []
    · exact Ev.pos h0 (yes (by rw [h0]; rfl))
    · refine Ev.neg h0 (Ev.pos (by rw [ba_size]; have := List.length_pos_iff.2 h0; omega) ?_)
      rw [bt_headL]
      by_cases h35 : s.headD 0 = 35
      · have e : (((s.headD 0).toNat : Int) == 35) = true := by rw [h35]; rfl
        rw [e]
        refine no ?_
        unfold muteL
        rw [h35, bne_iff_ne.2 h0]; simp
      · have e : (((s.headD 0).toNat : Int) == 35) = false := beq_eq_false_iff_ne.2 (fun h => h35 ((toNat_eq _ 35).1 h))
        rw [e]
        refine yes ?_
        unfold muteL
        rw [beq_eq_false_iff_ne.2 h42, beq_eq_false_iff_ne.2 h35, Bool.and_false, Bool.false_or, Bool.false_or]
end Go.Proofs.YtinndapmljnifaaDoor.P
