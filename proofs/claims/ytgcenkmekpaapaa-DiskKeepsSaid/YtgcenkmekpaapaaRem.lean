/- Remove, Rename. -/
import Derived.Test.YtgcenkmekpaapaaActs
namespace Go.Proofs.Ytgcenkmekpaapaa.L
open Go.RowKit Go.Lib Go.Maps
open Go.Proofs.YtgcenkmekpaapaaW.PrintWords Go.Proofs.YtgcenkmekpaapaaW.PrintLast Go.Proofs.YtgcenkmekpaapaaW.PrintMore
section
variable {w : World} {D : Dk}
def codeE (D : Dk) (must : Bool) (names : List ByteArray) : Int := if (startE D must names).2 = 0 then (if (startE D must names).1 then 34 else 0) else (startE D must names).2
def Dk.count (D : Dk) : Dk := { D with ops := D.ops + 1 }
theorem Goes.count {w' : World} (h' : DkAt w' { D with ops := D.ops + 1 }) (f : Fr [D.d] w w') : Goes w w' D D.count := Goes.head h' f rfl rfl
theorem Goes.dead {w' : World} (h' : DkAt w' { D with off := true }) (f : Fr [D.d] w w') : Goes w w' D { D with off := true } := Goes.head h' f rfl rfl
theorem Goes.acted {w1 w2 : World} {D1 D2 : Dk} (g1 : Goes w w1 D D1) (h2 : DkAt w2 D2) (f2 : Fr D1.own w1 w2) (o2 : ∀ k ∈ D2.own, k ∈ D1.own ∨ w1.heap.size ≤ k) (hb : ∀ k ∈ D2.boxes, k ∈ D1.boxes ∨ w.heap.size ≤ k) : Goes w w2 D D2 :=
  ⟨h2, g1.fr.trans f2 g1.own, fun k hk => (o2 k hk).elim (fun e => g1.own k e) (fun e => .inr (Nat.le_trans g1.fr.size e)), fun k hk => (hb k hk).elim (fun e => g1.box k e) .inr⟩
theorem boxes_snoc {D2 : Dk} {l : List Ac} {a : Ac} {S : Nat} (e : D2.loose = l ++ [a]) (e1 : l = D.loose) (h : ∀ k ∈ bxs a, S ≤ k) : ∀ k ∈ D2.boxes, k ∈ D.boxes ∨ S ≤ k := by
  intro k hk
  unfold Dk.boxes at hk ⊢
  rw [e, e1, List.flatMap_append, List.mem_append] at hk
  rcases hk with hk | hk
  · exact .inl hk
  · exact .inr (h k (by simpa using hk))
theorem codeE_zero {must : Bool} {names : List ByteArray} (h : codeE D must names = 0) : startE D must names = (false, 0) := by
  unfold codeE at h
  split at h
  · rename_i h2
    split at h
    · cases h
    · rename_i h1
      cases hs : startE D must names with
      | mk a b =>
        rw [hs] at h1 h2
        simp only at h1 h2
        rw [h2]
        cases a
        · rfl
        · exact absurd rfl h1
  · rename_i h2
    exact absurd h h2
theorem startE_ok {must : Bool} {names : List ByteArray} (h : startE D must names = (false, 0)) : names.all nameOk = true ∧ (must = true → (D.dir (names.headD ByteArray.empty)).isSome = true) ∧ ¬ 0 < D.fails D.ops := by
  unfold startE at h
  by_cases h1 : names.all nameOk = true
  · rw [if_pos h1] at h
    by_cases h2 : (must && (D.dir (names.headD ByteArray.empty)).isNone) = true
    · rw [if_pos h2] at h
      injection h with _ h4
      cases h4
    · rw [if_neg h2] at h
      refine ⟨h1, fun hm => ?_, ?_⟩
      · rw [hm, Bool.true_and] at h2
        cases hd : D.dir (names.headD ByteArray.empty) with
        | none => rw [hd] at h2; exact absurd rfl h2
        | some _ => rfl
      · injection h with h3 h4
        simpa using h3
  · rw [if_neg h1] at h
    injection h with _ h4
    cases h4
theorem startE_name {must : Bool} {s : ByteArray} (h : startE D must [s] = (false, 0)) : nameOk s = true ∧ (must = true → (D.dir s).isSome = true) ∧ ¬ 0 < D.fails D.ops := by
  obtain ⟨h1, h2, h3⟩ := startE_ok h
  exact ⟨by simpa using h1, h2, h3⟩
set_option maxHeartbeats 4000000 in
set_option maxRecDepth 100000 in
theorem remove_live (h : DkAt w D) (hd : D.dead = false) (h0 : 0 ≤ D.ops) (h1 : D.ops < 4611686018427387904) (hlen : D.loose.length < 4294967296) (s : ByteArray) :
    Calls Try.prog 20 #[P D.d, .string s] w fun e w' => e = .returned (.int .i64 (codeE D true [s])) ∧ (codeE D true [s] ≠ 0 → Goes w w' D D.count) ∧
      (codeE D true [s] = 0 → ∃ b1 v1, Goes w w' D { D with ops := D.ops + 1, n := D.n + 1, dir := (Ac.gone s b1).app D.dir, lv := v1, loose := D.loose ++ [.gone s b1] }) := by
  have HF := hid (fun (o1 o2 : Obj) => ((Fr.alloc [] w o1).trans (Fr.alloc [] _ o2) (fun _ hk => .inl hk) : Fr [] w _))
  have HS := hid (show let W := (w.alloc (.cells #[.string s] 9)).alloc (.cells #[.string s] 9); Calls Try.prog 26 #[P D.d, .bool true, .slice (some ⟨w.heap.size + 1, 0, none⟩) 1 1] W fun e w' => e = .returned (.tuple #[.bool (startE D true [s]).1, .int .i64 (startE D true [s]).2]) ∧ DkAt w' { D with ops := D.ops + 1 } ∧ Fr [D.d] W w' from by
    intro W
    refine starts_live (h.new (HF.out _ _)) hd h0 h1 true [s] (some ⟨w.heap.size + 1, 0, none⟩) 1 (by simp) (fun _ => ⟨w.heap.size + 1, 0, rfl, by simp, fun e => by have := h.d_lt; omega, fun j hj => ?_⟩) (fun _ => by simp)
    obtain rfl : j = 0 := by simpa using hj
    have := (cell_of (MapKept.heap_alloc (w.alloc (.cells #[.string s] 9)) (.cells #[.string s] 9)).1 0)
    simp only [World.size_alloc] at this
    exact this.trans rfl)
  have HB := hid (fun (W : World) (hW : Fr [D.d] ((w.alloc (.cells #[.string s] 9)).alloc (.cells #[.string s] 9)) W) => (show W.heap[w.heap.size]? = some (.cells #[.string s] 9 (0, 0)) from
    (hW.keep _ (by simp; omega) (by simpa using fun e : w.heap.size = D.d => by have := h.d_lt; omega)).trans ((Below.heap_alloc _ _ _ (by simp)).trans (MapKept.heap_alloc w (.cells #[.string s] 9)).1)))
  have HH := hid h
  have hnew : ∀ k, k ∈ D.own ∨ k ∈ D.boxes → k ≠ w.heap.size := fun k hk e => by
    rcases hk with hk | hk
    · have := h.lt k hk; omega
    · have := h.blt k hk; omega
  have HN := hid hnew
  clear h hnew
  cases hE : startE D true [s] with
  | mk fl e2 =>
    rw [hE] at HS
    have HE := hid hE
    clear hE
    by_cases he : e2 = 0
    · subst he
      cases fl with
      | true =>
        go_enter Try.func20, Try.ntmps20
        go_wp2_with (go_at_call 26; refine HS.out.mono ?_; rintro e w1 ⟨rfl, h1, f1⟩; have G1 := hid (Goes.count h1 ((HF.out _ _).none.trans f1 (fun _ hk => .inl hk))); clear h1 f1)
        go_ret
        have hc : codeE D true [s] = 34 := by unfold codeE; rw [HE.out]; rfl
        exact ⟨by rw [hc]; rfl, fun _ => G1.out, fun h => by rw [hc] at h; cases h⟩
      | false =>
        have hc := hid (show codeE D true [s] = 0 from by unfold codeE; rw [HE.out]; rfl)
        have hok := startE_name HE.out
        have HSZ := hid (name_short hok.1)
        go_enter Try.func20, Try.ntmps20
        go_wp2_with (first
          | (go_at_call 26; refine HS.out.mono ?_; rintro e w1 ⟨rfl, h1, f1⟩; have G1 := hid (Goes.count h1 ((HF.out _ _).none.trans f1 (fun _ hk => .inl hk))); have B1 := hid (HB.out _ f1); clear h1 f1)
          | (go_at_call 28; refine (turn_gone G1.out.at_ s w.heap.size ⟨B1.out, HSZ.out⟩ (fun k hk => (by simp [bxs] at hk; subst hk; exact ⟨fun hm => HN.out _ (.inl hm) rfl, fun hm => HN.out _ (.inr hm) rfl⟩)) hlen).mono ?_; rintro e w2 ⟨rfl, v1, h2, f2, o2⟩; have G2 := hid (Goes.acted G1.out h2 f2 o2 (boxes_snoc (D := D.count) (l := D.loose) rfl rfl (fun k hk => (by simp [bxs] at hk; omega)))); clear h2 f2 o2))
        go_ret
        exact ⟨by rw [hc.out]; rfl, fun h => absurd hc.out h, fun _ => ⟨w.heap.size, v1, G2.out⟩⟩
    · have hez : ¬ e2 = 0 := he
      go_enter Try.func20, Try.ntmps20
      go_wp2_with (go_at_call 26; refine HS.out.mono ?_; rintro e w1 ⟨rfl, h1, f1⟩; have G1 := hid (Goes.count h1 ((HF.out _ _).none.trans f1 (fun _ hk => .inl hk))); clear h1 f1)
      go_ret
      have hc : codeE D true [s] = e2 := by unfold codeE; rw [HE.out]; simp [hez]
      exact ⟨by rw [hc]; rfl, fun _ => G1.out, fun h => by rw [hc] at h; exact absurd h hez⟩
end
end Go.Proofs.Ytgcenkmekpaapaa.L
