/- Rename. -/
import Derived.Test.YtgcenkmekpaapaaRem
namespace Go.Proofs.Ytgcenkmekpaapaa.L
open Go.RowKit Go.Lib Go.Maps
open Go.Proofs.YtgcenkmekpaapaaW.PrintWords Go.Proofs.YtgcenkmekpaapaaW.PrintLast Go.Proofs.YtgcenkmekpaapaaW.PrintMore
section
variable {w : World} {D : Dk}
set_option maxHeartbeats 8000000 in
set_option maxRecDepth 100000 in
theorem rename_live (h : DkAt w D) (hd : D.dead = false) (h0 : 0 ≤ D.ops) (h1 : D.ops < 4611686018427387904) (hn : D.n < maxLen) (hlen : D.loose.length < 4294967296) (s t : ByteArray) :
    Calls Try.prog 17 #[P D.d, .string s, .string t] w fun e w' => e = .returned (.int .i64 (codeE D true [s, t])) ∧ ((codeE D true [s, t] ≠ 0 ∨ s = t) → Goes w w' D D.count) ∧
      (codeE D true [s, t] = 0 → s ≠ t → ∃ b1 b2 v1, Goes w w' D { D with ops := D.ops + 1, n := D.n + 1, dir := (Ac.move s t b1 b2).app D.dir, lv := v1, loose := D.loose ++ [.move s t b1 b2] }) := by
  have HF := hid (fun (o1 o2 o3 : Obj) => (((Fr.alloc [] w o1).trans (Fr.alloc [] _ o2) (fun _ hk => .inl hk)).trans (Fr.alloc [] _ o3) (fun _ hk => .inl hk) : Fr [] w _))
  have HS := hid (show let W := ((w.alloc (.cells #[.string s] 9)).alloc (.cells #[.string t] 9)).alloc (.cells #[.string s, .string t] 9); Calls Try.prog 26 #[P D.d, .bool true, .slice (some ⟨w.heap.size + 1 + 1, 0, none⟩) 2 2] W fun e w' => e = .returned (.tuple #[.bool (startE D true [s, t]).1, .int .i64 (startE D true [s, t]).2]) ∧ DkAt w' { D with ops := D.ops + 1 } ∧ Fr [D.d] W w' from by
    intro W
    refine starts_live (h.new (HF.out _ _ _)) hd h0 h1 true [s, t] (some ⟨w.heap.size + 1 + 1, 0, none⟩) 2 (by simp) (fun _ => ⟨w.heap.size + 1 + 1, 0, rfl, by simp, fun e => by have := h.d_lt; omega, fun j hj => ?_⟩) (fun _ => by simp)
    have hb := (MapKept.heap_alloc ((w.alloc (.cells #[.string s] 9)).alloc (.cells #[.string t] 9)) (.cells #[.string s, .string t] 9)).1
    simp only [World.size_alloc] at hb
    match j, hj with
    | 0, _ => exact (cell_of hb 0).trans rfl
    | 1, _ => exact (cell_of hb 1).trans rfl)
  have HB := hid (fun (W : World) (hW : Fr [D.d] (((w.alloc (.cells #[.string s] 9)).alloc (.cells #[.string t] 9)).alloc (.cells #[.string s, .string t] 9)) W) => (show W.heap[w.heap.size]? = some (.cells #[.string s] 9 (0, 0)) ∧ W.heap[w.heap.size + 1]? = some (.cells #[.string t] 9 (0, 0)) from by
    have hdl := h.d_lt
    have hb2 := (MapKept.heap_alloc (w.alloc (.cells #[.string s] 9)) (.cells #[.string t] 9)).1
    simp only [World.size_alloc] at hb2
    exact ⟨(hW.keep _ (by simp; omega) (by simpa using fun e : w.heap.size = D.d => by omega)).trans ((Below.heap_alloc _ _ _ (by simp; omega)).trans ((Below.heap_alloc _ _ _ (by simp)).trans (MapKept.heap_alloc w (.cells #[.string s] 9)).1)),
      (hW.keep _ (by simp) (by simpa using fun e : w.heap.size + 1 = D.d => by omega)).trans ((Below.heap_alloc _ _ _ (by simp)).trans hb2)⟩))
  have hnew : ∀ k, k ∈ D.own ∨ k ∈ D.boxes → k < w.heap.size := fun k hk => by
    rcases hk with hk | hk
    · exact h.lt k hk
    · exact h.blt k hk
  have HN := hid hnew
  clear h hnew
  cases hE : startE D true [s, t] with
  | mk fl e2 =>
    rw [hE] at HS
    have HE := hid hE
    clear hE
    by_cases he : e2 = 0
    · subst he
      cases fl with
      | true =>
        go_enter Try.func17, Try.ntmps17
        go_wp2_with (go_at_call 26; refine HS.out.mono ?_; rintro e w1 ⟨rfl, h1, f1⟩; have G1 := hid (Goes.count h1 ((HF.out _ _ _).none.trans f1 (fun _ hk => .inl hk))); clear h1 f1)
        go_ret
        have hc : codeE D true [s, t] = 34 := by unfold codeE; rw [HE.out]; rfl
        exact ⟨by rw [hc]; rfl, fun _ => G1.out, fun h => by rw [hc] at h; cases h⟩
      | false =>
        have hc := hid (show codeE D true [s, t] = 0 from by unfold codeE; rw [HE.out]; rfl)
        have hok := startE_ok HE.out
        have HNM := hid (show s.size ≤ 80 ∧ t.size ≤ 80 from by
          have h1 := hok.1
          simp only [List.all_cons, List.all_nil, Bool.and_true, Bool.and_eq_true] at h1
          exact ⟨name_short h1.1, name_short h1.2⟩)
        have HFB := hid (show ∃ fb, D.dir s = some fb from Option.isSome_iff_exists.1 (hok.2.1 rfl))
        clear hok
        by_cases hst : s = t
        · have hbe : (s.toList == t.toList) = true := by rw [hst]; simp
          have hbe2 : (s.toList = t.toList) = True := by rw [hst]; simp
          have HST := hid hst
          clear hst
          go_enter Try.func17, Try.ntmps17
          go_wp2_with (go_at_call 26; refine HS.out.mono ?_; rintro e w1 ⟨rfl, h1, f1⟩; have G1 := hid (Goes.count h1 ((HF.out _ _ _).none.trans f1 (fun _ hk => .inl hk))); have B1 := hid (HB.out _ f1); have x1 : w1.cell? ⟨w.heap.size, 0, none⟩ = some (.string s) := (cell_of B1.out.1 0).trans rfl; have x2 : w1.cell? ⟨w.heap.size + 1, 0, none⟩ = some (.string t) := (cell_of B1.out.2 0).trans rfl; clear h1 f1)
          go_ret
          exact ⟨by rw [hc.out]; rfl, fun _ => G1.out, fun _ h => absurd HST.out h⟩
        · have hbe : (s.toList == t.toList) = false := beq_eq_false_iff_ne.2 (str_ne hst)
          have hbe2 : (s.toList = t.toList) = False := eq_false (str_ne hst)
          have HST := hid hst
          clear hst
          go_enter Try.func17, Try.ntmps17
          go_wp2_with (first
            | (go_at_call 26; refine HS.out.mono ?_; rintro e w1 ⟨rfl, h1, f1⟩; have G1 := hid (Goes.count h1 ((HF.out _ _ _).none.trans f1 (fun _ hk => .inl hk))); have B1 := hid (HB.out _ f1); have x1 : w1.cell? ⟨w.heap.size, 0, none⟩ = some (.string s) := (cell_of B1.out.1 0).trans rfl; have x2 : w1.cell? ⟨w.heap.size + 1, 0, none⟩ = some (.string t) := (cell_of B1.out.2 0).trans rfl; clear h1 f1)
            | (go_at_call 28; obtain ⟨fb, hfb⟩ := HFB.out; refine (turn_move G1.out.at_ s t w.heap.size (w.heap.size + 1) ⟨B1.out.1, B1.out.2, HNM.out.1, HNM.out.2⟩ (fun k hk => (by simp [bxs] at hk; exact ⟨fun hm => by have := HN.out _ (.inl hm); omega, fun hm => by have := HN.out _ (.inr hm); omega⟩)) hn hlen fb hfb).mono ?_; rintro e w2 ⟨rfl, v1, h2, f2, o2⟩; have G2 := hid (Goes.acted G1.out h2 f2 o2 (boxes_snoc (D := D.count) (l := D.loose) rfl rfl (fun k hk => (by simp [bxs] at hk; omega)))); clear h2 f2 o2))
          go_ret
          exact ⟨by rw [hc.out]; rfl, fun h => (h.elim (fun h => absurd hc.out h) (fun h => absurd h HST.out)), fun _ _ => ⟨w.heap.size, w.heap.size + 1, v1, G2.out⟩⟩
    · have hez : ¬ e2 = 0 := he
      go_enter Try.func17, Try.ntmps17
      go_wp2_with (go_at_call 26; refine HS.out.mono ?_; rintro e w1 ⟨rfl, h1, f1⟩; have G1 := hid (Goes.count h1 ((HF.out _ _ _).none.trans f1 (fun _ hk => .inl hk))); clear h1 f1)
      go_ret
      have hc : codeE D true [s, t] = e2 := by unfold codeE; rw [HE.out]; simp [hez]
      exact ⟨by rw [hc]; rfl, fun _ => G1.out, fun h => by rw [hc] at h; exact absurd h hez⟩
end
end Go.Proofs.Ytgcenkmekpaapaa.L
