/- The reference's cache: what is taken out, what is laid first; its bytes and keys. -/
import Derived.Test.YtbiejjncjgapmaaRefA
namespace Go.Proofs.Ytbiejjncjgapmaa.L
open Go.RowKit Go.Lib
open Go.Proofs.YtbiejjncjgapmaaW.PrintWords Go.Proofs.YtbiejjncjgapmaaW.PrintLast Go.Proofs.YtbiejjncjgapmaaW.PrintMore
section
variable {w : World} {r : Nat} {v : Value} {os : List Item} {bud : Int}
theorem RefAt.laid {w1 : World} {v1 : Value} {os1 : List Item} (h : RefAt w r v os bud) (hb : Below w.heap.size w w1) (hr : Kd.R kT 62 w1 w.heap.size (fun _ => True) v1 os1) :
    RefAt (w1.setCell ⟨r, 0, none⟩ v1) r v1 os1 bud ∧ Fr [r] w (w1.setCell ⟨r, 0, none⟩ v1) ∧ ∀ k, v1.ownBlock = some k → w.heap.size ≤ k := by
  have hlt := h.lt
  have hc : w1.heap[r]? = some (.cells #[v, .int .i64 bud] 55 (0, 0)) := (hb.block r hlt).trans h.cell
  have hk : ∀ k, v1.ownBlock = some k → w.heap.size ≤ k := fun k hk => by
    obtain ⟨inner, ho⟩ := Kd.R_own hr
    exact own_base ho k hk
  refine ⟨⟨by rw [heap_set hc]; rfl, ?_⟩, (Fr.of_below hb [r]).trans (Fr.set _ _ _ (List.mem_singleton.2 rfl)) (fun _ hk => .inl hk), hk⟩
  exact Kd.R_far (row_self hr) (fun k hkk => by have := hk k hkk; show k ≠ r; omega) _
set_option maxHeartbeats 4000000 in
set_option maxRecDepth 100000 in
theorem out_calls (xs ys : List Item) (x : Item) (h : RefAt w r v (xs ++ x :: ys) bud) (hlen : (xs ++ x :: ys).length < 4294967296) :
    Calls Try.prog 26 #[P r, .int .i64 (xs.length : Int)] w fun e w' => e = .returned (.tuple #[]) ∧ ∃ v', RefAt w' r v' (xs ++ ys) bud ∧ Fr [r] w w' ∧ ∀ k, v'.ownBlock = some k → w.heap.size ≤ k := by
  obtain ⟨A, c, hv, hlc, hC⟩ := h.slice
  have hlx : (xs ++ x :: ys).length = xs.length + 1 + ys.length := by simp; omega
  have c0 := h.c0
  rw [hv, hlx] at c0
  rw [hlx] at hlc hlen
  obtain ⟨i0, hi0, _, hsz, _⟩ := info_parts info62
  have hcutA := cut_to (P := Try.prog) 53 62 .i64 Try.underlying53 hi0 A (xs.length + 1 + ys.length) c (xs.length : Int) (by omega) (by omega) hlc
  have hcutB := cut_from (P := Try.prog) 53 62 .i64 Try.underlying53 hi0 2 hsz A (xs.length + 1 + ys.length) c ((xs.length : Int) + 1) (by omega) (by omega)
  rw [show ((xs.length : Int)).toNat = xs.length from by omega] at hcutA
  rw [show ((xs.length : Int) + 1).toNat = xs.length + 1 from by omega, show xs.length + 1 + ys.length - (xs.length + 1) = ys.length from by omega] at hcutB
  have hT := Kd.C_take (m := xs.length) hC (by rw [hlx]; omega)
  have hD := Kd.C_drop (m := xs.length + 1) (c := c) hC (by rw [hlx]; omega) (by rw [hlx]; omega)
  have eT : (xs ++ x :: ys).take xs.length = xs := by simp
  have eD : (xs ++ x :: ys).drop (xs.length + 1) = ys := by
    rw [List.drop_append, List.drop_eq_nil_of_le (by omega)]
    simp
  rw [eT] at hT
  rw [eD] at hD
  have HT := hid hT
  generalize hA2 : (if c = xs.length + 1 then A else A.map (·.add ((xs.length + 1) * 2))) = A2 at hcutB
  have HD := hid (show Kd.C kT w A2 ys.length ys from by rw [← hA2]; exact hD)
  have HH := hid h
  have hfz := h.free 0
  have hnew := hid (fun (k : Nat) (_ : w.heap.size ≤ k) => trivial)
  clear h hC hT hD eT eD hA2 hi0 hsz hv
  go_enter Try.func26, Try.ntmps26
  go_wp2_with (first
    | ((with_reducible refine gate_builtin (b := .append) (xs := #[.tmp 5, .tmp 11]) rfl ?_); at_builtin; refine Kd.R_append_rows kT (w0 := w) w.heap.size rfl (.tmp 5) (.tmp 11) 53 62 (.agg #[.string ⟨#[]⟩, .string ⟨#[]⟩]) 32 rfl Try.underlying53 info62 rfl (by decide) (by omega) (.slice none 0 0) [] xs _ _ _ (fun _ => True) (fun _ => False) rfl rfl ?aO ?aR (fun _ _ h => h) (fun _ h => h.elim) (fun _ _ => trivial) ?aB ?aS ?aL ?_; (case aO => exact Kd.R_nil _ _ _ _ _); (case aR => exact HT.out); (case aB => exact Below.refl _ _); (case aS => exact Nat.le_refl _); (case aL => show (0 + _) * 32 ≤ _; omega); intro v1 w1 hr1 hb1 hg1 hat1; have R1 := hid hr1; have B1 := hid hb1; have d0 := (hb1.cell (p := ⟨r, 0, none⟩) HH.out.lt).trans c0; clear hr1 hb1 hg1 hat1)
    | ((with_reducible refine gate_builtin (b := .append) (xs := #[.tmp 14, .tmp 21]) rfl ?_); at_builtin; refine Kd.R_append_rows kT (w0 := w) w.heap.size rfl (.tmp 14) (.tmp 21) 53 62 (.agg #[.string ⟨#[]⟩, .string ⟨#[]⟩]) 32 rfl Try.underlying53 info62 rfl (by decide) (by omega) v1 ([] ++ xs) ys _ _ _ (fun _ => True) (fun _ => False) rfl rfl ?aO ?aR (fun _ _ h => h) (fun _ h => h.elim) (fun _ _ => trivial) ?aB ?aS ?aL ?_; (case aO => exact R1.out); (case aR => exact Kd.C_below HD.out (B1.out.mono (Nat.le_refl _))); (case aB => exact B1.out); (case aS => exact B1.out.size); (case aL => simp only [List.nil_append]; omega); intro v2 w2 hr2 hb2 hg2 hat2; rw [List.nil_append] at hr2; obtain ⟨A9, c9, hv9⟩ := Kd.R_slice hr2; rw [List.length_append] at hv9; subst hv9; have d2 := (hb2.cell (p := ⟨r, 0, none⟩) HH.out.lt).trans c0; have L2 := hid (HH.out.laid hb2 hr2); have f2 : w2.frozen? ⟨r, 0, none⟩ = false := free_of ((hb2.block r HH.out.lt).trans HH.out.cell) 0; clear hr2 hb2 hg2 hat2))
  go_end0
  exact ⟨rfl, _, L2.out.1, L2.out.2.1, L2.out.2.2⟩
end
end Go.Proofs.Ytbiejjncjgapmaa.L
