/- The reference's cache: a text laid first; New, Bytes, Keys. -/
import Derived.Test.YtbiejjncjgapmaaRefB
import Derived.StillTailTactics
namespace Go.Proofs.Ytbiejjncjgapmaa.L
open Go.RowKit Go.Lib
open Go.Proofs.YtbiejjncjgapmaaW.PrintWords Go.Proofs.YtbiejjncjgapmaaW.PrintLast Go.Proofs.YtbiejjncjgapmaaW.PrintMore
attribute [local go_sem] max2_int
section
variable {w : World} {r : Nat} {v : Value} {os : List Item} {bud : Int}
theorem lit_row (W : World) (base : Nat) (hb : base ≤ W.heap.size) (x : Item) : Kd.R kT 62 (W.alloc (.cells #[.string x.key, .string x.val] 62)) base (fun _ => True) (.slice (some ⟨W.heap.size, 0, none⟩) 1 1) [x] :=
  ⟨fun _ _ => trivial, [.string x.key, .string x.val], World.ownsRow_lit (base := base) (e := 62) (size := 2) W #[.string x.key, .string x.val] 1 hb (by decide) rfl, ⟨rfl, fun j p hj => by
    match j, hj with
    | 0, hj =>
      obtain rfl : x = p := by simpa using hj
      exact kT_mk _ _ _ _⟩⟩
set_option maxHeartbeats 4000000 in
set_option maxRecDepth 100000 in
theorem first_calls (x : Item) (h : RefAt w r v os bud) (hlen : os.length < 4294967296) :
    Calls Try.prog 27 #[P r, .agg #[.string x.key, .string x.val]] w fun e w' => e = .returned (.tuple #[]) ∧ ∃ v', RefAt w' r v' (x :: os) bud ∧ Fr [r] w w' ∧ ∀ k, v'.ownBlock = some k → w.heap.size ≤ k := by
  obtain ⟨A, c, hv, hlc, hC⟩ := h.slice
  have c0 := h.c0
  rw [hv] at c0
  have HT := hid hC
  have HH := hid h
  have HL := hid (show Kd.R kT 62 ((w.alloc (.cells #[.string x.key, .string x.val] 62)).alloc (.cells #[.string x.key, .string x.val] 62)) w.heap.size (fun _ => True) (.slice (some ⟨w.heap.size + 1, 0, none⟩) 1 1) [x] from by
    have h := lit_row (w.alloc (.cells #[.string x.key, .string x.val] 62)) w.heap.size (by simp) x
    rw [World.size_alloc] at h
    exact h)
  have c01 : ∀ o1 o2 : Obj, ((w.alloc o1).alloc o2).cell? ⟨r, 0, none⟩ = some (.slice A os.length c) := fun o1 o2 => ((((Below.refl _ w).alloc (Nat.le_refl _) o1).alloc (by simp) o2).cell (p := ⟨r, 0, none⟩) h.lt).trans c0
  clear h hC hv
  go_enter Try.func27, Try.ntmps27
  go_wp2_with ((with_reducible refine gate_builtin (b := .append) (xs := #[.tmp 8, .tmp 12]) rfl ?_); at_builtin; refine Kd.R_append_rows kT (w0 := w) w.heap.size rfl (.tmp 8) (.tmp 12) 53 62 (.agg #[.string ⟨#[]⟩, .string ⟨#[]⟩]) 32 rfl Try.underlying53 info62 rfl (by decide) (by omega) (.slice (some ⟨w.heap.size + 1, 0, none⟩) 1 1) [x] os _ _ _ (fun _ => True) (fun _ => False) rfl rfl ?aO ?aR (fun _ _ h => h) (fun _ h => h.elim) (fun _ _ => trivial) ?aB ?aS ?aL ?_; (case aO => exact HL.out); (case aR => exact Kd.C_alloc (Kd.C_alloc HT.out _) _); (case aB => exact ((Below.refl _ w).alloc (Nat.le_refl _) _).alloc (by simp) _); (case aS => simp only [World.size_alloc]; omega); (case aL => show (1 + _) * 32 ≤ _; omega); intro v2 w2 hr2 hb2 hg2 hat2; rw [List.singleton_append] at hr2; obtain ⟨A9, c9, hv9⟩ := Kd.R_slice hr2; rw [List.length_cons] at hv9; subst hv9; have d2 := (hb2.cell (p := ⟨r, 0, none⟩) HH.out.lt).trans c0; have L2 := hid (HH.out.laid hb2 hr2); have f2 : w2.frozen? ⟨r, 0, none⟩ = false := free_of ((hb2.block r HH.out.lt).trans HH.out.cell) 0; clear hr2 hb2 hg2 hat2)
  go_end0
  exact ⟨rfl, _, L2.out.1, L2.out.2.1, L2.out.2.2⟩
theorem ref_made (w : World) (b : Int) : RefAt (w.alloc (.cells #[.slice none 0 0, .int .i64 b] 55)) w.heap.size (.slice none 0 0) [] b :=
  ⟨(MapKept.heap_alloc w _).1, Kd.R_nil _ _ _ _ _⟩
def maxZ (b : Int) : Int := if b < 0 then 0 else b
set_option maxRecDepth 100000 in
theorem ref_new (w : World) (b : Int) :
    Calls Try.prog 9 #[.int .i64 b] w fun e w' => e = .returned (P w.heap.size) ∧ RefAt w' w.heap.size (.slice none 0 0) [] (maxZ b) ∧ Below w.heap.size w w' := by
  have HM := hid (ref_made w (maxZ b))
  have hB := hid (fun o => (Below.refl _ w).alloc (Nat.le_refl _) o)
  have hm := maxZ
  by_cases h : b < 0
  · have e : maxZ b = 0 := if_pos h
    rw [e] at HM ⊢
    go_enter Try.func9, Try.ntmps9
    go_wp2
    go_ret
    exact ⟨rfl, HM.out, hB.out _⟩
  · have e : maxZ b = b := if_neg h
    have hb : 0 ≤ b := by omega
    rw [e] at HM ⊢
    go_enter Try.func9, Try.ntmps9
    go_wp2
    go_ret
    exact ⟨rfl, HM.out, hB.out _⟩
theorem RefAt.same {w' : World} (h : RefAt w r v os bud) (e : w'.heap = w.heap) : RefAt w' r v os bud :=
  ⟨by rw [e]; exact h.cell, Kd.R_step h.row (fun k _ _ => by rw [e])⟩
theorem weight_take (os : List Item) (kk : Nat) (h : kk < os.length) : weightI (os.take (kk + 1)) = weightI (os.take kk) + heft os[kk] := by
  rw [List.take_succ_eq_append_getElem h]
  unfold weightI
  rw [List.map_append, List.sum_append]
  simp only [List.map_cons, List.map_nil, List.sum_cons, List.sum_nil, Nat.add_zero]
theorem wrap_sum (a b c : Nat) (h : a + b + c < 4611686018427387904) : IntKind.i64.wrap (IntKind.i64.wrap ((a : Int) + (b : Int)) + (c : Int)) = ((a + b + c : Nat) : Int) := by
  rw [IntKind.wrap_i64, IntKind.wrap_i64]
  omega
theorem weight_take_le (os : List Item) (kk : Nat) : weightI (os.take kk) ≤ weightI os := by
  have h := List.take_append_drop kk os
  have : weightI os = weightI (os.take kk) + weightI (os.drop kk) := by
    conv => lhs; rw [← h]
    unfold weightI
    rw [List.map_append, List.sum_append]
  omega
set_option maxHeartbeats 4000000 in
set_option maxRecDepth 100000 in
theorem ref_bytes (h : RefAt w r v os bud) (hw : weightI os < 4611686018427387904) :
    Calls Try.prog 19 #[P r] w fun e w' => e = .returned (.int .i64 (weightI os)) ∧ Drawn0 w w' := by
  obtain ⟨A, c, hv, hlc, _⟩ := h.slice
  have hmx : os.length ≤ 9223372036854775807 := Kd.C_max (Kd.R_reads' (hv ▸ h.row)).2.2
  have HT := hid (fun (W : World) (hW : W.heap = w.heap) i (hi : i < os.length) => text_at (h.same hW).row hv hi)
  have HC := hid (fun (W : World) (hW : W.heap = w.heap) => (show W.cell? ⟨r, 0, none⟩ = some (.slice A os.length c) from by rw [← hv]; exact (h.same hW).c0))
  have HD0 := hid (show Drawn0 w w from ⟨0, rfl⟩)
  clear h hv
  go_enter Try.func19, Try.ntmps19
  go_wp2
  go_loopg [3, 4] os.length (fun gg s3 s4 wr => ∃ (kk : Nat), kk ≤ os.length ∧ os.length - kk ≤ gg ∧ s3 = .int .i64 (weightI (os.take kk)) ∧ s4 = .int .i64 kk ∧ Hid (Drawn0 w wr))
  case atStart => exact ⟨0, Nat.zero_le _, by omega, rfl, rfl, HD0⟩
  case round =>
    clear HD0
    obtain ⟨kk, hkk, hg, rfl, rfl, HD⟩ := hrel
    have hheap : wr.heap = w.heap := by obtain ⟨q, hq⟩ := HD.out; rw [hq]; rfl
    have c0 := HC.out wr hheap
    by_cases hlt : kk < os.length
    · have hltz : (kk : Int) < (os.length : Int) := by omega
      obtain ⟨g, rfl, hgl, _, hcell⟩ := HT.out wr hheap kk hlt
      have k0 := (hcell kk hlt).1
      have k1 := (hcell kk hlt).2
      have hwt := weight_take os kk hlt
      have hwl := weight_take_le os (kk + 1)
      have HD2 := hid (show Drawn0 w wr.drew from by obtain ⟨q, hq⟩ := HD.out; exact ⟨q + 1, by rw [hq]; rfl⟩)
      have hh : heft os[kk] = os[kk].key.size + os[kk].val.size := rfl
      rw [hh] at hwt
      clear hcell hh hheap
      generalize weightI (os.take kk) = t1 at hwt
      generalize os[kk].key = g1 at k0 hwt
      generalize os[kk].val = g2 at k1 hwt
      go_wp2
      go_still_tail 21, (by kernel_rfl)
      change wpList _ _ _ _ _ wr.drew
      go_wp2
      go_roundg (os.length - (kk + 1))
      case measure => omega
      case rel => exact ⟨kk + 1, by omega, by omega, by rw [wrap_sum _ _ _ (by omega), hwt, Nat.add_assoc], by go_num, HD2⟩
    · have hltz : ¬ (kk : Int) < (os.length : Int) := by omega
      obtain rfl : kk = os.length := by omega
      rw [List.take_length]
      go_wp2
      go_ret
      exact ⟨rfl, HD.out⟩
end
end Go.Proofs.Ytbiejjncjgapmaa.L
