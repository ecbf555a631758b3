/- New; same. -/
import Derived.Test.YtbiejjncjgapmaaPut
namespace Go.Proofs.Ytbiejjncjgapmaa.L
open Go.RowKit Go.Lib
open Go.Proofs.YtbiejjncjgapmaaW.PrintWords Go.Proofs.YtbiejjncjgapmaaW.PrintLast Go.Proofs.YtbiejjncjgapmaaW.PrintMore
attribute [local go_sem] max2_int
set_option maxRecDepth 100000 in
theorem begin_calls {w : World} {c : Nat} {x y z : Value} (h : w.heap[c]? = some (.cells #[.string ⟨#[]⟩, .string ⟨#[]⟩, .pointer none, .pointer none, x, y, z] 52 (0, 0))) :
    Calls Try.prog 22 #[P c] w fun e w' => e = .returned (.tuple #[]) ∧ w'.heap[c]? = some (.cells #[.string ⟨#[]⟩, .string ⟨#[]⟩, P c, P c, x, y, z] 52 (0, 0)) ∧ Fr [c] w w' := by
  have c2 : w.cell? ⟨c, 2, none⟩ = some (.pointer none) := (cell_of h 2).trans rfl
  have c3 : w.cell? ⟨c, 3, none⟩ = some (.pointer none) := (cell_of h 3).trans rfl
  have f2 := free_of h 2
  have f3 := free_of h 3
  have H1 := hid (heap_set (off := 2) (heap_set (off := 3) h (P c)) (P c))
  have HF := hid (((Fr.set w ⟨c, 3, none⟩ (P c) (List.mem_singleton.2 rfl)).trans (Fr.set _ ⟨c, 2, none⟩ (P c) (List.mem_singleton.2 rfl)) (fun _ hk => .inl hk)).drew : Fr [c] w _)
  clear h
  go_enter Try.func22, Try.ntmps22
  go_wp2
  go_region
  all_goals (go_end0; exact ⟨rfl, H1.out, HF.out⟩)
theorem new_fin {w w1 : World} {d : Int} (o : Obj) (HH : w1.heap[w.heap.size + 1]? = some (.cells #[.string ⟨#[]⟩, .string ⟨#[]⟩, P (w.heap.size + 1), P (w.heap.size + 1), .map (some w.heap.size), .int .i64 d, .int .i64 0] 52 (0, 0)))
    (HF : Fr [w.heap.size + 1] ((w.alloc (.map #[] 0)).alloc o) w1) : CacheAt w1 (w.heap.size + 1) w.heap.size [] [] d (weightI []) 0 ∧ Below w.heap.size w w1 := by
  have hm0 := (MapAt.made w).keep (w' := (w.alloc (.map #[] 0)).alloc o) (Below.heap_alloc _ _ _ (by simp))
  have hm := hm0.keep (HF.keep w.heap.size (by simp only [World.size_alloc]; omega) (by simp))
  refine ⟨⟨⟨⟨fun _ => w.heap.size + 1, fun _ => w.heap.size + 1, ⟨HH, by simp, by simp [blks]⟩, ⟨rfl, rfl, trivial⟩⟩, by simp, by simp⟩, by simp, hm, by simp⟩, ?_⟩
  have b1 : Below w.heap.size w ((w.alloc (.map #[] 0)).alloc o) := ((Below.refl _ w).alloc (Nat.le_refl _) _).alloc (by simp) _
  exact b1.trans (HF.below (by simp only [World.size_alloc]; omega) (by simp))
set_option maxRecDepth 100000 in
theorem new_neg (w : World) (b : Int) (hb : b < 0) :
    Calls Try.prog 8 #[.int .i64 b] w fun e w' => ∃ c : Nat, e = .returned (P c) ∧ w.heap.size ≤ c ∧ ∃ m : Nat, w.heap.size ≤ m ∧ CacheAt w' c m [] [] 0 (weightI []) 0 ∧ Below w.heap.size w w' := by
  have hmm := @run_makeMap Try.prog
  go_enter Try.func8, Try.ntmps8
  go_wp2_with (go_at_call 22; refine (begin_calls (c := w.heap.size + 1) (x := .map (some w.heap.size)) (y := .int .i64 0) (z := .int .i64 0) ?_).mono ?_; (case refine_1 => exact (by have h := (MapKept.heap_alloc (w.alloc (.map #[] 0)) (.cells #[.string ⟨#[]⟩, .string ⟨#[]⟩, .pointer none, .pointer none, .map (some w.heap.size), .int .i64 0, .int .i64 0] 52)).1; simp only [World.size_alloc] at h; exact h)); rintro e w1 ⟨rfl, hh, hf⟩; have HH := hid hh; have HF := hid hf; clear hh hf)
  go_ret
  exact ⟨w.heap.size + 1, rfl, Nat.le_succ _, w.heap.size, Nat.le_refl _, new_fin _ HH.out HF.out⟩
set_option maxRecDepth 100000 in
theorem new_pos (w : World) (b : Int) (hb : 0 ≤ b) :
    Calls Try.prog 8 #[.int .i64 b] w fun e w' => ∃ c : Nat, e = .returned (P c) ∧ w.heap.size ≤ c ∧ ∃ m : Nat, w.heap.size ≤ m ∧ CacheAt w' c m [] [] b (weightI []) 0 ∧ Below w.heap.size w w' := by
  have hmm := @run_makeMap Try.prog
  go_enter Try.func8, Try.ntmps8
  go_wp2_with (go_at_call 22; refine (begin_calls (c := w.heap.size + 1) (x := .map (some w.heap.size)) (y := .int .i64 b) (z := .int .i64 0) ?_).mono ?_; (case refine_1 => exact (by have h := (MapKept.heap_alloc (w.alloc (.map #[] 0)) (.cells #[.string ⟨#[]⟩, .string ⟨#[]⟩, .pointer none, .pointer none, .map (some w.heap.size), .int .i64 b, .int .i64 0] 52)).1; simp only [World.size_alloc] at h; exact h)); rintro e w1 ⟨rfl, hh, hf⟩; have HH := hid hh; have HF := hid hf; clear hh hf)
  go_ret
  exact ⟨w.heap.size + 1, rfl, Nat.le_succ _, w.heap.size, Nat.le_refl _, new_fin _ HH.out HF.out⟩
end Go.Proofs.Ytbiejjncjgapmaa.L
