/- cone.Show answers what the plain lists say. -/
import Derived.Test.YtinndapmljnifaaDoorConeF
import Derived.Test.YtinndapmljnifaaDoorGivenC
namespace Go.Proofs.YtinndapmljnifaaDoor.P
open Go.RowKit Go.Proofs.YtinndapmljnifaaDoor.S Go.Proofs.YtinndapmljnifaaDoor.Q
open Go.Proofs.YtinndapmljnifaaDoorW.PrintWords Go.Proofs.YtinndapmljnifaaDoorW.PrintLast Go.Proofs.YtinndapmljnifaaDoorW.PrintMore
theorem pre35 (s : List UInt8) : Lib.hasPrefix s [35] = (s != [] && s.headD 0 == 35) := by
  cases s with
  | nil => rfl
  | cons a t =>
    show (([35] : List UInt8).isPrefixOf (a :: t)) = _
    rw [List.isPrefixOf, List.isPrefixOf, Bool.and_true, List.headD_cons]
    rw [show ((a :: t) != []) = true from rfl, Bool.true_and, Bool.eq_iff_iff, beq_iff_eq, beq_iff_eq]
    exact eq_comm
theorem has10 (s : List UInt8) : decide (0 ≤ Lib.indexByte s 10) = s.contains 10 := by
  rcases indexByte_cases s 10 with ⟨h1, h2⟩ | ⟨i, h1, h2, h3, h4⟩
  · rw [h1, decide_eq_false (by omega), eq_comm, Bool.eq_false_iff]
    exact fun h => h2 (List.contains_iff_mem.1 h)
  · rw [h1, decide_eq_true (by omega), eq_comm]
    refine List.contains_iff_mem.2 ?_
    rw [h3]; simp
theorem mute_eq (s : List UInt8) : mute (ba s) = muteL s := by
  unfold mute muteL
  rw [ba_data, pre35, has10]
theorem line_eq (s : List UInt8) : lineOf (ba s) = ba (lineL s) := by
  unfold lineOf lineL nameL
  rw [ba_data]
  by_cases h : s = []
  · rw [if_pos h, if_pos h]; exact ba_append [42] [10]
  · rw [if_neg h, if_neg h]; exact ba_append s [10]
theorem line_length (s : List UInt8) : (lineL s).length ≤ s.length + 2 := by
  unfold lineL nameL
  split <;> simp
theorem showFrom_eq (l : List (List UInt8)) (hs : ∀ x ∈ l, x.length < 4294967281) : ∀ b : List UInt8, b.length + l.length * 4294967290 ≤ 140737488355328 → showFrom (ba b) (l.map ba) = some (ba (showG b l).1, (showG b l).2) := by
  induction l with
  | nil => intro b _; rfl
  | cons s r ih =>
    intro b hb
    have h1 := hs s List.mem_cons_self
    have h2 := line_length s
    rw [List.length_cons] at hb
    rw [List.map_cons, showFrom, mute_eq, showG]
    by_cases hm : muteL s = true
    · rw [if_pos hm, if_pos hm]; rfl
    · rw [if_neg hm, if_neg hm, if_pos (by rw [ba_size, ba_size]; omega), line_eq, ba_append]
      exact ih (fun x hx => hs x (List.mem_cons_of_mem _ hx)) _ (by rw [List.length_append]; omega)
theorem of_short (ds : List (List UInt8)) (hs : ∀ x ∈ ds, x.length < 4294967281) : (ofL ds).1.length ≤ 64 ∧ ∀ x ∈ (ofL ds).1, x.length < 4294967281 := by
  refine ⟨of_len ds, ?_⟩
  unfold ofL
  by_cases hp : ds.all isP = true
  · rw [if_pos hp]
    split
    · simp
    · intro x hx
      exact hs x (((form_all ds hp).2.1 x).1 hx).1
  · rw [if_neg hp]; simp
theorem show_ev (ds : List (List UInt8)) (hl : ds.length < 4000000000) (hs : ∀ x ∈ ds, x.length < 4294967281) : Ev (fun k => cone_Show.f k (ds.map ba)) (ba (showL ds).1, (showL ds).2) := by
  unfold cone_Show.f showL
  have hz := of_short ds hs
  refine Ev.bind (of_ev ds hl hs) ?_
  by_cases h0 : (ofL ds).2 = 0
  · simp only [if_pos h0]
    have := showFrom_eq (ofL ds).1 hz.2 [] (by rw [List.length_nil]; omega)
    exact Ev.congr (fun _ => this) (Ev.val rfl)
  · simp only [if_neg h0]
    exact Ev.val rfl
end Go.Proofs.YtinndapmljnifaaDoor.P
