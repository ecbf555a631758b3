/- What all rows of this seat share: a world that holds the listed tables; strings and slices of strings as they come in. -/
import Derived.Test.YtinndapmljnifaaDoorCards
import Derived.Test.YtinndapmljnifaaDoorTie
import Derived.Test.YtinndapmljnifaaDoorWMore
import Derived.Test.YtinndapmljnifaaDoorPts
import Derived.WalkKit
import Derived.ProofKit
import Derived.OpenShut
import Derived.ShutString
import Derived.ChangeOld
import Derived.Below
import Derived.SizedLaws
import Derived.JoinedCond
import Derived.Deep.CondSized
import Derived.Deep.DeepHandedRow
import Derived.Lib.LaidTab
import Derived.SliceStrings
namespace Go.Proofs.YtinndapmljnifaaDoor.Kit
open Go.ChangeShapes Go.WideShapes Go.ChangeAt Go.RowKit
open Go.ChangeMaps (open_string shut_string)
open Go.Proofs.YtinndapmljnifaaDoorW.PrintWords
set_option linter.unusedVariables false
theorem own : ownKnob Tryd.prog.godebug = none := by kernel_rfl
theorem laidOut : laidOutB Tryd.prog = true := by kernel_rfl
noncomputable def laidWorld (os : Os) : World :=
  { World.holding Tryd.prog os ⟨#[], #[], []⟩ with heap := (((World.holding Tryd.prog os ⟨#[], #[], []⟩).heap.modify 1 fun
      | .cells _ t frozen => .cells (Go.Pinned.utf8FirstZ.map fun (n : Nat) => Value.int .u8 (n : Int)).toArray t frozen
      | o => o).modify 2 fun
      | .cells _ t frozen => .cells #[.int .u8 128, .int .u8 191, .int .u8 160, .int .u8 191, .int .u8 128, .int .u8 159, .int .u8 144, .int .u8 191, .int .u8 128, .int .u8 143, .int .u8 0, .int .u8 0, .int .u8 0, .int .u8 0, .int .u8 0, .int .u8 0, .int .u8 0, .int .u8 0, .int .u8 0, .int .u8 0, .int .u8 0, .int .u8 0, .int .u8 0, .int .u8 0, .int .u8 0, .int .u8 0, .int .u8 0, .int .u8 0, .int .u8 0, .int .u8 0, .int .u8 0, .int .u8 0] t frozen
      | o => o) }
theorem le_sum {l : List Nat} {n : Nat} (h : n ∈ l) : n ≤ l.sum := by
  induction l with
  | nil => cases h
  | cons a r ih =>
    rw [List.sum_cons]
    rcases List.mem_cons.1 h with e | h
    · omega
    · have := ih h; omega
theorem strings_of {H : Type} {enc : TypeId × Value → H} {W : World} {base : Nat} {spare : Nat → Bool} {held : Bool} {t e : TypeId} {a : Option Addr} {len cap : Nat} {d : DataW H} {ps : List MemPlace}
    (hu : Tryd.prog.underlying t = some (.slice e)) (he : Tryd.prog.underlying e = some .string) (hc : Tryd.prog.cellsOf e = 1)
    (h : DataW.Trod enc Tryd.prog W base spare held t (.slice a len cap) d ps) :
    ∃ ss : List ByteArray, ss.length = len ∧ len ≤ cap ∧ Kd.C Kd.string W a ss.length ss ∧ (∀ s ∈ ss, s.size ≤ maxLen) ∧
      (ss.length + 1 ≤ Rows.uptoBulk d ∨ ss = []) ∧ (∀ s ∈ ss, s.size ≤ Rows.uptoBulk d) ∧ ((ss.map (·.size)).sum ≤ Rows.uptoBulk d) := by
  obtain ⟨fuel, hf⟩ := h
  rcases open_strings hu he hc hf with ⟨hcs, hx⟩ | ⟨x, l, c, ss, hcs, _, hl, hm, hz, hx, hcell, hsz⟩
  · simp [Value.cells] at hcs
    obtain ⟨rfl, rfl, rfl⟩ := hcs
    exact ⟨[], rfl, Nat.le_refl _, Kd.C_of_reads (d := ByteArray.empty) (h1 := fun _ => rfl) ⟨rfl, by simp, fun h => absurd h (Nat.lt_irrefl _)⟩, fun s h => (List.not_mem_nil h).elim, .inr rfl, fun s h => (List.not_mem_nil h).elim, Nat.zero_le _⟩
  · simp [Value.cells] at hcs
    obtain ⟨rfl, rfl, rfl⟩ := hcs
    obtain ⟨hd, _⟩ := Prod.mk.inj hx
    have hl2 : len ≤ ss.length := by rw [hz]; split <;> omega
    have hlt : (ss.take len).length = len := by rw [List.length_take]; omega
    have hget : ∀ j, j < len → (ss.take len).getD j ByteArray.empty = ss.getD j ByteArray.empty := fun j hj => by
      rw [List.getD_eq_getElem?_getD, List.getD_eq_getElem?_getD, List.getElem?_take_of_lt hj]
    have one : ∀ l : List ByteArray, Rows.uptoBulkAll (strs (H := H) l) = (l.map (·.size)).sum + l.length := by
      intro l
      induction l with
      | nil => rfl
      | cons s r ih =>
        have ih' : Rows.uptoBulkAll (strs (H := H) r) = (r.map (·.size)).sum + r.length := ih
        show Rows.uptoBulkAll (DataW.lit (.string s.data.toList) :: strs (H := H) r) = _
        simp only [Rows.uptoBulkAll, Rows.uptoBulk, ih', List.map_cons, List.sum_cons, List.length_cons]
        have : s.data.toList.length = s.size := (Lib.size_eq s).symm
        omega
    have hb : Rows.uptoBulk d = ((ss.take len).map (·.size)).sum + len + (((ss.drop len).map (·.size)).sum + (ss.drop len).length) + 1 := by
      rw [hd]
      simp only [Rows.uptoBulk, one, hlt]
    refine ⟨ss.take len, hlt, hl, Kd.C_of_reads (d := ByteArray.empty) (h1 := fun _ => rfl) ⟨rfl, ?_, fun h => ⟨x, rfl, fun j hj => ?_⟩⟩, fun s h => hsz s (List.mem_of_mem_take h), .inl (by rw [hlt]; omega), fun s h => ?_, by omega⟩
    · rw [hlt]; unfold maxLen at hm; omega
    · rw [hlt] at hj
      rw [hget j hj]
      exact hcell j (by omega)
    · have : s.size ≤ ((ss.take len).map (·.size)).sum := by
        have hm : s.size ∈ (ss.take len).map (·.size) := List.mem_map.2 ⟨s, h, rfl⟩
        exact le_sum hm
      omega
theorem map_ba (l : List ByteArray) : (l.map (·.data.toList)).map P.ba = l := by
  rw [List.map_map]
  conv => rhs; rw [← List.map_id l]
  exact List.map_congr_left (fun a _ => P.ba_of a)
end Go.Proofs.YtinndapmljnifaaDoor.Kit
