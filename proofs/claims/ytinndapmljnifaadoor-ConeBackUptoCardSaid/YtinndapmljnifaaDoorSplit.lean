/- The machine side of strings.Split at a separator of one byte: every text of fewer than 2^32 bytes. -/
import Derived.Test.YtinndapmljnifaaDoorShelf
import Derived.Test.YtinndapmljnifaaDoorPts
import Derived.Test.YtinndapmljnifaaDoorWMore
import Derived.Shelf.Strings.Split
import Derived.Lib.SplitLaws
import Derived.Lib.Hide
namespace Go.Proofs.YtinndapmljnifaaDoor.P
open Go.RowKit Go.Lib
open Go.Proofs.YtinndapmljnifaaDoorW.PrintWords
theorem splitB_pts (c : UInt8) : ∀ (k : Nat) (s : ByteArray), Lib.countB s ⟨#[c]⟩ = k → Lib.splitB ⟨#[c]⟩ 0 k s = (pts c s.data.toList).map ba := by
  intro k
  induction k with
  | zero =>
    intro s h
    have h' : s.data.toList.count c = 0 := by
      have := Lib.count_one c s.data.toList
      rw [← this]; exact h
    rw [pts_not c _ (List.count_eq_zero.1 h'), Lib.splitB_zero]
    simp [ba_of]
  | succ k ih =>
    intro s h
    have e : Lib.indexB s ⟨#[c]⟩ = Lib.indexByte s.data.toList c := Lib.index_one _ _
    rcases indexByte_cases s.data.toList c with ⟨h1, h2⟩ | ⟨i, h1, h2, h3, h4⟩
    · have h' : s.data.toList.count c = k + 1 := by
        have := Lib.count_one c s.data.toList
        rw [← this]; exact h
      rw [List.count_eq_zero.2 h2] at h'
      omega
    · have hi : Lib.indexB s ⟨#[c]⟩ = i := e.trans h1
      have hc := Lib.countB_hit s ⟨#[c]⟩ i (Nat.le_refl 1) hi
      rw [Lib.splitB_hit _ _ _ _ i hi, ih _ (by rw [h] at hc; omega), Lib.extract_data, List.take_of_length_le (by rw [List.length_drop, ← Lib.size_eq]; exact Nat.le_refl _), show ByteArray.size ⟨#[c]⟩ = 1 from rfl]
      have e3 : pts c s.data.toList = s.data.toList.take i :: pts c (s.data.toList.drop (i + 1)) := by
        rw [h3, pts_append c _ _ h4, ← h3]
      rw [e3, List.map_cons]
      congr 1
      · apply ba_ext; rw [ba_data, Lib.extract_from_zero]; simp
theorem zero_string : (Tryd.prog.info? 9).map (fun i => (i.zero, i.size, i.bytes)) = some (some (.string ByteArray.empty), 1, 16) := by kernel_rfl
set_option maxHeartbeats 1000000 in
set_option maxRecDepth 100000 in
theorem split1_any (s : ByteArray) (c : UInt8) (w : World) (hs : s.size < 4294967281) :
    Calls Tryd.prog 43 #[.string s, .string ⟨#[c]⟩] w fun e w' =>
      e = .returned (.slice (some ⟨w.heap.size, 0, none⟩) (pts c s.data.toList).length (pts c s.data.toList).length) ∧ w' = w.alloc (.cells (((pts c s.data.toList).map ba).map Value.string).toArray 9) := by
  have hct : Lib.countB s ⟨#[c]⟩ = s.data.toList.count c := Lib.count_one c s.data.toList
  have hsp := splitB_pts c _ s rfl
  have hl := congrArg List.length hsp
  rw [List.length_map] at hl
  have hle := Lib.countB_le ⟨#[c]⟩ (Nat.le_refl 1) s.size s (Nat.le_refl _)
  have hlen := Lib.splitB_all ⟨#[c]⟩ (Nat.le_refl 1) 0 _ s rfl
  have g := Any.strings_genSplit_core Tryd.lays221 zero_string s ⟨#[c]⟩ 0 (-1) (Lib.countB s ⟨#[c]⟩ + 1) w hs (Nat.le_refl 1) (Nat.zero_le _)
    (fun x cs _ => (Tryd.strings_Index_one x c _).mono fun e w' ⟨he, hw⟩ => ⟨by rw [he]; exact congrArg (fun z => Ending.returned (.int .i64 z)) (Lib.index_one _ _).symm, hw⟩)
    ((Tryd.strings_Count_one s c w).mono fun e w' ⟨he, hw⟩ => ⟨by rw [he, hct]; rfl, hw⟩) (by decide) (by decide) (by rw [if_pos (by decide)]; omega)
  rw [Nat.add_sub_cancel, hlen] at g
  have e2 : Lib.cellsOf (Lib.splitB ⟨#[c]⟩ 0 (Lib.countB s ⟨#[c]⟩) s) (Lib.countB s ⟨#[c]⟩ + 1) = ((Lib.splitB ⟨#[c]⟩ 0 (Lib.countB s ⟨#[c]⟩) s).map Value.string).toArray := by rw [← hlen]; exact Lib.cellsOf_full _
  rw [e2, hsp] at g
  have e3 : Lib.countB s ⟨#[c]⟩ + 1 = (pts c s.data.toList).length := by omega
  rw [e3] at g
  have HG := Lib.hid g
  clear g e2 e3 hlen hle hl hsp hct
  go_enter Tryd.func43, Tryd.ntmps43
  go_wp2_with (go_at_call 59; refine (HG.out).mono ?_; rintro e w' ⟨rfl, hw⟩; rw [hw])
  go_ret
  exact ⟨rfl, by rw [List.map_map]; rfl⟩
def strings_Split.f (a0 a1 : ByteArray) : Option (List ByteArray) :=
  match a1.data.toList with
  | [c] => if a0.size < 4294967281 then some ((pts c a0.data.toList).map ba) else none
  | _ => none
theorem strings_Split.calls (a0 a1 : ByteArray) (r : List ByteArray) (w : World) (h : strings_Split.f a0 a1 = some r) :
    Calls Tryd.prog 43 #[.string a0, .string a1] w fun e w' => ∃ v : Value, e = .returned v ∧ Kd.R Kd.string 9 w' w.heap.size (fun _ => True) v r ∧ Below w.heap.size w w' := by
  unfold strings_Split.f at h
  split at h
  · rename_i c hc
    obtain rfl : a1 = ⟨#[c]⟩ := ba_ext hc
    split at h
    · rename_i hs
      obtain rfl := Option.some.inj h
      refine (split1_any a0 c w hs).mono ?_
      rintro e w' ⟨rfl, rfl⟩
      have hl : (pts c a0.data.toList).length ≤ 4294967281 := by
        rw [pts_length]
        have := List.count_le_length (a := c) (l := a0.data.toList)
        rw [← Lib.size_eq] at this
        omega
      refine ⟨_, rfl, Kd.R_of_own (h1 := fun _ => rfl) ?_ (fun _ _ => trivial), (Below.refl _ _).alloc (Nat.le_refl _) _⟩
      refine ⟨by simp [encs], .inr ⟨w.heap.size, (pts c a0.data.toList).length, _, by simp, Nat.le_refl _, heap_alloc_new w _, by simp, by unfold maxLen; omega, by simp, ?_⟩⟩
      rw [Nat.mul_one, List.toList_toArray, List.take_of_length_le (by simp)]
      rfl
    · cases h
  · cases h
end Go.Proofs.YtinndapmljnifaaDoor.P
