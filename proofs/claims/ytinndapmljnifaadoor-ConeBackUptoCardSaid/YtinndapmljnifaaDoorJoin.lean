/- The machine side of strings.Join at a separator of one byte. -/
import Derived.Test.YtinndapmljnifaaDoorShelf
import Derived.Test.YtinndapmljnifaaDoorPts
import Derived.Test.YtinndapmljnifaaDoorWMore
import Derived.Lib.Join
namespace Go.Proofs.YtinndapmljnifaaDoor.P
open Go.RowKit Go.Lib
open Go.Proofs.YtinndapmljnifaaDoorW.PrintWords
theorem jn_join (c : UInt8) (l : List (List UInt8)) : Lib.join l [c] = jn c l := by
  unfold Lib.join
  induction l with
  | nil => rfl
  | cons a r ih =>
    cases r with
    | nil => simp [List.intercalate, jn]
    | cons b r =>
      rw [jn_cons c a _ (by simp), ← ih]
      simp [List.intercalate, List.intersperse]
def strings_Join.f (l0 : List ByteArray) (a1 : ByteArray) : Option (ByteArray) :=
  match a1.data.toList with
  | [c] => if l0.length ≤ 140737488355328 ∧ (jn c (l0.map (·.data.toList))).length ≤ 140737488355328 then some (ba (jn c (l0.map (·.data.toList)))) else none
  | _ => none
theorem strings_Join.calls (A0 : Option Addr) (c0 : Nat) (l0 : List ByteArray) (a1 : ByteArray) (r : ByteArray) (w : World) (hr0 : Kd.C Kd.string w A0 l0.length l0) (hc0 : l0.length ≤ c0) (h : strings_Join.f l0 a1 = some r) :
    Calls Tryd.prog 31 #[.slice A0 l0.length c0, .string a1] w fun e w' => e = .returned (.string r) ∧ Below w.heap.size w w' := by
  unfold strings_Join.f at h
  split at h
  · rename_i c hc
    obtain rfl : a1 = ⟨#[c]⟩ := ba_ext hc
    split at h
    · rename_i hs
      obtain rfl := Option.some.inj h
      have hj := jn_join c (l0.map (·.data.toList))
      rcases Nat.eq_zero_or_pos l0.length with h0 | h0
      · obtain rfl := List.eq_nil_of_length_eq_zero h0
        refine (Tryd.strings_Join_none A0 c0 _ w).mono ?_
        rintro e w' ⟨rfl, rfl⟩
        exact ⟨rfl, Below.refl _ _⟩
      · obtain ⟨ad, rfl, hcell⟩ := (Kd.reads_of_C (d := ByteArray.empty) hr0).2.2 h0
        have h00 := hcell 0 h0
        have hsp : ad.spot = none := by
          have := World.cell?_spot h00
          unfold Addr.add at this
          split at this <;> simp_all
        obtain ⟨b, o, sp⟩ := ad
        simp only at hsp
        subst hsp
        have hb : b < w.heap.size := by
          have := World.block_lt_of_cell? w _ h00
          simpa [Addr.add] using this
        refine (Tryd.strings_Join b o c0 l0 ⟨#[c]⟩ w ?_ hb hs.1 hc0 (by rw [hj]; exact hs.2)).mono ?_
        · intro j x hx
          have hl := (List.getElem?_eq_some_iff.1 hx).1
          have := hcell j hl
          rw [List.getD_eq_getElem?_getD, hx] at this
          have e : (⟨b, o, none⟩ : Addr).add j = ⟨b, o + j, none⟩ := by
            unfold Addr.add
            split
            · rename_i hz; subst hz; rfl
            · rfl
          rw [e] at this
          exact this
        · rintro e w' ⟨rfl, hb'⟩
          exact ⟨by rw [hj]; rfl, hb'⟩
    · cases h
  · cases h
end Go.Proofs.YtinndapmljnifaaDoor.P
