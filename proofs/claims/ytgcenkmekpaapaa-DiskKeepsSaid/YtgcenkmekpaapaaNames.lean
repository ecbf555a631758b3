/- A directory cloned; Names. -/
import Derived.Test.YtgcenkmekpaapaaApp2
import Derived.Test.YtgcenkmekpaapaaIter
namespace Go.Proofs.Ytgcenkmekpaapaa.L
open Go.RowKit Go.Lib Go.Maps
open Go.Proofs.YtgcenkmekpaapaaW.PrintWords Go.Proofs.YtgcenkmekpaapaaW.PrintLast Go.Proofs.YtgcenkmekpaapaaW.PrintMore
theorem dir_clone {w : World} {m n : Nat} {f : Names} (h : DirAt w m n f) :
    Calls Try.prog 33 #[.map (some m)] w fun e w' => e = .returned (.map (some w.heap.size)) ∧ DirAt w' w.heap.size n f ∧ Below w.heap.size w w' := by
  obtain ⟨E, hown, hf⟩ := h
  refine (AnyW.maps_Clone_owns Try.clone33 9 ptrElem m n E w hown).mono ?_
  rintro e w' ⟨he, h1, _, hb⟩
  exact ⟨he, ⟨E, h1, hf⟩, hb⟩
def namesOf (es : List (ByteArray × Nat)) : List (List UInt8) := (es.map fun p => p.1.data.toList).mergeSort (fun x y => decide (x ≤ y))
theorem strKeys_enc (es : List (ByteArray × Nat)) : strKeys (.map (es.map encE) : DataW Nat) = es.map fun p => p.1.data.toList := by
  simp [strKeys, encE, strOf, List.map_map, Function.comp_def]
set_option maxHeartbeats 4000000 in
set_option maxRecDepth 100000 in
theorem names_calls {w : World} {D : Dk} (h : DkAt w D) (es : List (ByteArray × Nat)) (hes : Lists D.dir es) (hlen : es.length ≤ 4294967296) :
    Calls Try.prog 18 #[P D.d] w fun e w' => ∃ v, e = .returned v ∧ Kd.R Kd.string 9 w' w.heap.size (fun _ => True) v ((namesOf es).map fun b => ⟨b.toArray⟩) ∧ Below w.heap.size w w' := by
  have c0 := h.c0
  obtain ⟨es', hes', hown, _⟩ := h.dirM.list
  have hp := hes.perm hes'
  have hz : Maps.size (.map (es'.map encE) : DataW Nat) = es.length := by simp [Maps.size, hp.length_eq]
  have HK := hid (fun (mb : Option Nat) (W : World) => callsIn_wide.1 (Try.maps_Keys_38 mb W))
  have HS := hid (callsIn_wide.1 (Try.slices_Sorted_keys_37_38 D.dm D.n (.map (es'.map encE)) ptrElem w hown (by rw [hz]; unfold maxLen; omega) (by rw [hz]; omega)))
  have HP := hid hp
  clear h hes hes' hown hp hz
  go_enter Try.func18, Try.ntmps18
  go_wp2_with (first
    | (go_at_call 38; refine (HK.out _ _).mono ?_; rintro e w_ ⟨rfl, hww⟩; have hww2 := hww.symm; subst hww2)
    | (go_at_call 37; refine HS.out.mono ?_; rintro e w2 ⟨v, ss, rfl, hss, hrow, hnil, hb⟩; have R2 := hid hrow; have S2 := hid hss; have B2 := hid hb; clear hss hrow hb hnil))
  go_ret
  refine ⟨v, rfl, ?_, ((Below.refl _ w).alloc (Nat.le_refl _) _).trans (B2.out.mono (by simp))⟩
  have hs := S2.out
  rw [strKeys_enc] at hs
  have hsort : ss.mergeSort (fun x y => decide (x ≤ y)) = namesOf es := by
    unfold namesOf
    exact mergeSort_of_perm (hs.trans ((HP.out.map _).symm))
  have hr := R2.out
  rw [hsort] at hr
  have hl : ((namesOf es).map fun b => (⟨b.toArray⟩ : ByteArray)).length = ss.length := by rw [List.length_map, ← hsort, List.length_mergeSort]
  refine Kd.R_of_own (h1 := fun _ => rfl) ?_ (fun _ _ => trivial)
  rw [hl]
  have he : encs Value.string ((namesOf es).map fun b => (⟨b.toArray⟩ : ByteArray)) = (namesOf es).map encStr := by simp [encs, encStr]
  rw [he]
  exact own_weaken hr (by simp)
end Go.Proofs.Ytgcenkmekpaapaa.L
