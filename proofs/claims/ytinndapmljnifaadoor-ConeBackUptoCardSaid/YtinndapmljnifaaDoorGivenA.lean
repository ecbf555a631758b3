/- Contracts by hand, as cone.Of calls them: slices.Clone, slices.ContainsFunc with cone.Of's closure. -/
import Derived.Test.YtinndapmljnifaaDoorShelf
import Derived.Test.YtinndapmljnifaaDoorPx0
import Derived.Test.YtinndapmljnifaaDoorPx1
import Derived.Test.YtinndapmljnifaaDoorPx2
import Derived.Test.YtinndapmljnifaaDoorPx3
import Derived.Test.YtinndapmljnifaaDoorPx4
import Derived.Test.YtinndapmljnifaaDoorPts
import Derived.Lib.Hide
namespace Go.Proofs.YtinndapmljnifaaDoor.P
open Go.RowKit Go.Lib
open Go.Proofs.YtinndapmljnifaaDoorW.PrintWords Go.Proofs.YtinndapmljnifaaDoorW.PrintLast Go.Proofs.YtinndapmljnifaaDoorW.PrintMore
theorem lies_C {w : World} {A : Option Addr} {l : List ByteArray} (hr : Kd.C Kd.string w A l.length l) (h0 : 0 < l.length) :
    ∃ b o, A = some ⟨b, o, none⟩ ∧ b < w.heap.size ∧ ∀ j, j < l.length → w.cell? ⟨b, o + j, none⟩ = some (.string (l.getD j ByteArray.empty)) := by
  obtain ⟨ad, rfl, hcell⟩ := (Kd.reads_of_C (d := ByteArray.empty) hr).2.2 h0
  have h00 := hcell 0 h0
  have hsp : ad.spot = none := by
    have := World.cell?_spot h00
    unfold Addr.add at this
    split at this <;> simp_all
  obtain ⟨b, o, sp⟩ := ad
  simp only at hsp
  subst hsp
  have hb : b < w.heap.size := by
    have := World.block_lt_of_cell? w _ h00
    simpa [Addr.add] using this
  refine ⟨b, o, rfl, hb, fun j hj => ?_⟩
  have := hcell j hj
  have e : (⟨b, o, none⟩ : Addr).add j = ⟨b, o + j, none⟩ := by
    unfold Addr.add
    split
    · rename_i hz; subst hz; rfl
    · rfl
  rw [e] at this
  exact this
def slices_Clone_string_string.f (l0 : List ByteArray) : Option (List ByteArray) := if l0.length * 16 ≤ 140737488355328 then some l0 else none
theorem slices_Clone_string_string.calls (A0 : Option Addr) (c0 : Nat) (l0 : List ByteArray) (r : List ByteArray) (w : World) (hr0 : Kd.C Kd.string w A0 l0.length l0) (hc0 : l0.length ≤ c0) (h : slices_Clone_string_string.f l0 = some r) :
    Calls Tryd.prog 34 #[.slice A0 l0.length c0] w fun e w' => ∃ v : Value, e = .returned v ∧ Kd.R Kd.string 9 w' w.heap.size (fun _ => True) v r ∧ Below w.heap.size w w' := by
  unfold slices_Clone_string_string.f at h
  split at h
  · rename_i hl
    obtain rfl := Option.some.inj h
    rcases Nat.eq_zero_or_pos l0.length with h0 | h0
    · obtain rfl := List.eq_nil_of_length_eq_zero h0
      cases A0 with
      | none =>
        refine (Tryd.slices_Clone_string_nil 0 c0 w).mono ?_
        rintro e w' ⟨rfl, rfl⟩
        exact ⟨_, rfl, Kd.R_nil _ _ _ _ _, Below.refl _ _⟩
      | some a =>
        refine (Tryd.slices_Clone_string_zero a c0 w).mono ?_
        rintro e w' ⟨v, rfl, ho, _, hb⟩
        exact ⟨_, rfl, Kd.R_of_own (h1 := fun _ => rfl) (by simpa [encs] using ho) (fun _ _ => trivial), hb⟩
    · obtain ⟨b, o, rfl, hb, hc⟩ := lies_C hr0 h0
      refine (Tryd.slices_Clone_string b o l0.length c0 l0 w (Nat.le_refl _) hl hc).mono ?_
      rintro e w' ⟨v, rfl, ho, _, hb⟩
      exact ⟨_, rfl, Kd.R_of_own (h1 := fun _ => rfl) (by simpa [encs] using ho) (fun _ _ => trivial), hb⟩
  · cases h
def anyNot (k : Nat) : List ByteArray → Option Bool
  | [] => some false
  | s :: r => (cone_isPath.f k s).bind fun b => if b = true then anyNot k r else some true
theorem anyNot_mono (l : List ByteArray) (k : Nat) : LeO (anyNot k l) (anyNot (k + 1) l) := by
  induction l with
  | nil => exact LeO.refl _
  | cons s r ih =>
    unfold anyNot
    exact LeO.bind (cone_isPath.mono _ _) (fun b => LeO.ite ih (LeO.refl _))
def slices_ContainsFunc_string_string.f (k : Nat) (l0 : List ByteArray) : Option Bool := if l0.length < 4611686018427387904 then anyNot k l0 else none
theorem slices_ContainsFunc_string_string.mono : ∀ a0 k, LeO (slices_ContainsFunc_string_string.f k a0) (slices_ContainsFunc_string_string.f (k + 1) a0) := by
  intro a0 k
  unfold slices_ContainsFunc_string_string.f
  exact LeO.ite (anyNot_mono _ _) (LeO.refl _)
set_option maxHeartbeats 2000000 in
set_option maxRecDepth 100000 in
theorem notPath_calls (k : Nat) (s : ByteArray) (b : Bool) (w : World) (h : cone_isPath.f k s = some b) :
    Calls Tryd.prog 33 #[.string s] w fun e w' => e = .returned (.bool (!b)) ∧ Below w.heap.size w w' := by
  have hp := hid (cone_isPath.calls k s b w h)
  clear h
  go_enter Tryd.func33, Tryd.ntmps33
  go_wp2_with (go_at_call 26; refine hp.out.mono ?_; rintro e w' ⟨rfl, hb⟩)
  go_ret
  exact ⟨rfl, hb⟩
set_option maxHeartbeats 2000000 in
set_option maxRecDepth 100000 in
theorem indexNot_calls (k : Nat) (b0 o0 c0 : Nat) (l0 : List ByteArray) (r : Bool) (w : World) (hb0 : b0 < w.heap.size) (hc : ∀ j, j < l0.length → w.cell? ⟨b0, o0 + j, none⟩ = some (.string (l0.getD j ByteArray.empty))) (hl : l0.length < 4611686018427387904) (h : anyNot k l0 = some r) :
    Calls Tryd.prog 50 #[.slice (some ⟨b0, o0, none⟩) l0.length c0, .func (.func 33) #[] #[]] w fun e w' => ∃ i : Int, e = .returned (.int .i64 i) ∧ decide (0 ≤ i) = r ∧ Below w.heap.size w w' := by
  have e33 : ∀ args w, (callFunc 33 args).run Tryd.prog w = .ok (.enter 33 args) w := enters_of Tryd.func33 (by kernel_rfl) rfl
  have HC := hid hc
  have HH := hid h
  clear hc h
  generalize hn : l0.length = n at *
  go_enter Tryd.func50, Tryd.ntmps50
  go_wp2
  go_loopg [5, 8] n (fun gg _ s8 wr => ∃ kk : Nat, kk ≤ n ∧ n - kk ≤ gg ∧ s8 = .int .i64 kk ∧ Aside0 (Below w.heap.size w wr) ∧ Aside0 (anyNot k (l0.drop kk) = some r))
  case atStart => exact ⟨0, Nat.zero_le _, by omega, rfl, ⟨Below.refl _ _⟩, ⟨by rw [List.drop_zero]; exact HH.out⟩⟩
  case round =>
    clear HH
    obtain ⟨kk, hkk, hg, rfl, HB, HA⟩ := hrel
    by_cases hlt : kk < n
    · have hltz : (kk : Int) < (n : Int) := by omega
      have hd : l0.drop kk = l0.getD kk ByteArray.empty :: l0.drop (kk + 1) := by
        rw [List.drop_eq_getElem_cons (by omega), List.getD_eq_getElem?_getD, List.getElem?_eq_getElem (by omega)]; rfl
      have hcell : wr.cell? ⟨b0, o0 + kk, none⟩ = some (.string (l0.getD kk ByteArray.empty)) := (HB.out.cell (p := ⟨b0, o0 + kk, none⟩) hb0).trans (HC.out kk hlt)
      have HA1 := HA.out
      clear HA
      rw [hd] at HA1
      generalize l0.getD kk ByteArray.empty = y at hcell HA1
      clear hd
      unfold anyNot at HA1
      obtain ⟨b, hb1, HA2⟩ := Option.bind_eq_some_iff.1 HA1
      clear HA1
      have hcall := hid (notPath_calls k y b wr hb1)
      clear hb1
      cases b with
      | true =>
        have HA3 : Aside0 (anyNot k (l0.drop (kk + 1)) = some r) := ⟨by simpa using HA2⟩
        clear HA2
        go_wp2_with (go_at_fn 33; refine hcall.out.mono ?_; rintro e w' ⟨rfl, hb⟩; have HB' := Aside0.mk (HB.out.trans (hb.mono (by have := HB.out.size; omega))); clear hb)
        go_roundg (n - (kk + 1))
        case measure => omega
        case rel => exact ⟨kk + 1, by omega, by omega, by go_num, HB', HA3⟩
      | false =>
        have HA3 : r = true := by simpa using HA2.symm
        subst HA3
        clear HA2
        go_wp2_with (go_at_fn 33; refine hcall.out.mono ?_; rintro e w' ⟨rfl, hb⟩; have HB' := Aside0.mk (HB.out.trans (hb.mono (by have := HB.out.size; omega))); clear hb)
        go_ret
        exact ⟨_, rfl, by simp, HB'.out⟩
    · have hltz : ¬ (kk : Int) < (n : Int) := by omega
      have hr : r = false := by
        have := HA.out
        rw [List.drop_of_length_le (by omega)] at this
        simpa [anyNot] using this.symm
      subst hr
      go_wp2
      go_ret
      exact ⟨_, rfl, by simp, HB.out⟩
set_option maxHeartbeats 2000000 in
set_option maxRecDepth 100000 in
theorem indexNot_none (A0 : Option Addr) (c0 : Nat) (w : World) :
    Calls Tryd.prog 50 #[.slice A0 0 c0, .func (.func 33) #[] #[]] w fun e w' => ∃ i : Int, e = .returned (.int .i64 i) ∧ decide (0 ≤ i) = false ∧ Below w.heap.size w w' := by
  go_enter Tryd.func50, Tryd.ntmps50
  go_wp2
  refine wp_loop_rounds 1 ?_
  rw [rounds_succ]
  go_wp2
  go_ret
  exact ⟨_, rfl, by simp, Below.refl _ _⟩
set_option maxHeartbeats 2000000 in
set_option maxRecDepth 100000 in
theorem slices_ContainsFunc_string_string.calls (k : Nat) (A0 : Option Addr) (c0 : Nat) (l0 : List ByteArray) (r : Bool) (w : World) (hr0 : Kd.C Kd.string w A0 l0.length l0) (_hc0 : l0.length ≤ c0) (h : slices_ContainsFunc_string_string.f k l0 = some r) :
    Calls Tryd.prog 32 #[.slice A0 l0.length c0, .func (.func 33) #[] #[]] w fun e w' => e = .returned (.bool r) ∧ Below w.heap.size w w' := by
  unfold slices_ContainsFunc_string_string.f at h
  split at h
  · rename_i hl
    have hi : Calls Tryd.prog 50 #[.slice A0 l0.length c0, .func (.func 33) #[] #[]] w fun e w' => ∃ i : Int, e = .returned (.int .i64 i) ∧ decide (0 ≤ i) = r ∧ Below w.heap.size w w' := by
      rcases Nat.eq_zero_or_pos l0.length with h0 | h0
      · obtain rfl := List.eq_nil_of_length_eq_zero h0
        have hr : r = false := by simpa [anyNot] using h.symm
        subst hr
        exact indexNot_none A0 c0 w
      · obtain ⟨b, o, rfl, hb, hc⟩ := lies_C hr0 h0
        exact indexNot_calls k b o c0 l0 r w hb hc hl h
    have HI := hid hi
    clear hi h hr0
    go_enter Tryd.func32, Tryd.ntmps32
    go_wp2_with (go_at_call 50; refine HI.out.mono ?_; rintro e w' ⟨i, rfl, hd, hb⟩)
    go_ret
    exact ⟨by simp, hb⟩
  · cases h
end Go.Proofs.YtinndapmljnifaaDoor.P
