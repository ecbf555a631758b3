/- disk.right: which names are names. -/
import Derived.Test.YtgcenkmekpaapaaFr
import Derived.Shelf.Abstract
namespace Go.Proofs.Ytgcenkmekpaapaa.L
open Go.RowKit Go.Lib
open Go.Proofs.YtgcenkmekpaapaaW.PrintWords Go.Proofs.YtgcenkmekpaapaaW.PrintLast Go.Proofs.YtgcenkmekpaapaaW.PrintMore
def badC (c : Int) : Bool := decide (c < 33) || decide (126 < c)
def nameOk (s : ByteArray) : Bool := decide (1 ≤ s.size) && decide (s.size ≤ 80) && !(bytesOf s).any badC
set_option maxRecDepth 100000 in
theorem bad_calls (c : Int) (w : World) : Calls Try.prog 47 #[.int .u8 c] w fun e w' => e = .returned (.bool (badC c)) ∧ w' = w := by
  by_cases h : c < 33
  · have e : badC c = true := by simp [badC, h]
    rw [e]
    go_enter Try.func47, Try.ntmps47
    go_wp2
    go_ret
    exact ⟨rfl, rfl⟩
  · by_cases h2 : 126 < c
    · have e : badC c = true := by simp [badC, h2]
      rw [e]
      go_enter Try.func47, Try.ntmps47
      go_wp2
      go_ret
      exact ⟨rfl, rfl⟩
    · have e : badC c = false := by simp [badC, h, h2]
      rw [e]
      go_enter Try.func47, Try.ntmps47
      go_wp2
      go_ret
      exact ⟨rfl, rfl⟩
set_option maxHeartbeats 2000000 in
set_option maxRecDepth 100000 in
theorem index_calls (b0 c0 : Nat) (l : List Int) (w : World) (hc : ∀ j, j < l.length → w.cell? ⟨b0, j, none⟩ = some (.int .u8 (l.getD j 0))) (hl : l.length < 4611686018427387904) :
    Calls Try.prog 51 #[.slice (some ⟨b0, 0, none⟩) l.length c0, .func (.func 47) #[] #[]] w fun e w' => ∃ i : Int, e = .returned (.int .i64 i) ∧ decide (0 ≤ i) = l.any badC ∧ w' = w := by
  have e33 : ∀ args w, (callFunc 47 args).run Try.prog w = .ok (.enter 47 args) w := enters_of Try.func47 (by kernel_rfl) rfl
  have HC := hid hc
  clear hc
  generalize hn : l.length = n at *
  go_enter Try.func51, Try.ntmps51
  go_wp2
  go_loopg [5, 8] n (fun gg _ s8 wr => ∃ kk : Nat, kk ≤ n ∧ n - kk ≤ gg ∧ s8 = .int .i64 kk ∧ w = wr ∧ Hid ((l.drop kk).any badC = l.any badC))
  case atStart => exact ⟨0, Nat.zero_le _, by omega, rfl, rfl, hid rfl⟩
  case round =>
    obtain ⟨kk, hkk, hg, rfl, rfl, HA⟩ := hrel
    by_cases hlt : kk < n
    · have hltz : (kk : Int) < (n : Int) := by omega
      have hd : l.drop kk = l.getD kk 0 :: l.drop (kk + 1) := by
        rw [List.drop_eq_getElem_cons (by omega), List.getD_eq_getElem?_getD, List.getElem?_eq_getElem (by omega)]; rfl
      have hcell := HC.out kk hlt
      have HA1 := HA.out
      clear HA
      rw [hd, List.any_cons] at HA1
      clear hd
      generalize l.getD kk 0 = y at hcell HA1
      cases hb : badC y with
      | false =>
        rw [hb, Bool.false_or] at HA1
        have HA2 := hid HA1
        have hcall := hid (show Calls Try.prog 47 #[.int .u8 y] w fun e w' => e = .returned (.bool false) ∧ w' = w from by rw [← hb]; exact bad_calls y w)
        clear hb HA1
        go_wp2_with (go_at_fn 47; refine hcall.out.mono ?_; rintro e w_ ⟨rfl, hww⟩; have hww2 := hww.symm; subst hww2)
        go_roundg (n - (kk + 1))
        case measure => omega
        case rel => exact ⟨kk + 1, by omega, by omega, by go_num, rfl, HA2⟩
      | true =>
        rw [hb, Bool.true_or] at HA1
        have HA2 := hid HA1
        have hcall := hid (show Calls Try.prog 47 #[.int .u8 y] w fun e w' => e = .returned (.bool true) ∧ w' = w from by rw [← hb]; exact bad_calls y w)
        clear hb HA1
        go_wp2_with (go_at_fn 47; refine hcall.out.mono ?_; rintro e w_ ⟨rfl, hww⟩; have hww2 := hww.symm; subst hww2)
        go_ret
        exact ⟨_, rfl, by rw [← HA2.out]; simp, rfl⟩
    · have hltz : ¬ (kk : Int) < (n : Int) := by omega
      have hr : l.any badC = false := by
        have := HA.out
        rw [List.drop_of_length_le (by omega)] at this
        simpa using this.symm
      have HR := hid hr
      clear hr HA
      go_wp2
      go_ret
      exact ⟨_, rfl, by rw [HR.out]; simp, rfl⟩
set_option maxHeartbeats 2000000 in
set_option maxRecDepth 100000 in
theorem contains_calls (s : ByteArray) (w W : World) (c0 : Nat) (hs : s.size ≤ 80) (hW : W = Lib.bytesWorld w 5 s) :
    Calls Try.prog 46 #[.slice (some ⟨w.heap.size, 0, none⟩) s.size c0, .func (.func 47) #[] #[]] W fun e w' => e = .returned (.bool ((bytesOf s).any badC)) ∧ w' = W := by
  have hr : ReadsInt W .u8 (some ⟨w.heap.size, 0, none⟩) s.size (bytesOf s) := by rw [hW]; exact bytes_reads w 5 s (by omega)
  have hlen : (bytesOf s).length = s.size := bytesOf_length s
  have HI := hid (show Calls Try.prog 51 #[.slice (some ⟨w.heap.size, 0, none⟩) s.size c0, .func (.func 47) #[] #[]] W fun e w' => ∃ i : Int, e = .returned (.int .i64 i) ∧ decide (0 ≤ i) = (bytesOf s).any badC ∧ w' = W from by
    rw [← hlen]
    refine index_calls w.heap.size c0 (bytesOf s) W (fun j hj => ?_) (by omega)
    obtain ⟨ad, he, hc⟩ := hr.2.2 (by omega)
    injection he with he
    have := hc j (by omega)
    rw [← he] at this
    rw [← this]
    congr 1
    unfold Addr.add
    split
    · rename_i hz; rw [hz]
    · simp)
  clear hr hW
  go_enter Try.func46, Try.ntmps46
  go_wp2_with (go_at_call 51; refine HI.out.mono ?_; rintro e w_ ⟨i, rfl, hi, hww⟩; have HD := hid hi; have hww2 := hww.symm; subst hww2; clear hi)
  go_ret
  exact ⟨by rw [← HD.out]; rfl, rfl⟩
set_option maxHeartbeats 4000000 in
set_option maxRecDepth 100000 in
theorem right_calls (l : List ByteArray) (A : Option Addr) (c0 : Nat) (w : World) (hl : l.length < 1000000) (hA : l ≠ [] → ∃ b o, A = some ⟨b, o, none⟩ ∧ b < w.heap.size ∧ ∀ j, j < l.length → w.cell? ⟨b, o + j, none⟩ = some (.string (l.getD j ByteArray.empty))) :
    Calls Try.prog 40 #[.slice A l.length c0] w fun e w' => e = .returned (.bool (l.all nameOk)) ∧ Below w.heap.size w w' := by
  have kb := fun (s : ByteArray) (W : World) => print_bytes (P := Try.prog) 9 22 5 Try.underlying9 Try.underlying22 Try.underlying5 s W
  have HA := hid hA
  have HB0 := hid (Below.refl w.heap.size w)
  clear hA
  go_enter Try.func40, Try.ntmps40
  go_wp2
  go_loopg [7] l.length (fun gg s7 wr => ∃ kk : Nat, kk ≤ l.length ∧ l.length - kk ≤ gg ∧ s7 = .int .i64 kk ∧ Hid (Below w.heap.size w wr) ∧ Hid ((l.drop kk).all nameOk = l.all nameOk))
  case atStart => exact ⟨0, Nat.zero_le _, by omega, rfl, HB0, hid rfl⟩
  case round =>
    clear HB0
    obtain ⟨kk, hkk, hg, rfl, HB, HL⟩ := hrel
    by_cases hlt : kk < l.length
    · have hltz : (kk : Int) < (l.length : Int) := by omega
      obtain ⟨b, o, rfl, hb, hcells⟩ := HA.out (by rintro rfl; simp at hlt)
      have hcell := (HB.out.cell (p := ⟨b, o + kk, none⟩) hb).trans (hcells kk hlt)
      have hd : l.drop kk = l.getD kk ByteArray.empty :: l.drop (kk + 1) := by
        rw [List.drop_eq_getElem_cons (by omega), List.getD_eq_getElem?_getD, List.getElem?_eq_getElem (by omega)]; rfl
      have HL1 := HL.out
      clear HL hcells
      rw [hd, List.all_cons] at HL1
      clear hd
      generalize l.getD kk ByteArray.empty = s at hcell HL1
      have HL2 := hid HL1
      clear HL1
      by_cases h1 : s.size < 1
      · have h1z : (s.size : Int) < 1 := by omega
        have hno := hid (show nameOk s = false from by unfold nameOk; rw [decide_eq_false (by omega)]; rfl)
        go_wp2
        go_ret
        exact ⟨by rw [← HL2.out, hno.out]; rfl, HB.out⟩
      · by_cases h2 : 80 < s.size
        · have h1z : ¬ (s.size : Int) < 1 := by omega
          have h2z : (80 : Int) < (s.size : Int) := by omega
          have hno := hid (show nameOk s = false from by unfold nameOk; rw [decide_eq_false (p := s.size ≤ 80) (by omega), Bool.and_false]; rfl)
          go_wp2
          go_ret
          exact ⟨by rw [← HL2.out, hno.out]; rfl, HB.out⟩
        · have h1z : ¬ (s.size : Int) < 1 := by omega
          have h2z : ¬ (80 : Int) < (s.size : Int) := by omega
          have hyes := hid (show nameOk s = !(bytesOf s).any badC from by unfold nameOk; rw [decide_eq_true (p := 1 ≤ s.size) (by omega), decide_eq_true (p := s.size ≤ 80) (by omega)]; rfl)
          have HC := hid (fun (c0 : Nat) => contains_calls s wr (Lib.bytesWorld wr 5 s) c0 (by omega) rfl)
          have HB2 := hid (bytes_below HB.out HB.out.size 5 s)
          cases hany : (bytesOf s).any badC with
          | true =>
            rw [hany] at HC hyes
            clear hany
            go_wp2_with (go_at_call 46; refine (HC.out _).mono ?_; rintro e w_ ⟨rfl, hww⟩; have hww2 := hww.symm; subst hww2)
            go_ret
            exact ⟨by rw [← HL2.out, hyes.out]; rfl, HB2.out⟩
          | false =>
            rw [hany] at HC hyes
            clear hany
            go_wp2_with (go_at_call 46; refine (HC.out _).mono ?_; rintro e w_ ⟨rfl, hww⟩; have hww2 := hww.symm; subst hww2)
            go_roundg (l.length - (kk + 1))
            case measure => omega
            case rel => exact ⟨kk + 1, by omega, by omega, by go_num, HB2, hid (by rw [← HL2.out, hyes.out]; rfl)⟩
    · have hltz : ¬ (kk : Int) < (l.length : Int) := by omega
      have hr := hid (show l.all nameOk = true from by
        have := HL.out
        rw [List.drop_of_length_le (by omega)] at this
        simpa using this.symm)
      clear HL
      go_wp2
      go_ret
      exact ⟨by rw [hr.out]; rfl, HB.out⟩
end Go.Proofs.Ytgcenkmekpaapaa.L
