/- An operation's beginning. -/
import Derived.Test.YtgcenkmekpaapaaDisk
import Derived.Deep.QuietTactic
import Derived.BigQuiet
import Derived.StillTailTactics
import Derived.Deep.DeepCutAuto
namespace Go.Proofs.Ytgcenkmekpaapaa.L
open Go.RowKit Go.Lib Go.Maps
open Go.Proofs.YtgcenkmekpaapaaW.PrintWords Go.Proofs.YtgcenkmekpaapaaW.PrintLast Go.Proofs.YtgcenkmekpaapaaW.PrintMore
section
variable {w : World} {D : Dk}
def startE (D : Dk) (must : Bool) (names : List ByteArray) : Bool × Int :=
  if names.all nameOk then (if must && (D.dir (names.headD ByteArray.empty)).isNone then (false, 32) else (decide (0 < D.fails D.ops), 0)) else (false, 30)
theorem name_short {s : ByteArray} (h : nameOk s = true) : s.size ≤ 80 := by
  unfold nameOk at h
  simp only [Bool.and_eq_true, decide_eq_true_eq] at h
  exact h.1.2
set_option maxHeartbeats 8000000 in
set_option maxRecDepth 100000 in
theorem starts_live (h : DkAt w D) (hd : D.dead = false) (h0 : 0 ≤ D.ops) (h1 : D.ops < 4611686018427387904) (must : Bool) (names : List ByteArray) (A : Option Addr) (c : Nat) (hlen : names.length < 1000000)
    (hA : names ≠ [] → ∃ b o, A = some ⟨b, o, none⟩ ∧ b < w.heap.size ∧ b ≠ D.d ∧ ∀ j, j < names.length → w.cell? ⟨b, o + j, none⟩ = some (.string (names.getD j ByteArray.empty))) (hm : must = true → names ≠ []) :
    Calls Try.prog 26 #[P D.d, .bool must, .slice A names.length c] w fun e w' => e = .returned (.tuple #[.bool (startE D must names).1, .int .i64 (startE D must names).2]) ∧ DkAt w' { D with ops := D.ops + 1 } ∧ Fr [D.d] w w' := by
  have HH := hid h
  have HA := hid hA
  have HM := hid hm
  have c4 := h.c4
  have c5 := h.c5
  have c6 := h.c6
  unfold Dk.dead at hd
  obtain ⟨hoff, hcut⟩ := Bool.or_eq_false_iff.1 hd
  rw [hoff] at c6
  have HC := hid (show ¬ 0 ≤ D.cut ∨ ¬ D.cut ≤ D.ops from by
    rcases Bool.and_eq_false_iff.1 hcut with h | h
    · exact .inl (by simpa using h)
    · exact .inr (by simpa using h))
  clear h hA hm hd hoff hcut
  obtain ⟨ops, hopse⟩ : ∃ x, x = D.ops := ⟨_, rfl⟩
  obtain ⟨cut, hcute⟩ : ∃ x, x = D.cut := ⟨_, rfl⟩
  rw [← hopse] at c4 h0 h1 HC
  rw [← hcute] at c5 HC
  have HOE := hid hopse.symm
  clear hopse hcute
  go_enter Try.func26, Try.ntmps26
  go_upto_region 3 with fail
  go_cut [32] (fun v32 wc => v32 = .bool false ∧ Hid (Drawn0 w wc))
  case first =>
    by_cases hc0 : 0 ≤ cut
    · have hlt : ¬ cut ≤ ops := by rcases HC.out with h | h; exact absurd hc0 h; exact h
      go_quiet (fail)
      go_wp2
      go_meet
      case rel => exact ⟨rfl, hid ⟨_, rfl⟩⟩
    · go_quiet (fail)
      go_wp2
      go_meet
      case rel => exact ⟨rfl, hid ⟨_, rfl⟩⟩
  case rest =>
    obtain ⟨hv, HD⟩ := hcut
    obtain rfl : u32 = .bool false := hv
    have H2 := hid (HH.out.new (Fr.of_drawn HD.out))
    have F2 := hid (Fr.of_drawn HD.out : Fr [D.d] w wc)
    clear c4 c5 c6 HC HD
    have c4 : wc.cell? ⟨D.d, 4, none⟩ = some (.int .i64 ops) := by have := H2.out.c4; rw [HOE.out] at this; exact this
    have c7 := H2.out.c7
    have hlook : ∀ nq, (Instr.lookup 55 (.map (some D.fm)) (.int .i64 ops) false).run Try.prog (wc.drewN nq) = .ok (.int .i64 (D.fails ops)) (wc.drewN nq) := fun nq => (H2.out.failM.keep (w' := wc.drewN nq) rfl).look (WalkArith.wf_i64 (by omega))
    have f4 : ∀ q, (wc.drewN q).frozen? ⟨D.d, 4, none⟩ = false := fun q => (H2.out.drewN q).free 4
    have hz : wrap64 (ops + 1) = ops + 1 := by unfold wrap64; omega
    generalize hfl : D.fails ops = fl at hlook
    have HFL := hid hfl
    clear hfl
    have H4 := hid (fun q => show DkAt ((wc.drewN q).setCell ⟨D.d, 4, none⟩ (.int .i64 (ops + 1))) { D with ops := D.ops + 1 } from by rw [← HOE.out]; exact (H2.out.drewN q).set_ops _)
    have F4 := hid (fun q => (show Fr [D.d] w ((wc.drewN q).setCell ⟨D.d, 4, none⟩ (.int .i64 (ops + 1))) from (F2.out.trans (Fr.of_drawn ⟨q, rfl⟩ : Fr [D.d] wc (wc.drewN q)) (fun _ hk => .inl hk)).trans (Fr.set _ _ _ (List.mem_singleton.2 rfl)) (fun _ hk => .inl hk)))
    have HR := hid (fun (W : World) (hW : Fr [D.d] w W) => right_calls names A c W (by omega) (fun hne => by
      obtain ⟨b, o, e, hb, hbd, hc⟩ := HA.out hne
      refine ⟨b, o, e, Nat.lt_of_lt_of_le hb hW.size, fun j hj => ?_⟩
      rw [← hc j hj]
      simp only [World.cell?, hW.keep b hb (by simpa using hbd)]))
    cases hok : names.all nameOk with
    | false =>
      rw [hok] at HR
      have HK := hid hok
      clear hok
      go_wp2
      go_quiet (fail)
      go_wp2_with (go_at_call 40; refine (HR.out _ (F4.out _)).mono ?_; rintro e w5 ⟨rfl, hb⟩; have H5 := hid ((H4.out _).new (Fr.of_below hb [])); have F5 := hid ((F4.out _).trans (Fr.of_below hb [D.d]) (fun _ hk => .inl hk)); clear hb)
      go_ret2
      refine ⟨?_, H5.out, F5.out⟩
      unfold startE
      rw [HK.out]
      rfl
    | true =>
      rw [hok] at HR
      have HK := hid hok
      clear hok
      cases must with
      | false =>
        go_wp2
        go_quiet (fail)
        go_wp2_with (go_at_call 40; refine (HR.out _ (F4.out _)).mono ?_; rintro e w5 ⟨rfl, hb⟩; have H5 := hid ((H4.out _).new (Fr.of_below hb [])); have F5 := hid ((F4.out _).trans (Fr.of_below hb [D.d]) (fun _ hk => .inl hk)); clear hb)
        go_quiet (fail)
        go_wp2
        go_ret2
        refine ⟨?_, H5.out.drewN _, F5.out.trans (Fr.of_drawn ⟨_, rfl⟩ : Fr [D.d] _ _) (fun _ hk => .inl hk)⟩
        unfold startE
        rw [HK.out, HOE.out, HFL.out]
        rfl
      | true =>
        obtain ⟨b, o, rfl, hb, hbd, hcells⟩ := HA.out (HM.out rfl)
        have hpos : 0 < names.length := List.length_pos_iff.2 (HM.out rfl)
        have hn0 := hcells 0 hpos
        rw [Nat.add_zero] at hn0
        have hhd : names.headD ByteArray.empty = names.getD 0 ByteArray.empty := by cases names <;> rfl
        have hsz : (names.getD 0 ByteArray.empty).size ≤ maxLen := by
          have := List.all_eq_true.1 HK.out (names.getD 0 ByteArray.empty) (by rw [List.getD_eq_getElem?_getD, List.getElem?_eq_getElem hpos]; exact List.getElem_mem hpos)
          have := name_short this
          unfold maxLen; omega
        have hposz : (0 : Int) < (names.length : Int) := by omega
        have HHD := hid hhd
        have HN0 := hid (fun (W : World) (hW : Fr [D.d] w W) => (show W.cell? ⟨b, o, none⟩ = some (.string (names.getD 0 ByteArray.empty)) from by
          rw [← hn0]
          simp only [World.cell?, hW.keep b hb (by simpa using hbd)]))
        clear hcells hn0 hhd
        generalize names.getD 0 ByteArray.empty = s0 at HHD HN0 hsz
        have HLK := hid (fun (W : World) (hW : DkAt W { D with ops := D.ops + 1 }) (nq : Nat) => (show (Instr.lookup 54 (.map (some D.dm)) (.string s0) false).run Try.prog (W.drewN nq) = .ok (ptrOf (D.dir s0)) (W.drewN nq) from (hW.dirM.keep (w' := W.drewN nq) rfl).look hsz))
        cases hdir : D.dir s0 with
        | none =>
          rw [hdir] at HLK
          have HDR := hid hdir
          clear hdir
          go_wp2
          go_quiet (fail)
          go_wp2_with (go_at_call 40; refine (HR.out _ (F4.out _)).mono ?_; rintro e w5 ⟨rfl, hb⟩; have H5 := hid ((H4.out _).new (Fr.of_below hb [])); have F5 := hid ((F4.out _).trans (Fr.of_below hb [D.d]) (fun _ hk => .inl hk)); have e0 := H5.out.c0; have en := HN0.out _ F5.out; have el : ∀ nq, (Instr.lookup 54 (.map (some D.dm)) (.string s0) false).run Try.prog (w5.drewN nq) = .ok (.pointer none) (w5.drewN nq) := HLK.out _ H5.out; clear hb)
          go_quiet (fail)
          go_wp2
          go_ret2
          refine ⟨?_, H5.out.drewN _, F5.out.trans (Fr.of_drawn ⟨_, rfl⟩ : Fr [D.d] _ _) (fun _ hk => .inl hk)⟩
          unfold startE
          rw [HK.out, HHD.out, HDR.out]
          rfl
        | some fb =>
          rw [hdir] at HLK
          have HDR := hid hdir
          clear hdir
          go_wp2
          go_quiet (fail)
          go_wp2_with (go_at_call 40; refine (HR.out _ (F4.out _)).mono ?_; rintro e w5 ⟨rfl, hb⟩; have H5 := hid ((H4.out _).new (Fr.of_below hb [])); have F5 := hid ((F4.out _).trans (Fr.of_below hb [D.d]) (fun _ hk => .inl hk)); have e0 := H5.out.c0; have en := HN0.out _ F5.out; have el : ∀ nq, (Instr.lookup 54 (.map (some D.dm)) (.string s0) false).run Try.prog (w5.drewN nq) = .ok (P fb) (w5.drewN nq) := HLK.out _ H5.out; clear hb)
          go_quiet (fail)
          go_wp2
          go_ret2
          refine ⟨?_, H5.out.drewN _, F5.out.trans (Fr.of_drawn ⟨_, rfl⟩ : Fr [D.d] _ _) (fun _ hk => .inl hk)⟩
          unfold startE
          rw [HK.out, HHD.out, HDR.out, HOE.out, HFL.out]
          rfl
end
end Go.Proofs.Ytgcenkmekpaapaa.L
