/- A disk behind a script. -/
import Derived.Test.YtgcenkmekpaapaaPlay
import Derived.Deep.DeepCutAuto
namespace Go.Proofs.Ytgcenkmekpaapaa.L
open Go.RowKit Go.Lib Go.Maps
set_option linter.unusedVariables false
open Go.Proofs.YtgcenkmekpaapaaW.PrintWords Go.Proofs.YtgcenkmekpaapaaW.PrintLast Go.Proofs.YtgcenkmekpaapaaW.PrintMore
def boxObj (q : Op) : Obj := .cells #[.int .i64 q.kind, .string q.name, .string q.too, .slice q.at_ q.b.length q.cap, .int .i64 q.n, .int .i64 q.torn] 46 (0, 0)
set_option maxHeartbeats 8000000 in
set_option maxRecDepth 100000 in
theorem played_calls (w : World) (A : Option Addr) (len cap : Nat) (Q : Nat → Op) (HQ : OpsAt w A len Q) (most : Nat) (hm : most ≤ 1000) (W : World) (hW : Below w.heap.size w W) :
    Calls Try.prog 19 #[.slice A len cap, .int .i64 most] W fun e w' => ∃ D, e = .returned (.tuple #[P D.d, .bool true]) ∧ Dsk w w' (2 * most) (1000 * most) D := by
  have HQ' := hid HQ
  have hmx := HQ.max
  have HNW := hid (new_dsk W w hW 1048576 (by omega))
  clear HQ hW
  go_enter Try.func19, Try.ntmps19
  go_upto_region 2 with (go_at_call 8; refine HNW.out.mono ?_; rintro e w2 ⟨k, rfl, h2⟩; have H2 := hid h2; clear h2)
  have hdn := d_nil w2 ⟨k + 3, 0, none⟩
  clear HNW
  go_wp2
  clear hdn
  go_loopg [8] len (fun gg s8 wr => ∃ (kk : Nat) (D : Dk), kk ≤ len ∧ kk ≤ most ∧ len - kk ≤ gg ∧ s8 = .int .i64 kk ∧ Hid (Dsk w wr (2 * kk) (1000 * kk) D) ∧ Hid (D.d = k + 3))
  case atStart => exact ⟨0, _, Nat.zero_le _, Nat.zero_le _, by omega, rfl, H2, hid rfl⟩
  case round =>
    clear H2
    obtain ⟨kk, D, hkk, hkm, hg, rfl, HS, HD⟩ := hrel
    by_cases hlt : kk < len
    · have hltz : (kk : Int) < (len : Int) := by omega
      by_cases hlm : kk < most
      · have hlmz : (kk : Int) < (most : Int) := by omega
        obtain ⟨b, o, rfl, hb, hcells⟩ := HQ'.out.there (by omega)
        have hop := (hcells kk hlt).keep HS.out.below hb
        have HI := hid (HQ'.out.each kk hlt)
        obtain ⟨q, hq⟩ : ∃ q, q = Q kk := ⟨_, rfl⟩
        rw [← hq] at hop HI
        clear hq hcells
        obtain ⟨d0, d1, d2, d3, d4, d5⟩ := hop
        have HP := hid (fun W => pick_calls q.kind 11 HI.out.kind (by omega) W)
        have hvb := pick_bd q.kind 11 (by omega)
        obtain ⟨v, hv⟩ : ∃ v, v = pickI q.kind 11 := ⟨_, rfl⟩
        rw [← hv] at HP hvb
        clear hv
        have HNM := hid (fun W => named_calls q.name q.n HI.out.n W)
        obtain ⟨nm, hnm⟩ : ∃ x, x = namedI q.name q.n := ⟨_, rfl⟩
        rw [← hnm] at HNM
        clear hnm
        go_upto_region 10 with (first | (go_at_call 21; refine (HNM.out _).mono ?_; rintro e w_ ⟨rfl, rfl⟩) | (go_at_call 22; refine (HP.out _).mono ?_; rintro e w_ ⟨rfl, rfl⟩))
        obtain ⟨w1, hw1⟩ : ∃ x, x = wr.alloc (.cells #[.int .i64 q.kind, .string q.name, .string q.too, .slice q.at_ q.b.length q.cap, .int .i64 q.n, .int .i64 q.torn] 46) := ⟨_, rfl⟩
        have hbx : w1.heap[wr.heap.size]? = some (boxObj q) := by rw [hw1]; exact (MapKept.heap_alloc wr _).1
        have HS1 := hid (show Dsk w w1 (2 * kk) (1000 * kk) D by rw [hw1]; exact HS.out.new ((Below.refl _ wr).alloc (Nat.le_refl _) _))
        rw [← hw1]
        have b2 : w1.cell? ⟨wr.heap.size, 2, none⟩ = some (.string q.too) := (cell_of hbx 2).trans rfl
        have b3 : w1.cell? ⟨wr.heap.size, 3, none⟩ = some (.slice q.at_ q.b.length q.cap) := (cell_of hbx 3).trans rfl
        have b4 : w1.cell? ⟨wr.heap.size, 4, none⟩ = some (.int .i64 q.n) := (cell_of hbx 4).trans rfl
        have b5 : w1.cell? ⟨wr.heap.size, 5, none⟩ = some (.int .i64 q.torn) := (cell_of hbx 5).trans rfl
        have HBX := hid hbx
        have HOFF := hid (show wr.heap.size ∉ D.own from fun hm => Nat.lt_irrefl _ (HS.out.at_.lt _ hm))
        clear hw1 hbx d0 d1 d2 d3 d4 d5 HS HP HNM
        rcases (by omega : (v = 0 ∨ v = 1 ∨ v = 2 ∨ v = 3) ∨ (v = 4 ∨ v = 5) ∨ v = 6 ∨ v = 7 ∨ v = 8 ∨ v = 9 ∨ v = 10) with hv | hv | hv | hv | hv | hv | hv
        · rcases hv with rfl | rfl | rfl | rfl
          all_goals
            clear hvb
            go_upto_region 14 with fail
            have hmi : min (q.b.length : Int) 1000 = ((min q.b.length 1000 : Nat) : Int) := by omega
            have hm1 : min q.b.length 1000 ≤ 1000 := Nat.min_le_right _ _
            have hm2 : min q.b.length 1000 ≤ q.b.length := Nat.min_le_left _ _
            obtain ⟨m, hm⟩ : ∃ x, x = min q.b.length 1000 := ⟨_, rfl⟩
            rw [← hm] at hmi hm1 hm2
            clear hm
            have hcap := HI.out.row.le
            obtain ⟨ji, hji, _⟩ := info_byte
            have e2 := cut_to (P := Try.prog) 22 5 .i64 (Try.underlying22) hji q.at_ q.b.length q.cap (m : Int) (by omega) (by omega) hcap
            rw [Int.toNat_natCast] at e2
            have HAP := hid (append_st HS1.out.at_ HS1.out.good HS1.out.dead (by omega) (by omega) nm q.at_ (q.b.take m) q.cap (by rw [List.length_take]; omega) (fun W hW => Kd.C_take (HS1.out.row hW HI.out.row).row hm2))
            have HML := hid (show (q.b.take m).length = m by rw [List.length_take]; omega)
            rw [HML.out, HD.out] at HAP
            clear hji hcap
            go_wp2_with (go_at_call 9; refine HAP.out.mono ?_; rintro e w2 ⟨es, D2, _, _, rfl, g2, t2⟩; have HS2 := hid (HS1.out.to g2 t2.stp (N' := 2 * (kk + 1)) (B' := 1000 * (kk + 1)) (by omega) (by rw [HML.out]; omega)); have HD2 := hid (t2.stp.same.2.2.1.trans HD.out); clear g2 t2)
            go_roundg (len - (kk + 1))
            case measure => omega
            case rel => exact ⟨kk + 1, D2, by omega, by omega, by omega, by go_num, HS2, HD2⟩
        · have HSY := hid (sync_st HS1.out.at_ HS1.out.good HS1.out.dead (by omega) nm)
          rw [HD.out] at HSY
          rcases hv with rfl | rfl
          all_goals
            clear hvb
            go_wp2_with (go_at_call 10; refine HSY.out.mono ?_; rintro e w2 ⟨c2, D2, rfl, g2, t2⟩; have HS2 := hid (HS1.out.to g2 (t2.stp HS1.out.good) (N' := 2 * (kk + 1)) (B' := 1000 * (kk + 1)) (by omega) (by omega)); have HD2 := hid ((t2.stp HS1.out.good).same.2.2.1.trans HD.out); clear g2 t2)
            go_roundg (len - (kk + 1))
            case measure => omega
            case rel => exact ⟨kk + 1, D2, by omega, by omega, by omega, by go_num, HS2, HD2⟩
        · subst hv
          have HSY := hid ((syncdir_st HS1.out.at_ HS1.out.good HS1.out.dead (by omega)).mono (fun e w' ⟨lv, m, he, g⟩ => (⟨_, lv, m, he, g⟩ : ∃ (c : Int) (lv : Value) (m : Nat), e = Ending.returned (.int .i64 c) ∧ Goes w1 w' D (D.synced lv m))))
          rw [HD.out] at HSY
          clear hvb
          go_wp2_with (go_at_call 11; refine HSY.out.mono ?_; rintro e w2 ⟨c2, lv, mm, rfl, g2⟩; have HS2 := hid (HS1.out.to g2 (.synced (T := fun _ => True) (L := 0) lv mm) (N' := 2 * (kk + 1)) (B' := 1000 * (kk + 1)) (by omega) (by omega)); have HD2 := hid ((Stp.synced (T := fun _ => True) (L := 0) (D := D) lv mm).same.2.2.1.trans HD.out); clear g2)
          go_roundg (len - (kk + 1))
          case measure => omega
          case rel => exact ⟨kk + 1, _, by omega, by omega, by omega, by go_num, HS2, HD2⟩
        · subst hv
          have HNT := hid (fun W => named_calls q.too q.torn HI.out.torn W)
          obtain ⟨nt, hnt⟩ : ∃ x, x = namedI q.too q.torn := ⟨_, rfl⟩
          rw [← hnt] at HNT
          clear hnt hvb
          have HRN := hid (rename_st HS1.out.at_ HS1.out.good HS1.out.dead (by omega) nm nt)
          rw [HD.out] at HRN
          go_wp2_with (first | (go_at_call 21; refine (HNT.out _).mono ?_; rintro e w_ ⟨rfl, rfl⟩) | (go_at_call 17; refine HRN.out.mono ?_; rintro e w2 ⟨D2, rfl, g2, t2⟩; have HS2 := hid (HS1.out.to g2 t2.stp (N' := 2 * (kk + 1)) (B' := 1000 * (kk + 1)) (by omega) (by omega)); have HD2 := hid (t2.stp.same.2.2.1.trans HD.out); clear g2 t2))
          go_roundg (len - (kk + 1))
          case measure => omega
          case rel => exact ⟨kk + 1, D2, by omega, by omega, by omega, by go_num, HS2, HD2⟩
        · subst hv
          have HRM := hid (remove_st HS1.out.at_ HS1.out.good HS1.out.dead (by omega) nm)
          rw [HD.out] at HRM
          clear hvb
          go_wp2_with (go_at_call 20; refine HRM.out.mono ?_; rintro e w2 ⟨D2, rfl, g2, t2⟩; have HS2 := hid (HS1.out.to g2 t2.stp (N' := 2 * (kk + 1)) (B' := 1000 * (kk + 1)) (by omega) (by omega)); have HD2 := hid (t2.stp.same.2.2.1.trans HD.out); clear g2 t2)
          go_roundg (len - (kk + 1))
          case measure => omega
          case rel => exact ⟨kk + 1, D2, by omega, by omega, by omega, by go_num, HS2, HD2⟩
        · subst hv
          clear hvb
          have HP9 := hid (fun W => pick_calls q.n 9 HI.out.n (by omega) W)
          have hb9 := pick_bd q.n 9 (by omega)
          obtain ⟨v9, hv9⟩ : ∃ x, x = pickI q.n 9 := ⟨_, rfl⟩
          rw [← hv9] at HP9 hb9
          clear hv9
          have HOP := hid (fun (W : World) (hW : Fr [] w1 W) => (show Calls Try.prog 13 #[P (k + 3)] W fun e w' => e = .returned (.int .i64 D.ops) ∧ w' = W from by rw [← HD.out]; exact ops_calls (HS1.out.at_.new hW)))
          have hob : 0 ≤ D.ops ∧ D.ops ≤ 2000 := by have := HS1.out.good.ops0; have := HS1.out.good.opsN; omega
          have hz : wrap64 (D.ops + v9) = D.ops + v9 := by unfold wrap64; omega
          have hz2 : IntKind.i64.wrap (D.ops + v9) = D.ops + v9 := by rw [IntKind.wrap_i64]; omega
          have HFA := hid (fun (W : World) (hW : Fr [] w1 W) (A : Addr) (hA : W.cell? A = some (.int .i64 (D.ops + v9))) (hA0 : A.spot = none) => (show Calls Try.prog 12 #[P (k + 3), .slice (some A) 1 1] W fun e w' => e = .returned (.tuple #[]) ∧ Goes W w' D { D with n := D.n + 1, fails := fun t => if t = D.ops + v9 then D.fails (D.ops + v9) + 1 else D.fails t } from by rw [← HD.out]; exact fail_st (HS1.out.at_.new hW) HS1.out.good (by omega) (D.ops + v9) A 1 (WalkArith.wf_i64 (by omega)) hA hA0))
          go_upto_region 25 with fail
          have hlo := lt_of HBX.out
          go_region_held3 (fun w_ => w_.cell? ⟨wr.heap.size, 4, none⟩ = some (.int .i64 q.n)) (first | exact mb5 | go_keep) (first | (go_at_call 13; refine (HOP.out _ (Fr.refl [] w1).drew).mono ?_; rintro e w_ ⟨rfl, rfl⟩) | (go_at_call 22; refine (HP9.out _).mono ?_; rintro e w_ ⟨rfl, rfl⟩) | (go_at_call 12; refine (HFA.out _ (Fr.alloc [] w1 _).drew ⟨w1.heap.size, 0, none⟩ ((cell_of (MapKept.heap_alloc w1 _).1 0).trans rfl) rfl).mono ?_; rintro e w5 ⟨rfl, g5⟩; have HS5 := hid ((HS1.out.new ((Fr.alloc [] w1 _).drew.below (Nat.le_refl _) (fun _ h => by simp at h))).to g5 (.failing (T := fun _ => True) (L := 0) _) (N' := 2 * (kk + 1)) (B' := 1000 * (kk + 1)) (by omega) (by omega)); have mb5 : w5.cell? ⟨wr.heap.size, 4, none⟩ = some (.int .i64 q.n) := (cell_keep (g5.fr.keep wr.heap.size (by simp; omega) HOFF.out) 4).trans ((cell_keep (Below.heap_alloc w1 _ _ hlo) 4).trans b4); clear g5))
          go_wp2
          go_roundg (len - (kk + 1))
          case measure => omega
          case rel => exact ⟨kk + 1, _, by omega, by omega, by omega, by go_num, HS5, HD⟩
        · subst hv
          clear hvb
          go_wp2
          go_roundg (len - (kk + 1))
          case measure => omega
          case rel => exact ⟨kk + 1, D, by omega, by omega, by omega, by go_num, hid (HS1.out.mono (by omega) (by omega)), HD⟩
      · have hlmz : ¬ (kk : Int) < (most : Int) := by omega
        have hke : kk = most := by omega
        go_wp2
        go_ret2
        exact ⟨D, by rw [HD.out]; rfl, by rw [hke] at HS; exact HS.out⟩
    · have hltz : ¬ (kk : Int) < (len : Int) := by omega
      go_wp2
      go_ret2
      exact ⟨D, by rw [HD.out]; rfl, HS.out.mono (by omega) (by omega)⟩
end Go.Proofs.Ytgcenkmekpaapaa.L
