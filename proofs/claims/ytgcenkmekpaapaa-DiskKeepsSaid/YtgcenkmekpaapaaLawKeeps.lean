/- DiskKeeps, walked. -/
import Derived.Test.YtgcenkmekpaapaaKeepsA
import Derived.Deep.DeepCutAuto
namespace Go.Proofs.Ytgcenkmekpaapaa.L
open Go.RowKit Go.Lib Go.Maps
set_option linter.unusedVariables false
open Go.Proofs.YtgcenkmekpaapaaW.PrintWords Go.Proofs.YtgcenkmekpaapaaW.PrintLast Go.Proofs.YtgcenkmekpaapaaW.PrintMore
section
variable {w0 w : World} {N B : Nat} {D : Dk}
theorem app_z (h : Dsk w0 w N B D) (hN : N < 1048576) (hB : B < 1099511627776) (s : ByteArray) {a : Option Addr} {l : List Int} {cap : Nat} (hr : RowIs w0 a l cap) (hl : l.length ≤ 1000) :
    Calls Try.prog 9 #[P D.d, .string s, .slice a l.length cap] w fun e w' => ∃ (c : Int) (D' : Dk), e = .returned (.int .i64 c) ∧ Dsk w0 w' (N + 2) (B + 1000) D' ∧ D'.d = D.d ∧ AppTo D s l c D' := by
  refine (append_st h.at_ h.good h.dead hN hB s a l cap (by omega) (fun W hW => (h.row hW hr).row)).mono ?_
  rintro e w' ⟨es, D', hes, _, rfl, g, t⟩
  exact ⟨_, D', rfl, h.to g t.stp (by omega) (by omega), t.stp.same.2.2.1, t⟩
theorem read_z (h : Dsk w0 w N B D) (hN : N < 1048576) (hB : B ≤ 140737488355327) : Calls Try.prog 15 #[P D.d, .string sZ] w fun e w' => ∃ (A : Option Addr) (cp : Nat) (l : List Int) (c : Int), e = .returned (.tuple #[.slice A l.length cp, .int .i64 c]) ∧ Kd.R kB 5 w' 0 (fun k => k ∉ D.count.own) (.slice A l.length cp) l ∧ Dsk w0 w' (N + 2) B D.count ∧ (c = 0 → ∃ f ∈ D.count.fs, D.count.dir sZ = some f.blk ∧ l = f.b) := by
  refine (read_st h.at_ h.good h.dead hN hB sZ).mono ?_
  rintro e w' ⟨v, l, rfl, hr, g, _, hl⟩
  obtain ⟨A, cp, rfl⟩ := B_slice hr
  exact ⟨A, cp, l, _, rfl, Kd.R_lower (Kd.R_mono (Kd.R_bound hr) (fun k hk hm => by have := hk.2.1; have := h.at_.lt k hm; omega)) (Nat.zero_le _), h.to g (.count (T := fun _ => True) (L := 0)) (by omega) (by omega), hl⟩
theorem sync_z (h : Dsk w0 w N B D) (hN : N < 1048576) (s : ByteArray) :
    Calls Try.prog 10 #[P D.d, .string s] w fun e w' => ∃ (c : Int) (D' : Dk), e = .returned (.int .i64 c) ∧ Dsk w0 w' (N + 2) B D' ∧ D'.d = D.d ∧ SynTo D s c D' ∧ Goes w w' D D' := by
  refine (sync_st h.at_ h.good h.dead hN s).mono ?_
  rintro e w' ⟨c, D', rfl, g, t⟩
  exact ⟨_, D', rfl, h.to g (t.stp h.good) (by omega) (by omega), (t.stp h.good).same.2.2.1, t, g⟩
theorem dir_z (h : Dsk w0 w N B D) (hN : N < 1048576) :
    Calls Try.prog 11 #[P D.d] w fun e w' => ∃ (c : Int) (lv : Value) (m : Nat), e = .returned (.int .i64 c) ∧ Dsk w0 w' (N + 2) B (D.synced lv m) ∧ (D.synced lv m).d = D.d ∧ (c = 0 → ¬ 0 < D.fails D.ops) ∧ Goes w w' D (D.synced lv m) := by
  refine (syncdir_st h.at_ h.good h.dead hN).mono ?_
  rintro e w' ⟨lv, m, rfl, g⟩
  refine ⟨_, lv, m, rfl, h.to g (.synced (T := fun _ => True) (L := 0) lv m) (by omega) (by omega), (Stp.synced (T := fun _ => True) (L := 0) (D := D) lv m).same.2.2.1, fun hc hf => ?_, g⟩
  rw [if_pos hf] at hc
  cases hc
theorem kept_start {E E7 : Dk} (gE : Good N B E) (g7 : Good (N + 2) B E7) {l : List Int} (hr : ∃ f ∈ E.fs, E.dir sZ = some f.blk ∧ l = f.b) {c : Int} (hc : c = 0) (t : SynTo E sZ c E7) {lv : Value} {m : Nat} (hk : ¬ 0 < E7.fails E7.ops) : ∃ blk, Kept (E7.synced lv m) blk l l.length := by
  obtain ⟨f, hf, hd, rfl⟩ := hr
  rcases t with ⟨_, e2, _⟩ | ⟨_, e1, _⟩ | ⟨_, _, f2, hf2, hd2, lv2, rfl⟩
  · rcases e2 with e2 | e2 <;> (rw [hc] at e2; cases e2)
  · rw [hc] at e1; cases e1
  · rw [hd] at hd2
    injection hd2 with hd2
    obtain rfl := gE.uniq f hf f2 hf2 hd2
    exact ⟨f.blk, Kept.start (f := ⟨f.blk, f.row, f.b, f.b.length⟩) g7 ((mem_setF (D := E.struckF lv2 f.blk) hf ⟨f.blk, f.row, f.b, f.b.length⟩ rfl _).2 (.inl rfl)) hd rfl rfl hk⟩
theorem app_g (h : Dsk w0 w N B D) (hN : N < 1048576) (hB : B < 1099511627776) (s : ByteArray) {a : Option Addr} {l : List Int} {cap : Nat} (hr : RowIs w0 a l cap) (hl : l.length ≤ 1000) :
    Calls Try.prog 9 #[P D.d, .string s, .slice a l.length cap] w fun e w' => ∃ (c : Int) (D' : Dk), e = .returned (.int .i64 c) ∧ Dsk w0 w' (N + 2) (B + 1000) D' ∧ D'.d = D.d ∧ AppTo D s l c D' ∧ Goes w w' D D' := by
  refine (append_st h.at_ h.good h.dead hN hB s a l cap (by omega) (fun W hW => (h.row hW hr).row)).mono ?_
  rintro e w' ⟨es, D', hes, _, rfl, g, t⟩
  exact ⟨_, D', rfl, h.to g t.stp (by omega) (by omega), t.stp.same.2.2.1, t, g⟩
structure Beside (w : World) (bx : Nat) (own : List Nat) (q : Op) : Prop where
  cell : w.heap[bx]? = some (boxObj q)
  off : bx ∉ own
theorem Beside.goes {w' : World} {D' : Dk} {bx : Nat} {q : Op} (h : Beside w bx D.own q) (g : Goes w w' D D') : Beside w' bx D'.own q :=
  ⟨(g.fr.keep bx (lt_of h.cell) h.off).trans h.cell, fun hm => (g.own bx hm).elim h.off (fun e => by have := lt_of h.cell; omega)⟩
theorem Beside.new {w' : World} {own : List Nat} {bx : Nat} {q : Op} (h : Beside w bx own q) (f : Fr [] w w') : Beside w' bx own q :=
  ⟨(f.keep bx (lt_of h.cell) (by simp)).trans h.cell, h.off⟩
theorem read_kept {Dx : Dk} {M m : Nat} {b : List Int} (hat : DkAt w Dx) (gx : Good M B Dx) (hc : Dx.cut = -1) (ho : Dx.off = false) (hfl : ∀ k, Dx.fails k = 0) (hM : M < 1048576) (hB : B ≤ 140737488355327) (hm : m ≤ b.length) {f : Fl} (hf : f ∈ Dx.fs) (hd : Dx.dir sZ = some f.blk) (hb : f.b = b.take m) :
    Calls Try.prog 15 #[P Dx.d, .string sZ] w fun e w' => ∃ A c, e = .returned (.tuple #[.slice A m c, .int .i64 0]) ∧ Kd.C kB w' A m (b.take m) ∧ Fr Dx.own w w' := by
  have hz := codeE_there (D := Dx) okZ (by rw [hd]; rfl) hfl
  refine (read_st hat gx (live_of (by rw [hc]; omega) ho) hM hB sZ).mono ?_
  rintro e w' ⟨v, l, rfl, hr, gg, _, hl2⟩
  obtain ⟨f2, hf2, hd2, rfl⟩ := hl2 hz
  rw [hd] at hd2
  injection hd2 with hd2
  obtain rfl := gx.uniq f hf f2 hf2 hd2
  obtain ⟨A, c, rfl⟩ := B_slice hr
  have hlen : f.b.length = m := by rw [hb, List.length_take]; omega
  rw [hz]
  have h3 := (Kd.R_reads' hr).2.2
  rw [hlen, hb] at h3
  rw [hlen]
  exact ⟨A, c, rfl, h3, gg.fr⟩
theorem z_list : sZ.toList = [122, 122, 45, 107, 101, 112, 116] := by rw [ByteArray.toList_eq]
theorem ne_z {s : ByteArray} (h : s ≠ sZ) : (s.toList == [122, 122, 45, 107, 101, 112, 116]) = false ∧ ¬ s.toList = [122, 122, 45, 107, 101, 112, 116] := by
  have h2 := str_ne h
  rw [z_list] at h2
  exact ⟨by simpa using h2, h2⟩
theorem Dsk.drawn (h : Dsk w0 w N B D) (z : Nat) : Dsk w0 (w.drewN z) N B D := h.new (pw_below_drewN (Below.refl _ _) z)
end
set_option maxHeartbeats 16000000 in
set_option maxRecDepth 100000 in
theorem keeps_calls (w : World) (A0 A1 A2 A3 : Option Addr) (n0 n2 n3 c0 c1 c2 c3 : Nat) (Q0 Q3 : Nat → Op) (l1 : List Int) (R2 : Nat → Rw) (h0 : OpsAt w A0 n0 Q0) (h1 : RowIs w A1 l1 c1) (h2 : RowsAt w A2 n2 R2) (h3 : OpsAt w A3 n3 Q3) (keep torn : Int) :
    Calls Try.prog 4 #[.slice A0 n0 c0, .slice A1 l1.length c1, .slice A2 n2 c2, .slice A3 n3 c3, .int .i64 keep, .int .i64 torn] w fun e w' => e = .returned (.bool true) ∧ Below w.heap.size w w' := by
  have H2 := hid h2
  have H3 := hid h3
  have hmx2 := h2.max
  have hmx3 := h3.max
  have hmx1 := Kd.C_max h1.row
  have HP1 := hid (fun (W : World) (hW : Below w.heap.size w W) => played_calls w A0 n0 c0 Q0 h0 60 (by omega) W hW)
  have hmi : min (l1.length : Int) 1000 = ((min l1.length 1000 : Nat) : Int) := by omega
  have hm1 : min l1.length 1000 ≤ 1000 := Nat.min_le_right _ _
  have hm2 : min l1.length 1000 ≤ l1.length := Nat.min_le_left _ _
  obtain ⟨m, hm⟩ : ∃ x, x = min l1.length 1000 := ⟨_, rfl⟩
  rw [← hm] at hmi hm1 hm2
  clear hm
  have e2 := cut_1000 h1 m hm2
  have HR1 := hid (h1.take hm2)
  have hml : (l1.take m).length = m := by rw [List.length_take]; omega
  have HML := hid hml
  clear hml h0 h1 h2 h3
  go_enter Try.func4, Try.ntmps4
  go_upto_region 5 with (first | (go_at_call 7; refine (shown_calls _).mono ?_; rintro e w1 ⟨rfl, hb⟩; have B1 := hid hb; clear hb) | (go_at_call 19; refine (HP1.out _ B1.out).mono ?_; rintro e w2 ⟨D, rfl, hd2⟩; have D2 := hid hd2; clear hd2))
  have HRM := hid (remove_st D2.out.at_ D2.out.good D2.out.dead (by decide) sZ)
  clear HP1 B1
  go_upto_region 6 with (go_at_call 20; refine HRM.out.mono ?_; rintro e w3 ⟨D3, rfl, g3, t3⟩; have D3s := hid (D2.out.to (N' := 122) (B' := 60000) g3 t3.stp (by omega) (by omega)); have D3d := hid t3.stp.same.2.2.1; clear g3 t3)
  clear HRM D2
  obtain ⟨pd, hpd⟩ : ∃ x, x = D.d := ⟨_, rfl⟩
  rw [← hpd] at D3d
  rw [← hpd]
  clear hpd
  have HAP := hid (app_z D3s.out (by decide) (by decide) sZ HR1.out (by rw [HML.out]; exact hm1))
  rw [HML.out, D3d.out] at HAP
  go_upto_region 7 with (go_at_call 9; refine HAP.out.mono ?_; rintro e w4 ⟨cA, D4, rfl, a1, a2, a3⟩; have D4s := hid a1; have D4d := hid a2; clear a1 a2 a3)
  clear HAP D3s D3d
  go_upto_block 0 with fail
  go_cut [16] (fun v16 wc => ∃ (c : Int) (E : Dk), v16 = .int .i64 c ∧ Hid (Dsk w wc 524 261000 E) ∧ Hid (E.d = pd))
  case first =>
    go_wp2_with fail
    go_loopg [16, 17] 200 (fun gg s16 s17 wr => ∃ (kk : Nat) (c : Int) (E : Dk), kk ≤ 200 ∧ 200 - kk ≤ gg ∧ s16 = .int .i64 c ∧ s17 = .int .i64 kk ∧ Hid (Dsk w wr (124 + 2 * kk) (61000 + 1000 * kk) E) ∧ Hid (E.d = pd))
    case atStart => exact ⟨0, cA, D4, by omega, by omega, rfl, rfl, D4s, D4d⟩
    case round =>
      clear D4s D4d
      obtain ⟨kk, c, E, hkk, hg, rfl, rfl, HE, HEd⟩ := hrel
      by_cases hgo : c ≠ 0 ∧ kk < 200
      · obtain ⟨hc, hk⟩ := hgo
        have hkz : (kk : Int) < 200 := by omega
        have HAP := hid (app_z HE.out (by omega) (by omega) sZ HR1.out (by rw [HML.out]; exact hm1))
        rw [HML.out, HEd.out] at HAP
        go_wp2_with (go_at_call 9; refine HAP.out.mono ?_; rintro e w5 ⟨cB, E5, rfl, a1, a2, a3⟩; have E5s := hid a1; have E5d := hid a2; clear a1 a2 a3)
        go_roundg (200 - (kk + 1))
        case measure => omega
        case rel => exact ⟨kk + 1, cB, E5, by omega, by omega, rfl, by go_num, hid (E5s.out.mono (by omega) (by omega)), E5d⟩
      · have E0 := hid (show Dsk w wr 524 261000 E from HE.out.mono (by omega) (by omega))
        rcases (by omega : (c = 0) ∨ (¬ c = 0 ∧ ¬ (kk : Int) < 200)) with rfl | ⟨hx, hx2⟩
        all_goals
          go_wp2
          go_meet
          case rel => exact ⟨_, E, rfl, E0, HEd⟩
  case rest =>
    clear D4s D4d
    obtain ⟨c16, E, rfl, HE, HEd⟩ := hcut
    have HRD := hid (read_z HE.out (by decide) (by decide))
    rw [HEd.out] at HRD
    go_upto_region 12 with (go_at_call 15; refine HRD.out.mono ?_; rintro e w6 ⟨A6, c6, l6, k6, rfl, a1, a2, a3⟩; have R6 := hid a1; have E6 := hid a2; have F6 := hid a3; clear a1 a2 a3)
    have E6d := hid (show E.count.d = pd from HEd.out)
    clear HRD HE HEd
    go_upto_block 2 with fail
    go_cut [18, 19] (fun v18 v19 wc => ∃ (A : Option Addr) (cp : Nat) (l : List Int) (c : Int) (E : Dk), v18 = .slice A l.length cp ∧ v19 = .int .i64 c ∧ Hid (Kd.R kB 5 wc 0 (fun k => k ∉ E.own) (.slice A l.length cp) l) ∧ Hid (Dsk w wc 926 261000 E) ∧ Hid (E.d = pd) ∧ Hid (c = 0 → ∃ f ∈ E.fs, E.dir sZ = some f.blk ∧ l = f.b))
    case first =>
      go_wp2_with fail
      go_loopg [18, 19, 20] 200 (fun gg s18 s19 s20 wr => ∃ (kk : Nat) (A : Option Addr) (cp : Nat) (l : List Int) (c : Int) (E : Dk), kk ≤ 200 ∧ 200 - kk ≤ gg ∧ s18 = .slice A l.length cp ∧ s19 = .int .i64 c ∧ s20 = .int .i64 kk ∧ Hid (Kd.R kB 5 wr 0 (fun k => k ∉ E.own) (.slice A l.length cp) l) ∧ Hid (Dsk w wr (526 + 2 * kk) 261000 E) ∧ Hid (E.d = pd) ∧ Hid (c = 0 → ∃ f ∈ E.fs, E.dir sZ = some f.blk ∧ l = f.b))
      case atStart => exact ⟨0, A6, c6, l6, k6, _, by omega, by omega, rfl, rfl, rfl, R6, E6, E6d, F6⟩
      case round =>
        clear R6 E6 E6d F6
        obtain ⟨kk, A, cp, l, c, E, hkk, hg, rfl, rfl, rfl, HR, HE, HEd, HF⟩ := hrel
        by_cases hgo : c ≠ 0 ∧ kk < 200
        · obtain ⟨hc, hk⟩ := hgo
          have hkz : (kk : Int) < 200 := by omega
          have HRD := hid (read_z HE.out (by omega) (by decide))
          rw [HEd.out] at HRD
          go_wp2_with (go_at_call 15; refine HRD.out.mono ?_; rintro e w7 ⟨A7, c7, l7, k7, rfl, a1, a2, a3⟩; have R7 := hid a1; have E7 := hid a2; have F7 := hid a3; clear a1 a2 a3)
          go_roundg (200 - (kk + 1))
          case measure => omega
          case rel => exact ⟨kk + 1, A7, c7, l7, k7, _, by omega, by omega, rfl, rfl, by go_num, R7, hid (E7.out.mono (by omega) (by omega)), HEd, F7⟩
        · have E0 := hid (show Dsk w wr 926 261000 E from HE.out.mono (by omega) (by omega))
          rcases (by omega : (c = 0) ∨ (¬ c = 0 ∧ ¬ (kk : Int) < 200)) with rfl | ⟨hx, hx2⟩
          all_goals
            go_wp2
            go_meet
            case rel => exact ⟨_, _, _, _, E, rfl, rfl, HR, E0, HEd, by first | exact HF | exact hid (fun _ => HF.out trivial)⟩
    case rest =>
      clear R6 E6 E6d F6
      obtain ⟨A8, c8, l8, k8, E8, rfl, rfl, R8, E8s, E8d, F8⟩ := hcut
      have HSY := hid (sync_z E8s.out (by decide) sZ)
      rw [E8d.out] at HSY
      go_upto_region 17 with (go_at_call 10; refine HSY.out.mono ?_; rintro e w9 ⟨k9, E9, rfl, a1, a2, a3, a4⟩; have E9s := hid a1; have E9d := hid a2; have T9 := hid a3; have R9 := hid (R_goes R8.out a4); clear a1 a2 a3 a4)
      have HSD := hid (dir_z E9s.out (by decide))
      rw [E9d.out] at HSD
      go_upto_region 18 with (go_at_call 11; refine HSD.out.mono ?_; rintro e w10 ⟨k10, lv10, m10, rfl, a1, a2, a3, a4⟩; have E10s := hid a1; have E10d := hid a2; have T10 := hid a3; have R10 := hid (R_goes R9.out a4); clear a1 a2 a3 a4)
      clear HSY HSD R8 R9
      have BW := hid E10s.out.below
      by_cases hz1 : c16 = 0
      · by_cases hz2 : k8 = 0
        · by_cases hz3 : k9 = 0
          · by_cases hz4 : k10 = 0
            · have HB8 := hid (show l8.length ≤ 261000 from by obtain ⟨f, hf, _, e⟩ := F8.out hz2; rw [e]; exact E8s.out.good.big f hf)
              have HK := hid (kept_start E8s.out.good E9s.out.good (F8.out hz2) hz3 T9.out (by have := T10.out hz4; omega) (lv := lv10) (m := m10))
              clear T9 T10 F8 E8s E8d E9s E9d
              subst hz1; subst hz2; subst hz3; subst hz4
              have C10 := hid (Kd.R_reads' R10.out).2.2
              have q1 := Kd.C_string (P := Try.prog) (src := 22) (dst := 9) (e := 5) (c := c8) Try.underlying22 Try.underlying5 Try.underlying9 C10.out
              go_upto_region 21 with fail
              clear q1 C10 R10 BW
              obtain ⟨blk, hkk0⟩ := HK.out
              have K10 := hid hkk0
              have E10p := hid (E10d.out)
              clear hkk0 HK
              go_upto_block 4 with fail
              go_cut [23] (fun v23 wc => ∃ (E : Dk) (b : List Int), v23 = .string (strOfNums b) ∧ b.length ≤ 400000 ∧ Hid (Dsk w wc 1200 421000 E) ∧ Hid (E.d = pd) ∧ Hid (Kept E blk b l8.length))
              case first =>
                go_wp2_with fail
                go_loopg [23, 24] n3 (fun gg s23 s24 wr => ∃ (kk : Nat) (E : Dk) (b : List Int), kk ≤ n3 ∧ kk ≤ 60 ∧ n3 - kk ≤ gg ∧ s23 = .string (strOfNums b) ∧ s24 = .int .i64 kk ∧ Hid (b.length ≤ 261000 + 1000 * kk) ∧ Hid (Dsk w wr (930 + 4 * kk) (261000 + 2000 * kk) E) ∧ Hid (E.d = pd) ∧ Hid (Kept E blk b l8.length))
                case atStart => exact ⟨0, _, l8, Nat.zero_le _, Nat.zero_le _, by omega, rfl, rfl, HB8, E10s, E10p, K10⟩
                case round =>
                  clear E10s E10p K10 HB8
                  obtain ⟨kk, E, b, hkk, hk60, hg, rfl, rfl, HBL, HE, HEd, HK⟩ := hrel
                  obtain ⟨S, hS⟩ : ∃ S, S = strOfNums b := ⟨_, rfl⟩
                  rw [← hS]
                  have HS := hid hS
                  clear hS
                  by_cases hlt : kk < n3 ∧ kk < 60
                  · obtain ⟨hlt, h60⟩ := hlt
                    have hltz : (kk : Int) < (n3 : Int) := by omega
                    have h60z : (kk : Int) < 60 := by omega
                    obtain ⟨bb, o, rfl, hb, hcells⟩ := H3.out.there (by omega)
                    have hop := (hcells kk hlt).keep HE.out.below hb
                    have HI := hid (H3.out.each kk hlt)
                    obtain ⟨q, hq⟩ : ∃ q, q = Q3 kk := ⟨_, rfl⟩
                    rw [← hq] at hop HI
                    clear hq hcells
                    obtain ⟨d0, d1, d2, d3, d4, d5⟩ := hop
                    have HN1 := hid (fun W => named_calls q.name q.n HI.out.n W)
                    have HN2 := hid (fun W => named_calls q.too q.torn HI.out.torn W)
                    obtain ⟨nm, hnm⟩ : ∃ x, x = namedI q.name q.n := ⟨_, rfl⟩
                    obtain ⟨nt, hnt⟩ : ∃ x, x = namedI q.too q.torn := ⟨_, rfl⟩
                    rw [← hnm] at HN1
                    rw [← hnt] at HN2
                    clear hnm hnt
                    go_upto_region 26 with (go_at_call 21; refine (HN1.out _).mono ?_; rintro e w_ ⟨rfl, rfl⟩)
                    go_upto_region 27 with (go_at_call 21; refine (HN2.out _).mono ?_; rintro e w_ ⟨rfl, rfl⟩)
                    obtain ⟨w1, hw1⟩ : ∃ x, x = wr.alloc (.cells #[.int .i64 q.kind, .string q.name, .string q.too, .slice q.at_ q.b.length q.cap, .int .i64 q.n, .int .i64 q.torn] 46) := ⟨_, rfl⟩
                    have HX := hid (show Beside w1 wr.heap.size E.own q from ⟨by rw [hw1]; exact (MapKept.heap_alloc wr _).1, fun hm => Nat.lt_irrefl _ (HE.out.at_.lt _ hm)⟩)
                    have HE1 := hid (show Dsk w w1 (930 + 4 * kk) (261000 + 2000 * kk) E by rw [hw1]; exact HE.out.new ((Below.refl _ wr).alloc (Nat.le_refl _) _))
                    rw [← hw1]
                    obtain ⟨bx, hbx⟩ : ∃ x, x = wr.heap.size := ⟨_, rfl⟩
                    rw [← hbx] at HX ⊢
                    clear hw1 hbx d0 d1 d2 d3 d4 d5 HE HN1 HN2
                    by_cases h1 : nm = sZ
                    · subst h1
                      go_wp2
                      go_roundg (n3 - (kk + 1))
                      case measure => omega
                      case rel => exact ⟨kk + 1, E, b, by omega, by omega, by omega, by rw [HS.out], by go_num, hid (by have := HBL.out; omega), hid (HE1.out.mono (by omega) (by omega)), HEd, HK⟩
                    · by_cases h2 : nt = sZ
                      · subst h2
                        obtain ⟨hne1, hne2⟩ := ne_z h1
                        go_wp2
                        go_roundg (n3 - (kk + 1))
                        case measure => omega
                        case rel => exact ⟨kk + 1, E, b, by omega, by omega, by omega, by rw [HS.out], by go_num, hid (by have := HBL.out; omega), hid (HE1.out.mono (by omega) (by omega)), HEd, HK⟩
                      · obtain ⟨hne1, hne2⟩ := ne_z h1
                        obtain ⟨hne3, hne4⟩ := ne_z h2
                        go_upto_region 28 with fail
                        clear hne1 hne2 hne3 hne4
                        go_upto_if 139 with fail
                        go_cut [23, 28] (fun v23 v28 wc => ∃ (E : Dk) (b : List Int), v23 = .string (strOfNums b) ∧ Hid (b.length ≤ 261000 + 1000 * (kk + 1)) ∧ Hid (Dsk w wc (932 + 4 * kk) (262000 + 2000 * kk) E) ∧ Hid (E.d = pd) ∧ Hid (Kept E blk b l8.length) ∧ Hid (Beside wc bx E.own q))
                        case first =>
                          by_cases hmr : kk < n2
                          · have hmrz : (kk : Int) < (n2 : Int) := by omega
                            obtain ⟨b9, o9, rfl, hb9, hcells9⟩ := H2.out.there (by omega)
                            have HI9 := hid (H2.out.each kk hmr)
                            have hc9 := (HE1.out.below.cell (p := ⟨b9, o9 + kk, none⟩) hb9).trans (hcells9 kk hmr)
                            obtain ⟨r, hr⟩ : ∃ r, r = R2 kk := ⟨_, rfl⟩
                            rw [← hr] at HI9 hc9
                            clear hr hcells9
                            have hqi : min (r.b.length : Int) 1000 = ((min r.b.length 1000 : Nat) : Int) := by omega
                            have hq1 : min r.b.length 1000 ≤ 1000 := Nat.min_le_right _ _
                            have hq2 : min r.b.length 1000 ≤ r.b.length := Nat.min_le_left _ _
                            obtain ⟨mq, hmq⟩ : ∃ x, x = min r.b.length 1000 := ⟨_, rfl⟩
                            rw [← hmq] at hqi hq1 hq2
                            clear hmq
                            have e3 := cut_1000 HI9.out mq hq2
                            have hqmx := Kd.C_max HI9.out.row
                            have HQR := hid (HI9.out.take hq2)
                            have HQL := hid (show (r.b.take mq).length = mq by rw [List.length_take]; omega)
                            have HAP := hid (fun (W : World) (hW : Fr [] w1 W) => app_g (HE1.out.new (hW.below (Nat.le_refl _) (fun _ h => by simp at h))) (by omega) (by omega) sZ HQR.out (by rw [HQL.out]; exact hq1))
                            rw [HQL.out, HEd.out] at HAP
                            have HCC := hid hc9
                            go_upto_region 29 with fail
                            go_region_held3 (fun w_ => w_.cell? ⟨b9, o9 + kk, none⟩ = some (.slice r.at_ r.b.length r.cap)) (first | exact mm1 | go_keep) (first | (go_at_call 9; refine (HAP.out _ (Fr.refl [] w1).drew).mono ?_; rintro e w2 ⟨cM, E2, rfl, a1, a2, a3, a4⟩; have E2s := hid a1; have E2d := hid a2; have T2 := hid a3; have X2 := hid ((HX.out.new (Fr.refl [] w1).drew).goes a4); have mm1 : w2.cell? ⟨b9, o9 + kk, none⟩ = some (.slice r.at_ r.b.length r.cap) := (a1.below.cell (p := ⟨b9, o9 + kk, none⟩) hb9).trans ((HE1.out.below.cell (p := ⟨b9, o9 + kk, none⟩) hb9).symm.trans HCC.out); clear a1 a2 a3 a4))
                            by_cases hcM : cM = 0
                            · have K2 := hid ((HK.out.more HE1.out.good T2.out).2 hcM)
                              clear T2
                              subst hcM
                              have k2 : ∀ z, (w2.drewN z).cell? ⟨b9, o9 + kk, none⟩ = some (.slice r.at_ r.b.length r.cap) := fun _ => mm1
                              have q3 : ∀ z, (convert 22 9 (.slice r.at_ mq r.cap)).run Try.prog (w2.drewN z) = .ok (.string (strOfNums (r.b.take mq))) (w2.drewN z) := fun z => by
                                have h := Kd.C_string (P := Try.prog) (src := 22) (dst := 9) (e := 5) (w := w2.drewN z) (c := r.cap) Try.underlying22 Try.underlying5 Try.underlying9 (HQR.out.keep (E2s.out.drawn z).below).row
                                rw [HQL.out] at h
                                exact h
                              obtain ⟨X, hX⟩ : ∃ X, X = strOfNums (r.b.take mq) := ⟨_, rfl⟩
                              rw [← hX] at q3
                              have HXX := hid hX
                              have hsum : S.size + X.size ≤ 9223372036854775807 := by rw [HS.out, hX, strOfNums_size, strOfNums_size, HQL.out]; have := HBL.out; omega
                              have hadd : ∀ z, (Op.stringOp .add S X).run Try.prog (w2.drewN z) = .ok (.string (S ++ X)) (w2.drewN z) := fun z => run_string_add_sum _ S X hsum
                              have hlt9 : (9223372036854775807 < S.size + X.size) = False := by simp; omega
                              clear hX mm1 hc9
                              go_upto_region 31 with fail
                              go_quiet (fail)
                              go_wp2
                              go_meet
                              case rel => exact ⟨E2, b ++ r.b.take mq, by rw [nums_append', ← HS.out, ← HXX.out], hid (by rw [List.length_append, HQL.out]; have := HBL.out; omega), hid ((E2s.out.drawn _).mono (by omega) (by omega)), E2d, K2, hid (X2.out.new (Fr.of_drawn ⟨_, rfl⟩))⟩
                            · have K2 := hid ((HK.out.more HE1.out.good T2.out).1 hcM)
                              go_wp2
                              go_meet
                              case rel => exact ⟨E2, b, by rw [← HS.out], hid (by have := HBL.out; omega), hid (E2s.out.mono (by omega) (by omega)), E2d, K2, X2⟩
                          · have hmrz : ¬ (kk : Int) < (n2 : Int) := by omega
                            go_wp2
                            go_meet
                            case rel => exact ⟨E, b, by rw [← HS.out], hid (by have := HBL.out; omega), hid (HE1.out.mono (by omega) (by omega)), HEd, HK, HX⟩
                        case rest =>
                          clear HE1 HEd HK HX HBL HS
                          obtain ⟨E2, b2, rfl, HB2, HE2, HE2d, HK2, HX2⟩ := hcut
                          obtain ⟨S2, hS2⟩ : ∃ S, S = strOfNums b2 := ⟨_, rfl⟩
                          rw [← hS2]
                          have HS2 := hid hS2
                          clear hS2
                          have g0 : wc.cell? ⟨bx, 0, none⟩ = some (.int .i64 q.kind) := (cell_of HX2.out.cell 0).trans rfl
                          have g3 : wc.cell? ⟨bx, 3, none⟩ = some (.slice q.at_ q.b.length q.cap) := (cell_of HX2.out.cell 3).trans rfl
                          have g4 : wc.cell? ⟨bx, 4, none⟩ = some (.int .i64 q.n) := (cell_of HX2.out.cell 4).trans rfl
                          have HP := hid (fun W => pick_calls q.kind 7 HI.out.kind (by omega) W)
                          have hvb := pick_bd q.kind 7 (by omega)
                          obtain ⟨pv, hv⟩ : ∃ v, v = pickI q.kind 7 := ⟨_, rfl⟩
                          rw [← hv] at HP hvb
                          clear hv
                          have HNZ := hid (show nm ≠ sZ ∧ nt ≠ sZ from ⟨h1, h2⟩)
                          clear h1 h2
                          go_upto_region 33 with (go_at_call 22; refine (HP.out _).mono ?_; rintro e w_ ⟨rfl, hww⟩; have hww2 := hww.symm; subst hww2)
                          clear HP g0
                          rcases (by omega : (pv = 0 ∨ pv = 1) ∨ pv = 2 ∨ pv = 3 ∨ pv = 4 ∨ pv = 5 ∨ pv = 6) with hv | hv | hv | hv | hv | hv
                          · have hmi9 : min (q.b.length : Int) 1000 = ((min q.b.length 1000 : Nat) : Int) := by omega
                            have hm91 : min q.b.length 1000 ≤ 1000 := Nat.min_le_right _ _
                            have hm92 : min q.b.length 1000 ≤ q.b.length := Nat.min_le_left _ _
                            obtain ⟨m9, hm9⟩ : ∃ x, x = min q.b.length 1000 := ⟨_, rfl⟩
                            rw [← hm9] at hmi9 hm91 hm92
                            clear hm9
                            have e9 := cut_1000 HI.out.row m9 hm92
                            have HML9 := hid (show (q.b.take m9).length = m9 by rw [List.length_take]; omega)
                            have HAP := hid (app_z HE2.out (by omega) (by omega) nm (HI.out.row.take hm92) (by rw [HML9.out]; exact hm91))
                            rw [HML9.out, HE2d.out] at HAP
                            rcases hv with rfl | rfl
                            all_goals
                              clear hvb
                              go_wp2_with (go_at_call 9; refine HAP.out.mono ?_; rintro e w3 ⟨cA3, E3, rfl, a1, a2, a3⟩; have E3s := hid a1; have E3d := hid a2; have K3 := hid (HK2.out.step a3.stp (fun s hs => by rw [hs]; exact HNZ.out.1)); clear a1 a2 a3)
                              go_roundg (n3 - (kk + 1))
                              case measure => omega
                              case rel => exact ⟨kk + 1, E3, b2, by omega, by omega, by omega, by rw [HS2.out], by go_num, HB2, hid (E3s.out.mono (by omega) (by omega)), E3d, K3⟩
                          · subst hv
                            have HSY := hid (sync_z HE2.out (by omega) nm)
                            rw [HE2d.out] at HSY
                            clear hvb
                            go_wp2_with (go_at_call 10; refine HSY.out.mono ?_; rintro e w3 ⟨cA3, E3, rfl, a1, a2, a3, a4⟩; have E3s := hid a1; have E3d := hid a2; have K3 := hid (HK2.out.step (a3.stp HE2.out.good) (fun s hs => by rw [hs]; exact HNZ.out.1)); clear a1 a2 a3 a4)
                            go_roundg (n3 - (kk + 1))
                            case measure => omega
                            case rel => exact ⟨kk + 1, E3, b2, by omega, by omega, by omega, by rw [HS2.out], by go_num, HB2, hid (E3s.out.mono (by omega) (by omega)), E3d, K3⟩
                          · subst hv
                            have HSD := hid (dir_z HE2.out (by omega))
                            rw [HE2d.out] at HSD
                            clear hvb
                            go_wp2_with (go_at_call 11; refine HSD.out.mono ?_; rintro e w3 ⟨cA3, lv3, m3, rfl, a1, a2, a3, a4⟩; have E3s := hid a1; have E3d := hid a2; have K3 := hid (HK2.out.step (.synced (T := fun _ => False) (L := 0) lv3 m3) (fun s hs => hs.elim)); clear a1 a2 a3 a4)
                            obtain ⟨E3, hE3⟩ : ∃ x, x = E2.synced lv3 m3 := ⟨_, rfl⟩
                            rw [← hE3] at E3s E3d K3
                            go_roundg (n3 - (kk + 1))
                            case measure => omega
                            case rel => exact ⟨kk + 1, E3, b2, by omega, by omega, by omega, by rw [HS2.out], by go_num, HB2, hid (E3s.out.mono (by omega) (by omega)), E3d, K3⟩
                          · subst hv
                            have HRN := hid (rename_st HE2.out.at_ HE2.out.good HE2.out.dead (by omega) nm nt)
                            rw [HE2d.out] at HRN
                            clear hvb
                            go_wp2_with (go_at_call 17; refine HRN.out.mono ?_; rintro e w3 ⟨E3, rfl, a1, a2⟩; have E3s := hid (HE2.out.step a1 a2.stp); have E3d := hid (a2.stp.same.2.2.1.trans HE2d.out); have K3 := hid (HK2.out.step a2.stp (fun s hs => by rcases hs with hs | hs <;> rw [hs]; exact HNZ.out.1; exact HNZ.out.2)); clear a1 a2)
                            go_roundg (n3 - (kk + 1))
                            case measure => omega
                            case rel => exact ⟨kk + 1, E3, b2, by omega, by omega, by omega, by rw [HS2.out], by go_num, HB2, hid (E3s.out.mono (by omega) (by omega)), E3d, K3⟩
                          · subst hv
                            have HRM := hid (remove_st HE2.out.at_ HE2.out.good HE2.out.dead (by omega) nm)
                            rw [HE2d.out] at HRM
                            clear hvb
                            go_wp2_with (go_at_call 20; refine HRM.out.mono ?_; rintro e w3 ⟨E3, rfl, a1, a2⟩; have E3s := hid (HE2.out.step a1 a2.stp); have E3d := hid (a2.stp.same.2.2.1.trans HE2d.out); have K3 := hid (HK2.out.step a2.stp (fun s hs => by rw [hs]; exact HNZ.out.1)); clear a1 a2)
                            go_roundg (n3 - (kk + 1))
                            case measure => omega
                            case rel => exact ⟨kk + 1, E3, b2, by omega, by omega, by omega, by rw [HS2.out], by go_num, HB2, hid (E3s.out.mono (by omega) (by omega)), E3d, K3⟩
                          · subst hv
                            clear hvb
                            have HP9 := hid (fun W => pick_calls q.n 9 HI.out.n (by omega) W)
                            have hb9 := pick_bd q.n 9 (by omega)
                            obtain ⟨v9, hv9⟩ : ∃ x, x = pickI q.n 9 := ⟨_, rfl⟩
                            rw [← hv9] at HP9 hb9
                            clear hv9
                            have HOP := hid (fun (W : World) (hW : Fr [] wc W) => (show Calls Try.prog 13 #[P pd] W fun e w' => e = .returned (.int .i64 E2.ops) ∧ w' = W from by rw [← HE2d.out]; exact ops_calls (HE2.out.at_.new hW)))
                            have hob : 0 ≤ E2.ops ∧ E2.ops ≤ 2000 := by have := HE2.out.good.ops0; have := HE2.out.good.opsN; omega
                            have hz : wrap64 (E2.ops + v9) = E2.ops + v9 := by unfold wrap64; omega
                            have hz2 : IntKind.i64.wrap (E2.ops + v9) = E2.ops + v9 := by rw [IntKind.wrap_i64]; omega
                            have HFA := hid (fun (W : World) (hW : Fr [] wc W) (A : Addr) (hA : W.cell? A = some (.int .i64 (E2.ops + v9))) (hA0 : A.spot = none) => (show Calls Try.prog 12 #[P pd, .slice (some A) 1 1] W fun e w' => e = .returned (.tuple #[]) ∧ Goes W w' E2 { E2 with n := E2.n + 1, fails := fun t => if t = E2.ops + v9 then E2.fails (E2.ops + v9) + 1 else E2.fails t } from by rw [← HE2d.out]; exact fail_st (HE2.out.at_.new hW) HE2.out.good (by omega) (E2.ops + v9) A 1 (WalkArith.wf_i64 (by omega)) hA hA0))
                            go_upto_region 45 with fail
                            have hlo := lt_of HX2.out.cell
                            go_region_held3 (fun w_ => w_.cell? ⟨bx, 4, none⟩ = some (.int .i64 q.n)) (first | exact mb5 | go_keep) (first | (go_at_call 13; refine (HOP.out _ (Fr.refl [] wc).drew).mono ?_; rintro e w_ ⟨rfl, rfl⟩) | (go_at_call 22; refine (HP9.out _).mono ?_; rintro e w_ ⟨rfl, rfl⟩) | (go_at_call 12; refine (HFA.out _ (Fr.alloc [] wc _).drew ⟨wc.heap.size, 0, none⟩ ((cell_of (MapKept.heap_alloc wc _).1 0).trans rfl) rfl).mono ?_; rintro e w5 ⟨rfl, g5⟩; have E3s := hid ((HE2.out.new ((Fr.alloc [] wc _).drew.below (Nat.le_refl _) (fun _ h => by simp at h))).step g5 (.failing (T := fun _ => True) (L := 0) _)); have mb5 : w5.cell? ⟨bx, 4, none⟩ = some (.int .i64 q.n) := (cell_keep (g5.fr.keep bx (by simp; omega) HX2.out.off) 4).trans ((cell_keep (Below.heap_alloc wc _ _ hlo) 4).trans g4); clear g5))
                            have K3 := hid (HK2.out.step (.failing (T := fun _ => False) (L := 0) (E2.ops + v9)) (fun s hs => hs.elim))
                            go_wp2
                            go_roundg (n3 - (kk + 1))
                            case measure => omega
                            case rel => exact ⟨kk + 1, _, b2, by omega, by omega, by omega, by rw [HS2.out], by go_num, HB2, hid (E3s.out.mono (by omega) (by omega)), HE2d, K3⟩
                  · have HFIN := hid (show b.length ≤ 400000 ∧ Dsk w wr 1200 421000 E from ⟨by have := HBL.out; omega, HE.out.mono (by omega) (by omega)⟩)
                    rcases (by omega : (¬ (kk : Int) < (n3 : Int)) ∨ ((kk : Int) < (n3 : Int) ∧ ¬ (kk : Int) < 60)) with hx | ⟨hx, hx2⟩
                    all_goals
                      go_wp2
                      go_meet
                      case rel => exact ⟨E, b, by rw [HS.out], HFIN.out.1, hid HFIN.out.2, HEd, HK⟩
              case rest =>
                clear E10s E10p K10 HB8
                obtain ⟨E, b, rfl, hbl, HE, HEd, HK⟩ := hcut
                have HCR := hid (crash_good HE.out.at_ HE.out.good (by decide) (by decide) keep torn)
                rw [HEd.out] at HCR
                go_upto_region 47 with (go_at_call 14; refine HCR.out.mono ?_; rintro e w20 ⟨Dx, rfl, a1, a2, a3, a4, a5, a6⟩; have HX1 := hid a1; have HX2 := hid a2; have HX3 := hid a3; have HX4 := hid a4; have HX5 := hid a5; clear a1 a2 a3 a4 a5 a6)
                obtain ⟨mm, hmn, hmb, f, hf, hd, hfb⟩ := HK.out.crash HE.out.good HX3.out
                have HRX := hid (read_kept HX1.out HX2.out HX3.out.cut HX3.out.off HX3.out.fails (by decide) (by decide) hmb hf hd hfb)
                clear hf hd hfb HCR
                go_upto_region 48 with (go_at_call 15; refine HRX.out.mono ?_; rintro e w21 ⟨A21, c21, rfl, a1, a2⟩; have C21 := hid a1; have F21 := hid a2; clear a1 a2)
                have BW := hid ((HE.out.below.trans (HX4.out.mono HE.out.below.size)).trans (F21.out.below (Nat.le_trans HE.out.below.size HX4.out.size) (fun k hk => Nat.le_trans HE.out.below.size (HX5.out k hk))))
                have q2 : ∀ z, (convert 22 9 (.slice A21 mm c21)).run Try.prog (w21.drewN z) = .ok (.string (strOfNums (b.take mm))) (w21.drewN z) := fun z => Kd.C_string (w := w21.drewN z) Try.underlying22 Try.underlying5 Try.underlying9 C21.out
                have hsz : (strOfNums b).size = b.length := strOfNums_size b
                have hx := nums_take b mm
                obtain ⟨S, hS⟩ : ∃ S, S = strOfNums b := ⟨_, rfl⟩
                obtain ⟨X, hX⟩ : ∃ X, X = strOfNums (b.take mm) := ⟨_, rfl⟩
                rw [← hS, ← hX] at hx
                rw [← hX] at q2
                rw [← hS] at hsz ⊢
                have hle : mm ≤ S.size := by omega
                have hlez : (mm : Int) ≤ (S.size : Int) := by omega
                have hgez : (l8.length : Int) ≤ (mm : Int) := by omega
                clear hS hX hsz HRX C21 F21 HX1 HX2 HX3 HX4 HX5 HE HEd HK
                go_quiet (fail)
                go_wp2
                go_ret
                exact ⟨rfl, pw_below_drewN BW.out _⟩
            · go_wp2
              go_ret
              exact ⟨rfl, BW.out⟩
          · go_wp2
            go_ret
            exact ⟨rfl, BW.out⟩
        · go_wp2
          go_ret
          exact ⟨rfl, BW.out⟩
      · go_wp2
        go_ret
        exact ⟨rfl, BW.out⟩
end Go.Proofs.Ytgcenkmekpaapaa.L
