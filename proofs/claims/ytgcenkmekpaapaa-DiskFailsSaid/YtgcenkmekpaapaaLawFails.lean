/- DiskFails, walked. -/
import Derived.Test.YtgcenkmekpaapaaFailsA
import Derived.Test.YtgcenkmekpaapaaLawCrs
namespace Go.Proofs.Ytgcenkmekpaapaa.L
open Go.RowKit Go.Lib Go.Maps
set_option linter.unusedVariables false
open Go.Proofs.YtgcenkmekpaapaaW.PrintWords Go.Proofs.YtgcenkmekpaapaaW.PrintLast Go.Proofs.YtgcenkmekpaapaaW.PrintMore
theorem RowIs.take {w : World} {a : Option Addr} {l : List Int} {cap m : Nat} (h : RowIs w a l cap) (hm : m ≤ l.length) : RowIs w a (l.take m) cap :=
  ⟨Kd.C_take h.row hm, by rw [List.length_take]; have := h.le; omega, h.cap_le⟩
theorem RowsAt.keep {w w' : World} {A : Option Addr} {n : Nat} {R : Nat → Rw} (h : RowsAt w A n R) (hb : Below w.heap.size w w') : RowsAt w' A n R :=
  ⟨h.max, fun h0 => by
    obtain ⟨b, o, e, hl, hc⟩ := h.there h0
    exact ⟨b, o, e, Nat.lt_of_lt_of_le hl hb.size, fun i hi => (hb.cell (p := ⟨b, _, none⟩) hl).trans (hc i hi)⟩, fun i hi => (h.each i hi).keep hb⟩
theorem StrsAt.keep {w w' : World} {A : Option Addr} {l : List ByteArray} (h : StrsAt w A l) (hb : Below w.heap.size w w') : StrsAt w' A l :=
  ⟨h.max, fun h0 => by
    obtain ⟨b, o, e, hl, hc⟩ := h.there h0
    exact ⟨b, o, e, Nat.lt_of_lt_of_le hl hb.size, fun i hi => (hb.cell (p := ⟨b, _, none⟩) hl).trans (hc i hi)⟩⟩
theorem cut_1000 {w : World} {a : Option Addr} {l : List Int} {cap : Nat} (h : RowIs w a l cap) (m : Nat) (hm : m ≤ l.length) : ∀ W : World, (Instr.slice 22 (.slice a l.length cap) none (some (.int .i64 m)) none).run Try.prog W = .ok (.slice a m cap) W := by
  obtain ⟨ji, hji, _⟩ := info_byte
  have e2 := cut_to (P := Try.prog) 22 5 .i64 (Try.underlying22) hji a l.length cap (m : Int) (by omega) (by omega) h.le
  rw [Int.toNat_natCast] at e2
  exact e2
section
variable {w0 w : World} {k N B : Nat} {D Dx : Dk}
theorem read_crashed {keep torn : Int} {M : Nat} (hat : DkAt w Dx) (gx : Good M B Dx) (g : Good N B D) (hM : M < 1048576) (hB : B ≤ 140737488355327) (hl : D.loose = []) (hs : D.sure = D.dir) (h : Crashed keep torn D Dx) {s : ByteArray} {f : Fl} (hf : f ∈ D.fs) (hd : D.dir s = some f.blk) :
    Calls Try.prog 15 #[P Dx.d, .string s] w fun e w' => ∃ A c, e = .returned (.tuple #[.slice A f.b.length c, .int .i64 0]) ∧ Kd.C kB w' A f.b.length f.b ∧ Fr Dx.own w w' := by
  obtain ⟨f', hf', h1, h2⟩ := h.there s f hf (by rw [g.again hl hs]; exact hd)
  have hz := codeE_there (D := Dx) (g.dirI s _ hd).1 (by rw [h1]; rfl) h.fails
  refine (read_st hat gx (live_of (by rw [h.cut]; omega) h.off) hM hB s).mono ?_
  rintro e w' ⟨v, b, rfl, hr, gg, _, hl2⟩
  obtain ⟨f2, hf2, hd2, rfl⟩ := hl2 hz
  rw [h1] at hd2
  injection hd2 with hd2
  obtain rfl := gx.uniq f' hf' f2 hf2 hd2
  obtain ⟨A, c, rfl⟩ := B_slice hr
  have hb : f'.b = f.b := by rw [h2, g.again_b hl hf]
  rw [hz]
  have h3 := (Kd.R_reads' hr).2.2
  rw [hb] at h3 ⊢
  exact ⟨A, c, rfl, h3, gg.fr⟩
theorem app_x (h : Dsk w0 w N B D) (hN : N < 1048576) (hB : B < 1099511627776) (s : ByteArray) :
    Calls Try.prog 9 #[P D.d, .string s, .slice (some ⟨w.heap.size, 0, none⟩) 1 1] (w.alloc (.cells #[.int .u8 120] 5 (1, 2))) fun e w' => ∃ (c : Int) (D' : Dk), e = .returned (.int .i64 c) ∧ Dsk w0 w' (N + 2) (B + 1) D' ∧ D'.d = D.d ∧ D'.sure = D.sure := by
  have h1 := h.new ((Below.refl _ w).alloc (Nat.le_refl _) (.cells #[.int .u8 120] 5 (1, 2)))
  refine (append_st h1.at_ h1.good h1.dead hN hB s (some ⟨w.heap.size, 0, none⟩) [120] 1 (by decide) (bytesK h.at_ [120] (1, 2) (by decide))).mono ?_
  rintro e w' ⟨es, D', hes, _, rfl, g, t⟩
  exact ⟨_, D', rfl, h1.to g t.stp (by omega) (by show B + 1 ≤ B + 1; omega), t.stp.same.2.2.1, t.stays⟩
theorem syn_x (h : Dsk w0 w N B D) (hN : N < 1048576) (s : ByteArray) :
    Calls Try.prog 10 #[P D.d, .string s] w fun e w' => ∃ (c : Int) (D' : Dk), e = .returned (.int .i64 c) ∧ Dsk w0 w' (N + 2) B D' ∧ D'.d = D.d ∧ D'.sure = D.sure := by
  refine (sync_st h.at_ h.good h.dead hN s).mono ?_
  rintro e w' ⟨c, D', rfl, g, t⟩
  exact ⟨_, D', rfl, h.to g (t.stp h.good) (by omega) (by omega), (t.stp h.good).same.2.2.1, t.stays⟩
theorem ren_x (h : Dsk w0 w N B D) (hN : N < 1048576) (s t : ByteArray) :
    Calls Try.prog 17 #[P D.d, .string s, .string t] w fun e w' => ∃ (c : Int) (D' : Dk), e = .returned (.int .i64 c) ∧ Dsk w0 w' (N + 2) B D' ∧ D'.d = D.d ∧ D'.sure = D.sure := by
  refine (rename_st h.at_ h.good h.dead hN s t).mono ?_
  rintro e w' ⟨D', rfl, g, t⟩
  exact ⟨_, D', rfl, h.to g t.stp (by omega) (by omega), t.stp.same.2.2.1, t.stays⟩
theorem fail_now (h : Dsk w0 w N B D) (hN : N < 1048576) :
    Calls Try.prog 12 #[P D.d, .slice (some ⟨w.heap.size, 0, none⟩) 1 1] (w.alloc (.cells #[.int .i64 D.ops] 3)) fun e w' => e = .returned (.tuple #[]) ∧ Dsk w0 w' (N + 2) B D.fail := by
  have hW := Fr.alloc [] w (.cells #[.int .i64 D.ops] 3)
  refine (fail_st (h.at_.new hW) h.good hN D.ops ⟨w.heap.size, 0, none⟩ 1 (WalkArith.wf_i64 (by have := h.good.ops0; have := h.good.opsN; omega)) ((cell_of (MapKept.heap_alloc w _).1 0).trans rfl) rfl).mono ?_
  rintro e w' ⟨rfl, gg⟩
  exact ⟨rfl, (h.new (hW.below (Nat.le_refl _) (fun _ h => by simp at h))).to gg (.failing (T := fun _ => True) (L := 0) D.ops) (by omega) (by omega)⟩
theorem dir_bad {blk : Nat} (h : Dsk w0 w N B D.fail) (hf : 0 < D.fail.fails D.fail.ops) (hN : N < 1048576) (hs : D.sure = onlyK blk) :
    Calls Try.prog 11 #[P D.d] w fun e w' => ∃ D', e = .returned (.int .i64 34) ∧ Dsk w0 w' (N + 2) B D' ∧ D'.d = D.d ∧ D'.dir = onlyK blk ∧ D'.sure = onlyK blk ∧ ∀ a ∈ D'.loose, isDir a = false := by
  refine (syncdir_st h.at_ h.good h.dead hN).mono ?_
  rintro e w' ⟨lv, m, rfl, g⟩
  have hd := h.to g (.synced (T := fun _ => True) (L := 0) lv m) (N' := N + 2) (B' := B) (by omega) (by omega)
  have he : D.fail.synced lv m = { D.fail with ops := D.fail.ops + 1, lv := lv, loose := D.fail.loose.filter (fun a => !isDir a), dm := m, dir := D.fail.sure } := by unfold Dk.synced; rw [if_pos hf]
  rw [if_pos hf]
  rw [he] at hd
  exact ⟨_, rfl, hd, rfl, hs, hs, filter_grows _⟩
theorem lists_onlyK (blk : Nat) : Lists (onlyK blk) [(sK, blk)] := by
  refine ⟨by simp, fun p hp => by rw [List.mem_singleton.1 hp]; exact name_max okK, fun s b _ => ?_⟩
  unfold onlyK
  constructor
  · intro h
    split at h
    · rename_i e; injection h with h; rw [e, h]; simp
    · cases h
  · intro h
    have := List.mem_singleton.1 h
    injection this with e1 e2
    rw [if_pos e1, e2]
theorem names_k {blk : Nat} (h : DkAt w D) (g : Good N B D) (hN : N < 1048576) (hd : ∀ s, (D.dir s).isSome = (onlyK blk s).isSome) :
    Calls Try.prog 18 #[P D.d] w fun e w' => ∃ b o c, e = .returned (.slice (some ⟨b, o, none⟩) 1 c) ∧ b < w'.heap.size ∧ w'.cell? ⟨b, o, none⟩ = some (.string sK) ∧ Below w.heap.size w w' := by
  obtain ⟨es, hes, hel⟩ := names_of h g
  have hn : nameL es = [sK] := by rw [nameL_same hes (lists_onlyK blk) hd, nameL_k]
  refine (names_calls h es hes (by omega)).mono ?_
  rintro e w' ⟨v, rfl, hr, hb⟩
  have hr' : Kd.R Kd.string 9 w' w.heap.size (fun _ => True) v (nameL es) := hr
  rw [hn] at hr'
  obtain ⟨A, c, rfl⟩ := Kd.R_slice hr'
  obtain ⟨b, o, rfl, hl, hc⟩ := lies_at (Kd.R_reads' hr').2.2 (by decide)
  exact ⟨b, o, c, rfl, hl, hc 0 (by decide), hb⟩
end
set_option maxHeartbeats 16000000 in
set_option maxRecDepth 100000 in
theorem fails_calls (w : World) (A0 A1 A2 : Option Addr) (l0 : List Int) (n1 c0 c1 c2 : Nat) (R1 : Nat → Rw) (l2 : List ByteArray) (h0 : RowIs w A0 l0 c0) (h1 : RowsAt w A1 n1 R1) (h2 : StrsAt w A2 l2) (keep torn : Int) :
    Calls Try.prog 3 #[.slice A0 l0.length c0, .slice A1 n1 c1, .slice A2 l2.length c2, .int .i64 keep, .int .i64 torn] w fun e w' => e = .returned (.bool true) ∧ Below w.heap.size w w' := by
  have H1 := hid h1
  have H2 := hid h2
  have hmx1 := h1.max
  have hmx2 := h2.max
  have hmx0 := Kd.C_max h0.row
  have hmi : min (l0.length : Int) 1000 = ((min l0.length 1000 : Nat) : Int) := by omega
  have hm1 : min l0.length 1000 ≤ 1000 := Nat.min_le_right _ _
  have hm2 : min l0.length 1000 ≤ l0.length := Nat.min_le_left _ _
  obtain ⟨m, hm⟩ : ∃ x, x = min l0.length 1000 := ⟨_, rfl⟩
  rw [← hm] at hmi hm1 hm2
  clear hm
  have e2 := cut_1000 h0 m hm2
  have HR0 := hid (h0.take hm2)
  have hml : (l0.take m).length = m := by rw [List.length_take]; omega
  obtain ⟨one, ho⟩ : ∃ x, x = l0.take m := ⟨_, rfl⟩
  rw [← ho] at HR0 hml
  have HML := hid hml
  clear ho hml h0 h1 h2
  go_enter Try.func3, Try.ntmps3
  go_upto_region 3 with (first | (go_at_call 7; refine (shown_calls _).mono ?_; rintro e w1 ⟨rfl, hb⟩; have B1 := hid hb; clear hb) | (go_at_call 8; refine (new_dsk _ w B1.out 1048576 (by omega)).mono ?_; rintro e w2 ⟨k, rfl, hd2⟩; have D2 := hid hd2; clear hd2))
  have hdn := d_nil w2 ⟨k + 3, 0, none⟩
  have HF1 := hid (fails_new D2.out HR0.out (by rw [HML.out]; exact hm1))
  rw [HML.out] at HF1
  go_upto_region 7 with (go_at_call 9; refine HF1.out.mono ?_; rintro e w3 ⟨D, blk, rfl, hd3, o3⟩; have D3 := hid hd3; have O3 := hid o3; clear hd3 o3)
  clear hdn HF1 D2 B1
  have HF2 := hid (fails_sync D3.out O3.out (by decide))
  go_upto_region 8 with (go_at_call 10; refine HF2.out.mono ?_; rintro e w4 ⟨D', rfl, hd4, o4⟩; have D4 := hid hd4; have O4 := hid o4; clear hd4 o4)
  clear HF2 D3 O3
  have HF3 := hid (fails_dir D4.out O4.out (by decide))
  go_upto_region 9 with (go_at_call 11; refine HF3.out.mono ?_; rintro e w5 ⟨D5, rfl, hd5, o5⟩; have D5s := hid hd5; have O5 := hid o5; clear hd5 o5)
  clear HF3 D4 O4
  go_wp2
  go_loopg [18] n1 (fun gg s18 wr => ∃ (kk : Nat) (D : Dk) (b : List Int), kk ≤ n1 ∧ kk ≤ 20 ∧ n1 - kk ≤ gg ∧ s18 = .int .i64 kk ∧ b.length ≤ 1000 * (kk + 1) ∧ Hid (b.take one.length = one) ∧ Hid (Dsk w wr (2 * (kk + 3)) (1000 * (kk + 1)) D) ∧ Hid (Firm k D blk b one.length))
  case atStart => exact ⟨0, _, one, Nat.zero_le _, Nat.zero_le _, by omega, rfl, by rw [HML.out]; omega, hid List.take_length, D5s, O5⟩
  case round =>
    clear D5s O5
    obtain ⟨kk, D, b, hkk, hk20, hg, rfl, hbl, HB, HD, HO⟩ := hrel
    by_cases hlt : kk < n1 ∧ kk < 20
    · obtain ⟨hlt, h20⟩ := hlt
      have hltz : (kk : Int) < (n1 : Int) := by omega
      have h20z : (kk : Int) < 20 := by omega
      obtain ⟨bb, bo, rfl, hbb, hcells⟩ := H1.out.there (by omega)
      have HI := hid (H1.out.each kk hlt)
      have hc := (HD.out.below.cell (p := ⟨bb, bo + kk, none⟩) hbb).trans (hcells kk hlt)
      obtain ⟨q, hq⟩ : ∃ q, q = R1 kk := ⟨_, rfl⟩
      rw [← hq] at HI hc
      clear hq hcells
      have hqi : min (q.b.length : Int) 1000 = ((min q.b.length 1000 : Nat) : Int) := by omega
      have hq1 : min q.b.length 1000 ≤ 1000 := Nat.min_le_right _ _
      have hq2 : min q.b.length 1000 ≤ q.b.length := Nat.min_le_left _ _
      obtain ⟨mq, hmq⟩ : ∃ x, x = min q.b.length 1000 := ⟨_, rfl⟩
      rw [← hmq] at hqi hq1 hq2
      clear hmq
      have e3 := cut_1000 HI.out mq hq2
      have hqmx := Kd.C_max HI.out.row
      have hql : (q.b.take mq).length = mq := by rw [List.length_take]; omega
      have HQR := hid (HI.out.take hq2)
      have HAP := hid (fun (W : World) (hW : Fr [] wr W) => fails_more (HD.out.new (hW.below (Nat.le_refl _) (fun _ h => by simp at h))) HO.out (by omega) (by omega) HQR.out (by rw [hql]; exact hq1) (by omega))
      rw [hql] at HAP
      have HQL := hid hql
      clear hql
      have HCC := hid hc
      go_upto_region 14 with fail
      go_region_held3 (fun w_ => w_.cell? ⟨bb, bo + kk, none⟩ = some (.slice q.at_ q.b.length q.cap)) (first | exact mm1 | go_keep) (first | (go_at_call 9; refine (HAP.out _ (Fr.refl [] wr).drew).mono ?_; rintro e w6 ⟨D6, rfl, hd6, o6⟩; have D6s := hid hd6; have O6 := hid o6; have mm1 : w6.cell? ⟨bb, bo + kk, none⟩ = some (.slice q.at_ q.b.length q.cap) := (hd6.below.cell (p := ⟨bb, bo + kk, none⟩) hbb).trans ((HD.out.below.cell (p := ⟨bb, bo + kk, none⟩) hbb).symm.trans HCC.out); clear hd6 o6))
      go_wp2
      go_roundg (n1 - (kk + 1))
      case measure => omega
      case rel => exact ⟨kk + 1, D6, _, by omega, by omega, by omega, by go_num, by rw [List.length_append, HQL.out]; omega, hid (by rw [List.take_append_of_le_length (by have := congrArg List.length HB.out; rw [List.length_take] at this; omega)]; exact HB.out), D6s, O6⟩
    · have H7 := hid (show Dsk w wr 46 21000 D from HD.out.mono (by omega) (by omega))
      have HG7 := hid H7.out.good
      have HOPS := hid (show Calls Try.prog 13 #[P (k + 3)] wr fun e w' => e = .returned (.int .i64 D.ops) ∧ w' = wr from by rw [← HO.out.hold.d]; exact ops_calls H7.out.at_)
      have HFA := hid (fun (A : Addr) (W : World) (hW : Fr [] wr W) (hA : W.cell? A = some (.int .i64 D.ops)) (hA0 : A.spot = none) => (show Calls Try.prog 12 #[P (k + 3), .slice (some A) 1 1] W fun e w' => e = .returned (.tuple #[]) ∧ Dsk w w' 48 21000 D.fail from by
        rw [← HO.out.hold.d]
        refine (fail_st (H7.out.at_.new hW) H7.out.good (by decide) D.ops A 1 (WalkArith.wf_i64 (by have := H7.out.good.ops0; have := H7.out.good.opsN; omega)) hA hA0).mono ?_
        rintro e w' ⟨rfl, gg⟩
        exact ⟨rfl, (H7.out.new (hW.below (Nat.le_refl _) (fun _ h => by simp at h))).to gg (.failing (T := fun _ => True) (L := 0) D.ops) (by omega) (by omega)⟩))
      rcases (by omega : (¬ (kk : Int) < (n1 : Int)) ∨ ((kk : Int) < (n1 : Int) ∧ ¬ (kk : Int) < 20)) with hx | ⟨hx, hx2⟩
      all_goals
        clear HD
        go_upto_region 18 with (first | (go_at_call 13; refine HOPS.out.mono ?_; rintro e w_ ⟨rfl, hww⟩; have hww2 := hww.symm; subst hww2) | (go_at_call 12; refine (HFA.out ⟨wr.heap.size, 0, none⟩ _ (Fr.alloc [] wr _) ((cell_of (MapKept.heap_alloc wr _).1 0).trans rfl) rfl).mono ?_; rintro e w8 ⟨rfl, hd8⟩; have D8 := hid hd8; clear hd8))
        have HBD := hid (fails_bad D8.out (HG7.out.mono (by omega) (by omega)) HO.out (by decide) one HB.out)
        go_upto_region 19 with (go_at_call 10; refine HBD.out.mono ?_; rintro e w9 ⟨D9, row9, rfl, hd9, i1, i2, i3, i4, i5⟩; have D9s := hid hd9; have I1 := hid i1; have I2 := hid i2; have I3 := hid i3; have I4 := hid i4; have I5 := hid i5; clear hd9 i1 i2 i3 i4 i5)
        clear HBD D8 HG7 HOPS HFA HO HB
        have HCR := hid (crash_good D9s.out.at_ D9s.out.good (by decide) (by decide) keep torn)
        rw [I1.out] at HCR
        go_upto_region 20 with (go_at_call 14; refine HCR.out.mono ?_; rintro e w10 ⟨Dx, rfl, a1, a2, a3, a4, a5, a6⟩; have HX1 := hid a1; have HX2 := hid a2; have HX3 := hid a3; have HX4 := hid a4; have HX5 := hid a5; clear a1 a2 a3 a4 a5 a6)
        clear HCR
        have HF9 := hid (show (⟨blk, row9, one, one.length⟩ : Fl) ∈ D9.fs from by rw [I4.out]; simp)
        have HD9 := hid (show D9.dir sK = some (⟨blk, row9, one, one.length⟩ : Fl).blk from by rw [I2.out]; simp [onlyK])
        have HRX := hid (read_crashed HX1.out HX2.out D9s.out.good (by decide) (by decide) I5.out (by rw [I3.out, I2.out]) HX3.out HF9.out HD9.out)
        rw [show (⟨blk, row9, one, one.length⟩ : Fl).b.length = m from HML.out, show (⟨blk, row9, one, one.length⟩ : Fl).b = one from rfl] at HRX
        go_upto_region 21 with (go_at_call 15; refine HRX.out.mono ?_; rintro e w11 ⟨A11, c11, rfl, hc11, hf11⟩; have C11 := hid hc11; have F11 := hid hf11; clear hc11 hf11)
        clear HRX
        have B11 := hid (HX4.out.trans (F11.out.below HX4.out.size HX5.out))
        have D11 := hid (D9s.out.new B11.out)
        have HSZ := hid (show Calls Try.prog 16 #[P (k + 3), .string sK] w11 fun e w' => e = .returned (.int .i64 m) ∧ w' = w11 from by
          have h := size_st D11.out.at_ D11.out.good HF9.out HD9.out
          rw [I1.out, show (⟨blk, row9, one, one.length⟩ : Fl).b.length = m from HML.out] at h
          exact h)
        have q1 := Kd.C_string (P := Try.prog) (src := 22) (dst := 9) (e := 5) (c := c11) Try.underlying22 Try.underlying5 Try.underlying9 C11.out
        have q2 := Kd.C_string (P := Try.prog) (src := 22) (dst := 9) (e := 5) (c := c0) Try.underlying22 Try.underlying5 Try.underlying9 (HR0.out.keep D11.out.below).row
        rw [HML.out] at q2
        obtain ⟨SS, hSS⟩ : ∃ S, S = strOfNums one := ⟨_, rfl⟩
        rw [← hSS] at q1 q2
        clear hSS
        go_upto_region 23 with (go_at_call 16; refine HSZ.out.mono ?_; rintro e w_ ⟨rfl, hww⟩; have hww2 := hww.symm; subst hww2)
        clear q1 q2 HSZ C11 F11 HX1 HX2 HX3 HX4 HX5 B11 D9s HF9 HD9 I4 I5 I2
        go_wp2
        go_loopg [24] l2.length (fun gg s24 wq => ∃ (jj : Nat) (E : Dk), jj ≤ l2.length ∧ jj ≤ 20 ∧ l2.length - jj ≤ gg ∧ s24 = .int .i64 jj ∧ Hid (Dsk w wq (50 + 8 * jj) (21000 + jj) E) ∧ Hid (E.d = k + 3) ∧ Hid (E.sure = onlyK blk))
        case atStart => exact ⟨0, _, Nat.zero_le _, Nat.zero_le _, by omega, rfl, D11, I1, I3⟩
        case round =>
          clear D11 I1 I3
          obtain ⟨jj, E, hjj, hj20, hgj, rfl, HE, HEd, HEs⟩ := hrel
          by_cases hlt2 : jj < l2.length ∧ jj < 20
          · obtain ⟨hlt2, h202⟩ := hlt2
            have hltz2 : (jj : Int) < (l2.length : Int) := by omega
            have h20z2 : (jj : Int) < 20 := by omega
            obtain ⟨b2, o2, rfl, hb2, hcells2⟩ := H2.out.there (by omega)
            have HC2 := hid (fun (W : World) (hW : Below w.heap.size w W) => (hW.cell (p := ⟨b2, o2 + jj, none⟩) hb2).trans (hcells2 jj hlt2))
            have HC3 := hid (fun (W : World) (hW : Below w.heap.size w W) (h1 : 0 < jj) => (hW.cell (p := ⟨b2, o2 + (jj - 1), none⟩) hb2).trans (hcells2 (jj - 1) (by omega)))
            obtain ⟨t, ht⟩ : ∃ t, t = l2.getD jj ByteArray.empty := ⟨_, rfl⟩
            obtain ⟨t1, ht1⟩ : ∃ t, t = l2.getD (jj - 1) ByteArray.empty := ⟨_, rfl⟩
            rw [← ht] at HC2
            rw [← ht1] at HC3
            clear ht ht1 hcells2
            have cl := conv_lit wr #[.int .u8 120] 1 1
            have ce := HC2.out wr HE.out.below
            have HAX := hid (app_x HE.out (by omega) (by omega) t)
            rw [HEd.out] at HAX
            go_upto_region 27 with (go_at_call 9; refine HAX.out.mono ?_; rintro e w12 ⟨cA, E1, rfl, a1, a2, a3⟩; have E1s := hid a1; have E1d := hid a2; have E1u := hid (a3.trans HEs.out); clear a1 a2 a3)
            clear cl ce HAX
            have ce := HC2.out w12 E1s.out.below
            have HSX := hid (syn_x E1s.out (by omega) t)
            rw [E1d.out] at HSX
            go_upto_region 28 with (go_at_call 10; refine HSX.out.mono ?_; rintro e w13 ⟨cB, E2, rfl, a1, a2, a3⟩; have E2s := hid a1; have E2d := hid a2; have E2u := hid (a3.trans E1u.out); clear a1 a2 a3)
            clear ce HSX E1s E1d E1u HE HEd HEs
            have HDONE := hid (show 50 + 8 * jj + 2 + 2 + 2 + 2 ≤ 50 + 8 * (jj + 1) ∧ 21000 + jj + 1 ≤ 21000 + (jj + 1) from by omega)
            rcases (by omega : (((jj : Int) % 2 = 1 ∧ (jj : Int) % 5 = 4) ∨ ((jj : Int) % 2 = 1 ∧ ¬ (jj : Int) % 5 = 4)) ∨ ((¬ (jj : Int) % 2 = 1 ∧ (jj : Int) % 5 = 4) ∨ (¬ (jj : Int) % 2 = 1 ∧ ¬ (jj : Int) % 5 = 4))) with (⟨r2, r5⟩ | ⟨r2, r5⟩) | ⟨r2, r5⟩ | ⟨r2, r5⟩
            · have hj1 : 0 < jj := by omega
              have k1 : w13.cell? ⟨b2, o2 + jj, none⟩ = some (.string t) := HC2.out w13 E2s.out.below
              have k2 : w13.cell? ⟨b2, o2 + (jj - 1), none⟩ = some (.string t1) := HC3.out w13 E2s.out.below hj1
              have HRX := hid (fun (W : World) (hW : Fr [] w13 W) => ren_x (E2s.out.new (hW.below (Nat.le_refl _) (fun _ h => by simp at h))) (by omega) t t1)
              rw [E2d.out] at HRX
              have hs1 : wrap64 ((jj : Int) - 1) = ((jj - 1 : Nat) : Int) := by unfold wrap64; omega
              have hs2 : IntKind.i64.wrap ((jj : Int) - 1) = ((jj - 1 : Nat) : Int) := by rw [IntKind.wrap_i64]; omega
              have hs3 : ((jj - 1 : Nat) : Int) < (l2.length : Int) := by omega
              go_upto_region 29 with fail
              go_region_held3 (fun w_ => w_.cell? ⟨b2, o2 + jj, none⟩ = some (.string t) ∧ w_.cell? ⟨b2, o2 + (jj - 1), none⟩ = some (.string t1)) (first | exact ⟨mk1, mk2⟩ | go_keep) (first | (go_at_call 17; refine (HRX.out _ (Fr.refl [] w13).drew).mono ?_; rintro e w14 ⟨cC, E3, rfl, a1, a2, a3⟩; have E3s := hid a1; have E3d := hid a2; have E3u := hid (a3.trans E2u.out); have mk1 : w14.cell? ⟨b2, o2 + jj, none⟩ = some (.string t) := HC2.out w14 E3s.out.below; have mk2 : w14.cell? ⟨b2, o2 + (jj - 1), none⟩ = some (.string t1) := HC3.out w14 E3s.out.below hj1; clear a1 a2 a3))
              have HRY := hid (ren_x E3s.out (by omega) sK ⟨#[111, 116, 104, 101, 114]⟩)
              rw [E3d.out] at HRY
              go_wp2_with (go_at_call 17; refine HRY.out.mono ?_; rintro e w15 ⟨cD, E4, rfl, a1, a2, a3⟩; have E4s := hid a1; have E4d := hid a2; have E4u := hid (a3.trans E3u.out); clear a1 a2 a3)
              go_roundg (l2.length - (jj + 1))
              case measure => omega
              case rel => exact ⟨jj + 1, E4, by omega, by omega, by omega, by go_num, hid (E4s.out.mono (by omega) (by omega)), E4d, E4u⟩
            · have hj1 : 0 < jj := by omega
              have k1 : w13.cell? ⟨b2, o2 + jj, none⟩ = some (.string t) := HC2.out w13 E2s.out.below
              have k2 : w13.cell? ⟨b2, o2 + (jj - 1), none⟩ = some (.string t1) := HC3.out w13 E2s.out.below hj1
              have HRX := hid (fun (W : World) (hW : Fr [] w13 W) => ren_x (E2s.out.new (hW.below (Nat.le_refl _) (fun _ h => by simp at h))) (by omega) t t1)
              rw [E2d.out] at HRX
              have hs1 : wrap64 ((jj : Int) - 1) = ((jj - 1 : Nat) : Int) := by unfold wrap64; omega
              have hs2 : IntKind.i64.wrap ((jj : Int) - 1) = ((jj - 1 : Nat) : Int) := by rw [IntKind.wrap_i64]; omega
              have hs3 : ((jj - 1 : Nat) : Int) < (l2.length : Int) := by omega
              go_upto_region 29 with fail
              go_region_held3 (fun w_ => w_.cell? ⟨b2, o2 + jj, none⟩ = some (.string t) ∧ w_.cell? ⟨b2, o2 + (jj - 1), none⟩ = some (.string t1)) (first | exact ⟨mk1, mk2⟩ | go_keep) (first | (go_at_call 17; refine (HRX.out _ (Fr.refl [] w13).drew).mono ?_; rintro e w14 ⟨cC, E3, rfl, a1, a2, a3⟩; have E3s := hid a1; have E3d := hid a2; have E3u := hid (a3.trans E2u.out); have mk1 : w14.cell? ⟨b2, o2 + jj, none⟩ = some (.string t) := HC2.out w14 E3s.out.below; have mk2 : w14.cell? ⟨b2, o2 + (jj - 1), none⟩ = some (.string t1) := HC3.out w14 E3s.out.below hj1; clear a1 a2 a3))
              go_wp2
              go_roundg (l2.length - (jj + 1))
              case measure => omega
              case rel => exact ⟨jj + 1, E3, by omega, by omega, by omega, by go_num, hid (E3s.out.mono (by omega) (by omega)), E3d, E3u⟩
            · have HRX := hid (ren_x E2s.out (by omega) sK ⟨#[111, 116, 104, 101, 114]⟩)
              rw [E2d.out] at HRX
              go_wp2_with (go_at_call 17; refine HRX.out.mono ?_; rintro e w14 ⟨cC, E3, rfl, a1, a2, a3⟩; have E3s := hid a1; have E3d := hid a2; have E3u := hid (a3.trans E2u.out); clear a1 a2 a3)
              go_roundg (l2.length - (jj + 1))
              case measure => omega
              case rel => exact ⟨jj + 1, E3, by omega, by omega, by omega, by go_num, hid (E3s.out.mono (by omega) (by omega)), E3d, E3u⟩
            · go_wp2
              go_roundg (l2.length - (jj + 1))
              case measure => omega
              case rel => exact ⟨jj + 1, E2, by omega, by omega, by omega, by go_num, hid (E2s.out.mono (by omega) (by omega)), E2d, E2u⟩
          · have H7 := hid (show Dsk w wr 210 21020 E from HE.out.mono (by omega) (by omega))
            have HFN := hid (fail_next H7.out.good)
            have HOPS := hid (ops_calls H7.out.at_)
            have HFA := hid (fail_now H7.out (by decide))
            rw [HEd.out] at HOPS HFA
            clear HE
            rcases (by omega : (¬ (jj : Int) < (l2.length : Int)) ∨ ((jj : Int) < (l2.length : Int) ∧ ¬ (jj : Int) < 20)) with hx2 | ⟨hx2, hx3⟩
            all_goals
              go_upto_region 33 with (first | (go_at_call 13; refine HOPS.out.mono ?_; rintro e w_ ⟨rfl, hww⟩; have hww2 := hww.symm; subst hww2) | (go_at_call 12; refine HFA.out.mono ?_; rintro e w21 ⟨rfl, hd8⟩; have D21 := hid hd8; clear hd8))
              have HSD := hid (dir_bad D21.out HFN.out (by decide) HEs.out)
              rw [HEd.out] at HSD
              clear HOPS HFA H7
              go_upto_region 34 with (go_at_call 11; refine HSD.out.mono ?_; rintro e w22 ⟨D22, rfl, a1, a2, a3, a4, a5⟩; have D22s := hid a1; have D22d := hid a2; have D22n := hid a3; have D22u := hid a4; have D22l := hid a5; clear a1 a2 a3 a4 a5)
              have HCR := hid (crash_good D22s.out.at_ D22s.out.good (by decide) (by decide) keep torn)
              rw [D22d.out] at HCR
              clear HSD D21
              go_upto_region 35 with (go_at_call 14; refine HCR.out.mono ?_; rintro e w23 ⟨Dy, rfl, a1, a2, a3, a4, a5, a6⟩; have HY1 := hid a1; have HY2 := hid a2; have HY3 := hid a3; have HY4 := hid a4; clear a1 a2 a3 a4 a5 a6)
              have HNY := hid (names_k (blk := blk) HY1.out HY2.out (by decide) (fun s => by rw [HY3.out.isSome D22s.out.good, dirU_grows D22l.out, D22u.out]))
              have HND := hid (fun (W : World) (hW : Below w23.heap.size w23 W) => (show Calls Try.prog 18 #[P (k + 3)] W _ from by
                have h := names_k (blk := blk) ((D22s.out.new HY4.out).new hW).at_ D22s.out.good (by decide) (fun s => by rw [D22n.out])
                rw [D22d.out] at h
                exact h))
              clear HCR
              go_upto_region 36 with (go_at_call 18; (with_reducible refine HNY.out.mono ?_); rintro e w24 ⟨b24, o24, c24, rfl, hl24, hc24, hb24⟩; have L24 := hid hl24; have C24 := hid hc24; have B24 := hid hb24; clear hl24 hc24 hb24)
              clear HNY
              have HND2 := hid (HND.out w24 B24.out)
              go_upto_region 37 with (go_at_call 18; refine HND2.out.mono ?_; rintro e w25 ⟨b25, o25, c25, rfl, hl25, hc25, hb25⟩; have C25 := hid hc25; have B25 := hid hb25; clear hl25 hc25 hb25)
              have z1 : w25.cell? ⟨b25, o25, none⟩ = some (.string sK) := C25.out
              have z2 : w25.cell? ⟨b24, o24, none⟩ = some (.string sK) := (B25.out.cell (p := ⟨b24, o24, none⟩) L24.out).trans C24.out
              have BF := hid (((D22s.out.below.trans (HY4.out.mono D22s.out.below.size)).trans (B24.out.mono (Nat.le_trans D22s.out.below.size HY4.out.size))).trans (B25.out.mono (Nat.le_trans (Nat.le_trans D22s.out.below.size HY4.out.size) B24.out.size)))
              clear HND HND2 HY1 HY2 HY3 HY4 D22s D22d D22n D22u D22l B24 B25 C24 C25 L24
              go_wp2
              go_ret
              exact ⟨rfl, BF.out⟩
end Go.Proofs.Ytgcenkmekpaapaa.L
