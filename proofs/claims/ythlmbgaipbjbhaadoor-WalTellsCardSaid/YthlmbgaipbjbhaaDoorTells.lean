/- WalTells walked. -/
import Derived.Test.YthlmbgaipbjbhaaDoorTellsA
import Derived.Test.YthlmbgaipbjbhaaDoorShow
namespace Go.Proofs.YthlmbgaipbjbhaaDoor.L
open Go.RowKit Go.Lib Go.Maps Go.Proofs.YthlmbgaipbjbhaaDoor.P
open Go.Proofs.YthlmbgaipbjbhaaDoorW.PrintWords Go.Proofs.YthlmbgaipbjbhaaDoorW.PrintLast Go.Proofs.YthlmbgaipbjbhaaDoorW.PrintMore
set_option linter.unusedVariables false
set_option linter.unusedSimpArgs false
theorem tells_g {g n : Nat} (h : g ≤ n) (hn : n < 10) : g < 4294967296 := by omega
theorem tells_m {M n : Nat} (h : M ≤ 16 * n) (hn : n < 10) : M + 40 < 1048576 := by omega
theorem tells_e {e g n : Nat} (h : e ≤ g * 7277) (hg : g ≤ n) (hn : n < 10) : e + 7277 ≤ 4194304 := by omega
theorem tells_m2 {M n : Nat} (h : M ≤ 16 * n) : M + 16 ≤ 16 * (n + 1) := by omega
theorem tells_me {n g : Nat} (h : 10 - n ≤ g) (hn : n < 10) : 10 - (n + 1) < g := by omega
theorem tells_z {n : Nat} (hn : n < 10) : (n : Int) < 10 := by omega
theorem tells_nz {n : Nat} (hn : ¬ n < 10) : ¬ (n : Int) < 10 := by omega
theorem tells_j {n : Nat} (hn : n < 10) : wrap64 ((n : Int) + 1) = ((n + 1 : Nat) : Int) := by unfold wrap64; omega
theorem tells_10 {M n : Nat} (h : M ≤ 16 * n) (hn : n ≤ 10) : M ≤ 160 := by omega
theorem tells_ee {e g : Nat} (h : e ≤ g * 7277) (hg : g ≤ 10) : e + 1000 ≤ 4194304 := by omega
abbrev tTorn : List ByteArray := [⟨#[116, 111, 114, 110]⟩, ⟨#[116, 97, 105, 108]⟩, ⟨#[111, 102, 32, 97, 32, 103, 114, 111, 117, 112, 32, 116, 104, 97, 116, 32, 109, 97, 121, 32, 110, 111, 116, 32, 115, 116, 97, 110, 100]⟩]
theorem gokTorn : GOk tTorn := ⟨by decide, by decide⟩
theorem lenTorn : (enc tTorn).length ≤ 1000 := Nat.le_trans gokTorn.enc (by decide)
theorem same_C {w : World} {G : List (List ByteArray)} {A A2 : Option Addr} {c c2 : Nat} (h : Kd.C kG w A G.length G) (hc : G.length ≤ c) (h2 : ∃ A' c', Value.slice A2 G.length c2 = .slice A' G.length c' ∧ G.length ≤ c' ∧ Kd.C kG w A' G.length G) (hl : G.length < 4294967296) (hG : ∀ g ∈ G, GOk g) :
    Calls Tryd.prog 14 #[.slice A G.length c, .slice A2 G.length c2] w fun e w' => e = .returned (.bool true) ∧ Drawn0 w w' := by
  obtain ⟨K, hK⟩ := (same_ev G G hl (fun g hg => by have := (hG g hg).1; omega)).rounds
  obtain ⟨A', c', he, h3, h4⟩ := h2
  injection he with e1 _ e2
  subst e1
  subst e2
  rw [decide_eq_true (rfl : G = G)] at hK
  exact tussocklaw05_same.calls K A c G A2 c2 G true _ h hc h4 h3 hK
set_option maxHeartbeats 32000000 in
set_option maxRecDepth 100000 in
theorem tells_calls (w : World) (hL : Laid w) (A : Option Addr) (n cap : Nat) (Q : Nat → Op) (hA : OpsAt w A n Q) (keep torn file at_ y : Int) (htw : (Lit.int .i64 torn).wf = true) (hfw : (Lit.int .i64 file).wf = true) (haw : (Lit.int .i64 at_).wf = true) (hyw : (Lit.int .u8 y).wf = true) :
    Calls Tryd.prog 6 #[.slice A n cap, .int .i64 keep, .int .i64 torn, .int .i64 file, .int .i64 at_, .int .u8 y] w fun e w' => e = .returned (.bool true) ∧ Below w.heap.size w w' := by
  have HL := hid hL
  have HA := hid hA
  have HP6 := hid (fun W => pick_calls torn 6 htw (by omega) W)
  have HFW := hid hfw
  have HAW := hid haw
  have HY := hid (show 0 ≤ y ∧ y < 256 from by simp [Lit.wf, IntKind.min, IntKind.max, IntKind.bits, IntKind.signed] at hyw; omega)
  clear hL hA htw hfw haw hyw
  go_enter Tryd.func6, Tryd.ntmps6
  go_upto_region 2 with (go_at_call 8; refine (shown_calls w HL.out).mono ?_; rintro e w1 ⟨rfl, hb1⟩; have HB1 := hid hb1; clear hb1)
  go_upto_region 5 with (go_at_call 15; refine (begun_calls w w1 HB1.out).mono ?_; rintro e w2 ⟨x, k, D, rfl, hb2, dw2, lw2, hx2, hxg, hxo, hxb, hon, hcalm⟩; have HW := hid (Wx.start dw2 lw2 hx2 hxg hxo hon hcalm); have HLW := hid lw2; have HCA := hid (And.intro hcalm.cut hcalm.off); clear hb2 dw2 lw2 hx2 hxg hxo hxb hon hcalm)
  go_upto_block 0 with fail
  go_cut [16] (fun v16 wc => ∃ (M : Nat) (D : Dk) (vg : Value) (G : List (List ByteArray)), Hid (M ≤ 160) ∧ Hid (Wx w wc M D k k x vg G) ∧ Hid (Lw w wc D k nLog G) ∧ Hid (G.length ≤ 10))
  case first =>
    go_wp2_with fail
    go_loopg [16] 10 (fun gg s16 wr => ∃ (nn M : Nat) (D : Dk) (vg : Value) (G : List (List ByteArray)), nn ≤ 10 ∧ 10 - nn ≤ gg ∧ s16 = .int .i64 nn ∧ Hid (M ≤ 16 * nn) ∧ Hid (Wx w wr M D k k x vg G) ∧ Hid (Lw w wr D k nLog G) ∧ Hid (D.cut < 0 ∧ D.off = false) ∧ Hid (G.length ≤ nn))
    case atStart => exact ⟨0, 0, D, _, [], Nat.zero_le _, Nat.le_refl _, rfl, hid (Nat.le_refl _), HW, HLW, HCA, hid (Nat.le_refl _)⟩
    case round =>
      clear HW HLW HCA HB1
      obtain ⟨nn, M, D3, vg3, G3, hnn, hgn, rfl, HM, HW6, HLW6, HC6, HG6⟩ := hrel
      by_cases hj1 : nn < n
      · have hj1z : (nn : Int) < (n : Int) := Int.ofNat_lt.2 hj1
        by_cases hj2 : nn < 10
        · have hj2z := tells_z hj2
          obtain ⟨b2, o2, rfl, hb2, hcells2⟩ := HA.out.there (Nat.lt_of_le_of_lt (Nat.zero_le _) hj1)
          have hop := hcells2 nn hj1
          have HOI := hid (HA.out.each nn hj1)
          clear hcells2
          generalize Q nn = p at HOI hop
          have HB2 := hid (show ∀ W : World, Below w.heap.size w W → W.cell? ⟨b2, o2 + nn * 4, none⟩ = some (.int .i64 p.kind) ∧ W.cell? ⟨b2, o2 + nn * 4 + 1, none⟩ = some (.slice p.at_ p.l.length p.cap) ∧ W.cell? ⟨b2, o2 + nn * 4 + 2, none⟩ = some (.int .i64 p.n) ∧ W.cell? ⟨b2, o2 + nn * 4 + 3, none⟩ = some (.int .i64 p.torn) from fun W hW =>
            ⟨(Below.cell hW (a := ⟨b2, o2 + nn * 4, none⟩) hb2).trans hop.c0, (Below.cell hW (a := ⟨b2, o2 + nn * 4 + 1, none⟩) hb2).trans hop.c1, (Below.cell hW (a := ⟨b2, o2 + nn * 4 + 2, none⟩) hb2).trans hop.c2, (Below.cell hW (a := ⟨b2, o2 + nn * 4 + 3, none⟩) hb2).trans hop.c3⟩)
          clear hop hb2
          obtain ⟨e0, e1, e2, e3⟩ := HB2.out wr HW6.out.dw.bel
          have hjz := tells_j hj2
          have HBE := hid (behind_calls wr x D3.d k vg3 (.slice none 0 0) false G3 HW6.out.obj (fun j => j ∉ x :: k :: D3.own) (fun j hj hm => Nat.lt_irrefl _ (Nat.lt_of_lt_of_le (HW6.out.olt j hm) hj)) HW6.out.row.1 (tells_g HG6.out hj2) p (HOI.out.keep HW6.out.dw.bel))
          go_upto_region 9 with (go_at_call 18; refine HBE.out.mono ?_; rintro e wb ⟨v8, rfl, hr8, hb8⟩; obtain ⟨A8, c8, rfl⟩ := Kd.R_slice hr8; have HR8 := hid hr8; have HB8 := hid hb8; clear hr8 hb8)
          clear e0 e1 e2 e3 HBE
          have HW7 := hid (HW6.out.new (Fr.of_below HB8.out []))
          obtain ⟨e0, e1, e2, e3⟩ := HB2.out wb HW7.out.dw.bel
          have HT7 := hid (show Wr wb (x :: k :: D3.own) (.slice A8 (nxt p G3).length c8) (nxt p G3) from HW6.out.row.nxt HR8.out)
          have HLA := hid (lay_calls HW7.out.dw (HLW6.out.new (Fr.of_below HB8.out [])) HL.out (tells_m HM.out hj2) (by decide) namedLog [nLog, nLog2] HW7.out.only (by simp) (by simp) vg3 none 0 [] false HW7.out.obj HW7.out.xoff (fun W _ => ⟨rfl, by simp, fun h => by simp at h⟩) (by decide) p HOI.out (tells_e HW7.out.row.2.2 HG6.out hj2) (R := 12582912) (by decide))
          go_upto_region 10 with (go_at_call 19; refine HLA.out.mono ?_; intro e w9 hl9; obtain ⟨D9, rfl, hw9, hd9, hf9, ho9, hlw9, hc9, hof9⟩ := HW7.out.of_lay2 HC6.out.1 HC6.out.2 hl9; have HW9 := hid hw9; have HF9 := hid hf9; have HO9 := hid ho9; have HLW9 := hid hlw9; have HC9 := hid (And.intro hc9 hof9); clear hl9 hw9 hd9 hf9 ho9 hlw9 hc9 hof9)
          clear e0 e1 e2 e3 HLA HB2
          have HT9 := hid (HT7.out.to (own' := x :: k :: D9.own) HF9.out (fun j hj => List.mem_cons_of_mem _ hj) (fun j hj => by
            rcases List.mem_cons.1 hj with e | hj
            · exact .inl (by rw [e]; exact List.mem_cons_self)
            · rcases List.mem_cons.1 hj with e | hj
              · exact .inl (by rw [e]; simp)
              · exact (HO9.out j hj).elim (fun e => .inl (List.mem_cons_of_mem _ (List.mem_cons_of_mem _ e))) .inr))
          have HLN := hid (show (nxt p G3).length ≤ nn + 1 from Nat.le_trans nxt_len (Nat.succ_le_succ HG6.out))
          have hfz := HW9.out.free 2
          have p2 := HW9.out.c2
          have hxk : k ∉ [x] := fun hm => HW9.out.xoff (by rw [List.mem_singleton.1 hm]; exact List.mem_cons_self)
          go_wp2
          go_roundg (10 - (nn + 1))
          case measure => exact tells_me hgn hj2
          case rel => exact ⟨nn + 1, M + 16, D9, .slice A8 (nxt p G3).length c8, nxt p G3, hj2, Nat.le_refl _, (by first | rfl | rw [hjz]), hid (tells_m2 HM.out), hid (HW9.out.setg HT9.out).1, hid (HLW9.out.fr (HW9.out.setg HT9.out).2 hxk), HC9, HLN⟩
        · have hj2z := tells_nz hj2
          go_wp2
          go_meet
          case rel => exact ⟨M, D3, vg3, G3, hid (tells_10 HM.out hnn), HW6, HLW6, hid (Nat.le_trans HG6.out hnn)⟩
      · have hj1z : ¬ (nn : Int) < (n : Int) := fun h => hj1 (Int.ofNat_lt.1 h)
        go_wp2
        go_meet
        case rel => exact ⟨M, D3, vg3, G3, hid (tells_10 HM.out hnn), HW6, HLW6, hid (Nat.le_trans HG6.out hnn)⟩
  case rest =>
    obtain ⟨M, D3, vg3, G3, HM, HW3, HLW3, HG3⟩ := hcut
    clear HW HLW HCA HB1
    have hnz : (0 : Int) ≤ (n : Int) := Int.natCast_nonneg n
    go_upto_if 74 with fail
    go_cut [20] (fun v20 wc => ∃ (M : Nat) (D : Dk) (vg : Value) (G T : List (List ByteArray)), Hid (M ≤ 176) ∧ Hid (Wx w wc M D k k x vg G) ∧ Hid (Cuts D nLog (fun o => Reads (o.getD []) G ∨ Reads (o.getD []) T)) ∧ Hid (∀ g ∈ T, GOk g) ∧ Hid (G.length ≤ 11 ∧ T.length ≤ 11))
    case first =>
      by_cases hn0 : 0 < n
      · have hn0z : (0 : Int) < (n : Int) := Int.ofNat_lt.2 hn0
        obtain ⟨D, hD⟩ : ∃ D, D = D3 := ⟨_, rfl⟩
        rw [← hD] at HW3 HLW3
        clear hD
        have HW4 := HW3
        have HLW4 := HLW3
        go_upto_region 14 with fail
        clear HW3 HLW3
        have HW3 := hid (HW4.out.new (Fr.refl [] wc).drew)
        have HLW3 := hid (HLW4.out.new (Fr.refl [] wc).drew)
        have HD3 := hid HW3.out.dw.at_
        have p0 : wc.drew.cell? ⟨x, 0, none⟩ = some (P D.d) := HW4.out.c0
        refine start_ (n := 13) (S := fun w' => w'.cell? ⟨x, 0, none⟩ = some (P D.d)) (ds := []) #[false, false, false, false, false, false, false, false, false, false, false, false, false] (by kernel_rfl) rfl rfl p0 (fun hHeld => ?_)
        refine pure_ (i := 0) (N := some 75) (v := ?_) (a' := ?_) #[true, false, false, false, false, false, false, false, false, false, false, false, false] rfl rfl (by kernel_rfl) (fun _ _ _ h => h) (Or.inl ⟨by rfl, ?_⟩) ?_ ?_
        rotate_left
        · intro w'
          go_simp
          with_reducible rfl
        rotate_left
        · simp only [Act.put, List.setIfInBounds_toArray, List.set_cons_zero, List.set_cons_succ, i64_w, i32_w]
          rfl
        refine pure_ (i := 1) (N := some 76) (v := ?_) (a' := ?_) #[true, true, false, false, false, false, false, false, false, false, false, false, false] rfl rfl (by kernel_rfl) (fun _ _ _ h => h) (Or.inl ⟨by rfl, ?_⟩) ?_ ?_
        rotate_left
        · intro w'
          go_simp
          with_reducible rfl
        rotate_left
        · simp only [Act.put, List.setIfInBounds_toArray, List.set_cons_zero, List.set_cons_succ, i64_w, i32_w]
          rfl
        refine pure_ (i := 2) (N := some 77) (v := ?_) (a' := ?_) #[true, true, true, false, false, false, false, false, false, false, false, false, false] rfl rfl (by kernel_rfl) (fun _ _ _ h => h) (Or.inl ⟨by rfl, ?_⟩) ?_ ?_
        rotate_left
        · intro w'
          go_simp
          with_reducible rfl
        rotate_left
        · simp only [Act.put, List.setIfInBounds_toArray, List.set_cons_zero, List.set_cons_succ, i64_w, i32_w]
          rfl
        refine take_ (i := 3) (N := some 78) (v := ?_) (a' := ?_) #[true, true, true, true, false, false, false, false, false, false, false, false, false] rfl rfl (by kernel_rfl) (fun _ _ _ h => h) (Or.inl ⟨by rfl, ?_⟩) hHeld ?_ ?_
        rotate_left
        · intro w' s0
          go_simp
          with_reducible rfl
        rotate_left
        · simp only [Act.put, List.setIfInBounds_toArray, List.set_cons_zero, List.set_cons_succ, i64_w, i32_w]
          rfl
        refine pure_ (i := 4) (N := some 79) (v := ?_) (a' := ?_) #[true, true, true, true, true, false, false, false, false, false, false, false, false] rfl rfl (by kernel_rfl) (fun _ _ _ h => h) (Or.inl ⟨by rfl, ?_⟩) ?_ ?_
        rotate_left
        · intro w'
          go_simp
          with_reducible rfl
        rotate_left
        · simp only [Act.put, List.setIfInBounds_toArray, List.set_cons_zero, List.set_cons_succ, i64_w, i32_w]
          rfl
        refine pure_ (i := 5) (N := some 80) (v := ?_) (a' := ?_) #[true, true, true, true, true, true, false, false, false, false, false, false, false] rfl rfl (by kernel_rfl) (fun _ _ _ h => h) (Or.inl ⟨by rfl, ?_⟩) ?_ ?_
        rotate_left
        · intro w'
          go_simp
          with_reducible rfl
        rotate_left
        · simp only [Act.put, List.setIfInBounds_toArray, List.set_cons_zero, List.set_cons_succ, i64_w, i32_w]
          rfl
        refine pure_ (i := 6) (N := some 81) (v := ?_) (a' := ?_) #[true, true, true, true, true, true, true, false, false, false, false, false, false] rfl rfl (by kernel_rfl) (fun _ _ _ h => h) (Or.inl ⟨by rfl, ?_⟩) ?_ ?_
        rotate_left
        · intro w'
          go_simp
          with_reducible rfl
        rotate_left
        · simp only [Act.put, List.setIfInBounds_toArray, List.set_cons_zero, List.set_cons_succ, i64_w, i32_w]
          rfl
        refine take_ (i := 7) (N := some 82) (v := ?_) (a' := ?_) #[true, true, true, true, true, true, true, true, false, false, false, false, false] rfl rfl (by kernel_rfl) (fun _ _ _ h => h) (Or.inl ⟨by rfl, ?_⟩) hHeld ?_ ?_
        rotate_left
        · intro w' s0
          go_simp
          with_reducible rfl
        rotate_left
        · simp only [Act.put, List.setIfInBounds_toArray, List.set_cons_zero, List.set_cons_succ, i64_w, i32_w]
          rfl
        refine pure_ (i := 9) (N := some 84) (v := ?_) (a' := ?_) #[true, true, true, true, true, true, true, true, false, true, false, false, false] rfl rfl (by kernel_rfl) (fun _ _ _ h => h) (Or.inl ⟨by rfl, ?_⟩) ?_ ?_
        rotate_left
        · intro w'
          go_simp
          with_reducible rfl
        rotate_left
        · simp only [Act.put, List.setIfInBounds_toArray, List.set_cons_zero, List.set_cons_succ, i64_w, i32_w]
          rfl
        refine one_ (i := 8) (N := some 83) #[true, true, true, true, true, true, true, true, true, true, false, false, false] rfl rfl (by kernel_rfl) (by decide) (fun K hK => ?_)
        refine goes_ Tryd.func17 (by kernel_rfl) rfl #[P D.d] (by rfl) rfl rfl (by (try simp only [List.map_toArray, List.map_cons, List.map_nil]); rfl) ?_
        refine (ops_calls HD3.out).mono ?_
        rintro e W5 ⟨rfl, rfl⟩
        refine ⟨_, rfl, ?_⟩
        refine hK.out _ _ hHeld (fun hHeld => ?_)
        clear hK K
        refine norm_ (a' := ?_) ?_ ?_
        rotate_left
        · show Act.put _ (some 83) _ = _
          simp only [Act.put, List.setIfInBounds_toArray, List.set_cons_zero, List.set_cons_succ, i64_w, i32_w]
          rfl
        refine one_ (i := 10) (N := some 85) #[true, true, true, true, true, true, true, true, true, true, true, false, false] rfl rfl (by kernel_rfl) (by decide) (fun K hK => ?_)
        refine goes_ Tryd.func12 (by kernel_rfl) rfl #[.int .i64 torn, .int .i64 6] (by rfl) rfl rfl (by (try simp only [List.map_toArray, List.map_cons, List.map_nil]); rfl) ?_
        refine (HP6.out _).mono ?_
        rintro e W6 ⟨rfl, rfl⟩
        refine ⟨_, rfl, ?_⟩
        refine hK.out _ _ hHeld (fun hHeld => ?_)
        clear hK K
        refine norm_ (a' := ?_) ?_ ?_
        rotate_left
        · show Act.put _ (some 85) _ = _
          simp only [Act.put, List.setIfInBounds_toArray, List.set_cons_zero, List.set_cons_succ, i64_w, i32_w]
          rfl
        refine pure_ (i := 11) (N := some 86) (v := ?_) (a' := ?_) #[true, true, true, true, true, true, true, true, true, true, true, true, false] rfl rfl (by kernel_rfl) (fun _ _ _ h => h) (Or.inl ⟨by rfl, ?_⟩) ?_ ?_
        rotate_left
        · intro w'
          go_simp
          with_reducible rfl
        rotate_left
        · simp only [Act.put, List.setIfInBounds_toArray, List.set_cons_zero, List.set_cons_succ, i64_w, i32_w]
          rfl
        refine one_ (i := 12) (N := some 87) #[true, true, true, true, true, true, true, true, true, true, true, true, true] rfl rfl (by kernel_rfl) (by decide) (fun K hK => ?_)
        refine goes_ Tryd.func16 (by kernel_rfl) rfl #[P D.d, .int .i64 (wrap64 (D.ops + pickI torn 6))] (by rfl) rfl rfl (by (try simp only [List.map_toArray, List.map_cons, List.map_nil]); rfl) ?_
        refine (cut_calls HD3.out _).mono ?_
        rintro e w5 ⟨rfl, hd5, hf5⟩
        have h5 := HW3.out.power hf5 hd5
        have HW5 := hid h5
        have HLW5 := hid (HLW3.out.power hf5 (wrap64 (D.ops + pickI torn 6)) false)
        have hc0 : w5.cell? ⟨x, 0, none⟩ = some (P D.d) := h5.c0
        clear hd5 hf5 h5
        refine ⟨_, rfl, ?_⟩
        refine hK.out _ _ hc0 (fun hHeld => ?_)
        clear hK K
        refine norm_ (a' := ?_) ?_ ?_
        rotate_left
        · show Act.put _ (some 87) _ = _
          simp only [Act.put, List.setIfInBounds_toArray, List.set_cons_zero, List.set_cons_succ, i64_w, i32_w]
          rfl
        refine done_ (by kernel_rfl) ?_
        clear p0 HD3 HW3 HLW3 HW4 HLW4 hHeld
        clear hc0
        obtain ⟨D4, hD4⟩ : ∃ D4 : Dk, D4 = { D with cut := wrap64 (D.ops + pickI torn 6), off := false } := ⟨_, rfl⟩
        rw [← hD4] at HW5 HLW5
        clear hD4
        have p1 := HW5.out.c1
        have HAP := hid (append_w (HW5.out.dw.new (Fr.alloc [] w5 (.cells (tTorn.map Value.string).toArray 9))) (HLW5.out.new (Fr.alloc [] w5 (.cells (tTorn.map Value.string).toArray 9))) HL.out (by have := HM.out; omega) (by decide) namedLog [nLog, nLog2] HW5.out.only (by simp) (by simp) (some ⟨w5.heap.size, 0, none⟩) 3 gokTorn (C_lit_after tTorn 9 (by decide) (fun hm => by
          rcases List.mem_cons.1 hm with e | hm
          · have := HW5.out.klt; omega
          · have := HW5.out.dw.at_.lt _ hm; omega)) (by have := lenTorn; have := tells_ee HW5.out.row.2.2 HG3.out; omega) (R := 12582912) (by decide))
        have HWA := hid (HW5.out.new (Fr.alloc [] w5 (.cells (tTorn.map Value.string).toArray 9)))
        have HGT := hid (show ∀ g ∈ G3 ++ [tTorn], GOk g from fun g hg => by
          rcases List.mem_append.1 hg with h | h
          · exact HW5.out.row.2.1 g h
          · rw [List.mem_singleton.1 h]; exact gokTorn)
        go_wp2_with (go_at_call 11; refine HAP.out.mono ?_; intro e w6 hl6; obtain ⟨c6, D6, rfl, hw6, hd6, hf6, hcu6⟩ := HWA.out.of_call hl6; have HW6 := hid hw6; have HCU6 := hid hcu6; clear hl6 hw6 hd6 hf6 hcu6)
        go_meet
        case rel => exact ⟨M + 16, D6, vg3, G3, G3 ++ [tTorn], hid (Nat.add_le_add_right HM.out 16), HW6, HCU6, HGT, hid ⟨Nat.le_succ_of_le HG3.out, by rw [List.length_append]; exact Nat.succ_le_succ HG3.out⟩⟩
      · have hn0z : ¬ (0 : Int) < (n : Int) := fun h => hn0 (Int.ofNat_lt.1 h)
        have HCU := hid (HLW3.out.cuts HW3.out.dw.good)
        go_wp2
        go_meet
        case rel => exact ⟨M, D3, vg3, G3, G3, hid (Nat.le_trans HM.out (by decide)), HW3, hid (HCU.out.mono (fun _ h => .inl h)), hid HW3.out.row.2.1, hid ⟨Nat.le_succ_of_le HG3.out, Nat.le_succ_of_le HG3.out⟩⟩
    case rest =>
      obtain ⟨M2, D, vg, G, T, HM2, HW4, HCU, HGT, HGL⟩ := hcut
      clear HW3 HLW3 HM HG3
      have p0 := HW4.out.c0
      have HGG := hid HW4.out.row
      have HCR := hid (crash_w HW4.out.dw (by have := HM2.out; omega) (by decide) keep torn)
      go_upto_region 17 with (go_at_call 13; refine HCR.out.mono ?_; rintro e w8 ⟨D8, rfl, hb8, dwo, dx8, cr8, low8⟩; obtain ⟨o8, r8, f8⟩ := HCU.out.crash HW4.out.dw.good dx8.good cr8; have HX8 := hid dx8; have HC8 := hid (Calm.crash (R := 12582912) HW4.out.room cr8); have HR8 := hid r8; have HF8 := hid f8; clear hb8 dwo dx8 cr8 low8 r8 f8)
      obtain ⟨G8, hG8, hr8⟩ : ∃ G8, (G8 = G ∨ G8 = T) ∧ Reads (o8.getD []) G8 := by
        rcases HR8.out with h | h
        · exact ⟨_, .inl rfl, h⟩
        · exact ⟨_, .inr rfl, h⟩
      have HGK := hid (show (∀ g ∈ G8, GOk g) ∧ G8.length ≤ 11 from by
        rcases hG8 with e | e <;> rw [e]
        · exact ⟨HGG.out.2.1, HGL.out.1⟩
        · exact ⟨HGT.out, HGL.out.2⟩)
      have HRD := hid hr8
      clear hG8 hr8 HR8 HCR HCU HGG HGT HGL HW4 p0
      have HOP := hid (open_w HX8.out HL.out (by have := HM2.out; omega) (by decide) wNameLog o8 HF8.out HRD.out HGK.out.1 (by have := HGK.out.2; omega))
      go_upto_region 20 with (go_at_call 10; refine HOP.out.mono ?_; intro e w9 h9; obtain ⟨D9, k9, v9, rfl, dw9, d9, fr9, own9, box9, r9, hk9, lw9⟩ := h9.calm HC8.out; obtain ⟨A9, c9, rfl⟩ := Kd.R_slice r9; have HX9 := hid dw9; have HD9 := hid d9.d; have HC9 := hid (HC8.out.did d9); have HF9 := hid (d9.firm nLog o8 (fun _ hx => hx.elim) HF8.out); have HR9 := hid (show Kd.R kG 34 w9 0 (fun j => j ∉ D9.own) (.slice A9 G8.length c9) G8 from Kd.R_lower (Kd.R_mono (Kd.R_bound r9) (fun j hj hm => by have := hj.2.1; have := HX8.out.at_.lt j (own9 j hm); omega)) (Nat.zero_le _)); clear h9 dw9 d9 fr9 own9 box9 r9 hk9 lw9)
      clear HOP HF8 HC8 HX8
      generalize D8.d = d8 at *
      have HNM := hid (names_w HX9.out.at_ HX9.out.good (by have := HM2.out; omega))
      rw [HD9.out] at HNM
      go_upto_region 21 with (go_at_call 20; refine HNM.out.mono ?_; rintro e wA ⟨vA, l, rfl, hrA, hbA, hlA, hsA⟩; obtain ⟨AN, cN, rfl⟩ := Kd.R_slice hrA; have HRA := hid hrA; have HBA := hid hbA; have HLA := hid hlA; have HSA := hid hsA; clear hrA hbA hlA hsA)
      clear HNM
      have HBW := hid (show Below w.heap.size w wA from HX9.out.bel.trans (HBA.out.mono HX9.out.bel.size))
      by_cases hl0 : l.length = 0
      · obtain rfl := List.eq_nil_of_length_eq_zero hl0
        clear hl0
        go_wp2
        go_ret
        exact ⟨rfl, HBW.out⟩
      · have hlb : ((l.length : Int) == 0) = false := beq_eq_false_iff_ne.2 (by omega)
        have hlpos : (0 : Int) < (l.length : Int) := by omega
        have hpb := pick_bd file (l.length : Int) hlpos
        have HPF := hid (fun W => pick_calls file (l.length : Int) HFW.out hlpos W)
        generalize pickI file (l.length : Int) = fi at *
        obtain ⟨i, rfl⟩ : ∃ i : Nat, fi = i := ⟨fi.toNat, by omega⟩
        have hil : i < l.length := by omega
        have hilz : (i : Int) < (l.length : Int) := hpb.2
        obtain ⟨A', c', he', _, hC'⟩ := Kd.R_reads HRA.out
        injection he' with he' _ _
        rw [← he'] at hC'
        obtain ⟨ad, hA, hcell⟩ := (Kd.reads_of_C (d := ByteArray.empty) hC').2.2 (by omega)
        have hc1 := hcell i hil
        obtain ⟨b, o, rfl, hbl⟩ : ∃ b o, ad = ⟨b, o, none⟩ ∧ b < wA.heap.size := by
          have h0 := hcell 0 (by omega)
          have e0 : ad.add 0 = ad := by simp [Addr.add]
          rw [e0] at h0
          exact spot_of h0
        subst hA
        rw [add_is] at hc1
        obtain ⟨s, hs⟩ : ∃ s, s = l.getD i ByteArray.empty := ⟨_, rfl⟩
        rw [← hs] at hc1
        have hsl : s ∈ l := by rw [hs, List.getD_eq_getElem?_getD, List.getElem?_eq_getElem hil]; exact List.getElem_mem hil
        clear hs hcell hC' he' hbl
        obtain ⟨bf, hbf⟩ := HSA.out s hsl
        obtain ⟨hnok, f, hf, hfb⟩ := HX9.out.good.dirI s bf hbf
        rw [← hfb] at hbf
        have HFD := hid (And.intro hf hbf)
        have HA9 := hid (HX9.out.at_.new (Fr.of_below HBA.out []))
        have HSZ := hid (fun (_ : Unit) => size_some HA9.out s (name_max hnok) f hf hbf)
        rw [HD9.out] at HSZ
        have hfl := HX9.out.good.big f hf
        have HNK := hid (name_max hnok)
        clear hsl hbf hfb hf hnok HSA
        go_upto_region 24 with (go_at_call 12; refine (HPF.out _).mono ?_; rintro e w_ ⟨rfl, hww⟩; have hww2 := hww.symm; subst hww2)
        clear hc1 HPF
        by_cases hz0 : f.b.length = 0
        · have hzb : ((f.b.length : Int) == 0) = true := by simp; exact List.eq_nil_of_length_eq_zero hz0
          have hzi : ((f.b.length : Nat) : Int) = 0 := by omega
          rw [hzi] at HSZ
          clear hzb
          go_wp2_with (go_at_call 21; refine (HSZ.out ()).mono ?_; rintro e w_ ⟨rfl, hww⟩; have hww2 := hww.symm; subst hww2)
          go_ret
          exact ⟨rfl, HBW.out⟩
        · have hzb : ((f.b.length : Int) == 0) = false := beq_eq_false_iff_ne.2 (by omega)
          have hzpos : (0 : Int) < (f.b.length : Int) := by omega
          have hpa := pick_bd at_ (f.b.length : Int) hzpos
          have HPA := hid (fun W => pick_calls at_ (f.b.length : Int) HAW.out hzpos W)
          generalize pickI at_ (f.b.length : Int) = ai at *
          obtain ⟨p, rfl⟩ : ∃ p : Nat, ai = p := ⟨ai.toNat, by omega⟩
          have hpl : p < f.b.length := by omega
          have HTU := hid (turn_calls HA9.out HNK.out f HFD.out.1 HFD.out.2 p hpl (by omega) y HY.out)
          rw [HD9.out] at HTU
          have HTC := hid (fun (w1 : World) (gs : Goes wA w1 D9 (D9.setF (turnF f p (xor8 (f.b.getD p 0) y)))) => told_calls (s := s) (fun W hW => HL.out.below (HBW.out.trans (hW.below HBW.out.size (fun j hj => HX9.out.own j (.inl hj))))) HA9.out HX9.out.good (by have := HM2.out; omega) (by decide) HF9.out HRD.out HGK.out.1 (by have := HGK.out.2; omega) HC9.out.live HC9.out.fails f HFD.out.1 HFD.out.2 p hpl y HY.out gs)
          rw [HD9.out] at HTC
          have HRG := hid (fun (w1 w2 : World) (D2 : Dk) (gs : Goes wA w1 D9 D2) (f2 : Fr D2.own w1 w2) => (Kd.R_reads (Kd.R_step (Kd.R_bound (Kd.R_mono (Kd.R_below HR9.out HBA.out) (fun _ h => h))) (w1 := w2) (fun j hj hlt => (f2.keep j (Nat.lt_of_lt_of_le hlt gs.fr.size) (fun hm => (gs.own j hm).elim hj.1 (fun e => by omega))).trans (gs.fr.keep j hlt hj.1)))))
          have HBX := hid (fun (w1 w2 : World) (D2 : Dk) (gs : Goes wA w1 D9 D2) (f2 : Fr D2.own w1 w2) => (show Below w.heap.size w w2 from (HBW.out.trans (gs.fr.below HBW.out.size (fun j hj => HX9.out.own j (.inl hj)))).trans (f2.below (Nat.le_trans HBW.out.size gs.fr.size) (fun j hj => (gs.own j hj).elim (fun e => HX9.out.own j (.inl e)) (fun e => Nat.le_trans HBW.out.size e)))))
          generalize turnF f p (xor8 (f.b.getD p 0) y) = tf at *
          generalize f.b.length = fl at *
          generalize l.length = ll at *
          clear hfl hpb hpa hlpos hzpos hz0 hl0 hil
          go_upto_region 27 with (first
            | (go_at_call 21; refine (HSZ.out ()).mono ?_; rintro e w_ ⟨rfl, hww⟩; have hww2 := hww.symm; subst hww2)
            | (go_at_call 12; refine (HPA.out _).mono ?_; rintro e w_ ⟨rfl, hww⟩; have hww2 := hww.symm; subst hww2)
            | (go_at_call 22; refine HTU.out.mono ?_; rintro e wT ⟨rfl, hgT⟩; have HGT := hid hgT; clear hgT))
          clear HTU HSZ HPA
          have HTO := hid (HTC.out wT HGT.out)
          clear HTC
          go_wp2_with (first
            | (go_at_call 10; refine HTO.out.mono ?_; intro e wE hto; obtain ⟨hfr, ⟨kE, AE, cE, rfl, hCE, hcE⟩ | ⟨hy0, rfl⟩⟩ := hto <;> (have HFE := hid hfr; clear hfr) <;> (first | (have hyb : (y == 0) = false := by simp [hy0]) | (have HCE := hid (And.intro hCE hcE); clear hCE hcE)))
            | (go_at_call 14; refine (same_C HCE.out.1 HCE.out.2 (HRG.out _ _ _ HGT.out HFE.out) (by have := HGK.out.2; omega) HGK.out.1).mono ?_; rintro e wF ⟨rfl, hdF⟩; have HDF := hid hdF; clear hdF))
          · go_ret
            exact ⟨rfl, (HBX.out _ _ _ HGT.out HFE.out).trans ((below_drawn HDF.out).mono (HBX.out _ _ _ HGT.out HFE.out).size)⟩
          · go_ret
            exact ⟨by show Ending.returned (Value.bool (!(y == 0))) = _; rw [hyb]; rfl, HBX.out _ _ _ HGT.out HFE.out⟩
end Go.Proofs.YthlmbgaipbjbhaaDoor.L
