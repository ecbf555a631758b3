/- WalLasts walked. -/
import Derived.Test.YthlmbgaipbjbhaaDoorLife
import Derived.Test.YthlmbgaipbjbhaaDoorShow
namespace Go.Proofs.YthlmbgaipbjbhaaDoor.L
open Go.RowKit Go.Lib Go.Maps Go.Proofs.YthlmbgaipbjbhaaDoor.P
open Go.Proofs.YthlmbgaipbjbhaaDoorW.PrintWords Go.Proofs.YthlmbgaipbjbhaaDoorW.PrintLast Go.Proofs.YthlmbgaipbjbhaaDoorW.PrintMore
set_option linter.unusedVariables false
set_option linter.unusedSimpArgs false
theorem lasts_nb (N kk M : Nat) (h : N + 642 ≤ 642 * 2 ^ kk) (hM : M ≤ N + 320) : (M + M + 2) + 642 ≤ 642 * 2 ^ (kk + 1) := by
  rw [Nat.pow_succ]; omega
theorem lasts_n8 (N kk : Nat) (h : N + 642 ≤ 642 * 2 ^ kk) (hk : kk < 8) : N ≤ 82000 := by
  have : 2 ^ kk ≤ 2 ^ 7 := Nat.pow_le_pow_right (by decide) (by omega)
  omega
theorem lasts_g {g kk jj : Nat} (h : g ≤ 20 * kk + jj) (hk : kk < 8) (hj : jj < 20) : g < 4294967296 := by omega
theorem lasts_m {M N jj : Nat} (h : M ≤ N + 16 * jj) (hN : N ≤ 82000) (hj : jj < 20) : M + 40 < 1048576 := by omega
theorem lasts_e {e g kk jj : Nat} (h : e ≤ g * 7277) (h2 : g ≤ 20 * kk + jj) (hk : kk < 8) (hj : jj < 20) : e + 7277 ≤ 4194304 := by omega
theorem lasts_m2 {M N jj : Nat} (h : M ≤ N + 16 * jj) : M + 16 ≤ N + 16 * (jj + 1) := by omega
theorem lasts_me {jj g : Nat} (h : 20 - jj ≤ g) (hj : jj < 20) : 20 - (jj + 1) < g := by omega
theorem lasts_l {a g kk jj : Nat} (h : a ≤ g + 1) (h2 : g ≤ 20 * kk + jj) : a ≤ 20 * kk + (jj + 1) := by omega
theorem lasts_m3 {M N jj : Nat} (h : M ≤ N + 16 * jj) (hj : jj < 20) : M + 16 ≤ N + 320 := by omega
theorem lasts_m4 {M N jj : Nat} (h : M ≤ N + 16 * jj) (hj : jj ≤ 20) : M ≤ N + 320 := by omega
theorem lasts_g2 {a kk jj : Nat} (h : a ≤ 20 * kk + jj) (hj : jj ≤ 20) : a ≤ 20 * kk + 20 := by omega
theorem lasts_z {jj : Nat} (h : jj < 20) : (jj : Int) < 20 := by omega
theorem lasts_nz {jj : Nat} (h : ¬ jj < 20) : ¬ (jj : Int) < 20 := by omega
theorem lasts_m8 {M N : Nat} (h : M ≤ N + 320) (hN : N ≤ 82000) : M ≤ 82320 := by omega
theorem lasts_o {M : Nat} (h : M ≤ 82320) : M + M + 8 < 1048576 := by omega
theorem lasts_go {g kk : Nat} (h : g ≤ 20 * kk + 20) (hk : kk < 8) : g < 1048576 := by omega
theorem lasts_gl {g kk : Nat} (h : g ≤ 20 * kk + 20) (hk : kk < 8) : g < 4294967296 := by omega
theorem lasts_k {jj : Nat} (hj : jj < 8) : wrap64 ((jj : Int) + 1) = ((jj + 1 : Nat) : Int) := by unfold wrap64; omega
theorem lasts_me8 {jj g : Nat} (h : 8 - jj ≤ g) (hj : jj < 8) : 8 - (jj + 1) < g := by omega
theorem lasts_g3 {a kk : Nat} (h : a ≤ 20 * kk + 20) : a ≤ 20 * (kk + 1) := by omega
theorem lasts_j {jj : Nat} (hj : jj < 20) : wrap64 ((jj : Int) + 1) = ((jj + 1 : Nat) : Int) := by unfold wrap64; omega
set_option maxHeartbeats 32000000 in
set_option maxRecDepth 100000 in
theorem lasts_calls (w : World) (hL : Laid w) (A : Option Addr) (n cap : Nat) (Q : Nat → Life) (hA : LivesAt w A n Q) :
    Calls Tryd.prog 4 #[.slice A n cap] w fun e w' => e = .returned (.bool true) ∧ Below w.heap.size w w' := by
  have HL := hid hL
  have HA := hid hA
  clear hL hA
  go_enter Tryd.func4, Tryd.ntmps4
  go_upto_region 2 with (go_at_call 8; refine (shown_calls w HL.out).mono ?_; rintro e w1 ⟨rfl, hb1⟩; have HB1 := hid hb1; clear hb1)
  go_upto_region 5 with (go_at_call 15; refine (begun_calls w w1 HB1.out).mono ?_; rintro e w2 ⟨x, k, D, rfl, hb2, dw2, lw2, hx2, hxg, hxo, hxb, hon, hcalm⟩; have HW := hid (Wx.start dw2 lw2 hx2 hxg hxo hon hcalm); have HLW := hid lw2; clear hb2 dw2 lw2 hx2 hxg hxo hxb hon hcalm)
  go_wp2
  go_loopg [6] 8 (fun gg s6 wr => ∃ (kk N : Nat) (D : Dk) (k : Nat) (vg : Value) (G : List (List ByteArray)), kk ≤ 8 ∧ 8 - kk ≤ gg ∧ s6 = .int .i64 kk ∧ Hid (Wx w wr N D k k x vg G) ∧ Hid (Lw w wr D k nLog G) ∧ Hid (N + 642 ≤ 642 * 2 ^ kk) ∧ Hid (G.length ≤ 20 * kk))
  case atStart => exact ⟨0, 0, D, k, _, [], by omega, by omega, rfl, HW, HLW, hid (by decide), hid (by simp)⟩
  case round =>
    clear HW HLW HB1
    obtain ⟨kk, N, D, k, vg, G, hkk, hg, rfl, HW, HLW, HN, HG⟩ := hrel
    by_cases hlt : kk < n
    · have hltz : (kk : Int) < (n : Int) := by omega
      by_cases h8 : kk < 8
      · have h8z : (kk : Int) < 8 := by omega
        obtain ⟨b, o, rfl, hb, hcells⟩ := HA.out.there (by omega)
        have hlf := hcells kk hlt
        have HQ := hid (HA.out.each kk hlt)
        have d0 := (HW.out.dw.bel.cell (p := ⟨b, o + kk * 4, none⟩) hb).trans hlf.c0
        have d1 := (HW.out.dw.bel.cell (p := ⟨b, o + kk * 4 + 1, none⟩) hb).trans hlf.c1
        have d2 := (HW.out.dw.bel.cell (p := ⟨b, o + kk * 4 + 2, none⟩) hb).trans hlf.c2
        have d3 := (HW.out.dw.bel.cell (p := ⟨b, o + kk * 4 + 3, none⟩) hb).trans hlf.c3
        clear hlf hcells
        generalize Q kk = q at HQ d0 d1 d2 d3
        have HN8 := hid (lasts_n8 N kk HN.out h8)
        have HP := hid (fun W => pick_calls q.cut 60 HQ.out.cut (by omega) W)
        have hxl := HW.out.xlt
        go_upto_region 9 with fail
        clear d0 d1 d2 d3
        have hw3 := HW.out.new (Fr.alloc [] wr (lifeObj q))
        have hlw3 := HLW.out.new (Fr.alloc [] wr (lifeObj q))
        have hy3 := al_get wr (lifeObj q)
        have hyo : wr.heap.size ∉ x :: k :: D.own := fun hm => Nat.lt_irrefl _ (HW.out.olt _ hm)
        have HSZ := hid (show Below wr.heap.size wr (wr.alloc (lifeObj q)) from al_below wr _)
        generalize wr.alloc (lifeObj q) = w3 at *
        generalize wr.heap.size = y at *
        have p0 := hw3.c0
        have p1 : w3.cell? ⟨y, 1, none⟩ = some (.int .i64 q.cut) := (cell_of hy3 1).trans rfl
        have HW3 := hid (hw3.new (Fr.refl [] _).drew)
        have HLW3 := hid (hlw3.new (Fr.refl [] _).drew)
        have HD3 := hid HW3.out.dw.at_
        have HY := hid (show w3.drew.heap[y]? = some (lifeObj q) from hy3)
        have HYO := hid hyo
        have HYD := hid (show y ∉ [D.d] from fun hm => hyo (by rw [List.mem_singleton.1 hm]; simp [Dk.own]))
        clear hw3 hlw3 hy3 hyo HW HLW HSZ hxl
        refine start_ (n := 14) (S := fun w' => w'.cell? ⟨x, 0, none⟩ = some (P D.d) ∧ w'.cell? ⟨y, 1, none⟩ = some (.int .i64 q.cut)) (ds := []) #[false, false, false, false, false, false, false, false, false, false, false, false, false, false] (by kernel_rfl) rfl rfl ⟨p0, p1⟩ (fun hHeld => ?_)
        refine pure_ (i := 0) (N := some 40) (v := ?_) (a' := ?_) #[true, false, false, false, false, false, false, false, false, false, false, false, false, false] rfl rfl (by kernel_rfl) (fun _ _ _ h => h) (Or.inl ⟨by rfl, ?_⟩) ?_ ?_
        rotate_left
        · intro w'
          go_simp
          with_reducible rfl
        rotate_left
        · simp only [Act.put, List.setIfInBounds_toArray, List.set_cons_zero, List.set_cons_succ, i64_w, i32_w]
          rfl
        refine pure_ (i := 1) (N := some 41) (v := ?_) (a' := ?_) #[true, true, false, false, false, false, false, false, false, false, false, false, false, false] rfl rfl (by kernel_rfl) (fun _ _ _ h => h) (Or.inl ⟨by rfl, ?_⟩) ?_ ?_
        rotate_left
        · intro w'
          go_simp
          with_reducible rfl
        rotate_left
        · simp only [Act.put, List.setIfInBounds_toArray, List.set_cons_zero, List.set_cons_succ, i64_w, i32_w]
          rfl
        refine pure_ (i := 2) (N := some 42) (v := ?_) (a' := ?_) #[true, true, true, false, false, false, false, false, false, false, false, false, false, false] rfl rfl (by kernel_rfl) (fun _ _ _ h => h) (Or.inl ⟨by rfl, ?_⟩) ?_ ?_
        rotate_left
        · intro w'
          go_simp
          with_reducible rfl
        rotate_left
        · simp only [Act.put, List.setIfInBounds_toArray, List.set_cons_zero, List.set_cons_succ, i64_w, i32_w]
          rfl
        refine take_ (i := 3) (N := some 43) (v := ?_) (a' := ?_) #[true, true, true, true, false, false, false, false, false, false, false, false, false, false] rfl rfl (by kernel_rfl) (fun _ _ _ h => h) (Or.inl ⟨by rfl, ?_⟩) hHeld ?_ ?_
        rotate_left
        · rintro w' ⟨s0, s1⟩
          go_simp
          with_reducible rfl
        rotate_left
        · simp only [Act.put, List.setIfInBounds_toArray, List.set_cons_zero, List.set_cons_succ, i64_w, i32_w]
          rfl
        refine pure_ (i := 4) (N := some 44) (v := ?_) (a' := ?_) #[true, true, true, true, true, false, false, false, false, false, false, false, false, false] rfl rfl (by kernel_rfl) (fun _ _ _ h => h) (Or.inl ⟨by rfl, ?_⟩) ?_ ?_
        rotate_left
        · intro w'
          go_simp
          with_reducible rfl
        rotate_left
        · simp only [Act.put, List.setIfInBounds_toArray, List.set_cons_zero, List.set_cons_succ, i64_w, i32_w]
          rfl
        refine pure_ (i := 5) (N := some 45) (v := ?_) (a' := ?_) #[true, true, true, true, true, true, false, false, false, false, false, false, false, false] rfl rfl (by kernel_rfl) (fun _ _ _ h => h) (Or.inl ⟨by rfl, ?_⟩) ?_ ?_
        rotate_left
        · intro w'
          go_simp
          with_reducible rfl
        rotate_left
        · simp only [Act.put, List.setIfInBounds_toArray, List.set_cons_zero, List.set_cons_succ, i64_w, i32_w]
          rfl
        refine pure_ (i := 6) (N := some 46) (v := ?_) (a' := ?_) #[true, true, true, true, true, true, true, false, false, false, false, false, false, false] rfl rfl (by kernel_rfl) (fun _ _ _ h => h) (Or.inl ⟨by rfl, ?_⟩) ?_ ?_
        rotate_left
        · intro w'
          go_simp
          with_reducible rfl
        rotate_left
        · simp only [Act.put, List.setIfInBounds_toArray, List.set_cons_zero, List.set_cons_succ, i64_w, i32_w]
          rfl
        refine take_ (i := 7) (N := some 47) (v := ?_) (a' := ?_) #[true, true, true, true, true, true, true, true, false, false, false, false, false, false] rfl rfl (by kernel_rfl) (fun _ _ _ h => h) (Or.inl ⟨by rfl, ?_⟩) hHeld ?_ ?_
        rotate_left
        · rintro w' ⟨s0, s1⟩
          go_simp
          with_reducible rfl
        rotate_left
        · simp only [Act.put, List.setIfInBounds_toArray, List.set_cons_zero, List.set_cons_succ, i64_w, i32_w]
          rfl
        refine pure_ (i := 9) (N := some 49) (v := ?_) (a' := ?_) #[true, true, true, true, true, true, true, true, false, true, false, false, false, false] rfl rfl (by kernel_rfl) (fun _ _ _ h => h) (Or.inl ⟨by rfl, ?_⟩) ?_ ?_
        rotate_left
        · intro w'
          go_simp
          with_reducible rfl
        rotate_left
        · simp only [Act.put, List.setIfInBounds_toArray, List.set_cons_zero, List.set_cons_succ, i64_w, i32_w]
          rfl
        refine take_ (i := 10) (N := some 50) (v := ?_) (a' := ?_) #[true, true, true, true, true, true, true, true, false, true, true, false, false, false] rfl rfl (by kernel_rfl) (fun _ _ _ h => h) (Or.inl ⟨by rfl, ?_⟩) hHeld ?_ ?_
        rotate_left
        · rintro w' ⟨s0, s1⟩
          go_simp
          with_reducible rfl
        rotate_left
        · simp only [Act.put, List.setIfInBounds_toArray, List.set_cons_zero, List.set_cons_succ, i64_w, i32_w]
          rfl
        refine one_ (i := 8) (N := some 48) #[true, true, true, true, true, true, true, true, true, true, true, false, false, false] rfl rfl (by kernel_rfl) (by decide) (fun K hK => ?_)
        refine goes_ Tryd.func17 (by kernel_rfl) rfl #[P D.d] (by rfl) rfl rfl (by (try simp only [List.map_toArray, List.map_cons, List.map_nil]); rfl) ?_
        refine (ops_calls HD3.out).mono ?_
        rintro e W5 ⟨rfl, rfl⟩
        refine ⟨_, rfl, ?_⟩
        refine hK.out _ _ hHeld (fun hHeld => ?_)
        clear hK K
        refine norm_ (a' := ?_) ?_ ?_
        rotate_left
        · show Act.put _ (some 48) _ = _
          simp only [Act.put, List.setIfInBounds_toArray, List.set_cons_zero, List.set_cons_succ, i64_w, i32_w]
          rfl
        refine one_ (i := 11) (N := some 51) #[true, true, true, true, true, true, true, true, true, true, true, true, false, false] rfl rfl (by kernel_rfl) (by decide) (fun K hK => ?_)
        refine goes_ Tryd.func12 (by kernel_rfl) rfl #[.int .i64 q.cut, .int .i64 60] (by rfl) rfl rfl (by (try simp only [List.map_toArray, List.map_cons, List.map_nil]); rfl) ?_
        refine (HP.out _).mono ?_
        rintro e W6 ⟨rfl, rfl⟩
        refine ⟨_, rfl, ?_⟩
        refine hK.out _ _ hHeld (fun hHeld => ?_)
        clear hK K
        refine norm_ (a' := ?_) ?_ ?_
        rotate_left
        · show Act.put _ (some 51) _ = _
          simp only [Act.put, List.setIfInBounds_toArray, List.set_cons_zero, List.set_cons_succ, i64_w, i32_w]
          rfl
        refine pure_ (i := 12) (N := some 52) (v := ?_) (a' := ?_) #[true, true, true, true, true, true, true, true, true, true, true, true, true, false] rfl rfl (by kernel_rfl) (fun _ _ _ h => h) (Or.inl ⟨by rfl, ?_⟩) ?_ ?_
        rotate_left
        · intro w'
          go_simp
          with_reducible rfl
        rotate_left
        · simp only [Act.put, List.setIfInBounds_toArray, List.set_cons_zero, List.set_cons_succ, i64_w, i32_w]
          rfl
        refine one_ (i := 13) (N := some 53) #[true, true, true, true, true, true, true, true, true, true, true, true, true, true] rfl rfl (by kernel_rfl) (by decide) (fun K hK => ?_)
        refine goes_ Tryd.func16 (by kernel_rfl) rfl #[P D.d, .int .i64 (wrap64 (D.ops + pickI q.cut 60))] (by rfl) rfl rfl (by (try simp only [List.map_toArray, List.map_cons, List.map_nil]); rfl) ?_
        refine (cut_calls HD3.out _).mono ?_
        rintro e w5 ⟨rfl, hd5, hf5⟩
        have h5 := HW3.out.power hf5 hd5
        have HW5 := hid h5
        have HLW5 := hid (HLW3.out.power hf5 (wrap64 (D.ops + pickI q.cut 60)) false)
        have hy5 : w5.heap[y]? = some (lifeObj q) := (hf5.keep y (lt_of HY.out) HYD.out).trans HY.out
        have HY5 := hid hy5
        have HF5 := hid hf5
        have hc0 : w5.cell? ⟨x, 0, none⟩ = some (P D.d) := h5.c0
        have hc1 : w5.cell? ⟨y, 1, none⟩ = some (.int .i64 q.cut) := (cell_of hy5 1).trans rfl
        clear hd5 hf5 h5 hy5
        refine ⟨_, rfl, ?_⟩
        refine hK.out _ _ ⟨hc0, hc1⟩ (fun hHeld => ?_)
        clear hK K
        refine norm_ (a' := ?_) ?_ ?_
        rotate_left
        · show Act.put _ (some 53) _ = _
          simp only [Act.put, List.setIfInBounds_toArray, List.set_cons_zero, List.set_cons_succ, i64_w, i32_w]
          rfl
        refine done_ (by kernel_rfl) ?_
        clear p0 p1 HW3 HLW3 HD3 HY HYD HP
        obtain ⟨D3, hD3⟩ : ∃ D3 : Dk, D3 = { D with cut := wrap64 (D.ops + pickI q.cut 60), off := false } := ⟨_, rfl⟩
        have hdd : D3.d = D.d := by rw [hD3]
        have hown3 : D3.own = D.own := by rw [hD3]; rfl
        rw [← hD3] at HW5 HLW5
        rw [← hown3] at HYO
        rw [← hdd] at hc0
        clear hD3 hown3
        have p2 := HW5.out.c2
        go_upto_block 2 with fail
        go_cut [8] (fun v8 wc => ∃ (M : Nat) (D3 : Dk) (vg3 : Value) (G3 T : List (List ByteArray)) (A8 : Option Addr) (c8 : Nat), v8 = .slice A8 T.length c8 ∧ M ≤ N + 320 ∧ Hid (Wx w wc M D3 k k x vg3 G3) ∧ Hid (Wr wc (x :: k :: D3.own) (.slice A8 T.length c8) T) ∧ Hid (Cuts D3 nLog (fun o => Reads (o.getD []) G3 ∨ Reads (o.getD []) T)) ∧ Hid (wc.heap[y]? = some (lifeObj q)) ∧ Hid (G3.length ≤ 20 * kk + 20) ∧ Hid (T.length ≤ 20 * kk + 20))
        case first =>
          go_wp2_with fail
          go_loopg [8, 9] 20 (fun gg s8 s9 wx => ∃ (jj M : Nat) (D3 : Dk) (vg3 : Value) (G3 : List (List ByteArray)), jj ≤ 20 ∧ 20 - jj ≤ gg ∧ s8 = vg3 ∧ s9 = .int .i64 jj ∧ Hid (M ≤ N + 16 * jj) ∧ Hid (Wx w wx M D3 k k x vg3 G3) ∧ Hid (Lw w wx D3 k nLog G3) ∧ Hid (wx.heap[y]? = some (lifeObj q)) ∧ Hid (y ∉ x :: k :: D3.own) ∧ Hid (G3.length ≤ 20 * kk + jj))
          case atStart => exact ⟨0, N, D3, vg, G, Nat.zero_le _, Nat.le_refl _, rfl, rfl, hid (Nat.le_add_right _ _), HW5, HLW5, HY5, HYO, HG⟩
          case round =>
            clear HW5 HLW5 HY5 HYO HF5 hc0 hc1 p2 hHeld
            clear hdd
            have H8 := hid h8
            clear hltz h8z hg hkk hlt h8 hb
            obtain ⟨jj, M, D3, vg3, G3, hjj, hgj, h8e, rfl, HM, HW6, HLW6, HY6, HYO6, HG6⟩ := hrel
            have h8f := h8e.symm
            clear h8e
            subst h8f
            have y0 : wr.cell? ⟨y, 0, none⟩ = some (.slice q.at_ q.len q.cap) := (cell_of HY6.out 0).trans rfl
            by_cases hj1 : jj < q.len
            · have hj1z : (jj : Int) < (q.len : Int) := Int.ofNat_lt.2 hj1
              by_cases hj2 : jj < 20
              · have hj2z : (jj : Int) < 20 := lasts_z hj2
                have hQ := HQ.out.ops
                obtain ⟨b2, o2, hA2, hb2, hcells2⟩ := hQ.there (Nat.lt_of_le_of_lt (Nat.zero_le _) hj1)
                have hop := hcells2 jj hj1
                have HOI := hid (hQ.each jj hj1)
                obtain ⟨qn, hqn⟩ : ∃ qn, qn = q.len := ⟨_, rfl⟩
                obtain ⟨qc, hqc⟩ : ∃ qc, qc = q.cap := ⟨_, rfl⟩
                rw [hA2, ← hqn, ← hqc] at y0
                rw [← hqn] at hj1 hj1z
                clear hA2 hqn hqc hQ hcells2
                generalize q.Q jj = p at HOI hop
                have e0 := (HW6.out.dw.bel.cell (p := ⟨b2, o2 + jj * 4, none⟩) hb2).trans hop.c0
                have e1 := (HW6.out.dw.bel.cell (p := ⟨b2, o2 + jj * 4 + 1, none⟩) hb2).trans hop.c1
                have e2 := (HW6.out.dw.bel.cell (p := ⟨b2, o2 + jj * 4 + 2, none⟩) hb2).trans hop.c2
                have e3 := (HW6.out.dw.bel.cell (p := ⟨b2, o2 + jj * 4 + 3, none⟩) hb2).trans hop.c3
                have HB2 := hid (show ∀ W : World, Below wr.heap.size wr W → W.cell? ⟨b2, o2 + jj * 4, none⟩ = some (.int .i64 p.kind) ∧ W.cell? ⟨b2, o2 + jj * 4 + 1, none⟩ = some (.slice p.at_ p.l.length p.cap) ∧ W.cell? ⟨b2, o2 + jj * 4 + 2, none⟩ = some (.int .i64 p.n) ∧ W.cell? ⟨b2, o2 + jj * 4 + 3, none⟩ = some (.int .i64 p.torn) ∧ W.cell? ⟨y, 0, none⟩ = some (.slice (some ⟨b2, o2, none⟩) qn qc) from fun W hW => by
                  have hl : b2 < wr.heap.size := Nat.lt_of_lt_of_le hb2 HW6.out.dw.bel.size
                  have hy : y < wr.heap.size := lt_of HY6.out
                  exact ⟨(Below.cell hW (a := ⟨b2, o2 + jj * 4, none⟩) hl).trans e0, (Below.cell hW (a := ⟨b2, o2 + jj * 4 + 1, none⟩) hl).trans e1, (Below.cell hW (a := ⟨b2, o2 + jj * 4 + 2, none⟩) hl).trans e2, (Below.cell hW (a := ⟨b2, o2 + jj * 4 + 3, none⟩) hl).trans e3, (Below.cell hW (a := ⟨y, 0, none⟩) hy).trans y0⟩)
                clear hop
                have hjz := lasts_j hj2
                have hg32 : G3.length < 4294967296 := lasts_g HG6.out H8.out hj2
                have hm32 : M + 40 < 1048576 := lasts_m HM.out HN8.out hj2
                have he32 : (encs G3).length + 7277 ≤ 4194304 := lasts_e HW6.out.row.2.2 HG6.out H8.out hj2
                have HBE := hid (behind_calls wr x D3.d k vg3 (.slice none 0 0) false G3 HW6.out.obj (fun j => j ∉ x :: k :: D3.own) (fun j hj hm => Nat.lt_irrefl _ (Nat.lt_of_lt_of_le (HW6.out.olt j hm) hj)) HW6.out.row.1 hg32 p (HOI.out.keep HW6.out.dw.bel))
                go_upto_region 15 with (go_at_call 18; refine HBE.out.mono ?_; rintro e wb ⟨v8, rfl, hr8, hb8⟩; obtain ⟨A8, c8, rfl⟩ := Kd.R_slice hr8; have HR8 := hid hr8; have HB8 := hid hb8; clear hr8 hb8)
                clear e0 e1 e2 e3 y0 HBE
                obtain ⟨e0, e1, e2, e3, y0⟩ := HB2.out wb HB8.out
                have HW7 := hid (HW6.out.new (Fr.of_below HB8.out []))
                have HT7 := hid (show Wr wb (x :: k :: D3.own) (.slice A8 (nxt p G3).length c8) (nxt p G3) from HW6.out.row.nxt HR8.out)
                have HLA := hid (lay_calls HW7.out.dw (HLW6.out.new (Fr.of_below HB8.out [])) HL.out hm32 (by decide) namedLog [nLog, nLog2] HW7.out.only (by simp) (by simp) vg3 none 0 [] false HW7.out.obj HW7.out.xoff (fun W _ => ⟨rfl, by simp, fun h => by simp at h⟩) (by decide) p HOI.out he32 (R := 12582912) (by decide))
                go_upto_region 16 with (go_at_call 19; refine HLA.out.mono ?_; intro e w9 hl9; obtain ⟨c, D9, rfl, hw9, hd9, hf9, ho9, hway9⟩ := HW7.out.of_lay hl9; have HW9 := hid hw9; have HF9 := hid hf9; have HO9 := hid ho9; have HWY9 := hid hway9; clear hl9 hw9 hd9 hf9 ho9 hway9)
                clear e0 e1 e2 e3 y0 HLA HB2
                have HY9 := hid (show w9.heap[y]? = some (lifeObj q) from (HF9.out.keep y (Nat.lt_of_lt_of_le (lt_of HY6.out) HB8.out.size) (fun hm => HYO6.out (List.mem_cons_of_mem _ hm))).trans ((HB8.out.block y (lt_of HY6.out)).trans HY6.out))
                have hon9 : ∀ j ∈ x :: k :: D9.own, j ∈ x :: k :: D3.own ∨ wb.heap.size ≤ j := fun j hj => by
                  rcases List.mem_cons.1 hj with e | hj
                  · exact .inl (by rw [e]; exact List.mem_cons_self)
                  · rcases List.mem_cons.1 hj with e | hj
                    · exact .inl (by rw [e]; simp)
                    · exact (HO9.out j hj).elim (fun e => .inl (List.mem_cons_of_mem _ (List.mem_cons_of_mem _ e))) .inr
                have HT9 := hid (HT7.out.to HF9.out (fun j hj => List.mem_cons_of_mem _ hj) hon9)
                have HYO9 := hid (show y ∉ x :: k :: D9.own from fun hm => (hon9 y hm).elim HYO6.out (fun e => Nat.lt_irrefl _ (Nat.lt_of_lt_of_le (lt_of HY6.out) (Nat.le_trans HB8.out.size e))))
                have HLN := hid (show (nxt p G3).length ≤ 20 * kk + (jj + 1) from lasts_l nxt_len HG6.out)
                clear hon9
                have hfz := HW9.out.free 2
                have p2 := HW9.out.c2
                rcases HWY9.out with ⟨hc, lw9⟩ | ⟨hc, cu9⟩
                · subst hc
                  have HLW9 := hid lw9
                  clear lw9 HWY9
                  go_wp2
                  have hxk : k ∉ [x] := fun hm => HW9.out.xoff (by rw [List.mem_singleton.1 hm]; exact List.mem_cons_self)
                  go_roundg (20 - (jj + 1))
                  case measure => exact lasts_me hgj hj2
                  case rel => exact ⟨jj + 1, M + 16, D9, .slice A8 (nxt p G3).length c8, nxt p G3, hj2, Nat.le_refl _, rfl, (by first | rfl | rw [hjz]), hid (lasts_m2 HM.out), hid (HW9.out.setg HT9.out).1, hid (HLW9.out.fr (HW9.out.setg HT9.out).2 hxk), hid (((HW9.out.setg HT9.out).2.keep y (lt_of HY9.out) (fun hm => HYO9.out (by rw [List.mem_singleton.1 hm]; exact List.mem_cons_self))).trans HY9.out), HYO9, HLN⟩
                · subst hc
                  have HCU := hid cu9
                  clear cu9 HWY9
                  go_wp2
                  go_meet
                  case rel => exact ⟨M + 16, D9, vg3, G3, nxt p G3, A8, c8, rfl, lasts_m3 HM.out hj2, HW9, HT9, HCU, HY9, hid (lasts_g2 HG6.out hjj), hid (lasts_g2 HLN.out hj2)⟩
              · have hj2z : ¬ (jj : Int) < 20 := lasts_nz hj2
                have HCU := hid (HLW6.out.cuts HW6.out.dw.good)
                obtain ⟨A8, c8, hv8⟩ := Kd.R_slice HW6.out.row.1
                subst hv8
                go_wp2
                go_meet
                case rel => exact ⟨M, D3, _, G3, G3, A8, c8, rfl, lasts_m4 HM.out hjj, HW6, hid HW6.out.row, hid (HCU.out.mono (fun _ h => .inl h)), HY6, hid (lasts_g2 HG6.out hjj), hid (lasts_g2 HG6.out hjj)⟩
            · have hj1z : ¬ (jj : Int) < (q.len : Int) := fun h => hj1 (Int.ofNat_lt.1 h)
              have HCU := hid (HLW6.out.cuts HW6.out.dw.good)
              obtain ⟨A8, c8, hv8⟩ := Kd.R_slice HW6.out.row.1
              subst hv8
              go_wp2
              go_meet
              case rel => exact ⟨M, D3, _, G3, G3, A8, c8, rfl, lasts_m4 HM.out hjj, HW6, hid HW6.out.row, hid (HCU.out.mono (fun _ h => .inl h)), HY6, hid (lasts_g2 HG6.out hjj), hid (lasts_g2 HG6.out hjj)⟩
        case rest =>
          obtain ⟨M, D3, vg3, G3, T, A8, c8, rfl, hM, HW6, HT, HCU, HY6, HG6, HTL⟩ := hcut
          have HM := hid hM
          have HN1 := hid (lasts_nb N kk M HN.out hM)
          have HM8 := hid (lasts_m8 hM HN8.out)
          have H8 := hid h8
          have HKK := hid (And.intro hkk hg)
          clear hM h8 h8z hltz hlt hkk hg hb HW5 HLW5 HY5 HYO HF5 hc0 hc1 p2 hHeld hdd HN HN8 HG
          have HYL := hid (lt_of HY6.out)
          have HYX := hid (show y ≠ x from fun e => by have h1 := HY6.out; rw [e, HW6.out.obj] at h1; injection h1 with h1; injection h1 with h1 h2; exact absurd h2 (by decide))
          have HCR := hid (fun (W : World) (f : Fr [] wc W) => crash_w (HW6.out.new f).dw (by have := HM8.out; omega) (by decide) q.keep q.torn)
          have p0 : wc.drew.cell? ⟨x, 0, none⟩ = some (P D3.d) := HW6.out.c0
          have p2 : wc.drew.cell? ⟨y, 2, none⟩ = some (.int .i64 q.keep) := (cell_of HY6.out 2).trans rfl
          have p3 : wc.drew.cell? ⟨y, 3, none⟩ = some (.int .i64 q.torn) := (cell_of HY6.out 3).trans rfl
          have HW7 := hid (HW6.out.new (Fr.refl [] wc).drew)
          have HT7 := hid (HT.out.to (own' := x :: k :: D3.own) (Fr.refl [] wc).drew (fun j hj => by simp at hj) (fun j hj => .inl hj))
          go_upto_region 20 with fail
          refine start_ (n := 13) (S := fun w' => w'.cell? ⟨x, 0, none⟩ = some (P D3.d) ∧ w'.cell? ⟨y, 2, none⟩ = some (.int .i64 q.keep) ∧ w'.cell? ⟨y, 3, none⟩ = some (.int .i64 q.torn)) (ds := [12]) #[false, false, false, false, false, false, false, false, false, false, false, false, false] (by kernel_rfl) rfl rfl ⟨p0, p2, p3⟩ (fun hHeld => ?_)
          refine pure_ (i := 0) (N := some 94) (v := ?_) (a' := ?_) #[true, false, false, false, false, false, false, false, false, false, false, false, false] rfl rfl (by kernel_rfl) (fun _ _ _ h => h) (Or.inl ⟨by rfl, ?_⟩) ?_ ?_
          rotate_left
          · intro w'
            go_simp
            with_reducible rfl
          rotate_left
          · simp only [Act.put, List.setIfInBounds_toArray, List.set_cons_zero, List.set_cons_succ, i64_w, i32_w]
            rfl
          refine pure_ (i := 1) (N := some 95) (v := ?_) (a' := ?_) #[true, true, false, false, false, false, false, false, false, false, false, false, false] rfl rfl (by kernel_rfl) (fun _ _ _ h => h) (Or.inl ⟨by rfl, ?_⟩) ?_ ?_
          rotate_left
          · intro w'
            go_simp
            with_reducible rfl
          rotate_left
          · simp only [Act.put, List.setIfInBounds_toArray, List.set_cons_zero, List.set_cons_succ, i64_w, i32_w]
            rfl
          refine pure_ (i := 2) (N := some 96) (v := ?_) (a' := ?_) #[true, true, true, false, false, false, false, false, false, false, false, false, false] rfl rfl (by kernel_rfl) (fun _ _ _ h => h) (Or.inl ⟨by rfl, ?_⟩) ?_ ?_
          rotate_left
          · intro w'
            go_simp
            with_reducible rfl
          rotate_left
          · simp only [Act.put, List.setIfInBounds_toArray, List.set_cons_zero, List.set_cons_succ, i64_w, i32_w]
            rfl
          refine pure_ (i := 3) (N := some 97) (v := ?_) (a' := ?_) #[true, true, true, true, false, false, false, false, false, false, false, false, false] rfl rfl (by kernel_rfl) (fun _ _ _ h => h) (Or.inl ⟨by rfl, ?_⟩) ?_ ?_
          rotate_left
          · intro w'
            go_simp
            with_reducible rfl
          rotate_left
          · simp only [Act.put, List.setIfInBounds_toArray, List.set_cons_zero, List.set_cons_succ, i64_w, i32_w]
            rfl
          refine take_ (i := 4) (N := some 98) (v := ?_) (a' := ?_) #[true, true, true, true, true, false, false, false, false, false, false, false, false] rfl rfl (by kernel_rfl) (fun _ _ _ h => h) (Or.inl ⟨by rfl, ?_⟩) hHeld ?_ ?_
          rotate_left
          · rintro w' ⟨s0, s1, s2⟩
            go_simp
            with_reducible rfl
          rotate_left
          · simp only [Act.put, List.setIfInBounds_toArray, List.set_cons_zero, List.set_cons_succ, i64_w, i32_w]
            rfl
          refine pure_ (i := 5) (N := some 99) (v := ?_) (a' := ?_) #[true, true, true, true, true, true, false, false, false, false, false, false, false] rfl rfl (by kernel_rfl) (fun _ _ _ h => h) (Or.inl ⟨by rfl, ?_⟩) ?_ ?_
          rotate_left
          · intro w'
            go_simp
            with_reducible rfl
          rotate_left
          · simp only [Act.put, List.setIfInBounds_toArray, List.set_cons_zero, List.set_cons_succ, i64_w, i32_w]
            rfl
          refine take_ (i := 6) (N := some 100) (v := ?_) (a' := ?_) #[true, true, true, true, true, true, true, false, false, false, false, false, false] rfl rfl (by kernel_rfl) (fun _ _ _ h => h) (Or.inl ⟨by rfl, ?_⟩) hHeld ?_ ?_
          rotate_left
          · rintro w' ⟨s0, s1, s2⟩
            go_simp
            with_reducible rfl
          rotate_left
          · simp only [Act.put, List.setIfInBounds_toArray, List.set_cons_zero, List.set_cons_succ, i64_w, i32_w]
            rfl
          refine pure_ (i := 7) (N := some 101) (v := ?_) (a' := ?_) #[true, true, true, true, true, true, true, true, false, false, false, false, false] rfl rfl (by kernel_rfl) (fun _ _ _ h => h) (Or.inl ⟨by rfl, ?_⟩) ?_ ?_
          rotate_left
          · intro w'
            go_simp
            with_reducible rfl
          rotate_left
          · simp only [Act.put, List.setIfInBounds_toArray, List.set_cons_zero, List.set_cons_succ, i64_w, i32_w]
            rfl
          refine take_ (i := 8) (N := some 102) (v := ?_) (a' := ?_) #[true, true, true, true, true, true, true, true, true, false, false, false, false] rfl rfl (by kernel_rfl) (fun _ _ _ h => h) (Or.inl ⟨by rfl, ?_⟩) hHeld ?_ ?_
          rotate_left
          · rintro w' ⟨s0, s1, s2⟩
            go_simp
            with_reducible rfl
          rotate_left
          · simp only [Act.put, List.setIfInBounds_toArray, List.set_cons_zero, List.set_cons_succ, i64_w, i32_w]
            rfl
          refine one_ (i := 9) (N := some 103) #[true, true, true, true, true, true, true, true, true, true, false, false, false] rfl rfl (by kernel_rfl) (by decide) (fun K hK => ?_)
          refine goes_ Tryd.func13 (by kernel_rfl) rfl #[P D3.d, .int .i64 q.keep, .int .i64 q.torn] (by rfl) rfl rfl (by (try simp only [List.map_toArray, List.map_cons, List.map_nil]); rfl) ?_
          refine (HCR.out _ (Fr.refl [] _).drew).mono ?_
          rintro e w8 ⟨D8, rfl, hb8, dw8, dx8, cr8, low8⟩
          obtain ⟨o8, r8, f8⟩ := HCU.out.crash HW7.out.dw.good dx8.good cr8
          obtain ⟨G8, hG8, hr8⟩ : ∃ G8, (G8 = G3 ∨ G8 = T) ∧ Reads (o8.getD []) G8 := by
            rcases r8 with h | h
            · exact ⟨_, .inl rfl, h⟩
            · exact ⟨_, .inr rfl, h⟩
          obtain ⟨hx8, calm8, hrow8⟩ := HW7.out.crash hb8 dx8 cr8 low8
          have HW8 := hid hx8
          have HC8 := hid calm8
          have HT8 := hid (hrow8 HT7.out)
          have HG8 := hid hG8
          have HO8 := hid (And.intro f8 hr8)
          have fr8 : w8.frozen? ⟨x, 0, none⟩ = false := free_of ((hb8.block x HW7.out.xlt).trans HW7.out.obj) 0
          have hc0 : w8.cell? ⟨x, 0, none⟩ = some (P D3.d) := (Below.cell hb8 (a := ⟨x, 0, none⟩) HW7.out.xlt).trans p0
          have hc2 : w8.cell? ⟨y, 2, none⟩ = some (.int .i64 q.keep) := (Below.cell hb8 (a := ⟨y, 2, none⟩) HYL.out).trans p2
          have hc3 : w8.cell? ⟨y, 3, none⟩ = some (.int .i64 q.torn) := (Below.cell hb8 (a := ⟨y, 3, none⟩) HYL.out).trans p3
          clear hG8 hx8 calm8 hrow8
          refine ⟨_, rfl, ?_⟩
          refine hK.out _ _ ⟨hc0, hc2, hc3⟩ (fun hHeld => ?_)
          clear hK K
          refine norm_ (a' := ?_) ?_ ?_
          rotate_left
          · show Act.put _ (some 103) _ = _
            simp only [Act.put, List.setIfInBounds_toArray, List.set_cons_zero, List.set_cons_succ, i64_w, i32_w]
            rfl
          refine pure_ (i := 10) (N := some 104) (v := ?_) (a' := ?_) #[true, true, true, true, true, true, true, true, true, true, true, false, false] rfl rfl (by kernel_rfl) (fun _ _ _ h => h) (Or.inl ⟨by rfl, ?_⟩) ?_ ?_
          rotate_left
          · intro w'
            go_simp
            with_reducible rfl
          rotate_left
          · simp only [Act.put, List.setIfInBounds_toArray, List.set_cons_zero, List.set_cons_succ, i64_w, i32_w]
            rfl
          refine pure_ (i := 11) (N := some 105) (v := ?_) (a' := ?_) #[true, true, true, true, true, true, true, true, true, true, true, true, false] rfl rfl (by kernel_rfl) (fun _ _ _ h => h) (Or.inl ⟨by rfl, ?_⟩) ?_ ?_
          rotate_left
          · intro w'
            go_simp
            with_reducible rfl
          rotate_left
          · simp only [Act.put, List.setIfInBounds_toArray, List.set_cons_zero, List.set_cons_succ, i64_w, i32_w]
            rfl
          refine last_ (i := 12) (N := none) #[true, true, true, true, true, true, true, true, true, true, true, true, true] rfl rfl (by kernel_rfl) (by decide) (fun K hK => ?_)
          refine skip_ (w1 := ?_) (by rfl) rfl ?_ ?_
          rotate_left
          · go_simp
            rfl
          refine hK.out _ _ ?_
          clear hK K
          refine done_ (by kernel_rfl) ?_
          clear p0 p2 p3 HCR HCU HW6 HT HW7 HT7
          have HGK := hid (show (∀ g ∈ G8, GOk g) ∧ (encs G8).length ≤ G8.length * 7277 ∧ G8.length ≤ 20 * kk + 20 from by
            rcases HG8.out with e | e <;> rw [e]
            · exact ⟨HW8.out.row.2.1, HW8.out.row.2.2, HG6.out⟩
            · exact ⟨HT8.out.2.1, HT8.out.2.2, HTL.out⟩)
          have HOP := hid (open_w HW8.out.dw HL.out (lasts_o HM8.out) (by decide) wNameLog o8 HO8.out.1 HO8.out.2 HGK.out.1 (lasts_go HGK.out.2.2 H8.out))
          have p0 := HW8.out.c0
          generalize w8.setCell ⟨x, 0, none⟩ (P D8.d) = wd at *
          go_upto_region 22 with (go_at_call 10; refine HOP.out.mono ?_; intro e w9 h9; obtain ⟨D9, k9, v9, rfl, dw9, d9, fr9, own9, box9, r9, hk9, lw9⟩ := h9.calm HC8.out; obtain ⟨hx9, hr9, hrow9, hxk9⟩ := HW8.out.opened dw9 d9 fr9 own9 r9 hk9 lw9 HGK.out.1 HGK.out.2.1; obtain ⟨A9, c9, rfl⟩ := Kd.R_slice hr9.1; have HW9 := hid hx9; have HLW9 := hid lw9; have HR9 := hid hr9; have HT9 := hid (hrow9 HT8.out); have HXK := hid hxk9; clear h9 dw9 d9 fr9 own9 box9 r9 hk9 lw9 hx9 hr9 hrow9 hxk9)
          clear HOP p0 hHeld hc0 hc2 hc3 fr8
          have p2 := HW9.out.c2
          have hkz := lasts_k H8.out
          have HLE := hid (lasts_gl HGK.out.2.2 H8.out)
          have HG9 := hid (show G8 = G3 ∨ G8 = T from HG8.out)
          by_cases h1 : G8 = G3
          · have HS1 := hid (same_rows HR9.out HW9.out.row HLE.out)
            rw [decide_eq_true h1] at HS1
            have HE1 := hid h1
            clear h1
            go_upto_region 28 with (go_at_call 14; refine HS1.out.mono ?_; rintro e wa ⟨rfl, hda⟩; have HWA := hid (HW9.out.new (Fr.of_drawn hda)); have HLA := hid (HLW9.out.new (Fr.of_drawn hda)); clear hda)
            have p1 := HWA.out.c1
            have f1 := HWA.out.free 1
            clear p2 HS1
            go_wp2
            go_roundg (8 - (kk + 1))
            case measure => exact lasts_me8 HKK.out.2 H8.out
            case rel => exact ⟨kk + 1, M + M + 2, D9, k9, vg3, G3, H8.out, Nat.le_refl _, (by first | rfl | rw [hkz]), hid HWA.out.setl.1, hid (by rw [← HE1.out]; exact HLA.out.fr HWA.out.setl.2 (fun hm => HXK.out (List.mem_singleton.1 hm).symm)), HN1, hid (lasts_g3 HG6.out)⟩
          · have HS1 := hid (same_rows HR9.out HW9.out.row HLE.out)
            rw [decide_eq_false h1] at HS1
            have HE1 := hid (HG9.out.resolve_left h1)
            clear h1
            go_upto_region 25 with (go_at_call 14; refine HS1.out.mono ?_; rintro e wa ⟨rfl, hda⟩; have HWA := hid (HW9.out.new (Fr.of_drawn hda)); have HLA := hid (HLW9.out.new (Fr.of_drawn hda)); have HRA := hid (HR9.out.to (own' := x :: k9 :: D9.own) (Fr.of_drawn (own := []) hda) (fun j hj => by simp at hj) (fun j hj => .inl hj)); have HTA := hid (HT9.out.to (own' := x :: k9 :: D9.own) (Fr.of_drawn (own := []) hda) (fun j hj => by simp at hj) (fun j hj => .inl hj)); clear hda)
            clear p2 HS1
            have HS2 := hid (same_rows HRA.out HTA.out HLE.out)
            rw [decide_eq_true HE1.out] at HS2
            go_upto_region 27 with (go_at_call 14; refine HS2.out.mono ?_; rintro e wb ⟨rfl, hdb⟩; have HWB := hid (HWA.out.new (Fr.of_drawn hdb)); have HLB := hid (HLA.out.new (Fr.of_drawn hdb)); have HTB := hid (HTA.out.to (own' := x :: k9 :: D9.own) (Fr.of_drawn (own := []) hdb) (fun j hj => by simp at hj) (fun j hj => .inl hj)); clear hdb)
            have HWC := hid (HWB.out.setg HTB.out)
            have p2 := HWB.out.c2
            have f2 := HWB.out.free 2
            have p1 := HWC.out.1.c1
            have f1 := HWC.out.1.free 1
            have HLT := hid (show Lw w wb D9 k9 nLog T from by have h := HLB.out; rw [HE1.out] at h; exact h)
            clear HS2
            go_wp2
            go_roundg (8 - (kk + 1))
            case measure => exact lasts_me8 HKK.out.2 H8.out
            case rel => exact ⟨kk + 1, M + M + 2, D9, k9, _, T, H8.out, Nat.le_refl _, (by first | rfl | rw [hkz]), hid HWC.out.1.setl.1, hid ((HLT.out.fr HWC.out.2 (fun hm => HXK.out (List.mem_singleton.1 hm).symm)).fr HWC.out.1.setl.2 (fun hm => HXK.out (List.mem_singleton.1 hm).symm)), HN1, hid (lasts_g3 HTL.out)⟩
      · have h8z : ¬ (kk : Int) < 8 := by omega
        have HBL := hid HW.out.dw.bel
        go_wp2
        go_ret
        exact ⟨rfl, HBL.out⟩
    · have hltz : ¬ (kk : Int) < (n : Int) := by omega
      have HBL := hid HW.out.dw.bel
      go_wp2
      go_ret
      exact ⟨rfl, HBL.out⟩
end Go.Proofs.YthlmbgaipbjbhaaDoor.L
