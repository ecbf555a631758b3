/- wal.read: the first group of bytes. A log in memory; put: bytes behind the file's. -/
import Derived.Test.YthlmbgaipbjbhaaDoorFrame
import Derived.Test.YthlmbgaipbjbhaaDoorGivenW
section
namespace Go.Proofs.YthlmbgaipbjbhaaDoor.L
open Go.RowKit Go.Lib Go.Maps Go.Proofs.YthlmbgaipbjbhaaDoor.P
open Go.Proofs.YthlmbgaipbjbhaaDoorW.PrintWords Go.Proofs.YthlmbgaipbjbhaaDoorW.PrintLast Go.Proofs.YthlmbgaipbjbhaaDoorW.PrintMore
set_option linter.unusedVariables false
theorem info9 : (Tryd.prog.info? 9).map (fun i => (i.zero, i.size, i.bytes)) = some (some (.string ⟨#[]⟩), 1, 16) := by kernel_rfl
theorem bne_nat (a b : Nat) : ((a : Int) != (b : Int)) = decide (a ≠ b) := by
  by_cases h : a = b
  · subst h; simp
  · have : ((a : Int)) ≠ (b : Int) := by omega
    simp [h, this]
theorem mid_split (hd bb tl : List Int) {a b : Nat} (ha : hd.length = a) (hb : a + bb.length = b) : ((hd ++ (bb ++ tl)).take b).drop a = bb := by
  subst ha; subst hb
  rw [List.take_length_add_append, List.take_left, List.drop_left]
theorem drop_split (hd bb tl : List Int) {a b : Nat} (ha : hd.length = a) (hb : a + bb.length = b) : (hd ++ (bb ++ tl)).drop b = tl := by
  subst ha; subst hb
  rw [List.drop_length_add_append, List.drop_left]
theorem dropB (w : World) (A : Option Addr) (c : Nat) (L : List Int) (j : Nat) (ji : Int) (hji : ji = j) (hC : Kd.C kB w A L.length L) (hj : j ≤ L.length) (hc : L.length ≤ c) :
    ∃ (A' : Option Addr) (M : List Int), M = L.drop j ∧ (∀ W : World, (Instr.slice 33 (.slice A L.length c) (some (.int .i64 ji)) none none).run Tryd.prog W = .ok (.slice A' M.length (c - j)) W) ∧ Kd.C kB w A' M.length M ∧ M.length ≤ c - j := by
  subst hji
  obtain ⟨i0, hi, _, hsz, _⟩ := info_parts info5
  obtain ⟨A', h1, h2, h3⟩ := print_drop_of (P := Tryd.prog) (Value.int .u8) 0 33 5 .i64 Tryd.underlying33 hi hsz A c L (j : Int) (by omega) (by omega) hc
  exact ⟨A', _, rfl, h1, Kd.C_of_reads (h1 := fun _ => rfl) (h2 _ (Kd.reads_of_C hC)), h3⟩
theorem takeB (w : World) (A : Option Addr) (c : Nat) (L : List Int) (j : Nat) (ji : Int) (hji : ji = j) (hC : Kd.C kB w A L.length L) (hj : j ≤ L.length) (hc : L.length ≤ c) :
    ∃ (M : List Int), M = L.take j ∧ (∀ W : World, (Instr.slice 33 (.slice A L.length c) none (some (.int .i64 ji)) none).run Tryd.prog W = .ok (.slice A M.length c) W) ∧ Kd.C kB w A M.length M ∧ M.length ≤ c := by
  subst hji
  obtain ⟨i0, hi, _, hsz, _⟩ := info_parts info5
  obtain ⟨h1, h2, h3⟩ := print_take_of (P := Tryd.prog) (Value.int .u8) 0 33 5 .i64 Tryd.underlying33 hi hsz A c L (j : Int) (by omega) (by omega) hc
  exact ⟨_, rfl, h1, Kd.C_of_reads (h1 := fun _ => rfl) (h2 _ (Kd.reads_of_C hC)), h3⟩
theorem midB (w : World) (A : Option Addr) (c : Nat) (L : List Int) (a b : Nat) (ai bi : Int) (hai : ai = a) (hbi : bi = b) (hC : Kd.C kB w A L.length L) (hab : a ≤ b) (hb : b ≤ L.length) (hc : L.length ≤ c) :
    ∃ (A' : Option Addr) (M : List Int), M = (L.take b).drop a ∧ (∀ W : World, (Instr.slice 33 (.slice A L.length c) (some (.int .i64 ai)) (some (.int .i64 bi)) none).run Tryd.prog W = .ok (.slice A' M.length (c - a)) W) ∧ Kd.C kB w A' M.length M ∧ M.length ≤ c - a := by
  subst hai
  subst hbi
  obtain ⟨i0, hi, _, hsz, _⟩ := info_parts info5
  obtain ⟨A', h1, h2, h3⟩ := print_mid_of (P := Tryd.prog) (Value.int .u8) 0 33 5 .i64 .i64 Tryd.underlying33 hi hsz A c L (a : Int) (b : Int) (by omega) (by omega) (by omega) hc
  exact ⟨A', _, rfl, h1, Kd.C_of_reads (h1 := fun _ => rfl) (h2 _ (Kd.reads_of_C hC)), h3⟩
inductive RdB (n s : Nat) (rest : List Int) : List ByteArray → Nat → Int → Prop where
  | badHead (hne : s ≠ crc (four n)) : RdB n s rest [] 0 52
  | cut (hs : s = crc (four n)) (hr : rest.length < n + 4) : RdB n s rest [] 0 0
  | badBody (hs : s = crc (four n)) (bb : List Int) (t : Nat) (rest2 : List Int) (hr : rest = bb ++ (four t ++ rest2)) (hn : bb.length = n) (ht : t < 4294967296) (hne : t ≠ crc bb) : RdB n s rest [] 0 52
  | good (hs : s = crc (four n)) (g : List ByteArray) (rest2 : List Int) (hr : rest = body g ++ (four (crc (body g)) ++ rest2)) (hn : (body g).length = n) (hg : GOk g) : RdB n s rest g (12 + n) 0
def RdIs (L : List Int) (g : List ByteArray) (k : Nat) (e : Int) : Prop := (L.length < 8 ∧ g = [] ∧ k = 0 ∧ e = 0) ∨ ∃ n s rest, L = four n ++ (four s ++ rest) ∧ n < 4294967296 ∧ s < 4294967296 ∧ RdB n s rest g k e
set_option maxHeartbeats 16000000 in
set_option maxRecDepth 100000 in
theorem read_calls (w : World) (hLd : Laid w) (A : Option Addr) (c : Nat) (L : List Int) (hC : Kd.C kB w A L.length L) (hc : L.length ≤ c) (hb : byteL L) (hlen0 : L.length < 1099511627776) {g : List ByteArray} {k : Nat} {e : Int} (h : RdIs L g k e) :
    Calls Tryd.prog 32 #[.slice A L.length c] w fun x w' => ∃ v, x = .returned (.tuple #[v, .int .i64 k, .int .i64 e]) ∧ Kd.R Kd.string 9 w' w.heap.size (fun _ => True) v g ∧ Below w.heap.size w w' := by
  rcases h with ⟨h, rfl, rfl, rfl⟩ | ⟨n, s, rest, hL, hn, hs, hR⟩
  · have hlt : ((L.length : Int)) < 8 := by omega
    clear hLd hC hb
    generalize L.length = ln at *
    go_enter Tryd.func32, Tryd.ntmps32
    go_wp2
    go_ret3
    exact ⟨_, rfl, Kd.R_nil _ _ _ _ _, Below.refl _ _⟩
  · have hL4 : (four n).length = 4 := rfl
    have hlen : L.length = 8 + rest.length := by rw [hL]; simp only [List.length_append, four_length]; omega
    obtain ⟨A1, M1, hM1, hq1, hC1, hc1⟩ := dropB w A c L 4 4 rfl hC (by omega) hc
    obtain ⟨M2, hM2, hq2, hC2, hc2⟩ := takeB w A c L 4 4 rfl hC (by omega) hc
    have hd1 : M1 = four s ++ rest := by rw [hM1, hL]; rfl
    have hd2 : M2 = four n := by rw [hM2, hL]; rfl
    have HN1 := hid (show wal_number.f L = some ((n : Nat) : Int) from by rw [hL]; exact number_ev _ _ hn)
    have HN2 := hid (show wal_number.f M1 = some ((s : Nat) : Int) from by rw [hd1]; exact number_ev _ _ hs)
    have HM2 := hid hd2
    have hb2 : byteL M2 := by rw [hd2]; exact four_byte _
    have hl2 : M2.length < 4611686018427387904 := by rw [hd2, hL4]; omega
    have HLL := hid hL
    have HL := hid hLd
    have HC := hid hC
    have HCB := hid hb
    have HCC := hid hc
    have hnlt : ¬ ((L.length : Int)) < 8 := by omega
    have HQ1 := hid (wal_number.calls A c L _ w hC hc HN1.out)
    have HQ2 := hid (fun (W : World) (hW : Below w.heap.size w W) => wal_number.calls A1 (c - 4) M1 _ W (Kd.C_below hC1 hW) hc1 HN2.out)
    have HQ3 := hid (fun (W : World) (k : Nat) (hW : Below w.heap.size w W) (hk : W.cell? ⟨k, 0, none⟩ = some (.slice A M2.length c)) => crc_calls W (hLd.below hW) k 1 A M2 c hk (Kd.C_below hC2 hW) hb2 hl2)
    have HR := hid hR
    have HLN := hid hlen
    clear hL hLd hC hC1 hC2 hM1 hM2 hd1 hd2 hb2 hL4 hc1 hc2 hl2 hb hR hlen hc
    generalize hLn : L.length = ln at *
    generalize hM1n : M1.length = m1 at *
    generalize hM2n : M2.length = m2 at *
    have HLn := hid hLn
    clear hM1n hM2n hLn
    go_enter Tryd.func32, Tryd.ntmps32
    go_upto_region 4 with (go_at_call 45; refine HQ1.out.mono ?_; rintro e w1 ⟨rfl, ⟨nd1, rfl⟩⟩)
    go_cut [18] (fun v18 wc => v18 = .bool (decide (s ≠ crc (four n))) ∧ Hid (Below w.heap.size w wc))
    case first =>
      go_region_with (first
        | (go_at_call 45; refine (HQ2.out _ (by repeat (first | exact Below.refl _ _ | apply pw_below_drewN | apply below_alloc | apply below_drew))).mono ?_; rintro e w2 ⟨rfl, ⟨nd2, rfl⟩⟩)
        | (go_at_call 46; refine (HQ3.out _ _ (by repeat (first | exact Below.refl _ _ | apply pw_below_drewN | apply below_alloc | apply below_drew)) (by exact (cell_of (MapKept.heap_alloc _ _).1 0).trans rfl)).mono ?_; rintro e w_ ⟨rfl, hww⟩; have hww2 := hww.symm; subst hww2))
      all_goals (go_wp2; go_meet; case rel => exact ⟨by rw [HM2.out, bne_nat], hid (by repeat (first | exact Below.refl _ _ | apply pw_below_drewN | apply below_alloc | apply below_drew))⟩)
    case rest =>
      obtain ⟨rfl, B1⟩ := hcut
      have hR := HR.out
      clear HR HQ1 HQ2 HQ3 hq1 hq2 HN1 HN2
      cases hR with
      | badHead hne =>
        rw [decide_eq_true hne]
        go_wp2
        go_ret3
        exact ⟨_, rfl, Kd.R_nil _ _ _ _ _, B1.out⟩
      | cut hse hr =>
        rw [decide_eq_false (by simp [hse])]
        have hlr := HLN.out
        have hlt2 : ((ln : Int)) - 12 < (n : Int) := by omega
        go_wp2
        go_ret3
        exact ⟨_, rfl, Kd.R_nil _ _ _ _ _, B1.out⟩
      | badBody hse bb t rest2 hr hbn ht hne =>
        rw [decide_eq_false (by simp [hse])]
        have hlr := HLN.out
        have hrl : rest.length = n + (4 + rest2.length) := by rw [hr]; simp only [List.length_append, four_length, hbn]
        have hlt2 : ¬ ((ln : Int)) - 12 < (n : Int) := by omega
        obtain ⟨A6, M6, hM6, hq6, hC6, hc6⟩ := midB w A c L 8 (8 + n) 8 (8 + (n : Int)) rfl (by omega) (by rw [HLn.out]; exact HC.out) (by omega) (by rw [HLn.out]; omega) (by rw [HLn.out]; exact HCC.out)
        obtain ⟨A7, M7, hM7, hq7, hC7, hc7⟩ := dropB w A c L (8 + n) (8 + (n : Int)) (by omega) (by rw [HLn.out]; exact HC.out) (by rw [HLn.out]; omega) (by rw [HLn.out]; exact HCC.out)
        rw [HLn.out] at hq6 hq7
        have hLs : L = (four n ++ four s) ++ (bb ++ (four t ++ rest2)) := by rw [HLL.out, hr]; simp only [List.append_assoc]
        have h8 : (four n ++ four s).length = 8 := rfl
        have e6 : M6 = bb := by rw [hM6, hLs]; exact mid_split _ _ _ h8 (by rw [hbn])
        have e7 : M7 = four t ++ rest2 := by rw [hM7, hLs]; exact drop_split _ _ _ h8 (by rw [hbn])
        have hb6 : byteL M6 := fun x hx => HCB.out x (by rw [hLs]; rw [e6] at hx; simp [hx])
        have hl6 : M6.length < 4611686018427387904 := by rw [e6, hbn]; omega
        have HT := hid (show wal_number.f M7 = some ((t : Nat) : Int) from by rw [e7]; exact number_ev _ _ ht)
        have HQ2 := hid (fun (W : World) (hW : Below w.heap.size w W) => wal_number.calls A7 (c - (8 + n)) M7 _ W (Kd.C_below hC7 hW) hc7 HT.out)
        have HQ3 := hid (fun (W : World) (k : Nat) (hW : Below w.heap.size w W) (hk : W.cell? ⟨k, 0, none⟩ = some (.slice A6 M6.length (c - 8))) => crc_calls W (HL.out.below hW) k 1 A6 M6 (c - 8) hk (Kd.C_below hC6 hW) hb6 hl6)
        have HN := hid (show ((t : Int) != ((crc M6 : Nat) : Int)) = true from by rw [bne_nat, e6]; exact decide_eq_true hne)
        clear hM6 hM7 hC6 hC7 hLs e6 e7 hb6 hl6 hc6 hc7 hlr hrl
        generalize M6.length = m6 at *
        generalize M7.length = m7 at *
        generalize crc M6 = cm at *
        have hN := HN.out
        clear HN
        go_wp2_with (first
          | (go_at_call 45; refine (HQ2.out _ B1.out).mono ?_; rintro e w2 ⟨rfl, ⟨nd2, rfl⟩⟩; have B2 := hid (pw_below_drewN B1.out nd2))
          | (go_at_call 46; refine (HQ3.out _ _ (below_alloc B2.out _) (by exact (cell_of (MapKept.heap_alloc _ _).1 0).trans rfl)).mono ?_; rintro e w_ ⟨rfl, hww⟩; have hww2 := hww.symm; subst hww2))
        go_ret3
        exact ⟨_, rfl, Kd.R_nil _ _ _ _ _, below_alloc B2.out _⟩
      | good hse g0 rest2 hr hbn hg =>
        rw [decide_eq_false (by simp [hse])]
        have hlr := HLN.out
        have hrl : rest.length = n + (4 + rest2.length) := by rw [hr]; simp only [List.length_append, four_length, hbn]
        have hlt2 : ¬ ((ln : Int)) - 12 < (n : Int) := by omega
        obtain ⟨A6, M6, hM6, hq6, hC6, hc6⟩ := midB w A c L 8 (8 + n) 8 (8 + (n : Int)) rfl (by omega) (by rw [HLn.out]; exact HC.out) (by omega) (by rw [HLn.out]; omega) (by rw [HLn.out]; exact HCC.out)
        obtain ⟨A7, M7, hM7, hq7, hC7, hc7⟩ := dropB w A c L (8 + n) (8 + (n : Int)) (by omega) (by rw [HLn.out]; exact HC.out) (by rw [HLn.out]; omega) (by rw [HLn.out]; exact HCC.out)
        rw [HLn.out] at hq6 hq7
        have hLs : L = (four n ++ four s) ++ (body g ++ (four (crc (body g)) ++ rest2)) := by rw [HLL.out, hr]; simp only [List.append_assoc]
        have h8 : (four n ++ four s).length = 8 := rfl
        have e6 : M6 = body g := by rw [hM6, hLs]; exact mid_split _ _ _ h8 (by rw [hbn])
        have e7 : M7 = four (crc (body g)) ++ rest2 := by rw [hM7, hLs]; exact drop_split _ _ _ h8 (by rw [hbn])
        have hb6 : byteL M6 := by rw [e6]; exact body_byte g
        have hl6 : M6.length < 4611686018427387904 := by rw [e6, hbn]; omega
        have hm6 : M6.length = n := by rw [e6, hbn]
        have HT := hid (show wal_number.f M7 = some ((crc M6 : Nat) : Int) from by rw [e7, e6]; exact number_ev _ _ (crc_lt _))
        have HQ2 := hid (fun (W : World) (hW : Below w.heap.size w W) => wal_number.calls A7 (c - (8 + n)) M7 _ W (Kd.C_below hC7 hW) hc7 HT.out)
        have HQ3 := hid (fun (W : World) (k : Nat) (hW : Below w.heap.size w W) (hk : W.cell? ⟨k, 0, none⟩ = some (.slice A6 M6.length (c - 8))) => crc_calls W (HL.out.below hW) k 1 A6 M6 (c - 8) hk (Kd.C_below hC6 hW) hb6 hl6)
        have hN : (((crc M6 : Nat) : Int) != ((crc M6 : Nat) : Int)) = false := by simp
        obtain ⟨N, hNg⟩ : ∃ N, N = g.length := ⟨_, rfl⟩
        have hN8 : N ≤ 8192 := by rw [hNg]; exact hg.1
        obtain ⟨at_, hat_⟩ : ∃ at_ : Nat → Nat, at_ = fun kk => (uv (2 * N) ++ bodyT (g.take kk)).length := ⟨_, rfl⟩
        have a0 : at_ 0 = (uv (2 * N)).length := by rw [hat_]; simp [bodyT]
        have aN : at_ N = n := by rw [hat_, ← hbn]; simp only; rw [hNg, List.take_length]; rfl
        have hTI : ∃ k1, wire_TakeInt.f k1 M6 0 = some ((N : Int), ((at_ 0 : Nat) : Int), true) := by
          have := (takeInt_ev [] (bodyT g) N (by omega) (by rw [List.nil_append]; show byteL (uv (2 * N) ++ bodyT g); rw [hNg]; exact body_byte g) (by rw [List.nil_append, hNg]; show (body g).length < _; rw [hbn]; omega)).rounds
          have e9 : body g = uv (2 * N) ++ bodyT g := by rw [hNg]; rfl
          rw [e6, a0, e9]
          simpa only [List.nil_append, List.length_nil, Nat.zero_add, Int.natCast_zero] using this
        obtain ⟨k1, hk1⟩ := hTI
        have hTT : ∀ kk, kk < N → ∃ kr, wire_TakeText.f kr M6 ((at_ kk : Nat) : Int) ((M6.length : Nat) : Int) = some (g.getD kk ByteArray.empty, ((at_ (kk + 1) : Nat) : Int), true) := fun kk hkk => by
          have hlt : kk < g.length := by omega
          have hge : g.getD kk ByteArray.empty = g[kk] := by rw [List.getD_eq_getElem?_getD, List.getElem?_eq_getElem hlt]; rfl
          have hs6 : M6 = (uv (2 * N) ++ bodyT (g.take kk)) ++ (putT g[kk] ++ bodyT (g.drop (kk + 1))) := by
            rw [e6]
            show uv (2 * g.length) ++ bodyT g = _
            have hx := bodyT_append (g.take kk) (g.drop kk)
            rw [List.take_append_drop, List.drop_eq_getElem_cons hlt, bodyT_cons] at hx
            rw [hx, ← hNg, List.append_assoc]
          have h1 := (takeText_ev (uv (2 * N) ++ bodyT (g.take kk)) (bodyT (g.drop (kk + 1))) g[kk] (hg.one _ (List.getElem_mem hlt)) (by rw [← hs6]; exact hb6) (by rw [← hs6]; exact hl6)).rounds
          rw [← hs6] at h1
          have e1 : at_ kk = (uv (2 * N) ++ bodyT (g.take kk)).length := by rw [hat_]
          have e2 : at_ (kk + 1) = (uv (2 * N) ++ bodyT (g.take kk)).length + (putT g[kk]).length := by
            rw [hat_]
            simp only
            rw [List.take_succ_eq_append_getElem hlt, bodyT_append]
            simp [bodyT, Nat.add_assoc]
          rw [hge, e1, e2]
          exact h1
        have HQ4 := hid (fun (W : World) (hW : Below w.heap.size w W) => wire_TakeInt.calls k1 A6 (c - 8) M6 0 _ _ _ W (Kd.C_below hC6 hW) hc6 hk1)
        have HQ5 := hid (fun (kk : Nat) (hkk : kk < N) (W : World) (hW : Below w.heap.size w W) => (show Calls Tryd.prog 48 #[.slice A6 M6.length (c - 8), .int .i64 ((at_ kk : Nat) : Int), .int .i64 ((M6.length : Nat) : Int)] W fun e w' => e = .returned (.tuple #[.string (g.getD kk ByteArray.empty), .int .i64 ((at_ (kk + 1) : Nat) : Int), .bool true]) ∧ Drawn0 W w' from by
          obtain ⟨kr, hkr⟩ := hTT kk hkk
          exact wire_TakeText.calls kr A6 (c - 8) M6 _ _ _ _ _ W (Kd.C_below hC6 hW) hc6 hkr))
        have HAT := hid aN
        have HNG := hid hNg
        clear hM6 hM7 hC6 hC7 hLs e6 e7 hb6 hl6 hc6 hc7 hlr hrl hTT hk1 hat_ a0 aN h8 hr hbn hg hNg
        generalize crc M6 = cm at *
        rw [hm6] at hq6 HQ3 HQ4 HQ5
        clear hm6
        generalize M7.length = m7 at *
        go_wp2_with (first
          | (go_at_call 45; refine (HQ2.out _ B1.out).mono ?_; rintro e w2 ⟨rfl, ⟨nd2, rfl⟩⟩; have B2 := hid (pw_below_drewN B1.out nd2))
          | (go_at_call 46; refine (HQ3.out _ _ (below_alloc B2.out _) (by exact (cell_of (MapKept.heap_alloc _ _).1 0).trans rfl)).mono ?_; rintro e w_ ⟨rfl, hww⟩; have hww2 := hww.symm; subst hww2)
          | (go_at_call 47; refine (HQ4.out _ (below_alloc B2.out _)).mono ?_; rintro e w4 ⟨rfl, ⟨nd4, rfl⟩⟩; have B4 := hid (pw_below_drewN (below_alloc B2.out (.cells #[.slice A6 n (c - 8)] 33)) nd4)))
        go_loopg [7, 8, 9, 10, 11] N (fun gg s7 s8 s9 s10 _ wr => ∃ (kk : Nat) (A8 : Option Addr) (c8 : Nat) (acc : List ByteArray), kk ≤ N ∧ N - kk ≤ gg ∧ s7 = .int .i64 ((N - kk : Nat) : Int) ∧ s8 = .int .i64 ((at_ kk : Nat) : Int) ∧ s9 = .bool true ∧ s10 = .slice A8 acc.length c8 ∧ acc.length = kk ∧ Hid (acc = g.take kk) ∧ Hid (Kd.R Kd.string 9 wr w.heap.size (fun _ => True) (.slice A8 acc.length c8) acc) ∧ Hid (Below w.heap.size w wr))
        case atStart => exact ⟨0, none, 0, [], Nat.zero_le _, by omega, rfl, rfl, rfl, rfl, rfl, hid rfl, hid (Kd.R_nil _ _ _ _ _), B4⟩
        case round =>
          obtain ⟨kk, A8, c8, acc, hkk, hgk, rfl, rfl, rfl, rfl, hal, HA, R8, B8⟩ := hrel
          by_cases hlt : kk < N
          · have hpos : (0 : Int) < ((N - kk : Nat) : Int) := by omega
            have hsub : ((N - kk : Nat) : Int) - 1 = ((N - (kk + 1) : Nat) : Int) := by omega
            have HQ6 := hid (HQ5.out kk hlt)
            have HA2 := hid (show acc ++ [g.getD kk ByteArray.empty] = g.take (kk + 1) from by
              rw [HA.out, List.take_succ_eq_append_getElem (by rw [← HNG.out]; exact hlt), List.getD_eq_getElem?_getD, List.getElem?_eq_getElem (by rw [← HNG.out]; exact hlt)]; rfl)
            generalize g.getD kk ByteArray.empty = sx at *
            have HAL := hid hal
            have HSUB := hid hsub
            have HLT := hid hlt
            clear hal HA hlt hsub
            generalize hnk : ((N - kk : Nat) : Int) = nk at *
            have hnk2 : -9223372036854775808 ≤ nk ∧ nk < 4611686018427387904 := by omega
            clear hnk
            go_wp2_with (first
              | (go_at_call 48; refine (HQ6.out _ B8.out).mono ?_; rintro e w5 ⟨rfl, ⟨nd5, rfl⟩⟩; have B9 := hid (pw_below_drewN B8.out nd5); have R9 := hid (Kd.R_drewN R8.out nd5))
              | ((with_reducible refine gate_builtin (b := .append) (xs := #[.tmp 68, .tmp 70]) rfl ?_); (try (refine gate_guard (by rfl) ?_; dsimp only)); at_builtin; refine Kd.R_append Kd.string (w0 := w) w.heap.size rfl (.tmp 68) (.tmp 70) 34 9 (.string ⟨#[]⟩) 16 rfl Tryd.underlying34 info9 rfl (by decide) (by omega) (.slice A8 acc.length c8) acc sx [.string sx] (fun _ => True) (fun _ => False) rfl rfl ?aP (fun _ hk => hk.elim) (fun _ _ => trivial) ?aO ?aB ?aS ?aL ?_; (case aP => exact rfl); (case aO => exact R9.out); (case aB => exact B9.out); (case aS => exact B9.out.size); (case aL => have := HAL.out; omega); intro v6 w6 hr6 hb6 hg6 hat6; obtain ⟨A9, c9, rfl⟩ := Kd.R_slice hr6; have R6 := hid hr6; have B6 := hid hb6; clear hr6 hb6 hg6 hat6))
            have hltx := HLT.out
            go_roundg (N - (kk + 1))
            case measure => omega
            case rel => exact ⟨kk + 1, A9, c9, acc ++ [sx], by omega, by omega, by rw [← HSUB.out], rfl, rfl, by rw [List.length_append]; rfl, by rw [List.length_append, HAL.out]; rfl, HA2, R6, B6⟩
          · obtain rfl : kk = N := by omega
            have hz : ((kk - kk : Nat) : Int) = 0 := by omega
            rw [hz, HAT.out]
            have hacc : acc = g := by rw [HA.out, HNG.out, List.take_length]
            have HACC := hid hacc
            clear HA hacc HAT hz
            go_wp2
            go_ret3
            exact ⟨_, rfl, by rw [← HACC.out]; exact R8.out, B8.out⟩
end Go.Proofs.YthlmbgaipbjbhaaDoor.L
end
section
namespace Go.Proofs.YthlmbgaipbjbhaaDoor.L
open Go.RowKit Go.Lib Go.Maps Go.Proofs.YthlmbgaipbjbhaaDoor.P
open Go.Proofs.YthlmbgaipbjbhaaDoorW.PrintWords Go.Proofs.YthlmbgaipbjbhaaDoorW.PrintLast Go.Proofs.YthlmbgaipbjbhaaDoorW.PrintMore
set_option linter.unusedVariables false
def logObj (d : Nat) (name : ByteArray) (size : Int) (ready torn : Bool) : Obj := .cells #[P d, .string name, .int .i64 size, .bool ready, .bool torn] 75 (0, 0)
structure LG (w0 w : World) (k : Nat) (D0 D : Dk) (name : ByteArray) (size : Int) (ready torn : Bool) : Prop where
  at_ : DkAt w D
  log : w.heap[k]? = some (logObj D.d name size ready torn)
  fr : Fr (k :: D0.own) w0 w
  own : ∀ j ∈ D.own, j ∈ D0.own ∨ w0.heap.size ≤ j
  box : ∀ j ∈ D.boxes, j ∈ D0.boxes ∨ w0.heap.size ≤ j
  off : k ∉ D0.own ∧ k ∉ D0.boxes ∧ k < w0.heap.size
section
variable {w0 w w' : World} {k : Nat} {D0 D D' : Dk} {name : ByteArray} {size : Int} {ready torn : Bool}
theorem LG.start (h : DkAt w D) (hl : w.heap[k]? = some (logObj D.d name size ready torn)) (h1 : k ∉ D.own) (h2 : k ∉ D.boxes) : LG w w k D D name size ready torn :=
  ⟨h, hl, Fr.refl _ _, fun _ hk => .inl hk, fun _ hk => .inl hk, h1, h2, lt_of hl⟩
theorem LG.koff (h : LG w0 w k D0 D name size ready torn) : k ∉ D.own ∧ k ∉ D.boxes :=
  ⟨fun hm => (h.own k hm).elim h.off.1 (fun e => by have := h.off.2.2; omega), fun hm => (h.box k hm).elim h.off.2.1 (fun e => by have := h.off.2.2; omega)⟩
theorem LG.step (h : LG w0 w k D0 D name size ready torn) (g : Goes w w' D D') (hd : D'.d = D.d) : LG w0 w' k D0 D' name size ready torn :=
  ⟨g.at_, by rw [g.fr.keep k (lt_of h.log) h.koff.1, hd]; exact h.log, h.fr.trans (g.fr.wider (fun j hj => .inl (List.mem_cons_of_mem _ hj)) : Fr (k :: D.own) w w') (fun j hj => by
    rcases List.mem_cons.1 hj with e | hj
    · exact .inl (by rw [e]; exact List.mem_cons_self)
    · rcases h.own j hj with e | e
      · exact .inl (List.mem_cons_of_mem _ e)
      · exact .inr e), fun j hj => by
    rcases g.own j hj with e | e
    · exact h.own j e
    · exact .inr (Nat.le_trans h.fr.size e), fun j hj => by
    rcases g.box j hj with e | e
    · exact h.box j e
    · exact .inr (Nat.le_trans h.fr.size e), h.off⟩
theorem LG.c0 (h : LG w0 w k D0 D name size ready torn) : w.cell? ⟨k, 0, none⟩ = some (P D.d) := (cell_of h.log 0).trans rfl
theorem LG.c1 (h : LG w0 w k D0 D name size ready torn) : w.cell? ⟨k, 1, none⟩ = some (.string name) := (cell_of h.log 1).trans rfl
theorem LG.c2 (h : LG w0 w k D0 D name size ready torn) : w.cell? ⟨k, 2, none⟩ = some (.int .i64 size) := (cell_of h.log 2).trans rfl
theorem LG.c3 (h : LG w0 w k D0 D name size ready torn) : w.cell? ⟨k, 3, none⟩ = some (.bool ready) := (cell_of h.log 3).trans rfl
theorem LG.c4 (h : LG w0 w k D0 D name size ready torn) : w.cell? ⟨k, 4, none⟩ = some (.bool torn) := (cell_of h.log 4).trans rfl
theorem LG.free (h : LG w0 w k D0 D name size ready torn) (i : Nat) : w.frozen? ⟨k, i, none⟩ = false := free_of h.log i
theorem LG.put (h : LG w0 w k D0 D name size ready torn) (i : Nat) (v : Value) {size' : Int} {ready' torn' : Bool} (hh : (w.setCell ⟨k, i, none⟩ v).heap[k]? = some (logObj D.d name size' ready' torn')) : LG w0 (w.setCell ⟨k, i, none⟩ v) k D0 D name size' ready' torn' :=
  ⟨h.at_.keep (fun j hj _ => Below.heap_setCell w _ _ j (fun e => by rcases hj with hj | hj <;> (rw [show j = k from e] at hj; first | exact h.koff.1 hj | exact h.koff.2 hj))), hh,
    h.fr.trans (Fr.set w ⟨k, i, none⟩ v (List.mem_cons_self) : Fr (k :: D0.own) _ _) (fun _ hj => .inl hj), h.own, h.box, h.off⟩
theorem LG.size_ (h : LG w0 w k D0 D name size ready torn) (x : Int) : LG w0 (w.setCell ⟨k, 2, none⟩ (.int .i64 x)) k D0 D name x ready torn := h.put 2 _ (by rw [heap_set h.log]; rfl)
theorem LG.ready_ (h : LG w0 w k D0 D name size ready torn) (x : Bool) : LG w0 (w.setCell ⟨k, 3, none⟩ (.bool x)) k D0 D name size x torn := h.put 3 _ (by rw [heap_set h.log]; rfl)
theorem LG.torn_ (h : LG w0 w k D0 D name size ready torn) (x : Bool) : LG w0 (w.setCell ⟨k, 4, none⟩ (.bool x)) k D0 D name size ready x := h.put 4 _ (by rw [heap_set h.log]; rfl)
theorem LG.new (h : LG w0 w k D0 D name size ready torn) (f : Fr [] w w') : LG w0 w' k D0 D name size ready torn := h.step (Goes.new h.at_ f) rfl
end
def Lies (D : Dk) (s : ByteArray) (b : List Int) (ready : Bool) : Prop := ∃ o, Firm D s o ∧ o.getD [] = b ∧ (ready = true → o ≠ none)
def Gone (D : Dk) : Prop := ¬ (D.cut < 0 ∧ D.off = false)
theorem gone_of {D : Dk} (h : D.dead = true) : Gone D := fun hh => by rw [live_of hh.1 hh.2] at h; cases h
theorem gone_before {D D1 : Dk} {T : ByteArray → Prop} {j : Nat} (d : Did T j D D1) (h : Gone D1) : Gone D := fun hh => h ⟨by rw [d.cut]; exact hh.1, d.off hh.1 hh.2⟩
theorem gone_did {D D1 : Dk} {T : ByteArray → Prop} {j : Nat} (d : Did T j D D1) (h : D1.dead = true) : Gone D := gone_before d (gone_of h)
def Why (D D' : Dk) (c : Int) (R : Nat) : Prop := (c = 33 ∧ D.room < (R : Int)) ∨ (c = 34 ∧ ∃ t, D.ops ≤ t ∧ t < D'.ops ∧ 0 < D.fails t)
theorem Lies.cuts {D : Dk} {s : ByteArray} {b : List Int} {r : Bool} {N B : Nat} {Q : List Int → Prop} (h : Lies D s b r) (g : Good N B D) (hq : Q b) : Cuts D s (fun o => Q (o.getD [])) := by
  obtain ⟨o, h1, h2, _⟩ := h
  exact h1.cuts g (by rw [h2]; exact hq)
theorem Lies.did {D D' : Dk} {s : ByteArray} {b : List Int} {r : Bool} {T : ByteArray → Prop} {j : Nat} (h : Lies D s b r) (d : Did T j D D') (hT : ∀ x, T x → x ≠ s) : Lies D' s b r := by
  obtain ⟨o, h1, h2⟩ := h
  exact ⟨o, d.firm s o hT h1, h2⟩
theorem Lies.same {D D' : Dk} {s : ByteArray} {b : List Int} {r : Bool} (h : Lies D s b r) (hf : ∀ o, Firm D s o → Firm D' s o) : Lies D' s b r := by
  obtain ⟨o, h1, h2⟩ := h
  exact ⟨o, hf o h1, h2⟩
end Go.Proofs.YthlmbgaipbjbhaaDoor.L
end
