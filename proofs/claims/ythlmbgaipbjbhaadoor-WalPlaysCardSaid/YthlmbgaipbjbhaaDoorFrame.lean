/- wal.sealed, wal.frame: a group's bytes. -/
import Derived.Test.YthlmbgaipbjbhaaDoorVal
namespace Go.Proofs.YthlmbgaipbjbhaaDoor.L
open Go.RowKit Go.Lib Go.Maps Go.Proofs.YthlmbgaipbjbhaaDoor.P
open Go.Proofs.YthlmbgaipbjbhaaDoorW.PrintWords Go.Proofs.YthlmbgaipbjbhaaDoorW.PrintLast Go.Proofs.YthlmbgaipbjbhaaDoorW.PrintMore
set_option linter.unusedVariables false
theorem Laid.lt {w : World} (h : Laid w) : 0 < w.heap.size := World.block_lt_of_cell? w _ (h 0 (by decide))
theorem Laid.keep {w w' : World} (h : Laid w) (hk : w'.heap[0]? = w.heap[0]?) : Laid w' := fun i hi => by
  have := h i hi
  unfold World.cell? at this ⊢
  rw [hk]; exact this
theorem Laid.below {w w' : World} (h : Laid w) (hb : Below w.heap.size w w') : Laid w' := h.keep (hb.block _ h.lt)
theorem Laid.alloc {w : World} (h : Laid w) (o : Obj) : Laid (w.alloc o) := h.below (below_alloc (Below.refl _ _) o)
theorem Laid.fr {w w' : World} {own : List Nat} (h : Laid w) (f : Fr own w w') (hn : 0 ∉ own) : Laid w' := h.keep (f.keep _ h.lt hn)
set_option maxHeartbeats 4000000 in
set_option maxRecDepth 100000 in
theorem sealed_calls (w : World) (hL : Laid w) (base : Nat) (hbase : base ≤ w.heap.size) (v : Value) (l : List Int) (hR : Kd.R kB 5 w base (fun _ => True) v l) (hl : byteL l) (hlen : l.length < 1099511627776) :
    Calls Tryd.prog 54 #[v] w fun e w' => ∃ v', e = .returned v' ∧ Kd.R kB 5 w' base (fun _ => True) v' (l ++ four (crc l)) ∧ Below base w w' := by
  obtain ⟨A, c, rfl, hlc, hC⟩ := Kd.R_reads hR
  have HL := hid hL
  have HR := hid hR
  have HC := hid hC
  have HF := hid (four_ev (crc l) (crc_lt l))
  have hfl : (four (crc l)).length = 4 := rfl
  have hS : w.heap.size ≤ (w.alloc (.cells #[.slice A l.length c] 33)).heap.size := by simp only [World.size_alloc]; omega
  have HB0 := hid ((Below.refl base w).alloc hbase (.cells #[.slice A l.length c] 33))
  have hk : (w.alloc (.cells #[.slice A l.length c] 33)).cell? ⟨w.heap.size, 0, none⟩ = some (.slice A l.length c) := by
    have := (MapKept.heap_alloc w (.cells #[.slice A l.length c] 33)).1
    exact (cell_of this 0).trans rfl
  have HK := hid (crc_calls (w.alloc (.cells #[.slice A l.length c] 33)) (hL.alloc _) w.heap.size 1 A l c hk (Kd.C_alloc hC _) hl (by omega))
  clear hL hR hC hk
  go_enter Tryd.func54, Tryd.ntmps54
  go_wp2_with (first
    | (go_at_call 46; refine HK.out.mono ?_; rintro e w_ ⟨rfl, hww⟩; have hww2 := hww.symm; subst hww2; clear HK)
    | (go_at_call 55; refine (wal_four.calls _ _ _ HF.out).mono ?_; rintro e w3 ⟨v3, rfl, hr3, hb3⟩; obtain ⟨A3, c3, rfl, hlc3, hC3⟩ := Kd.R_reads hr3; have H3 := hid hC3; have B3 := hid hb3; have S3 := hid (Nat.le_trans hS hb3.size); clear hr3 hb3 hC3)
    | ((with_reducible refine gate_builtin (b := .append) (xs := #[.tmp 3, .tmp 7]) rfl ?_); at_builtin; refine Kd.R_append_rows kB (w0 := w) (base) rfl (.tmp 3) (.tmp 7) 33 5 (.int .u8 0) 1 rfl Tryd.underlying33 info5 rfl (by decide) (by omega) (.slice A l.length c) (l) (four (crc l)) _ _ _ (fun _ => True) (fun _ => False) rfl rfl ?aO ?aR (fun _ _ h => h) (fun _ h => h.elim) (fun _ _ => trivial) ?aB ?aS ?aL ?_; (case aO => exact Kd.R_below (Kd.R_alloc HR.out _) B3.out); (case aR => exact H3.out); (case aB => exact HB0.out.trans (B3.out.mono (Nat.le_trans hbase hS))); (case aS => exact (Nat.le_trans hbase S3.out)); (case aL => omega); intro v1 w1 hr1 hb1 hg1 hat1; have R1 := hid hr1; have B1 := hid hb1; clear hr1 hb1 hg1 hat1))
  go_ret
  exact ⟨v1, rfl, R1.out, B1.out⟩
theorem lies_S {w : World} {A : Option Addr} {l : List ByteArray} (hr : Kd.C Kd.string w A l.length l) (h0 : 0 < l.length) :
    ∃ b o, A = some ⟨b, o, none⟩ ∧ b < w.heap.size ∧ ∀ j, j < l.length → w.cell? ⟨b, o + j, none⟩ = some (.string (l.getD j ByteArray.empty)) := by
  obtain ⟨ad, rfl, hcell⟩ := (Kd.reads_of_C (d := ByteArray.empty) hr).2.2 h0
  have h00 := hcell 0 h0
  have hsp : ad.spot = none := by
    have := World.cell?_spot h00
    unfold Addr.add at this
    split at this <;> simp_all
  obtain ⟨b, o, sp⟩ := ad
  simp only at hsp
  subst hsp
  have hb : b < w.heap.size := by
    have := World.block_lt_of_cell? w _ h00
    simpa [Addr.add] using this
  refine ⟨b, o, rfl, hb, fun j hj => ?_⟩
  have := hcell j hj
  have e : (⟨b, o, none⟩ : Addr).add j = ⟨b, o + j, none⟩ := by
    unfold Addr.add
    split
    · rename_i hz; subst hz; rfl
    · rfl
  rw [e] at this
  exact this
theorem C_nilB (w : World) : Kd.C (Kd.int .u8) w none ([] : List Int).length [] := ⟨rfl, by simp, fun h => by simp at h⟩
set_option maxHeartbeats 8000000 in
set_option maxRecDepth 100000 in
theorem frame_calls (w : World) (hL : Laid w) (A : Option Addr) (c : Nat) (g : List ByteArray) (hC : Kd.C Kd.string w A g.length g) (hg : GOk g) :
    Calls Tryd.prog 35 #[.slice A g.length c] w fun e w' => ∃ v', e = .returned v' ∧ Kd.R kB 5 w' w.heap.size (fun _ => True) v' (enc g) ∧ Below w.heap.size w w' := by
  obtain ⟨k0, hk0⟩ := (putInt_ev g.length (by have := hg.1; omega)).rounds
  have HK0 := hid hk0
  have HL := hid hL
  have HC := hid hC
  have hgl : g.length ≤ 8192 := hg.1
  have hbl := hg.body
  have hsz := hg.2
  have HG := hid hg
  have hb5 : (body g).length < 4294967296 := by omega
  have HN := hid (fun (r : Below w.heap.size w w) => r)
  clear hk0 hL hC
  generalize hn : g.length = n at *
  go_enter Tryd.func35, Tryd.ntmps35
  have hS0 := Nat.le_refl w.heap.size
  have HU := hid (uv_short (n := n) (by omega))
  have HMAX := hid (show ∀ kk, kk ≤ n → (uv (2 * n) ++ bodyT (g.take kk)).length ≤ 5 + 5 * n + sizes g from fun kk hk => by
    have h1 := uv_short (n := n) (by omega)
    have h2 := (bodyT_len (g.take kk) (fun x hx => HG.out.one x (List.mem_of_mem_take hx))).1
    have h3 : sizes (g.take kk) ≤ sizes g := by
      have := sizes_append (g.take kk) (g.drop kk)
      rw [List.take_append_drop] at this
      omega
    have h4 : (g.take kk).length = kk := by rw [List.length_take]; omega
    rw [List.length_append]
    omega)
  go_wp2_with (go_at_call 52; refine (wire_PutInt.calls k0 none 0 [] _ _ w (C_nilB w) (Nat.le_refl _) HK0.out).mono ?_; rintro e w1 ⟨v1, rfl, hr1, hb1⟩; obtain ⟨A1, c1, rfl⟩ := Kd.R_slice hr1; have R1 := hid hr1; have B1 := hid hb1; clear hr1 hb1)
  go_loopg [3, 5, 11] n (fun gg s3 _ s11 wr => ∃ (kk : Nat) (A1 : Option Addr) (c1 : Nat) (acc : List Int), kk ≤ n ∧ n - kk ≤ gg ∧ s3 = .slice A1 acc.length c1 ∧ s11 = .int .i64 kk ∧ Hid (acc = uv (2 * n) ++ bodyT (g.take kk)) ∧ Hid (Kd.R kB 5 wr w.heap.size (fun _ => True) (.slice A1 acc.length c1) acc) ∧ Hid (Below w.heap.size w wr))
  case atStart => exact ⟨0, A1, c1, uv (2 * n), Nat.zero_le _, by omega, rfl, rfl, hid (by simp [bodyT]), R1, B1⟩
  case round =>
    obtain ⟨kk, A2, c2, acc, hkk, hgk, rfl, rfl, HA, R2, B2⟩ := hrel
    have hS2 := B2.out.size
    by_cases hlt : kk < n
    · have hltz : (kk : Int) < (n : Int) := by omega
      obtain ⟨b, o, hAe, hbw, hcell⟩ := lies_S (by rw [hn]; exact HC.out) (by omega)
      subst hAe
      have hcl : wr.cell? ⟨b, o + kk, none⟩ = some (.string (g.getD kk ByteArray.empty)) := by
        have h1 := hcell kk (by omega)
        have h2 := B2.out.block b hbw
        unfold World.cell? at h1 ⊢
        rw [h2]; exact h1
      have hgs : g.getD kk ByteArray.empty ∈ g := by rw [List.getD_eq_getElem?_getD, List.getElem?_eq_getElem (by omega)]; exact List.getElem_mem _
      have HACC := hid (show acc ++ putT (g.getD kk ByteArray.empty) = uv (2 * n) ++ bodyT (g.take (kk + 1)) from by
        rw [HA.out, List.append_assoc, List.take_succ_eq_append_getElem (by omega), bodyT_append]
        congr 2
        rw [List.getD_eq_getElem?_getD, List.getElem?_eq_getElem (by omega)]
        simp [bodyT])
      have hmx := HMAX.out (kk + 1) (by omega)
      rw [← HACC.out, List.length_append] at hmx
      have hss := HG.out.one _ hgs
      generalize g.getD kk ByteArray.empty = s at *
      obtain ⟨k5, hk5⟩ := (putText_ev s hss).rounds
      have HK5 := hid hk5
      clear hcell hgs hss hk5
      go_wp2_with (first
        | (go_at_call 53; refine (wire_PutText.calls k5 none 0 [] _ _ wr (C_nilB wr) (Nat.le_refl _) HK5.out).mono ?_; rintro e w3 ⟨v3, rfl, hr3, hb3⟩; obtain ⟨A3, c3, rfl, hlc3, hC3⟩ := Kd.R_reads hr3; have H3 := hid hC3; have B3 := hid hb3; have S3 := hid hb3.size; clear hr3 hb3 hC3)
        | ((with_reducible refine gate_builtin (b := .append) (xs := #[.tmp 15, .tmp 17]) rfl ?_); at_builtin; refine Kd.R_append_rows kB (w0 := w) (w.heap.size) rfl (.tmp 15) (.tmp 17) 33 5 (.int .u8 0) 1 rfl Tryd.underlying33 info5 rfl (by decide) (by omega) (.slice A2 acc.length c2) (acc) (putT s) _ _ _ (fun _ => True) (fun _ => False) rfl rfl ?aO ?aR (fun _ _ h => h) (fun _ h => h.elim) (fun _ _ => trivial) ?aB ?aS ?aL ?_; (case aO => exact Kd.R_below R2.out B3.out); (case aR => exact H3.out); (case aB => exact B2.out.trans (B3.out.mono hS2)); (case aS => exact (Nat.le_trans hS2 S3.out)); (case aL => omega); intro v4 w4 hr4 hb4 hg4 hat4; have R4 := hid hr4; have B4 := hid hb4; clear hr4 hb4 hg4 hat4))
      obtain ⟨A4, c4, hv4⟩ := Kd.R_slice R4.out
      subst hv4
      go_roundg (n - (kk + 1))
      case measure => omega
      case rel => exact ⟨kk + 1, A4, c4, acc ++ putT s, by omega, by omega, rfl, by go_num, HACC, R4, B4⟩
    · have hltz : ¬ (kk : Int) < (n : Int) := by omega
      have hacc : acc = body g := by
        rw [HA.out, List.take_of_length_le (by omega)]
        unfold L.body
        rw [hn]
      subst hacc
      have hbb := body_byte g
      have hee : enc g = four (body g).length ++ four (crc (four (body g).length)) ++ body g ++ four (crc (body g)) := rfl
      have HE := hid hee
      have HBB := hid hbb
      clear HA hee hbb HMAX HU hlt
      generalize body g = bb at *
      have hu32 : ((bb.length : Int)) % 4294967296 = (bb.length : Int) := by omega
      have HF1 := hid (four_ev bb.length hb5)
      have HF2 := hid (four_ev (crc bb) (crc_lt bb))
      obtain ⟨A2', c2', hvv, hlc2, hC2⟩ := Kd.R_reads R2.out
      cases hvv
      have HC2 := hid hC2
      clear hC2
      go_wp2_with (first
        | (go_at_call 55; (with_reducible refine (wal_four.calls _ _ wr HF1.out).mono ?_); rintro e w4 ⟨v4, rfl, hr4, hb4⟩; have R4 := hid hr4; have B4 := hid hb4; have L4 := hid ((HL.out.below B2.out).below hb4); have S4 := hid hb4.size; clear hr4 hb4)
        | (go_at_call 54; refine (sealed_calls _ L4.out wr.heap.size S4.out _ _ R4.out (four_byte _) (by have h4 : (four bb.length).length = 4 := rfl; omega)).mono ?_; rintro e w5 ⟨v5, rfl, hr5, hb5'⟩; have hl5 : (four bb.length ++ four (crc (four bb.length))).length = 8 := rfl; generalize hX5 : four bb.length ++ four (crc (four bb.length)) = X5 at hr5 hl5; have HX5 := hid hX5; have HL5 := hid hl5; clear hX5 hl5; obtain ⟨A5, c5, rfl⟩ := Kd.R_slice hr5; have R5 := hid hr5; have HBW := hid (show Below wr.heap.size wr w5 from B4.out.trans hb5'); have HSW := hid (show wr.heap.size ≤ w5.heap.size from (B4.out.trans hb5').size); have HC5 := hid (Kd.C_below HC2.out HBW.out); clear hr5 hb5')
        | (go_at_call 46; refine HK6.out.mono ?_; rintro e w_ ⟨rfl, hww⟩; have hww2 := hww.symm; subst hww2; clear HK6)
        | (go_at_call 55; (with_reducible refine (wal_four.calls _ _ _ HF2.out).mono ?_); rintro e w7 ⟨v7, rfl, hr7, hb7⟩; obtain ⟨A7, c7, rfl, hlc7, hC7⟩ := Kd.R_reads hr7; have C7 := hid hC7; have B7 := hid hb7; have S7 := hid (show w6.heap.size ≤ w7.heap.size from Nat.le_trans (by simp only [World.size_alloc]; omega) hb7.size); clear hr7 hb7 hC7)
        | ((with_reducible refine gate_builtin (b := .append) (xs := #[.tmp 24, .tmp 25]) rfl ?_); at_builtin; refine Kd.R_append_rows kB (w0 := wr) (wr.heap.size) rfl (.tmp 24) (.tmp 25) 33 5 (.int .u8 0) 1 rfl Tryd.underlying33 info5 rfl (by decide) (by omega) (_) (X5) (bb) _ _ _ (fun _ => True) (fun _ => False) rfl rfl ?aO ?aR (fun _ _ h => h) (fun _ h => h.elim) (fun _ _ => trivial) ?aB ?aS ?aL ?_; (case aO => exact R5.out); (case aR => exact (HC5.out : Kd.C (Kd.int .u8) w5 A2 bb.length bb)); (case aB => exact HBW.out); (case aS => exact HSW.out); (case aL => (have := HL5.out; omega)); intro v6 w6 hr6 hb6 hg6 hat6; have hl6 : (X5 ++ bb).length = 8 + bb.length := (by rw [List.length_append, HL5.out]); generalize hX6 : X5 ++ bb = X6 at hr6 hl6; have HX6 := hid hX6; have HL6 := hid hl6; clear hX6 hl6; obtain ⟨A6, c6, rfl⟩ := Kd.R_slice hr6; have R6 := hid hr6; have B6 := hid hb6; have S6 := hid (show wr.heap.size ≤ w6.heap.size from hb6.size); have C6 := hid (Kd.C_below HC2.out (show Below wr.heap.size wr w6 from hb6)); have hk6 := (cell_of (MapKept.heap_alloc w6 (.cells #[.slice A2 bb.length c2] 33)).1 0).trans rfl; have HK6 := hid (crc_calls (w6.alloc (.cells #[.slice A2 bb.length c2] 33)) (((HL.out.below B2.out).below hb6).alloc _) w6.heap.size 1 A2 bb c2 hk6 (Kd.C_alloc C6.out _) HBB.out (by omega)); clear hr6 hb6 hg6 hat6 hk6)
        | ((with_reducible refine gate_builtin (b := .append) (xs := #[.tmp 26, .tmp 30]) rfl ?_); at_builtin; refine Kd.R_append_rows kB (w0 := wr) (wr.heap.size) rfl (.tmp 26) (.tmp 30) 33 5 (.int .u8 0) 1 rfl Tryd.underlying33 info5 rfl (by decide) (by omega) (_) (X6) (four (crc bb)) _ _ _ (fun _ => True) (fun _ => False) rfl rfl ?aO ?aR (fun _ _ h => h) (fun _ h => h.elim) (fun _ _ => trivial) ?aB ?aS ?aL ?_; (case aO => exact Kd.R_below (Kd.R_alloc R6.out _) B7.out); (case aR => exact C7.out); (case aB => exact (B6.out.alloc S6.out _).trans (B7.out.mono (by simp only [World.size_alloc]; have := S6.out; omega))); (case aS => exact (Nat.le_trans S6.out S7.out)); (case aL => (have h9 : (four (crc bb)).length = 4 := rfl; have := HL6.out; omega)); intro v8 w8 hr8 hb8 hg8 hat8; have R8 := hid hr8; have B8 := hid hb8; clear hr8 hb8 hg8 hat8))
      go_ret
      refine ⟨v8, rfl, ?_, ?_⟩
      · rw [HE.out, HX5.out, HX6.out]; exact Kd.R_lower R8.out hS2
      · exact B2.out.trans (B8.out.mono hS2)
end Go.Proofs.YthlmbgaipbjbhaaDoor.L
