/- LruPlays, walked. -/
import Derived.Test.YtbiejjncjgapmaaTwin
import Derived.Test.YtbiejjncjgapmaaNone
import Derived.StillTailTactics
import Derived.Deep.DeepCutAuto
import Derived.Deep.CutBlock
import Derived.Deep.RegionHeld3
namespace Go.Proofs.Ytbiejjncjgapmaa.L
open Go.RowKit Go.Lib Go.Proofs.Ytbiejjncjgapmaa.P
open Go.Proofs.YtbiejjncjgapmaaW.PrintWords Go.Proofs.YtbiejjncjgapmaaW.PrintLast Go.Proofs.YtbiejjncjgapmaaW.PrintMore
set_option maxHeartbeats 8000000 in
set_option maxRecDepth 100000 in
theorem plays_calls (budget : Int) (A : Option Addr) (n cap : Nat) (Q : Nat → Op) (w : World) (hn : n ≤ 9223372036854775807)
    (hA : 0 < n → ∃ b o, A = some ⟨b, o, none⟩ ∧ b < w.heap.size ∧ ∀ i, i < n → OpAt w b o i (Q i))
    (hQ : ∀ i, i < n → OpIs w (Q i) ∧ (Q i).key.size ≤ 140737488351232 ∧ (Q i).val.size ≤ 140737488351232 ∧ (Q i).keys.length ≤ 8796093021952) :
    Calls Try.prog 3 #[.int .i64 budget, .slice A n cap] w fun e w' => e = .returned (.bool true) ∧ Below w.heap.size w w' := by
  have HA := hid hA
  have HQ := hid hQ
  clear hA hQ
  have hb0 : 0 ≤ maxZ budget := by unfold maxZ; split <;> omega
  have hbm := hid (show maxZ budget = if budget < 0 then 0 else budget from rfl)
  go_enter Try.func3, Try.ntmps3
  go_wp2_with (first | (go_at_call 6; refine (shown_calls _).mono ?_; rintro e w1 ⟨rfl, hb⟩; have B1 := hid hb; clear hb) | (go_at_call 7; refine (none_calls _).mono ?_; rintro e w2 ⟨rfl, hb⟩; have B2 := hid (B1.out.trans (hb.mono B1.out.size)); clear hb) | (go_at_call 8; refine (new_both w2 budget).mono ?_; rintro e w3 ⟨c, rfl, hc, m, hm, hh, hb⟩; have C3 := hid hh; have B3 := hid (B2.out.trans (hb.mono B2.out.size)); have hc3 := Nat.le_trans B2.out.size hc; have hm3 := Nat.le_trans B2.out.size hm; clear hc hm hh hb) | (go_at_call 9; refine (ref_new w3 budget).mono ?_; rintro e w4 ⟨rfl, hr, hb⟩; have S0 := hid (tw_start C3.out B3.out hc3 hm3 hr hb); clear hr hb))
  clear B1 B2 C3 B3 hc3 hm3
  generalize hbud : maxZ budget = bud at *
  generalize hrr : w3.heap.size = rr at *
  go_loopg [9] n (fun gg s9 wr => ∃ (kk n1 : Nat) (is os : List Item) (v : Value), kk ≤ n ∧ n - kk ≤ gg ∧ s9 = .int .i64 kk ∧ kk ≤ 200 ∧ os.length ≤ kk ∧ n1 ≤ kk ∧ Hid (Tw w wr c m is os os bud n1 rr v) ∧ Hid (weightI os ≤ kk * 281474976710656))
  case atStart => exact ⟨0, 0, [], [], _, Nat.zero_le _, by omega, rfl, by omega, Nat.le_refl _, Nat.le_refl _, S0, hid (by simp [weightI])⟩
  case round =>
    clear S0
    obtain ⟨kk, n1, is, os, v, hkk, hg, rfl, hk200, hol, hn1, HS, HV⟩ := hrel
    by_cases hlt : kk < n
    · have hltz : (kk : Int) < (n : Int) := by omega
      by_cases h200 : kk < 200
      · have h200z : (kk : Int) < 200 := by omega
        obtain ⟨b, o, rfl, hb, hcells⟩ := HA.out (by omega)
        have hop := hcells kk hlt
        obtain ⟨hq, hqk, hqv, hqn⟩ := HQ.out kk hlt
        have d0 := (HS.out.below.cell (p := ⟨b, o + kk * 4, none⟩) hb).trans hop.c0
        have d1 := (HS.out.below.cell (p := ⟨b, o + kk * 4 + 1, none⟩) hb).trans hop.c1
        have d2 := (HS.out.below.cell (p := ⟨b, o + kk * 4 + 2, none⟩) hb).trans hop.c2
        have d3 := (HS.out.below.cell (p := ⟨b, o + kk * 4 + 3, none⟩) hb).trans hop.c3
        clear hop hcells
        generalize hqe : Q kk = q at hq hqk hqv hqn d0 d1 d2 d3
        obtain ⟨r, hr⟩ := pick_is q.kind
        have HP := hid (fun W => tussocklaw07_pick.calls q.kind 7 r W hr)
        clear hr
        have hv1 : weightI os + 281474976702464 ≤ (kk + 1) * 281474976710656 := by have := HV.out; omega
        have hv2 : weightI os < 2305843009213693952 := by have := HV.out; omega
        have hv3 : weightI os ≤ (kk + 1) * 281474976710656 := by omega
        have hsz : q.key.size < 1152921504606846976 ∧ q.val.size < 1152921504606846976 ∧ os.length < 4294967294 := ⟨by omega, by omega, by omega⟩
        have HSZ := hid hsz
        clear hsz
        go_upto_block 2 with (go_at_call 10; refine (HP.out _).mono ?_; rintro e w_ ⟨rfl, hww⟩; have S1 := hid (tw_box HS.out hww).1; have X1 := hid (tw_box HS.out hww).2; clear hww)
        generalize hB : wr.heap.size = B at *
        go_cut [11] (fun v11 wc => ∃ (n2 : Nat) (is2 os2 : List Item) (v2 : Value), os2.length ≤ kk + 1 ∧ n2 ≤ kk + 1 ∧ Hid (Tw w wc c m is2 os2 os2 bud n2 rr v2) ∧ Hid (weightI os2 ≤ (kk + 1) * 281474976710656))
        case first =>
          have HK := hid S1.out.cache.keys
          go_upto_if 52 with fail
          go_cut [52] (fun v52 wd => v52 = .bool (decide (r = 0 ∨ r = 1 ∨ r = 2 ∨ r = 3)) ∧ w_ = wd)
          case first =>
            by_cases h0 : r = 0
            · go_wp2
              go_meet
              case rel => exact ⟨by simp [h0], rfl⟩
            · by_cases h1 : r = 1
              · go_wp2
                go_meet
                case rel => exact ⟨by simp [h1], rfl⟩
              · by_cases h2 : r = 2
                · go_wp2
                  go_meet
                  case rel => exact ⟨by simp [h2], rfl⟩
                · by_cases h3 : r = 3
                  · go_wp2
                    go_meet
                    case rel => exact ⟨by simp [h3], rfl⟩
                  · go_wp2
                    go_meet
                    case rel => exact ⟨by simp [h0, h1, h2, h3], rfl⟩
          case rest =>
            obtain ⟨hv52, rfl⟩ := hcut
            by_cases hput : r = 0 ∨ r = 1 ∨ r = 2 ∨ r = 3
            · obtain rfl : u52 = .bool true := by rw [hv52, decide_eq_true hput]
              clear hv52 hput
              have b1 := X1.out.c1
              have b2 := X1.out.c2
              have hkm : q.key.size ≤ maxLen := by unfold maxLen; omega
              by_cases hbig : bud < (q.key.size : Int) + (q.val.size : Int)
              · have HB := hid (put_big S1.out.cache q.key q.val (by omega) (by omega) hbig)
                have HRB := hid (ref_big S1.out.ref q.key q.val (by omega) (by omega) hbig)
                go_wp2_with (first | (go_at_call 11; refine HB.out.mono ?_; rintro e w5 ⟨rfl, hww⟩; have hww2 := hww.symm; subst hww2) | (go_at_call 12; refine HRB.out.mono ?_; rintro e w6 ⟨rfl, hww⟩; have hww2 := hww.symm; subst hww2) | (go_at_call 13; refine (same_both (l := []) (A := none) (A' := none) (c0 := 0) (c1 := 0) (by decide) (Kd.C_nil _ _) (by decide) (Kd.C_nil _ _) (by decide)).mono ?_; rintro e w7 ⟨rfl, hf7⟩; have S7 := hid (S1.out.new hf7); clear hf7))
                go_meet
                case rel => exact ⟨n1, is, os, v, by omega, by omega, S7, hid hv3⟩
              · have HBG := hid (Int.not_lt.1 hbig)
                have HPt := hid (tw_put S1.out hv2 hb0 (by unfold maxLen; omega) (by omega) q.key q.val (by omega) hkm (by omega) hbig)
                go_wp2_with (first | (go_at_call 11; refine HPt.out.mono ?_; rintro e w5 ⟨A5, c5, b5, gone, rfl, hb5, hc5, hg5, hr5, hs5, hf5⟩; have G5 := hid hg5; have R5 := hid hr5; have S5 := hid hs5; have X5 := hid (X1.out.fr hf5 (own' := ow2 rr m c (⟨b5, q.key, q.val⟩ :: is)) (fun k hk => (ow2_more k hk).imp id (fun e => by rw [e]; exact hb5))); have b15 := X5.out.c1; have b25 := X5.out.c2; have hgl : gone.length < 4611686018427387904 := (by have h0 := (ev_len bud (⟨b5, q.key, q.val⟩ :: outI os q.key).reverse).1; have h1 : (outI os q.key).length ≤ os.length := List.length_filter_le _ _; rw [← hg5, List.length_reverse, List.length_cons] at h0; omega); clear hr5 hs5 hg5 hf5) | (go_at_call 12; refine (tw_rput S5.out HK.out hv2 hb0 HSZ.out.2.2 q.key q.val HSZ.out.1 HSZ.out.2.1 (Int.not_lt.2 HBG.out) b5 G5.out).mono ?_; rintro e w6 ⟨A6, c6, rfl, hc6, hr6, ⟨v6, hs6⟩, hf6⟩; have S6 := hid hs6; have R6 := hid hr6; have Ra := hid (Kd.R_reads' (Kd.R_step R5.out (fun k hok hlt => hf6.keep k hlt (by simpa using hok)))).2.2; clear hr6 hs6 hf6) | (go_at_call 13; refine (same_both hgl Ra.out hc5 R6.out hc6).mono ?_; rintro e w7 ⟨rfl, hf7⟩; have S7 := hid (S6.out.new hf7); clear hf7))
                go_meet
                case rel =>
                  refine ⟨n1 + 1, ⟨b5, q.key, q.val⟩ :: is, _, v6, ?_, by omega, S7, hid ?_⟩
                  · have h0 := (ev_len bud (⟨b5, q.key, q.val⟩ :: outI os q.key).reverse).2
                    have h1 : (outI os q.key).length ≤ os.length := List.length_filter_le _ _
                    rw [List.length_reverse] at *
                    rw [List.length_cons] at h0
                    omega
                  · have h0 := ev_less bud (⟨b5, q.key, q.val⟩ :: outI os q.key).reverse
                    rw [weight_reverse] at h0 ⊢
                    rw [weight_cons] at h0
                    have h2 := weight_filter os q.key
                    have h3 : heft ⟨b5, q.key, q.val⟩ ≤ 281474976702464 := by show q.key.size + q.val.size ≤ _; omega
                    have := HV.out
                    omega
            · obtain rfl : u52 = .bool false := by rw [hv52, decide_eq_false hput]
              clear hv52 hput
              go_upto_if 84 with fail
              go_cut [84] (fun v84 we => v84 = .bool (decide (r = 4 ∨ r = 5)) ∧ w_ = we)
              case first =>
                by_cases h4 : r = 4
                · go_wp2
                  go_meet
                  case rel => exact ⟨by simp [h4], rfl⟩
                · by_cases h5 : r = 5
                  · go_wp2
                    go_meet
                    case rel => exact ⟨by simp [h5], rfl⟩
                  · go_wp2
                    go_meet
                    case rel => exact ⟨by simp [h4, h5], rfl⟩
              case rest =>
                obtain ⟨hv84, rfl⟩ := hcut
                by_cases hget : r = 4 ∨ r = 5
                · obtain rfl : u84 = .bool true := by rw [hv84, decide_eq_true hget]
                  clear hv84 hget
                  have b1 := X1.out.c1
                  have hkm : q.key.size ≤ maxLen := by unfold maxLen; omega
                  have HGt := hid (tw_get S1.out q.key hkm)
                  go_wp2_with (first | (go_at_call 14; refine HGt.out.mono ?_; rintro e w5 ⟨rfl, hs5, hf5⟩; have S5 := hid hs5; have X5 := hid (X1.out.fr hf5 (fun k hk => .inl hk)); have b15 := X5.out.c1; clear hs5 hf5) | (go_at_call 15; refine (tw_rget S5.out HK.out (Nat.lt_succ_of_lt HSZ.out.2.2) q.key).mono ?_; rintro e w6 ⟨rfl, v6, hs6, hf6⟩; have S6 := hid hs6; clear hs6 hf6))
                  go_meet
                  case rel => exact ⟨n1, is, getI os q.key, v6, by rw [len_got _ HK.out]; omega, by omega, S6, hid (by rw [weight_got _ HK.out]; exact hv3)⟩
                · obtain rfl : u84 = .bool false := by rw [hv84, decide_eq_false hget]
                  clear hv84 hget
                  by_cases h6 : r = 6
                  · subst h6
                    have b3 := X1.out.c3
                    have HDr := hid (tw_drop (S1.out.new (Fr.refl [] w_).drew) (Nat.lt_of_lt_of_le hv2 (by decide)) hq (Nat.lt_of_le_of_lt hqn (by decide)))
                    have HRd := hid (fun (W : World) (hW : Tw w W c m is (dropI os q.keys) os bud n1 rr v) => tw_rdrop hW HK.out (Nat.lt_succ_of_lt HSZ.out.2.2) hq (Nat.lt_of_le_of_lt hqn (by decide)))
                    go_wp2
                    go_region_held3 (fun w_ => w_.cell? ⟨B, 3, none⟩ = some (.slice q.at_ q.keys.length q.cap)) (go_keep) (first | (go_at_call 16; refine HDr.out.mono ?_; rintro e w5 ⟨rfl, hs5, hf5⟩; have S5 := hid hs5; have X5 := hid ((X1.out.fr (Fr.refl _ w_).drew (fun k hk => .inl hk)).fr hf5 (fun k hk => .inl hk)); have b35 := X5.out.c3; clear hs5 hf5) | (go_at_call 17; refine (HRd.out _ S5.out).mono ?_; rintro e w6 ⟨rfl, v6, hs6, hf6⟩; have S6 := hid hs6; have X6 := hid (X5.out.fr hf6 (fun k hk => .inl hk)); have b36 := X6.out.c3; clear hs6 hf6))
                    go_wp2
                    go_meet
                    case rel => exact ⟨n1, is, dropI os q.keys, v6, Nat.le_trans (drop_length q.keys os) (Nat.le_succ_of_le hol), Nat.le_succ_of_le hn1, S6, hid (Nat.le_trans (drop_weight q.keys os) hv3)⟩
                  · go_wp2
                    go_meet
                    case rel => exact ⟨n1, is, os, v, Nat.le_succ_of_le hol, Nat.le_succ_of_le hn1, S1, hid hv3⟩
        case rest =>
          clear HS HV HSZ HP hv1 hv2 hv3
          obtain ⟨n2, is2, os2, v2, hl2, hn2, S2, HV2⟩ := hcut
          have hw4 : weightI os2 < 4611686018427387904 := by have := HV2.out; omega
          have hl4 : os2.length < 4294967296 := by omega
          go_wp2_with (first | (go_at_call 18; refine (tw_bytes S2.out).mono ?_; rintro e w_ ⟨rfl, hww⟩; have hww2 := hww.symm; subst hww2) | (go_at_call 19; refine (tw_rbytes S2.out hw4).mono ?_; rintro e w3 ⟨rfl, hs3⟩; have S3 := hid hs3; clear hs3) | (go_at_call 20; refine (tw_keys S3.out hl4).mono ?_; rintro e w4 ⟨A4, c4, rfl, hc4, hr4, hs4, _⟩; have S4 := hid hs4; have R4 := hid hr4; clear hr4 hs4) | (go_at_call 21; refine (tw_rkeys S4.out hl4).mono ?_; rintro e w5 ⟨A5, c5, rfl, hc5, hr5, hs5, hb5⟩; have S5 := hid hs5; have R5 := hid hr5; have Ra := hid (Kd.C_below R4.out hb5); clear hr5 hs5 hb5) | (go_at_call 13; refine (same_keys hl4 Ra.out hc4 R5.out hc5).mono ?_; rintro e w7 ⟨rfl, hf7⟩; have S7 := hid (S5.out.new hf7); clear hf7))
          go_roundg (n - (kk + 1))
          case measure => omega
          case rel => exact ⟨kk + 1, n2, is2, os2, v2, by omega, by omega, by go_num, by omega, hl2, hn2, S7, HV2⟩
      · have h200z : ¬ (kk : Int) < 200 := by omega
        go_wp2
        go_ret
        exact ⟨rfl, HS.out.below⟩
    · have hltz : ¬ (kk : Int) < (n : Int) := by omega
      go_wp2
      go_ret
      exact ⟨rfl, HS.out.below⟩
end Go.Proofs.Ytbiejjncjgapmaa.L
