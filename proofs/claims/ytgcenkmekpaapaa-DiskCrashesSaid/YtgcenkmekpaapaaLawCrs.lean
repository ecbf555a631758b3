/- DiskCrashes, walked. -/
import Derived.Test.YtgcenkmekpaapaaCrsA
namespace Go.Proofs.Ytgcenkmekpaapaa.L
open Go.RowKit Go.Lib Go.Maps
set_option linter.unusedVariables false
open Go.Proofs.YtgcenkmekpaapaaW.PrintWords Go.Proofs.YtgcenkmekpaapaaW.PrintLast Go.Proofs.YtgcenkmekpaapaaW.PrintMore
section
variable {w0 w w' : World} {N B : Nat} {D Dx Dy : Dk}
theorem size_st (h : DkAt w D) (g : Good N B D) {s : ByteArray} {f : Fl} (hf : f ∈ D.fs) (hd : D.dir s = some f.blk) :
    Calls Try.prog 16 #[P D.d, .string s] w fun e w' => e = .returned (.int .i64 f.b.length) ∧ w' = w :=
  size_some h s (name_max (g.dirI s _ hd).1) f hf hd
structure Two (w0 w : World) (Dx Dy : Dk) (j : Nat) (A1 A2 : Option Addr) (l : List ByteArray) (c1 c2 : Nat) : Prop where
  x : DkAt w { Dx with ops := (j : Int) }
  y : DkAt w { Dy with ops := (j : Int) }
  r1 : Kd.R Kd.string 9 w 0 (fun k => k ∉ Dx.own ∧ k ∉ Dy.own) (.slice A1 l.length c1) l
  r2 : Kd.R Kd.string 9 w 0 (fun k => k ∉ Dx.own ∧ k ∉ Dy.own) (.slice A2 l.length c2) l
  below : Below w0.heap.size w0 w
  xo : ∀ k ∈ Dx.own, w0.heap.size ≤ k
  yo : ∀ k ∈ Dy.own, w0.heap.size ≤ k
  apart : ∀ k ∈ Dy.own, k ∉ Dx.own
  xl : Dx.loose = []
  yl : Dy.loose = []
section
variable {j : Nat} {A1 A2 : Option Addr} {l : List ByteArray} {c1 c2 : Nat}
theorem Two.new (h : Two w0 w Dx Dy j A1 A2 l c1 c2) (f : Fr [] w w') : Two w0 w' Dx Dy j A1 A2 l c1 c2 :=
  ⟨h.x.new f, h.y.new f, Kd.R_step h.r1 (fun k _ hlt => f.keep k hlt (by simp)), Kd.R_step h.r2 (fun k _ hlt => f.keep k hlt (by simp)), h.below.trans (f.below h.below.size (fun k hk => by simp at hk)), h.xo, h.yo, h.apart, h.xl, h.yl⟩
end
structure Half (w0 w : World) (Dx Dy : Dk) (j : Nat) (A1 A2 : Option Addr) (l : List ByteArray) (c1 c2 : Nat) : Prop where
  x : DkAt w { Dx with ops := ((j + 1 : Nat) : Int) }
  y : DkAt w { Dy with ops := (j : Int) }
  r1 : Kd.R Kd.string 9 w 0 (fun k => k ∉ Dx.own ∧ k ∉ Dy.own) (.slice A1 l.length c1) l
  r2 : Kd.R Kd.string 9 w 0 (fun k => k ∉ Dx.own ∧ k ∉ Dy.own) (.slice A2 l.length c2) l
  below : Below w0.heap.size w0 w
theorem read_x {j : Nat} {A1 A2 : Option Addr} {l : List ByteArray} {c1 c2 : Nat} (h : Two w0 w Dx Dy j A1 A2 l c1 c2) (g : Good N B Dx) (hN : N < 1048576) (hB : B ≤ 140737488355327) (hj : j ≤ N) (hc : Dx.cut = -1) (ho : Dx.off = false) (hfl : ∀ k, Dx.fails k = 0) {s : ByteArray} {f : Fl} (hf : f ∈ Dx.fs) (hd : Dx.dir s = some f.blk) :
    Calls Try.prog 15 #[P Dx.d, .string s] w fun e w' => ∃ A c, e = .returned (.tuple #[.slice A f.b.length c, .int .i64 0]) ∧ Kd.R kB 5 w' 0 (fun k => k ∉ Dy.own) (.slice A f.b.length c) f.b ∧ Half w0 w' Dx Dy j A1 A2 l c1 c2 := by
  have hz := codeE_there (D := { Dx with ops := (j : Int) }) (g.dirI s _ hd).1 (by show (Dx.dir s).isSome = true; rw [hd]; rfl) hfl
  refine (read_st h.x (g.at_ops j hj) (live_of (by show Dx.cut < 0; omega) ho) hN hB s).mono ?_
  rintro e w' ⟨v, b, rfl, hr, gg, _, hl⟩
  obtain ⟨f2, hf2, hd2, rfl⟩ := hl hz
  have hd3 : Dx.dir s = some f2.blk := hd2
  rw [hd] at hd3
  injection hd3 with hd3
  obtain rfl := g.uniq f hf f2 hf2 hd3
  obtain ⟨A, c, rfl⟩ := B_slice hr
  rw [hz]
  have hfr : Fr Dx.own w w' := gg.fr
  refine ⟨A, c, rfl, Kd.R_lower (Kd.R_mono (Kd.R_bound hr) (fun k hk hm => by have := hk.2.1; have := h.y.lt k hm; omega)) (Nat.zero_le _), gg.at_, h.y.fr hfr (fun k hk => ?_), Kd.R_step h.r1 (fun k hk hlt => hfr.keep k hlt hk.1), Kd.R_step h.r2 (fun k hk hlt => hfr.keep k hlt hk.1), h.below.trans (hfr.below h.below.size h.xo)⟩
  rcases hk with hk | hk
  · exact h.apart k hk
  · have hb : ({ Dy with ops := (j : Int) } : Dk).boxes = [] := by show Dy.loose.flatMap bxs = []; rw [h.yl]; rfl
    rw [hb] at hk; cases hk
theorem read_y {j M : Nat} {A1 A2 : Option Addr} {l : List ByteArray} {c1 c2 : Nat} (h : Half w0 w Dx Dy j A1 A2 l c1 c2) (g : Good M B Dy) (hN : M < 1048576) (hB : B ≤ 140737488355327) (hj : j ≤ M) (hc : Dy.cut = -1) (ho : Dy.off = false) (hfl : ∀ k, Dy.fails k = 0) (hxo : ∀ k ∈ Dx.own, w0.heap.size ≤ k) (hyo : ∀ k ∈ Dy.own, w0.heap.size ≤ k) (hap : ∀ k ∈ Dy.own, k ∉ Dx.own) (hxl : Dx.loose = []) (hyl : Dy.loose = []) {s : ByteArray} {f : Fl} (hf : f ∈ Dy.fs) (hd : Dy.dir s = some f.blk)
    {A3 : Option Addr} {n3 c3 : Nat} {b3 : List Int} (hr3 : Kd.R kB 5 w 0 (fun k => k ∉ Dy.own) (.slice A3 n3 c3) b3) :
    Calls Try.prog 15 #[P Dy.d, .string s] w fun e w' => ∃ A c, e = .returned (.tuple #[.slice A f.b.length c, .int .i64 0]) ∧ Kd.C kB w' A f.b.length f.b ∧ Kd.C kB w' A3 b3.length b3 ∧ Two w0 w' Dx Dy (j + 1) A1 A2 l c1 c2 := by
  have hz := codeE_there (D := { Dy with ops := (j : Int) }) (g.dirI s _ hd).1 (by show (Dy.dir s).isSome = true; rw [hd]; rfl) hfl
  refine (read_st h.y (g.at_ops j hj) (live_of (by show Dy.cut < 0; omega) ho) hN hB s).mono ?_
  rintro e w' ⟨v, b, rfl, hr, gg, _, hl⟩
  obtain ⟨f2, hf2, hd2, rfl⟩ := hl hz
  have hd3 : Dy.dir s = some f2.blk := hd2
  rw [hd] at hd3
  injection hd3 with hd3
  obtain rfl := g.uniq f hf f2 hf2 hd3
  obtain ⟨A, c, rfl⟩ := B_slice hr
  rw [hz]
  have hfr : Fr Dy.own w w' := gg.fr
  have h3 := Kd.R_reads' (Kd.R_step hr3 (fun k hk hlt => hfr.keep k hlt hk))
  refine ⟨A, c, rfl, (Kd.R_reads' hr).2.2, h3.2.2, h.x.fr hfr (fun k hk => ?_), gg.at_, Kd.R_step h.r1 (fun k hk hlt => hfr.keep k hlt hk.2), Kd.R_step h.r2 (fun k hk hlt => hfr.keep k hlt hk.2), h.below.trans (hfr.below h.below.size hyo), hxo, hyo, hap, hxl, hyl⟩
  rcases hk with hk | hk
  · exact fun hm => hap k hm hk
  · have hb : ({ Dx with ops := ((j + 1 : Nat) : Int) } : Dk).boxes = [] := by show Dx.loose.flatMap bxs = []; rw [hxl]; rfl
    rw [hb] at hk; cases hk
theorem cell_at {A : Addr} {l : List ByteArray} {j : Nat} (hr : Kd.C Kd.string w (some A) l.length l) (hA : A.spot = none) (hj : j < l.length) : w.cell? ⟨A.block, A.off + j, none⟩ = some (.string (l.getD j ByteArray.empty)) := by
  obtain ⟨b, o, e, _, h⟩ := lies_at hr (by omega)
  injection e with e
  subst e
  exact h j hj
end
set_option maxHeartbeats 16000000 in
set_option maxRecDepth 100000 in
theorem crs_calls (w : World) (A1 : Option Addr) (n1 c1 : Nat) (Q1 : Nat → Op) (HQ1 : OpsAt w A1 n1 Q1) (keep torn again : Int) :
    Calls Try.prog 5 #[.slice A1 n1 c1, .int .i64 keep, .int .i64 torn, .int .i64 again] w fun e w' => e = .returned (.bool true) ∧ Below w.heap.size w w' := by
  have HP1 := hid (fun (W : World) (hW : Below w.heap.size w W) => played_calls w A1 n1 c1 Q1 HQ1 80 (by omega) W hW)
  clear HQ1
  go_enter Try.func5, Try.ntmps5
  go_upto_region 5 with (first | (go_at_call 7; refine (shown_calls _).mono ?_; rintro e w1 ⟨rfl, hb⟩; have B1 := hid hb; clear hb) | (go_at_call 19; refine (HP1.out _ B1.out).mono ?_; rintro e w2 ⟨D, rfl, h2⟩; have H2 := hid h2; clear h2))
  obtain ⟨es, hes, hel⟩ := names_of H2.out.at_ H2.out.good
  have HES := hid hes
  have HNM := hid (fun (W : World) (hW : DkAt W D) => names_calls hW es HES.out (by omega))
  obtain ⟨l, hl⟩ : ∃ l, l = nameL es := ⟨_, rfl⟩
  have HL := hid hl
  clear hes hl HP1 B1
  go_upto_region 6 with (go_at_call 18; refine (HNM.out _ H2.out.at_).mono ?_; rintro e w3 ⟨v, rfl, hr, hb⟩; have R3 := hid (show Kd.R Kd.string 9 w3 w2.heap.size (fun _ => True) v l by rw [HL.out]; exact hr); have B3 := hid hb; obtain ⟨A3, c3, rfl⟩ := Kd.R_slice R3.out; clear hr hb)
  have H3 := hid (H2.out.new B3.out)
  go_upto_region 8 with (first | (go_at_call 23; refine (loose_calls H3.out.at_).mono ?_; rintro e w_ ⟨rfl, rfl⟩) | (go_at_call 13; refine (ops_calls H3.out.at_).mono ?_; rintro e w_ ⟨rfl, rfl⟩))
  have HG := hid H3.out.good
  have HCA := hid (crash_good H3.out.at_ HG.out (by decide) (by decide) (D.loose.length : Int) 0)
  go_upto_region 9 with (go_at_call 14; refine HCA.out.mono ?_; rintro e w4 ⟨Da, rfl, a1, a2, a3, a4, a5, a6⟩; have HA1 := hid a1; have HA2 := hid a2; have HA3 := hid a3; have HA4 := hid a4; have HA5 := hid a5; clear a1 a2 a3 a4 a5 a6)
  have HD4 := hid (H3.out.at_.new (Fr.of_below HA4.out []))
  have HCX := hid (crash_good HD4.out HG.out (by decide) (by decide) keep torn)
  clear HCA
  go_upto_region 10 with (go_at_call 14; refine HCX.out.mono ?_; rintro e w5 ⟨Dx, rfl, a1, a2, a3, a4, a5, a6⟩; have HX1 := hid a1; have HX2 := hid a2; have HX3 := hid a3; have HX4 := hid a4; have HX5 := hid a5; clear a1 a2 a3 a4 a5 a6)
  have HCY := hid (crash_good HX1.out HX2.out (by decide) (by decide) again again)
  clear HCX
  go_upto_region 11 with (go_at_call 14; refine HCY.out.mono ?_; rintro e w6 ⟨Dy, rfl, a1, a2, a3, a4, a5, a6⟩; have HY1 := hid a1; have HY2 := hid a2; have HY3 := hid a3; have HY4 := hid a4; have HY5 := hid a5; clear a1 a2 a3 a4 a5 a6)
  clear HCY
  have HB5 := hid (HX4.out.trans (HY4.out.mono HX4.out.size))
  have HB4 := hid (HA4.out.trans (HB5.out.mono HA4.out.size))
  have HD6 := hid (HD4.out.new (Fr.of_below HB5.out []))
  have HA6 := hid (HA1.out.new (Fr.of_below HB5.out []))
  have HX6 := hid (HX1.out.new (Fr.of_below HY4.out []))
  have HW6 := hid (H3.out.below.trans (HB4.out.mono H3.out.below.size))
  have R6 := hid (Kd.R_below R3.out HB4.out)
  have HXO := hid (show ∀ k ∈ Dx.own, w.heap.size ≤ k from fun k hk => Nat.le_trans (Nat.le_trans H3.out.below.size HA4.out.size) (HX5.out k hk))
  have HYO := hid (show ∀ k ∈ Dy.own, w.heap.size ≤ k from fun k hk => Nat.le_trans (Nat.le_trans (Nat.le_trans H3.out.below.size HA4.out.size) HX4.out.size) (HY5.out k hk))
  have HAP := hid (show ∀ k ∈ Dy.own, k ∉ Dx.own from fun k hk hm => by have := HY5.out k hk; have := HX1.out.lt k hm; omega)
  have HLD := hid (loose_calls HD6.out)
  have HOD := hid (ops_calls HD6.out)
  have HLX := hid (show Calls Try.prog 23 #[P Dx.d] w6 fun e w' => e = .returned (.int .i64 0) ∧ w' = w6 from by have h := loose_calls HX6.out; rw [HX3.out.loose] at h; exact h)
  have HOX := hid (show Calls Try.prog 13 #[P Dx.d] w6 fun e w' => e = .returned (.int .i64 0) ∧ w' = w6 from by have h := ops_calls HX6.out; rw [HX3.out.ops] at h; exact h)
  clear HB5 HB4 HA1 HX1 HA4 HX4 HY4 HA5 HX5 HY5 HD4 H3 R3 B3 H2
  obtain ⟨ea, hea, hal⟩ := names_of HA6.out HA2.out
  have HEA := hid hea
  have HNA := hid (names_calls HA6.out ea hea (by omega))
  have HLA := hid (show l = nameL ea by rw [HL.out]; exact nameL_same HES.out hea (fun s => by rw [HA3.out.isSome HG.out, HG.out.dir_all]))
  clear hea
  go_upto_region 14 with (first | (go_at_call 23; (with_reducible refine HLD.out.mono ?_); rintro e w_ ⟨rfl, hww⟩; have hww2 := hww.symm; subst hww2) | (go_at_call 13; (with_reducible refine HOD.out.mono ?_); rintro e w_ ⟨rfl, hww⟩; have hww2 := hww.symm; subst hww2) | (go_at_call 23; (with_reducible refine HLX.out.mono ?_); rintro e w_ ⟨rfl, hww⟩; have hww2 := hww.symm; subst hww2) | (go_at_call 13; (with_reducible refine HOX.out.mono ?_); rintro e w_ ⟨rfl, hww⟩; have hww2 := hww.symm; subst hww2) | (go_at_call 18; refine HNA.out.mono ?_; rintro e w7 ⟨v7, rfl, hr, hb⟩; have R7 := hid (show Kd.R Kd.string 9 w7 w6.heap.size (fun _ => True) v7 l by rw [HLA.out]; exact hr); have B7 := hid hb; obtain ⟨A7, c7, rfl⟩ := Kd.R_slice R7.out; clear hr hb))
  have C6 := hid (Kd.R_reads' (Kd.R_below R6.out B7.out)).2.2
  have C7 := hid (Kd.R_reads' R7.out).2.2
  have HD7 := hid (HD6.out.new (Fr.of_below B7.out []))
  have HA7 := hid (HA6.out.new (Fr.of_below B7.out []))
  have HX7 := hid (HX6.out.new (Fr.of_below B7.out []))
  have HY7 := hid (HY1.out.new (Fr.of_below B7.out []))
  have HW7 := hid (HW6.out.trans (B7.out.mono HW6.out.size))
  have hlmx := Kd.C_max C7.out
  clear R6 R7 HD6 HA6 HX6 HY1 HW6 HLD HOD HLX HOX HNA B7 HEA HLA
  go_wp2
  go_loopg [19] l.length (fun gg s19 wq => ∃ jj : Nat, jj ≤ l.length ∧ l.length - jj ≤ gg ∧ s19 = .int .i64 jj ∧ Hid (∃ z, wq = w7.drewN z))
  case atStart => exact ⟨0, Nat.zero_le _, by omega, rfl, hid ⟨0, rfl⟩⟩
  case round =>
    obtain ⟨jj, hjj, hgj, rfl, HZ⟩ := hrel
    by_cases hj : jj < l.length
    · have hjz : (jj : Int) < (l.length : Int) := by omega
      obtain ⟨z, hz⟩ := HZ.out
      obtain ⟨b6, o6, rfl, _, h6⟩ := lies_at C6.out (by omega)
      obtain ⟨b7, o7, rfl, _, h7⟩ := lies_at C7.out (by omega)
      obtain ⟨t, ht⟩ : ∃ t, t = l.getD jj ByteArray.empty := ⟨_, rfl⟩
      have htm : t ∈ l := by rw [ht, List.getD_eq_getElem?_getD, List.getElem?_eq_getElem hj]; exact List.getElem_mem hj
      rw [HL.out] at htm
      obtain ⟨bl, hbl⟩ := nameL_mem HES.out htm
      obtain ⟨f, hf, hd, f', hf', hd', hlen⟩ := all_sizes HG.out HA3.out hbl
      have k6 : ∀ y, (wr.drewN y).cell? ⟨b6, o6 + jj, none⟩ = some (.string t) := fun y => by rw [hz, ht]; exact h6 jj hj
      have k7 : ∀ y, (wr.drewN y).cell? ⟨b7, o7 + jj, none⟩ = some (.string t) := fun y => by rw [hz, ht]; exact h7 jj hj
      have HS1 := hid (fun y => (show Calls Try.prog 16 #[P Da.d, .string t] (wr.drewN y) fun e w' => e = .returned (.int .i64 f.b.length) ∧ w' = wr.drewN y from by have h := size_st (w := wr.drewN y) (by rw [hz]; exact HA7.out.new (Fr.of_drawn ⟨z + y, by rw [World.drewN_drewN]⟩)) HA2.out hf' hd'; rw [hlen] at h; exact h))
      have HS2 := hid (fun y => (show Calls Try.prog 16 #[P D.d, .string t] (wr.drewN y) fun e w' => e = .returned (.int .i64 f.b.length) ∧ w' = wr.drewN y from size_st (w := wr.drewN y) (by rw [hz]; exact HD7.out.new (Fr.of_drawn ⟨z + y, by rw [World.drewN_drewN]⟩)) HG.out hf hd))
      clear h6 h7 ht htm hbl hd hd' hf hf' hlen hz
      go_upto_region 19 with fail
      go_quiet ((first | (go_at_call 16; (with_reducible exact Calls.quiet_of_same (HS1.out _))) | (go_at_call 16; (with_reducible exact Calls.quiet_of_same (HS2.out _)))))
      go_wp2
      go_roundg (l.length - (jj + 1))
      case measure => omega
      case rel => exact ⟨jj + 1, by omega, by omega, by go_num, hid (by obtain ⟨z, hz⟩ := HZ.out; exact ⟨z + nq, by rw [hz, World.drewN_drewN]⟩)⟩
    · have hjz : ¬ (jj : Int) < (l.length : Int) := by omega
      obtain ⟨z, hz⟩ := HZ.out
      have HX8 := hid (show DkAt wr Dx by rw [hz]; exact HX7.out.drewN z)
      have HY8 := hid (show DkAt wr Dy by rw [hz]; exact HY7.out.drewN z)
      have HW8 := hid (show Below w.heap.size w wr by rw [hz]; exact pw_below_drewN HW7.out z)
      obtain ⟨ex, hex, hxl⟩ := names_of HX8.out HX2.out
      obtain ⟨ey, hey, hyl⟩ := names_of HY8.out HY2.out
      have HEX := hid hex
      have HEY := hid hey
      have HNX := hid (names_calls HX8.out ex hex (by omega))
      have HNY := hid (fun (W : World) (hW : DkAt W Dy) => names_calls hW ey HEY.out (by omega))
      obtain ⟨m, hm⟩ : ∃ m, m = nameL ex := ⟨_, rfl⟩
      have HM := hid hm
      have HML := hid (show m.length ≤ 320 by rw [hm, nameL_length]; omega)
      have HMY := hid (show m = nameL ey by rw [hm]; exact nameL_same hex hey (fun s => by rw [HY3.out.isSome HX2.out, HX2.out.again HX3.out.loose HX3.out.sure]))
      clear hex hey hm hz HX7 HY7 HW7 HZ HD7 HA7 C6 C7
      go_upto_region 23 with (first | (go_at_call 18; (with_reducible refine HNX.out.mono ?_); rintro e w9 ⟨v9, rfl, hr, hb⟩; have R9 := hid (show Kd.R Kd.string 9 w9 wr.heap.size (fun _ => True) v9 m by rw [HM.out]; exact hr); have B9 := hid hb; obtain ⟨A9, c9, rfl⟩ := Kd.R_slice R9.out; clear hr hb) | (go_at_call 18; (with_reducible refine (HNY.out w9 (HY8.out.new (Fr.of_below B9.out []))).mono ?_); rintro e w10 ⟨v10, rfl, hr, hb⟩; have R10 := hid (show Kd.R Kd.string 9 w10 w9.heap.size (fun _ => True) v10 m by rw [HMY.out]; exact hr); have B10 := hid hb; obtain ⟨A10, c10, rfl⟩ := Kd.R_slice R10.out; clear hr hb))
      have hmmx := Kd.C_max (Kd.R_reads' R9.out).2.2
      have HT := hid (show Two w w10 Dx Dy 0 A9 A10 m c9 c10 from
        ⟨by rw [ops_zero HX3.out.ops]; exact HX8.out.new (Fr.of_below (B9.out.trans (B10.out.mono B9.out.size)) []), by rw [ops_zero HY3.out.ops]; exact HY8.out.new (Fr.of_below (B9.out.trans (B10.out.mono B9.out.size)) []),
          Kd.R_below (Kd.R_lower (Kd.R_mono (Kd.R_bound R9.out) (fun k hk => ⟨fun hm => by have := hk.2.1; have := HX8.out.lt k hm; omega, fun hm => by have := hk.2.1; have := HY8.out.lt k hm; omega⟩)) (Nat.zero_le _)) B10.out,
          Kd.R_lower (Kd.R_mono (Kd.R_bound R10.out) (fun k hk => ⟨fun hm => by have := hk.2.1; have := HX8.out.lt k hm; have := B9.out.size; omega, fun hm => by have := hk.2.1; have := HY8.out.lt k hm; have := B9.out.size; omega⟩)) (Nat.zero_le _),
          (HW8.out.trans (B9.out.mono HW8.out.size)).trans (B10.out.mono (Nat.le_trans HW8.out.size B9.out.size)), HXO.out, HYO.out, HAP.out, HX3.out.loose, HY3.out.loose⟩)
      clear R9 R10 B9 B10 HX8 HY8 HW8 HNX HNY
      go_wp2
      go_loopg [22] m.length (fun gg s22 wq => ∃ jj : Nat, jj ≤ m.length ∧ m.length - jj ≤ gg ∧ s22 = .int .i64 jj ∧ Hid (Two w wq Dx Dy jj A9 A10 m c9 c10))
      case atStart => exact ⟨0, Nat.zero_le _, by omega, rfl, HT⟩
      case round =>
        clear HT
        obtain ⟨kk, hkk, hgk, rfl, HT⟩ := hrel
        by_cases hk : kk < m.length
        · have hkz : (kk : Int) < (m.length : Int) := by omega
          obtain ⟨b9, o9, rfl, _, h9⟩ := lies_at (Kd.R_reads' HT.out.r1).2.2 (by omega)
          obtain ⟨b10, o10, rfl, _, h10⟩ := lies_at (Kd.R_reads' HT.out.r2).2.2 (by omega)
          obtain ⟨t, ht⟩ : ∃ t, t = m.getD kk ByteArray.empty := ⟨_, rfl⟩
          have htm : t ∈ m := by rw [ht, List.getD_eq_getElem?_getD, List.getElem?_eq_getElem hk]; exact List.getElem_mem hk
          have HTT := hid ht
          have k9 : wr.cell? ⟨b9, o9 + kk, none⟩ = some (.string t) := by rw [ht]; exact h9 kk hk
          have hty : t ∈ nameL ey := by rw [← HMY.out]; exact htm
          rw [HM.out] at htm
          obtain ⟨bx, hbx⟩ := nameL_mem HEX.out htm
          obtain ⟨by', hby⟩ := nameL_mem HEY.out hty
          obtain ⟨_, f, hf, rfl⟩ := HX2.out.dirI t bx hbx
          obtain ⟨_, f2, hf2, rfl⟩ := HY2.out.dirI t by' hby
          have hb2 := read_again HX2.out HY2.out HX3.out.loose HX3.out.sure HY3.out hf hbx hf2 hby
          have HRX := hid (read_x HT.out HX2.out (by decide) (by decide) (by have := HML.out; omega) HX3.out.cut HX3.out.off HX3.out.fails hf hbx)
          have HRY := hid (fun (W : World) (A : Option Addr) (c : Nat) (hW : Half w W Dx Dy kk (some ⟨b9, o9, none⟩) (some ⟨b10, o10, none⟩) m c9 c10) (hr : Kd.R kB 5 W 0 (fun k => k ∉ Dy.own) (.slice A f.b.length c) f.b) => (show Calls Try.prog 15 #[P Dy.d, .string t] W fun e w' => ∃ A2 c2, e = .returned (.tuple #[.slice A2 f.b.length c2, .int .i64 0]) ∧ Kd.C kB w' A2 f.b.length f.b ∧ Kd.C kB w' A f.b.length f.b ∧ Two w w' Dx Dy (kk + 1) (some ⟨b9, o9, none⟩) (some ⟨b10, o10, none⟩) m c9 c10 from by
            have h := read_y hW HY2.out (by decide) (by decide) (by have := HML.out; omega) HY3.out.cut HY3.out.off HY3.out.fails HXO.out HYO.out HAP.out HX3.out.loose HY3.out.loose hf2 hby hr
            rw [hb2] at h
            exact h))
          clear h9 h10 ht htm hty hbx hby hf hf2 hb2
          go_upto_region 29 with (go_at_call 15; (with_reducible refine HRX.out.mono ?_); rintro e w11 ⟨A11, c11, rfl, hr, hh⟩; have R11 := hid hr; have H11 := hid hh; have k11 : w11.cell? ⟨b9, o9 + kk, none⟩ = some (.string t) := (by rw [HTT.out]; exact cell_at (Kd.R_reads' H11.out.r1).2.2 rfl hk); clear hr hh k9)
          go_upto_region 30 with (go_at_call 15; (with_reducible refine (HRY.out w11 A11 c11 H11.out R11.out).mono ?_); rintro e w12 ⟨A12, c12, rfl, hc2, hc1, hh⟩; have C12 := hid hc2; have C11 := hid hc1; have H12 := hid hh; clear hc2 hc1 hh k11)
          have k91 : ∀ y, (w12.drewN y).cell? ⟨b9, o9 + kk, none⟩ = some (.string t) := fun y => by rw [HTT.out]; exact cell_at (Kd.R_reads' H12.out.r1).2.2 rfl hk
          have k92 : ∀ y, (w12.drewN y).cell? ⟨b10, o10 + kk, none⟩ = some (.string t) := fun y => by rw [HTT.out]; exact cell_at (Kd.R_reads' H12.out.r2).2.2 rfl hk
          have q1 : ∀ y, (convert 22 9 (.slice A11 f.b.length c11)).run Try.prog (w12.drewN y) = .ok (.string (strOfNums f.b)) (w12.drewN y) := fun y => Kd.C_string (w := w12.drewN y) Try.underlying22 Try.underlying5 Try.underlying9 C11.out
          have q2 : ∀ y, (convert 22 9 (.slice A12 f.b.length c12)).run Try.prog (w12.drewN y) = .ok (.string (strOfNums f.b)) (w12.drewN y) := fun y => Kd.C_string (w := w12.drewN y) Try.underlying22 Try.underlying5 Try.underlying9 C12.out
          obtain ⟨S, hS⟩ : ∃ S, S = strOfNums f.b := ⟨_, rfl⟩
          rw [← hS] at q1 q2
          clear hS HRX HRY R11 H11 C11 C12
          go_quiet (fail)
          have H13 := hid (H12.out.new (Fr.of_drawn ⟨nq, rfl⟩))
          go_wp2
          go_roundg (m.length - (kk + 1))
          case measure => omega
          case rel => exact ⟨kk + 1, by omega, by omega, by go_num, H13⟩
        · have hkz : ¬ (kk : Int) < (m.length : Int) := by omega
          go_wp2
          go_ret
          exact ⟨rfl, HT.out.below⟩
end Go.Proofs.Ytgcenkmekpaapaa.L
