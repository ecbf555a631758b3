/- DiskOff, walked. -/
import Derived.Test.YtgcenkmekpaapaaPlayed
import Derived.Test.YtgcenkmekpaapaaShown
namespace Go.Proofs.Ytgcenkmekpaapaa.L
open Go.RowKit Go.Lib Go.Maps
set_option linter.unusedVariables false
open Go.Proofs.YtgcenkmekpaapaaW.PrintWords Go.Proofs.YtgcenkmekpaapaaW.PrintLast Go.Proofs.YtgcenkmekpaapaaW.PrintMore
structure Gone (w0 wr : World) (D : Dk) (v : Value) (l : List ByteArray) (o : Bool) : Prop where
  at_ : DkAt wr { D with cut := D.ops, off := o }
  row : Kd.R Kd.string 9 wr 0 (fun k => k ∉ D.own) v l
  below : Below w0.heap.size w0 wr
  own : ∀ j ∈ D.own, w0.heap.size ≤ j
  ops : 0 ≤ D.ops
section
variable {w0 w w' : World} {D : Dk} {v : Value} {l : List ByteArray} {o : Bool}
theorem Gone.dead (h : Gone w0 w D v l o) : ({ D with cut := D.ops, off := o } : Dk).dead = true := by
  unfold Dk.dead
  show (o || (decide (0 ≤ D.ops) && decide (D.ops ≤ D.ops))) = true
  rw [decide_eq_true h.ops, decide_eq_true (Int.le_refl _)]
  simp
theorem Gone.step (h : Gone w0 w D v l o) (g : Goes w w' { D with cut := D.ops, off := o } { D with cut := D.ops, off := true }) : Gone w0 w' D v l true :=
  ⟨g.at_, Kd.R_step h.row (fun k hk hlt => g.fr.keep k hlt hk), h.below.trans (g.fr.below h.below.size h.own), h.own, h.ops⟩
theorem Gone.new (h : Gone w0 w D v l o) (f : Fr [] w w') : Gone w0 w' D v l o :=
  ⟨h.at_.new f, Kd.R_step h.row (fun k _ hlt => f.keep k hlt (by simp)), h.below.trans (f.below h.below.size (fun k hk => by simp at hk)), h.own, h.ops⟩
theorem row_far {base : Nat} (h : Kd.R Kd.string 9 w base (fun _ => True) v l) (hD : ∀ k ∈ D.own, k < base) : Kd.R Kd.string 9 w 0 (fun k => k ∉ D.own) v l :=
  Kd.R_lower (Kd.R_mono (Kd.R_bound h) (fun k hk hm => by have := hk.2.1; have := hD k hm; omega)) (Nat.zero_le _)
theorem lies_at {A : Option Addr} (hr : Kd.C Kd.string w A l.length l) (h0 : 0 < l.length) :
    ∃ b o, A = some ⟨b, o, none⟩ ∧ b < w.heap.size ∧ ∀ j, j < l.length → w.cell? ⟨b, o + j, none⟩ = some (.string (l.getD j ByteArray.empty)) := by
  obtain ⟨ad, rfl, hcell⟩ := (Kd.reads_of_C (d := ByteArray.empty) hr).2.2 h0
  have h00 := hcell 0 h0
  have e0 : ad.add 0 = ad := by simp [Addr.add]
  rw [e0] at h00
  obtain ⟨b, o, rfl, hb⟩ := spot_of h00
  refine ⟨b, o, rfl, hb, fun j hj => ?_⟩
  have := hcell j hj
  rw [add_is] at this
  exact this
theorem names_of {N B : Nat} (h : DkAt w D) (g : Good N B D) : ∃ es, Lists D.dir es ∧ es.length ≤ N := by
  obtain ⟨es, hes, _, hel⟩ := h.dirM.list
  exact ⟨es, hes, Nat.le_trans hel g.nN⟩
end
def nameL (es : List (ByteArray × Nat)) : List ByteArray := (namesOf es).map fun b => ⟨b.toArray⟩
set_option maxHeartbeats 8000000 in
set_option maxRecDepth 100000 in
theorem off_calls (w : World) (A1 A2 : Option Addr) (n1 n2 c1 c2 : Nat) (Q1 Q2 : Nat → Op) (HQ1 : OpsAt w A1 n1 Q1) (HQ2 : OpsAt w A2 n2 Q2) :
    Calls Try.prog 6 #[.slice A1 n1 c1, .slice A2 n2 c2] w fun e w' => e = .returned (.bool true) ∧ Below w.heap.size w w' := by
  have HQ := hid HQ2
  have HP1 := hid (fun (W : World) (hW : Below w.heap.size w W) => played_calls w A1 n1 c1 Q1 HQ1 60 (by omega) W hW)
  have hmx := HQ2.max
  clear HQ1 HQ2
  go_enter Try.func6, Try.ntmps6
  go_upto_region 5 with (first | (go_at_call 7; refine (shown_calls _).mono ?_; rintro e w1 ⟨rfl, hb⟩; have B1 := hid hb; clear hb) | (go_at_call 19; refine (HP1.out _ B1.out).mono ?_; rintro e w2 ⟨D, rfl, h2⟩; have H2 := hid h2; clear h2))
  obtain ⟨es, hes, hel⟩ := names_of H2.out.at_ H2.out.good
  have HNM := hid (fun (W : World) (hW : DkAt W D) => names_calls hW es hes (by omega))
  have HES := hid hes
  obtain ⟨l, hl⟩ : ∃ l, l = nameL es := ⟨_, rfl⟩
  have HL := hid hl
  clear hes hl HP1 B1
  go_upto_region 6 with (go_at_call 18; refine (HNM.out _ H2.out.at_).mono ?_; rintro e w3 ⟨v, rfl, hr, hb⟩; have R3 := hid (show Kd.R Kd.string 9 w3 w2.heap.size (fun _ => True) v l by rw [HL.out]; exact hr); have B3 := hid hb; obtain ⟨A3, c3, rfl⟩ := Kd.R_slice R3.out; clear hr hb)
  have H3 := hid (H2.out.new B3.out)
  have HRF := hid (row_far R3.out H2.out.at_.lt)
  go_upto_region 9 with (first | (go_at_call 23; refine (loose_calls H3.out.at_).mono ?_; rintro e w_ ⟨rfl, rfl⟩) | (go_at_call 13; refine (ops_calls H3.out.at_).mono ?_; rintro e w_ ⟨rfl, rfl⟩) | (go_at_call 24; refine (cut_calls H3.out.at_ D.ops).mono ?_; rintro e w4 ⟨rfl, h4, f4⟩; have G4 := hid (show Gone w w4 D (.slice A3 l.length c3) l false from ⟨h4, Kd.R_step HRF.out (fun k hk hlt => f4.keep k hlt (fun hm => hk (by rw [List.mem_singleton.1 hm]; simp [Dk.own]))), H3.out.below.trans (f4.below H3.out.below.size (fun k hk => H3.out.own k (by rw [List.mem_singleton.1 hk]; simp [Dk.own]))), H3.out.own, H3.out.good.ops0⟩); clear h4 f4))
  clear R3 B3 H3 HRF H2
  go_wp2
  go_loopg [11] n2 (fun gg s11 wr => ∃ (kk : Nat) (o : Bool), kk ≤ n2 ∧ n2 - kk ≤ gg ∧ s11 = .int .i64 kk ∧ Hid (Gone w wr D (.slice A3 l.length c3) l o))
  case atStart => exact ⟨0, false, Nat.zero_le _, by omega, rfl, G4⟩
  case round =>
    clear G4
    obtain ⟨kk, o, hkk, hg, rfl, HG⟩ := hrel
    by_cases hlt : kk < n2 ∧ kk < 40
    · obtain ⟨hlt, h40⟩ := hlt
      have hltz : (kk : Int) < (n2 : Int) := by omega
      have h40z : (kk : Int) < 40 := by omega
      obtain ⟨b, bo, rfl, hb, hcells⟩ := HQ.out.there (by omega)
      have HOP := hid ((hcells kk hlt).keep HG.out.below hb)
      have HI := hid (HQ.out.each kk hlt)
      obtain ⟨q, hq⟩ : ∃ q, q = Q2 kk := ⟨_, rfl⟩
      rw [← hq] at HOP HI
      clear hq hcells
      have HP := hid (fun W => pick_calls q.kind 7 HI.out.kind (by omega) W)
      have hvb := pick_bd q.kind 7 (by omega)
      obtain ⟨pv, hv⟩ : ∃ v, v = pickI q.kind 7 := ⟨_, rfl⟩
      rw [← hv] at HP hvb
      clear hv
      have HNA := hid (fun W => named_calls q.name q.n HI.out.n W)
      obtain ⟨nm, hnm⟩ : ∃ x, x = namedI q.name q.n := ⟨_, rfl⟩
      rw [← hnm] at HNA
      clear hnm
      have k1 : ∀ z, (wr.drewN z).cell? ⟨b, bo + kk * 6 + 1, none⟩ = some (.string q.name) := fun _ => HOP.out.c1
      have k4 : ∀ z, (wr.drewN z).cell? ⟨b, bo + kk * 6 + 4, none⟩ = some (.int .i64 q.n) := fun _ => HOP.out.c4
      go_upto_region 12 with fail
      go_quiet ((go_at_call 21; exact Calls.quiet_of_same (HNA.out _)))
      obtain ⟨w5, hw5⟩ : ∃ x, x = wr.drewN nq := ⟨_, rfl⟩
      have G5 := hid (show Gone w w5 D (.slice A3 l.length c3) l o by rw [hw5]; exact HG.out.new (Fr.of_drawn ⟨_, rfl⟩))
      have d0 : w5.cell? ⟨b, bo + kk * 6, none⟩ = some (.int .i64 q.kind) := by rw [hw5]; exact HOP.out.c0
      have d2 : w5.cell? ⟨b, bo + kk * 6 + 2, none⟩ = some (.string q.too) := by rw [hw5]; exact HOP.out.c2
      have d3 : w5.cell? ⟨b, bo + kk * 6 + 3, none⟩ = some (.slice q.at_ q.b.length q.cap) := by rw [hw5]; exact HOP.out.c3
      have d4 : w5.cell? ⟨b, bo + kk * 6 + 4, none⟩ = some (.int .i64 q.n) := by rw [hw5]; exact HOP.out.c4
      rw [← hw5]
      clear hw5 k1 k4 HG HOP HNA
      go_upto_region 15 with (go_at_call 22; refine (HP.out _).mono ?_; rintro e w_ ⟨rfl, rfl⟩)
      clear HP
      obtain rfl | rfl | rfl | rfl | rfl | rfl | rfl : pv = 6 ∨ pv = 0 ∨ pv = 1 ∨ pv = 2 ∨ pv = 3 ∨ pv = 4 ∨ pv = 5 := by omega
      all_goals clear hvb
      · go_wp2_with (go_at_call 25; refine (readat_dead G5.out.at_ G5.out.dead nm 0 q.n).mono ?_; rintro e w6 ⟨rfl, g6⟩; have G6 := hid (G5.out.step g6); clear g6)
        go_roundg (n2 - (kk + 1))
        case measure => omega
        case rel => exact ⟨kk + 1, true, by omega, by omega, by go_num, G6⟩
      · go_wp2_with (go_at_call 9; refine (append_dead G5.out.at_ G5.out.dead nm q.at_ q.b.length q.cap).mono ?_; rintro e w6 ⟨rfl, g6⟩; have G6 := hid (G5.out.step g6); clear g6)
        go_roundg (n2 - (kk + 1))
        case measure => omega
        case rel => exact ⟨kk + 1, true, by omega, by omega, by go_num, G6⟩
      · go_wp2_with (go_at_call 15; refine (read_dead G5.out.at_ G5.out.dead nm).mono ?_; rintro e w6 ⟨rfl, g6⟩; have G6 := hid (G5.out.step g6); clear g6)
        go_roundg (n2 - (kk + 1))
        case measure => omega
        case rel => exact ⟨kk + 1, true, by omega, by omega, by go_num, G6⟩
      · go_wp2_with (go_at_call 10; refine (sync_dead G5.out.at_ G5.out.dead nm).mono ?_; rintro e w6 ⟨rfl, g6⟩; have G6 := hid (G5.out.step g6); clear g6)
        go_roundg (n2 - (kk + 1))
        case measure => omega
        case rel => exact ⟨kk + 1, true, by omega, by omega, by go_num, G6⟩
      · go_wp2_with (go_at_call 11; refine (syncdir_dead G5.out.at_ G5.out.dead).mono ?_; rintro e w6 ⟨rfl, g6⟩; have G6 := hid (G5.out.step g6); clear g6)
        go_roundg (n2 - (kk + 1))
        case measure => omega
        case rel => exact ⟨kk + 1, true, by omega, by omega, by go_num, G6⟩
      · go_wp2_with (go_at_call 17; refine (rename_dead G5.out.at_ G5.out.dead nm q.too).mono ?_; rintro e w6 ⟨rfl, g6⟩; have G6 := hid (G5.out.step g6); clear g6)
        go_roundg (n2 - (kk + 1))
        case measure => omega
        case rel => exact ⟨kk + 1, true, by omega, by omega, by go_num, G6⟩
      · go_wp2_with (go_at_call 20; refine (remove_dead G5.out.at_ G5.out.dead nm).mono ?_; rintro e w6 ⟨rfl, g6⟩; have G6 := hid (G5.out.step g6); clear g6)
        go_roundg (n2 - (kk + 1))
        case measure => omega
        case rel => exact ⟨kk + 1, true, by omega, by omega, by go_num, G6⟩
    · have HC3 := hid (Kd.R_reads' HG.out.row)
      have hl0 := Kd.C_max HC3.out.2.2
      have HOPS := hid (show Calls Try.prog 13 #[P D.d] wr fun e w' => e = .returned (.int .i64 D.ops) ∧ w' = wr from by have h := ops_calls HG.out.at_; exact h)
      have HLOO := hid (show Calls Try.prog 23 #[P D.d] wr fun e w' => e = .returned (.int .i64 D.loose.length) ∧ w' = wr from by have h := loose_calls HG.out.at_; exact h)
      have HCUT := hid (show Calls Try.prog 24 #[P D.d, .int .i64 (-1)] wr fun e w' => e = .returned (.tuple #[]) ∧ DkAt w' { D with cut := -1, off := false } ∧ Fr [D.d] wr w' from by have h := cut_calls HG.out.at_ (-1); exact h)
      have HNL := hid (fun (W : World) (hW : DkAt W { D with cut := -1, off := false }) => (show Calls Try.prog 18 #[P D.d] W fun e w' => ∃ v, e = .returned v ∧ Kd.R Kd.string 9 w' W.heap.size (fun _ => True) v (nameL es) ∧ Below W.heap.size W w' from by have h := names_calls hW es HES.out (by omega); exact h))
      rcases (by omega : (¬ (kk : Int) < (n2 : Int)) ∨ ((kk : Int) < (n2 : Int) ∧ ¬ (kk : Int) < 40)) with hx | ⟨hx, hx2⟩
      all_goals
        go_upto_region 35 with (first | (go_at_call 13; refine HOPS.out.mono ?_; rintro e w_ ⟨rfl, rfl⟩) | (go_at_call 23; refine HLOO.out.mono ?_; rintro e w_ ⟨rfl, rfl⟩) | (go_at_call 24; refine HCUT.out.mono ?_; rintro e w6 ⟨rfl, h6, f6⟩; have H6 := hid h6; have F6 := hid f6; clear h6 f6) | (go_at_call 18; refine (HNL.out _ H6.out).mono ?_; rintro e w7 ⟨v7, rfl, hr, hb⟩; have R7 := hid (show Kd.R Kd.string 9 w7 w6.heap.size (fun _ => True) v7 l by rw [HL.out]; exact hr); have B7 := hid hb; obtain ⟨A7, c7, rfl⟩ := Kd.R_slice R7.out; clear hr hb))
        have HD0 := hid (show ∀ k ∈ [D.d], k ∈ D.own from fun k hk => by rw [List.mem_singleton.1 hk]; simp [Dk.own])
        have R8 := hid (Kd.R_step (Kd.R_step HG.out.row (fun k hk hlt => F6.out.keep k hlt (fun hm => hk (HD0.out k hm)))) (fun k _ hlt => B7.out.block k hlt))
        have B8 := hid (show Below w.heap.size w w7 from (HG.out.below.trans (F6.out.below HG.out.below.size (fun k hk => HG.out.own k (HD0.out k hk)))).trans (B7.out.mono (Nat.le_trans HG.out.below.size F6.out.size)))
        have C7 := hid (Kd.R_reads' R7.out).2.2
        have C8 := hid (Kd.R_reads' R8.out).2.2
        clear R8 R7 F6 H6 B7 HG HOPS HLOO HCUT HNL HC3
        go_wp2
        go_loopg [15] l.length (fun gg s15 wq => ∃ jj : Nat, jj ≤ l.length ∧ l.length - jj ≤ gg ∧ s15 = .int .i64 jj ∧ Hid (∃ z, wq = w7.drewN z))
        case atStart => exact ⟨0, Nat.zero_le _, by omega, rfl, hid ⟨0, rfl⟩⟩
        case round =>
          obtain ⟨jj, hjj, hgj, rfl, HZ⟩ := hrel
          by_cases hj : jj < l.length
          · have hjz : (jj : Int) < (l.length : Int) := by omega
            obtain ⟨z, hz⟩ := HZ.out
            obtain ⟨b7, o7, rfl, _, h7⟩ := lies_at C7.out (by omega)
            obtain ⟨b8, o8, rfl, _, h8⟩ := lies_at C8.out (by omega)
            have k7 : ∀ y, (wr.drewN y).cell? ⟨b7, o7 + jj, none⟩ = some (.string (l.getD jj ByteArray.empty)) := fun y => by rw [hz]; exact h7 jj hj
            have k8 : ∀ y, (wr.drewN y).cell? ⟨b8, o8 + jj, none⟩ = some (.string (l.getD jj ByteArray.empty)) := fun y => by rw [hz]; exact h8 jj hj
            clear h7 h8 hz
            go_upto_region 40 with fail
            go_quiet (fail)
            go_wp2
            go_roundg (l.length - (jj + 1))
            case measure => omega
            case rel => exact ⟨jj + 1, by omega, by omega, by go_num, hid (by obtain ⟨z, hz⟩ := HZ.out; exact ⟨z + nq, by rw [hz, World.drewN_drewN]⟩)⟩
          · have hjz : ¬ (jj : Int) < (l.length : Int) := by omega
            go_wp2
            go_ret
            exact ⟨rfl, by obtain ⟨z, hz⟩ := HZ.out; rw [hz]; exact pw_below_drewN B8.out z⟩
end Go.Proofs.Ytgcenkmekpaapaa.L
