/- The laws' world: begun, may. -/
import Derived.Test.YthlmbgaipbjbhaaDoorArgs
import Derived.Deep.QuietTactic
import Derived.BigQuiet
namespace Go.Proofs.YthlmbgaipbjbhaaDoor.L
open Go.RowKit Go.Lib Go.Maps Go.Proofs.YthlmbgaipbjbhaaDoor.P
open Go.Proofs.YthlmbgaipbjbhaaDoorW.PrintWords Go.Proofs.YthlmbgaipbjbhaaDoorW.PrintLast Go.Proofs.YthlmbgaipbjbhaaDoorW.PrintMore
set_option linter.unusedVariables false
abbrev nLog : ByteArray := ⟨#[108, 111, 103]⟩
abbrev nLog2 : ByteArray := ⟨#[108, 111, 103, 126]⟩
theorem namedLog : Named nLog nLog2 := ⟨by kernel_rfl, by kernel_rfl, by kernel_rfl, by decide⟩
theorem wNameLog : wName nLog = true := by kernel_rfl
abbrev wsObj (d k : Nat) (vg vf : Value) (t : Bool) : Obj := .cells #[P d, P k, vg, vf, .bool t] 47
set_option maxHeartbeats 4000000 in
set_option maxRecDepth 100000 in
theorem begun_calls (w0 w : World) (hb : Below w0.heap.size w0 w) :
    Calls Tryd.prog 15 #[] w fun e w' => ∃ (x k : Nat) (D : Dk), e = .returned (.tuple #[P x, .bool true]) ∧ Below w.heap.size w w' ∧ Dw w0 w' 0 4194304 D ∧ Lw w0 w' D k nLog [] ∧
      w'.heap[x]? = some (wsObj D.d k (.slice none 0 0) (.slice none 0 0) false) ∧ w0.heap.size ≤ x ∧ x ∉ k :: D.own ∧ x ∉ D.boxes ∧ (∀ P : ByteArray → Prop, Only P D) ∧ Calm 12582912 D := by
  have HB := hid hb
  clear hb
  go_enter Tryd.func15, Tryd.ntmps15
  go_upto_region 4 with (go_at_call 9; refine (new_w w0 16777216 (by omega) HB.out 4194304).mono ?_; rintro e w2 ⟨D0, rfl, hb2, dw2, ho2, hf2, hn2, hc2⟩; have HB2 := hid hb2; have DW2 := hid dw2; have HF2 := hid hf2; have HN2 := hid hn2; have HC2 := hid (hc2 12582912 (by omega)); clear hb2 dw2 ho2 hf2 hn2 hc2)
  go_upto_region 5 with (go_at_call 10; refine (open_new DW2.out wNameLog (HF2.out _)).mono ?_; rintro e w4 ⟨k, rfl, hb4, dw4, hk, lw4⟩; have HB4 := hid hb4; have DW4 := hid dw4; have LW4 := hid lw4; have HK := hid hk; clear hb4 dw4 hk lw4)
  go_wp2
  go_ret2
  have f5 : Fr [] w4 (w4.alloc (wsObj D0.d k (.slice none 0 0) (.slice none 0 0) false)) := Fr.alloc [] w4 _
  have hkl : k < w4.heap.size := by
    obtain ⟨s, r, t, h1, _⟩ := LW4.out.lw
    exact lt_of h1
  refine ⟨w4.heap.size, k, D0, rfl, ?_, DW4.out.new f5, LW4.out.new f5, al_get w4 _, Nat.le_trans HB.out.size (Nat.le_trans HB2.out.size HB4.out.size), fun hm => ?_, fun hm => ?_, HN2.out, HC2.out⟩
  · exact HB2.out.trans ((HB4.out.mono HB2.out.size).trans ((al_below w4 _).mono (Nat.le_trans HB2.out.size HB4.out.size)))
  · rcases List.mem_cons.1 hm with e | hm
    · omega
    · have := DW4.out.at_.lt _ hm; omega
  · have := DW4.out.at_.blt _ hm; omega
def mayL (t : Bool) (F : List Int) (c a b : Int) : Bool := if c = 33 then t else (decide (c = 34) && F.any (fun f => decide (a ≤ f) && decide (f < b))) || decide (c = 0)
theorem mayL_nil (t : Bool) (c a b : Int) (h : c = 33 → t = false) : mayL t [] c a b = decide (c = 0) := by
  unfold mayL
  by_cases h3 : c = 33
  · rw [if_pos h3, h h3, h3]; rfl
  · rw [if_neg h3]; simp
theorem drewN_drewN (w : World) (a b : Nat) : (w.drewN a).drewN b = w.drewN (a + b) := by
  unfold World.drewN
  simp [Nat.add_assoc]
set_option maxHeartbeats 8000000 in
set_option maxRecDepth 100000 in
theorem may_calls {w : World} {D : Dk} (h : DkAt w D) (x k : Nat) (vg : Value) (A : Option Addr) (cp : Nat) (F : List Int) (t : Bool) (c a : Int) (hx : w.heap[x]? = some (wsObj D.d k vg (.slice A F.length cp) t)) (hF : Kd.C (Kd.int .i64) w A F.length F) (hlen : F.length < 4611686018427387904) :
    Calls Tryd.prog 24 #[P x, .int .i64 c, .int .i64 a] w fun e w' => e = .returned (.bool (mayL t F c a D.ops)) ∧ ∃ z, w' = w.drewN z := by
  have m4 : ∀ z, (w.drewN z).cell? ⟨x, 4, none⟩ = some (.bool t) := fun z => (cell_of hx 4).trans rfl
  have m3 : ∀ z, (w.drewN z).cell? ⟨x, 3, none⟩ = some (.slice A F.length cp) := fun z => (cell_of hx 3).trans rfl
  have m0 : ∀ z, (w.drewN z).cell? ⟨x, 0, none⟩ = some (P D.d) := fun z => (cell_of hx 0).trans rfl
  have p4 : w.cell? ⟨x, 4, none⟩ = some (.bool t) := m4 0
  have HM3 := hid m3
  have HM0 := hid m0
  have HD := hid h
  have HF := hid hF
  have HLE := hid hlen
  clear hx h hF hlen m4 m3 m0
  by_cases h33 : c = 33
  · subst h33
    have HR := hid (show mayL t F 33 a D.ops = t from if_pos rfl)
    go_enter Tryd.func24, Tryd.ntmps24
    go_wp2
    go_ret
    rw [HR.out]
    exact ⟨rfl, 0, rfl⟩
  · have hc33 : (c == 33) = false := by simp [h33]
    have HR := hid (show mayL t F c a D.ops = ((decide (c = 34) && F.any (fun f => decide (a ≤ f) && decide (f < D.ops))) || decide (c = 0)) from if_neg h33)
    go_enter Tryd.func24, Tryd.ntmps24
    go_wp2
    go_loopg [7] F.length (fun gg s7 wr => ∃ (kk z : Nat), kk ≤ F.length ∧ F.length - kk ≤ gg ∧ s7 = .int .i64 kk ∧ Hid (wr = w.drewN z) ∧ Hid ((decide (c = 34) && (F.take kk).any (fun f => decide (a ≤ f) && decide (f < D.ops))) = false))
    case atStart => exact ⟨0, 0, Nat.zero_le _, by omega, rfl, hid rfl, hid (by simp)⟩
    case round =>
      clear p4
      obtain ⟨kk, z, hkk, hg, rfl, HW, HA⟩ := hrel
      have q3 : wr.cell? ⟨x, 3, none⟩ = some (.slice A F.length cp) := by rw [HW.out]; exact HM3.out z
      by_cases hlt : kk < F.length
      · have hlz : (kk : Int) < (F.length : Int) := by omega
        have hkz : wrap64 ((kk : Int) + 1) = ((kk + 1 : Nat) : Int) := by have := HLE.out; unfold wrap64; omega
        obtain ⟨ad, hA, hcell⟩ := (Kd.reads_of_C (d := (0 : Int)) HF.out).2.2 (by omega)
        have hc1 := hcell kk hlt
        obtain ⟨b, o, rfl, hbl⟩ : ∃ b o, ad = ⟨b, o, none⟩ ∧ b < w.heap.size := by
          have h0 := hcell 0 (by omega)
          have e0 : ad.add 0 = ad := by simp [Addr.add]
          rw [e0] at h0
          exact spot_of h0
        subst hA
        rw [add_is] at hc1
        obtain ⟨f, hf⟩ : ∃ f, f = F.getD kk 0 := ⟨_, rfl⟩
        rw [← hf] at hc1
        have hget : F[kk]? = some f := by rw [hf, List.getD_eq_getElem?_getD, List.getElem?_eq_getElem hlt]; rfl
        have HT := hid (show (decide (c = 34) && (F.take (kk + 1)).any (fun f => decide (a ≤ f) && decide (f < D.ops))) = (decide (c = 34) && (decide (a ≤ f) && decide (f < D.ops))) from by
          rw [List.take_add_one, hget, Option.toList_some, List.any_append, Bool.and_or_distrib_left, HA.out]
          simp)
        have HAN := hid (show (decide (c = 34) && (decide (a ≤ f) && decide (f < D.ops))) = true → (decide (c = 34) && F.any (fun f => decide (a ≤ f) && decide (f < D.ops))) = true from fun h => by
          simp only [Bool.and_eq_true, decide_eq_true_eq] at h
          simp only [Bool.and_eq_true, decide_eq_true_eq, List.any_eq_true]
          exact ⟨h.1, f, List.mem_of_getElem? hget, h.2⟩)
        clear hcell hf hget
        go_upto_region 6 with fail
        have k3 : ∀ y, (wr.drewN y).cell? ⟨x, 3, none⟩ = some (.slice (some ⟨b, o, none⟩) F.length cp) := fun _ => q3
        have k0 : ∀ y, (wr.drewN y).cell? ⟨x, 0, none⟩ = some (P D.d) := fun _ => by rw [HW.out]; exact HM0.out z
        have kf : ∀ y, (wr.drewN y).cell? ⟨b, o + kk, none⟩ = some (.int .i64 f) := fun _ => by rw [HW.out]; exact hc1
        have HOPS := hid (fun (y : Nat) => ops_calls (w := wr.drewN y) (by rw [HW.out]; exact (HD.out.drewN z).drewN y))
        clear q3 hc1
        by_cases h34 : c = 34
        · have hb34 : (c == 34) = true := by simp [h34]
          have hc34 := decide_eq_true h34
          clear h34
          by_cases h1 : a ≤ f
          · have hb1 := decide_eq_true h1
            by_cases h2 : f < D.ops
            · have hb2 := decide_eq_true h2
              have HRT := hid (show mayL t F c a D.ops = true from by rw [HR.out, HAN.out (by rw [hc34, hb1, hb2]; rfl)]; rfl)
              go_quiet ((go_at_call 17; exact Calls.quiet_of_same (HOPS.out _)))
              obtain ⟨y9, hy9⟩ : ∃ y, wr.drewN nq = w.drewN y := ⟨z + nq, by rw [HW.out]; exact drewN_drewN w z nq⟩
              have HY9 := hid hy9
              generalize wr.drewN nq = w9 at *
              clear hy9
              go_wp2
              go_ret
              rw [HRT.out]
              exact ⟨rfl, y9, HY9.out⟩
            · have hb2 := decide_eq_false h2
              go_quiet ((go_at_call 17; exact Calls.quiet_of_same (HOPS.out _)))
              obtain ⟨y9, hy9⟩ : ∃ y, wr.drewN nq = w.drewN y := ⟨z + nq, by rw [HW.out]; exact drewN_drewN w z nq⟩
              have HY9 := hid hy9
              generalize wr.drewN nq = w9 at *
              clear hy9
              go_wp2
              go_roundg (F.length - (kk + 1))
              case measure => omega
              case rel => exact ⟨kk + 1, y9, by omega, by omega, (by first | rfl | rw [hkz]), HY9, hid (HT.out.trans (by rw [hb2, Bool.and_false, Bool.and_false]))⟩
          · have hb1 := decide_eq_false h1
            go_quiet ((go_at_call 17; exact Calls.quiet_of_same (HOPS.out _)))
            obtain ⟨y9, hy9⟩ : ∃ y, wr.drewN nq = w.drewN y := ⟨z + nq, by rw [HW.out]; exact drewN_drewN w z nq⟩
            have HY9 := hid hy9
            generalize wr.drewN nq = w9 at *
            clear hy9
            go_wp2
            go_roundg (F.length - (kk + 1))
            case measure => omega
            case rel => exact ⟨kk + 1, y9, by omega, by omega, (by first | rfl | rw [hkz]), HY9, hid (HT.out.trans (by rw [hb1, Bool.false_and, Bool.and_false]))⟩
        · have hb34 : (c == 34) = false := by simp [h34]
          have hc34 := decide_eq_false h34
          go_quiet ((go_at_call 17; exact Calls.quiet_of_same (HOPS.out _)))
          obtain ⟨y9, hy9⟩ : ∃ y, wr.drewN nq = w.drewN y := ⟨z + nq, by rw [HW.out]; exact drewN_drewN w z nq⟩
          have HY9 := hid hy9
          generalize wr.drewN nq = w9 at *
          clear hy9
          go_wp2
          go_roundg (F.length - (kk + 1))
          case measure => omega
          case rel => exact ⟨kk + 1, y9, by omega, by omega, (by first | rfl | rw [hkz]), HY9, hid (HT.out.trans (by rw [hc34, Bool.false_and]))⟩
      · have hlz : ¬ (kk : Int) < (F.length : Int) := by omega
        have hke : kk = F.length := by omega
        have HRF := hid (show mayL t F c a D.ops = decide (c = 0) from by
          have h1 := HA.out
          rw [hke, List.take_length] at h1
          rw [HR.out, h1, Bool.false_or])
        have HW0 := hid (HW.out)
        clear HA
        by_cases h0 : c = 0
        · subst h0
          go_wp2
          go_ret
          rw [HRF.out]
          exact ⟨rfl, z, HW0.out⟩
        · have hb0 : (c == 0) = false := by simp [h0]
          go_wp2
          go_ret
          rw [HRF.out, decide_eq_false h0]
          exact ⟨rfl, z, HW0.out⟩
end Go.Proofs.YthlmbgaipbjbhaaDoor.L
