/- slices.IndexFunc, slices.DeleteFunc on acts. (Printed by gen_del.py.) -/
import Derived.Test.YthlmbgaipbjbhaaDoorDel
namespace Go.Proofs.YthlmbgaipbjbhaaDoor.L
open Go.RowKit Go.Lib Go.Maps
open Go.Proofs.YthlmbgaipbjbhaaDoorW.PrintWords Go.Proofs.YthlmbgaipbjbhaaDoorW.PrintLast Go.Proofs.YthlmbgaipbjbhaaDoorW.PrintMore
def IdxIs (p : Ac → Bool) (l : List Ac) (i : Int) : Prop := (i = -1 ∧ ∀ a ∈ l, p a = false) ∨ (∃ k : Nat, i = k ∧ k < l.length ∧ (∀ a ∈ l.take k, p a = false) ∧ ∀ (h : k < l.length), p l[k] = true)
theorem take_more {p : Ac → Bool} {l : List Ac} {k : Nat} (h : ∀ a ∈ l.take k, p a = false) (hk : k < l.length) (hp : p l[k] = false) : ∀ a ∈ l.take (k + 1), p a = false := by
  intro a ha
  rw [List.take_succ_eq_append_getElem hk] at ha
  rcases List.mem_append.1 ha with ha | ha
  · exact h a ha
  · rw [List.mem_singleton.1 ha]; exact hp
set_option maxHeartbeats 4000000 in
set_option maxRecDepth 100000 in
theorem idx_dir {w : World} {v : Value} {l : List Ac} (A : Option Addr) (c : Nat) (hr : Kd.R kAc 89 w 0 (fun _ => True) v l) (hv : v = .slice A l.length c) (hs : Says 68 #[] isDir w v.ownBlock.toList l) :
    Calls Tryd.prog 77 #[.slice A l.length c, .func (.func 68) #[] #[]] w fun e w' => ∃ i : Int, e = .returned (.int .i64 i) ∧ IdxIs (isDir) l i ∧ Below w.heap.size w w' := by
  have e33 : ∀ args w, (callFunc 68 args).run Tryd.prog w = .ok (.enter 68 args) w := enters_of Tryd.func68 (by kernel_rfl) rfl
  have HR := hid hr
  have HV := hid hv
  have HS := hid hs
  have HB0 := hid (Below.refl w.heap.size w)
  have hmx : l.length ≤ 9223372036854775807 := by rw [hv] at hr; exact Kd.C_max (Kd.R_reads' hr).2.2
  clear hr hv hs
  go_enter Tryd.func77, Tryd.ntmps77
  go_wp2
  go_loopg [5, 8] l.length (fun gg _ s8 wr => ∃ kk : Nat, kk ≤ l.length ∧ l.length - kk ≤ gg ∧ s8 = .int .i64 kk ∧ Hid (Below w.heap.size w wr) ∧ Hid (∀ a ∈ l.take kk, (isDir) a = false))
  case atStart => exact ⟨0, Nat.zero_le _, by omega, rfl, HB0, hid (fun a ha => by simp at ha)⟩
  case round =>
    clear HB0
    obtain ⟨kk, hkk, hg, rfl, HB, HN⟩ := hrel
    by_cases hlt : kk < l.length
    · have hltz : (kk : Int) < (l.length : Int) := by omega
      obtain ⟨g, hA, hgl, _, _, hcell⟩ := act_at (Kd.R_step HR.out (fun k _ hk => HB.out.block k hk) : Kd.R kAc 89 wr 0 (fun _ => True) v l) HV.out (by omega)
      obtain ⟨k0, k1, k2⟩ := hcell kk hlt
      have hcall := HS.out wr l[kk] (List.getElem_mem hlt) (Fr.of_below HB.out _)
      clear hcell
      subst hA
      cases hp : (isDir) l[kk] with
      | true =>
        rw [hp] at hcall
        have HRES := hid (show IdxIs (isDir) l (kk : Int) from .inr ⟨kk, rfl, hlt, HN.out, fun _ => hp⟩)
        clear hp
        rcases ac_form l[kk] with ⟨x, n, hf⟩ | ⟨h1, h2, _, _, gg2, cs, h4⟩
        · rw [hf] at k0 k1 k2 hcall
          have q0 : wr.cell? ⟨g, kk * 3, none⟩ = some (P x) := k0
          have q1 : wr.cell? ⟨g, kk * 3 + 1, none⟩ = some (.int .i64 n) := k1
          have q2 : wr.cell? ⟨g, kk * 3 + 2, none⟩ = some .nilFunc := k2
          have HC := hid (show Calls Tryd.prog 68 #[.agg #[P x, .int .i64 n, .nilFunc]] wr fun e w' => e = .returned (.bool true) ∧ Below wr.heap.size wr w' from hcall)
          clear k0 k1 k2 hcall hf
          go_wp2_with (go_at_fn 68; refine HC.out.mono ?_; rintro e w2 ⟨rfl, hb⟩; have B2 := hid (HB.out.trans (hb.mono HB.out.size)); clear hb)
          go_ret
          exact ⟨_, rfl, HRES.out, B2.out⟩
        · rw [h1] at k0
          rw [h2] at k1
          rw [h4] at k2
          rw [h1, h2, h4] at hcall
          have HC := hid (show Calls Tryd.prog 68 #[.agg #[.pointer none, .int .i64 0, .func (.func gg2) #[] cs]] wr fun e w' => e = .returned (.bool true) ∧ Below wr.heap.size wr w' from hcall)
          clear hcall h1 h2 h4
          go_wp2_with (go_at_fn 68; refine HC.out.mono ?_; rintro e w2 ⟨rfl, hb⟩; have B2 := hid (HB.out.trans (hb.mono HB.out.size)); clear hb)
          go_ret
          exact ⟨_, rfl, HRES.out, B2.out⟩
      | false =>
        rw [hp] at hcall
        have HN2 := hid (take_more HN.out hlt hp)
        clear hp
        rcases ac_form l[kk] with ⟨x, n, hf⟩ | ⟨h1, h2, _, _, gg2, cs, h4⟩
        · rw [hf] at k0 k1 k2 hcall
          have q0 : wr.cell? ⟨g, kk * 3, none⟩ = some (P x) := k0
          have q1 : wr.cell? ⟨g, kk * 3 + 1, none⟩ = some (.int .i64 n) := k1
          have q2 : wr.cell? ⟨g, kk * 3 + 2, none⟩ = some .nilFunc := k2
          have HC := hid (show Calls Tryd.prog 68 #[.agg #[P x, .int .i64 n, .nilFunc]] wr fun e w' => e = .returned (.bool false) ∧ Below wr.heap.size wr w' from hcall)
          clear k0 k1 k2 hcall hf
          go_wp2_with (go_at_fn 68; refine HC.out.mono ?_; rintro e w2 ⟨rfl, hb⟩; have B2 := hid (HB.out.trans (hb.mono HB.out.size)); clear hb)
          go_roundg (l.length - (kk + 1))
          case measure => omega
          case rel => exact ⟨kk + 1, by omega, by omega, by go_num, B2, HN2⟩
        · rw [h1] at k0
          rw [h2] at k1
          rw [h4] at k2
          rw [h1, h2, h4] at hcall
          have HC := hid (show Calls Tryd.prog 68 #[.agg #[.pointer none, .int .i64 0, .func (.func gg2) #[] cs]] wr fun e w' => e = .returned (.bool false) ∧ Below wr.heap.size wr w' from hcall)
          clear hcall h1 h2 h4
          go_wp2_with (go_at_fn 68; refine HC.out.mono ?_; rintro e w2 ⟨rfl, hb⟩; have B2 := hid (HB.out.trans (hb.mono HB.out.size)); clear hb)
          go_roundg (l.length - (kk + 1))
          case measure => omega
          case rel => exact ⟨kk + 1, by omega, by omega, by go_num, B2, HN2⟩
    · have hltz : ¬ (kk : Int) < (l.length : Int) := by omega
      have HRES := hid (show IdxIs (isDir) l (-1) from .inl ⟨rfl, fun a ha => HN.out a (by rw [List.take_of_length_le (by omega)]; exact ha)⟩)
      go_wp2
      go_ret
      exact ⟨_, rfl, HRES.out, HB.out⟩
set_option maxHeartbeats 4000000 in
set_option maxRecDepth 100000 in
theorem idx_of {w : World} {v : Value} {l : List Ac} (f bx : Nat) (A : Option Addr) (c : Nat) (hr : Kd.R kAc 89 w 0 (fun _ => True) v l) (hv : v = .slice A l.length c) (hs : Says 69 #[P bx] (isOf f) w v.ownBlock.toList l) :
    Calls Tryd.prog 77 #[.slice A l.length c, .func (.func 69) #[] #[P bx]] w fun e w' => ∃ i : Int, e = .returned (.int .i64 i) ∧ IdxIs (isOf f) l i ∧ Below w.heap.size w w' := by
  have e33 : ∀ args w, (callFunc 69 args).run Tryd.prog w = .ok (.enter 69 args) w := enters_of Tryd.func69 (by kernel_rfl) rfl
  have HR := hid hr
  have HV := hid hv
  have HS := hid hs
  have HB0 := hid (Below.refl w.heap.size w)
  have hmx : l.length ≤ 9223372036854775807 := by rw [hv] at hr; exact Kd.C_max (Kd.R_reads' hr).2.2
  clear hr hv hs
  go_enter Tryd.func77, Tryd.ntmps77
  go_wp2
  go_loopg [5, 8] l.length (fun gg _ s8 wr => ∃ kk : Nat, kk ≤ l.length ∧ l.length - kk ≤ gg ∧ s8 = .int .i64 kk ∧ Hid (Below w.heap.size w wr) ∧ Hid (∀ a ∈ l.take kk, (isOf f) a = false))
  case atStart => exact ⟨0, Nat.zero_le _, by omega, rfl, HB0, hid (fun a ha => by simp at ha)⟩
  case round =>
    clear HB0
    obtain ⟨kk, hkk, hg, rfl, HB, HN⟩ := hrel
    by_cases hlt : kk < l.length
    · have hltz : (kk : Int) < (l.length : Int) := by omega
      obtain ⟨g, hA, hgl, _, _, hcell⟩ := act_at (Kd.R_step HR.out (fun k _ hk => HB.out.block k hk) : Kd.R kAc 89 wr 0 (fun _ => True) v l) HV.out (by omega)
      obtain ⟨k0, k1, k2⟩ := hcell kk hlt
      have hcall := HS.out wr l[kk] (List.getElem_mem hlt) (Fr.of_below HB.out _)
      clear hcell
      subst hA
      cases hp : (isOf f) l[kk] with
      | true =>
        rw [hp] at hcall
        have HRES := hid (show IdxIs (isOf f) l (kk : Int) from .inr ⟨kk, rfl, hlt, HN.out, fun _ => hp⟩)
        clear hp
        rcases ac_form l[kk] with ⟨x, n, hf⟩ | ⟨h1, h2, _, _, gg2, cs, h4⟩
        · rw [hf] at k0 k1 k2 hcall
          have q0 : wr.cell? ⟨g, kk * 3, none⟩ = some (P x) := k0
          have q1 : wr.cell? ⟨g, kk * 3 + 1, none⟩ = some (.int .i64 n) := k1
          have q2 : wr.cell? ⟨g, kk * 3 + 2, none⟩ = some .nilFunc := k2
          have HC := hid (show Calls Tryd.prog 69 #[.agg #[P x, .int .i64 n, .nilFunc], P bx] wr fun e w' => e = .returned (.bool true) ∧ Below wr.heap.size wr w' from hcall)
          clear k0 k1 k2 hcall hf
          go_wp2_with (go_at_fn 69; refine HC.out.mono ?_; rintro e w2 ⟨rfl, hb⟩; have B2 := hid (HB.out.trans (hb.mono HB.out.size)); clear hb)
          go_ret
          exact ⟨_, rfl, HRES.out, B2.out⟩
        · rw [h1] at k0
          rw [h2] at k1
          rw [h4] at k2
          rw [h1, h2, h4] at hcall
          have HC := hid (show Calls Tryd.prog 69 #[.agg #[.pointer none, .int .i64 0, .func (.func gg2) #[] cs], P bx] wr fun e w' => e = .returned (.bool true) ∧ Below wr.heap.size wr w' from hcall)
          clear hcall h1 h2 h4
          go_wp2_with (go_at_fn 69; refine HC.out.mono ?_; rintro e w2 ⟨rfl, hb⟩; have B2 := hid (HB.out.trans (hb.mono HB.out.size)); clear hb)
          go_ret
          exact ⟨_, rfl, HRES.out, B2.out⟩
      | false =>
        rw [hp] at hcall
        have HN2 := hid (take_more HN.out hlt hp)
        clear hp
        rcases ac_form l[kk] with ⟨x, n, hf⟩ | ⟨h1, h2, _, _, gg2, cs, h4⟩
        · rw [hf] at k0 k1 k2 hcall
          have q0 : wr.cell? ⟨g, kk * 3, none⟩ = some (P x) := k0
          have q1 : wr.cell? ⟨g, kk * 3 + 1, none⟩ = some (.int .i64 n) := k1
          have q2 : wr.cell? ⟨g, kk * 3 + 2, none⟩ = some .nilFunc := k2
          have HC := hid (show Calls Tryd.prog 69 #[.agg #[P x, .int .i64 n, .nilFunc], P bx] wr fun e w' => e = .returned (.bool false) ∧ Below wr.heap.size wr w' from hcall)
          clear k0 k1 k2 hcall hf
          go_wp2_with (go_at_fn 69; refine HC.out.mono ?_; rintro e w2 ⟨rfl, hb⟩; have B2 := hid (HB.out.trans (hb.mono HB.out.size)); clear hb)
          go_roundg (l.length - (kk + 1))
          case measure => omega
          case rel => exact ⟨kk + 1, by omega, by omega, by go_num, B2, HN2⟩
        · rw [h1] at k0
          rw [h2] at k1
          rw [h4] at k2
          rw [h1, h2, h4] at hcall
          have HC := hid (show Calls Tryd.prog 69 #[.agg #[.pointer none, .int .i64 0, .func (.func gg2) #[] cs], P bx] wr fun e w' => e = .returned (.bool false) ∧ Below wr.heap.size wr w' from hcall)
          clear hcall h1 h2 h4
          go_wp2_with (go_at_fn 69; refine HC.out.mono ?_; rintro e w2 ⟨rfl, hb⟩; have B2 := hid (HB.out.trans (hb.mono HB.out.size)); clear hb)
          go_roundg (l.length - (kk + 1))
          case measure => omega
          case rel => exact ⟨kk + 1, by omega, by omega, by go_num, B2, HN2⟩
    · have hltz : ¬ (kk : Int) < (l.length : Int) := by omega
      have HRES := hid (show IdxIs (isOf f) l (-1) from .inl ⟨rfl, fun a ha => HN.out a (by rw [List.take_of_length_le (by omega)]; exact ha)⟩)
      go_wp2
      go_ret
      exact ⟨_, rfl, HRES.out, HB.out⟩
end Go.Proofs.YthlmbgaipbjbhaaDoor.L
