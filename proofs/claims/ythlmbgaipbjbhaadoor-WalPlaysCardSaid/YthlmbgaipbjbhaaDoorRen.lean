/- An act done and laid with the loose ones. Remove, Rename. Rename. -/
import Derived.Test.YthlmbgaipbjbhaaDoorTurn
section
namespace Go.Proofs.YthlmbgaipbjbhaaDoor.L
open Go.RowKit Go.Lib Go.Maps
open Go.Proofs.YthlmbgaipbjbhaaDoorW.PrintWords Go.Proofs.YthlmbgaipbjbhaaDoorW.PrintLast Go.Proofs.YthlmbgaipbjbhaaDoorW.PrintMore
section
variable {w : World} {D : Dk}
theorem acted {w1 w2 : World} {D1 : Dk} {a : Ac} {v1 : Value} (g1 : Goes w w1 D D1) (ha : BoxIs w1 a) (hbo : ∀ k ∈ bxs a, k ∉ D1.own ∧ k < w1.heap.size ∧ k ∉ D.boxes)
    (hr : Kd.R kAc 89 w2 0 (fun _ => True) v1 (D1.loose ++ [a])) (hg : Fr (D1.lv.ownBlock.toList) w1 w2) (hv : v1.ownBlock = D1.lv.ownBlock ∨ ∃ b, v1.ownBlock = some b ∧ w1.heap.size ≤ b) :
    DkAt (w2.setCell ⟨D1.d, 2, none⟩ v1) { D1 with lv := v1, loose := D1.loose ++ [a] } ∧ Fr D.own w (w2.setCell ⟨D1.d, 2, none⟩ v1) ∧ ∀ k ∈ ({ D1 with lv := v1, loose := D1.loose ++ [a] } : Dk).own, k ∈ D.own ∨ w.heap.size ≤ k := by
  have h1 := g1.at_
  obtain ⟨_, hlv, _, hbx⟩ := Dk.ne h1
  have hvb : ∀ k, k < w1.heap.size → D1.lv.ownBlock ≠ some k → v1.ownBlock ≠ some k := fun k hk hn e => by
    rcases hv with hv | ⟨b, hv, hb⟩
    · exact hn (hv ▸ e)
    · rw [hv] at e
      injection e with e
      omega
  have hlo : ∀ k, k ∉ D1.own → D1.lv.ownBlock ≠ some k := fun k hk e => hk (by simp [Dk.own, e])
  have hmem : ∀ k, D1.lv.ownBlock = some k → k ∈ D1.lv.ownBlock.toList := fun k hk => by rw [hk]; simp
  obtain ⟨r1, r2, r3⟩ := Goes.turn_loose h1 hg hr (hv.imp id .inr) (fun x hx => by
      rcases List.mem_append.1 hx with hx | hx
      · exact (h1.boxed x hx).keep (fun k hk hlt => hg.keep k hlt (fun hm => (hbx k (List.mem_flatMap.2 ⟨x, hx, hk⟩)).2.2.2.2.1 (by simpa using hm)))
      · rw [List.mem_singleton.1 hx]
        exact ha.keep (fun k hk hlt => hg.keep k hlt (fun hm => hlo k (hbo k hk).1 (by simpa using hm))))
    (fun x hx k hk => by
      rcases List.mem_append.1 hx with hx | hx
      · exact .inl (List.mem_flatMap.2 ⟨x, hx, hk⟩)
      · rw [List.mem_singleton.1 hx] at hk
        exact .inr ⟨(hbo k hk).1, hvb k (hbo k hk).2.1 (hlo k (hbo k hk).1)⟩)
    (fun x hx k hk hkb => hvb k (h1.blt k hkb) (hbx k hkb).2.2.2.2.1)
  exact ⟨r1, g1.fr.trans r2 g1.own, fun k hk => by
    rcases r3 k hk with e | e
    · exact g1.own k e
    · exact .inr (Nat.le_trans g1.fr.size e)⟩
set_option maxHeartbeats 4000000 in
set_option maxRecDepth 100000 in
theorem turn_make (h : DkAt w D) (s : ByteArray) (f b1 b2 : Nat) (hb : BoxIs w (.make s f b1 b2)) (hbo : ∀ k ∈ bxs (.make s f b1 b2), k ∉ D.own ∧ k ∉ D.boxes) (hn : D.n < maxLen) (hlen : D.loose.length < 4294967296) :
    Calls Tryd.prog 65 #[P D.d, .func (.func 66) #[] #[P b1, P b2]] w fun e w' => e = .returned (.tuple #[]) ∧ ∃ v1, DkAt w' { D with n := D.n + 1, dir := (.make s f b1 b2 : Ac).app D.dir, lv := v1, loose := D.loose ++ [.make s f b1 b2] } ∧ Fr D.own w w' ∧ ∀ k ∈ ({ D with n := D.n + 1, dir := (.make s f b1 b2 : Ac).app D.dir, lv := v1, loose := D.loose ++ [.make s f b1 b2] } : Dk).own, k ∈ D.own ∨ w.heap.size ≤ k := by
  have e29 : ∀ args w, (callFunc 66 args).run Tryd.prog w = .ok (.enter 66 args) w := enters_of Tryd.func66 (by kernel_rfl) rfl
  have c0 := h.c0
  have HH := hid h
  have HB := hid hb
  have hbo' := fun k hk => (hbo k hk).1
  have HBO := hid (fun k (hk : k ∈ bxs (.make s f b1 b2)) => (⟨hbo' k hk, hb.lt k hk, (hbo k hk).2⟩ : k ∉ D.own ∧ k < w.heap.size ∧ k ∉ D.boxes))
  obtain ⟨A, c, hv⟩ := Kd.R_slice h.row
  have HV := hid hv
  have hdne := (Dk.ne h).1.1
  clear h hb hv hbo hbo'
  go_enter Tryd.func65, Tryd.ntmps65
  go_wp2_with (first
    | (go_at_fn 66; refine (do_make s f b1 b2 HB.out HH.out.dirM hn).mono ?_; rintro e w1 ⟨rfl, hm1, hf1⟩; have G1 := hid (Goes.turn_dir HH.out hm1 hf1); have B1 := hid (HB.out.keep (fun k hk hlt => hf1.keep k hlt (fun hm => (HBO.out k hk).1 (by rw [List.mem_singleton.1 hm]; simp [Dk.own])))); have c2 : w1.cell? ⟨D.d, 2, none⟩ = some (.slice A D.loose.length c) := (by have := G1.out.at_.c2; rw [show ({ D with n := D.n + 1, dir := (.make s f b1 b2 : Ac).app D.dir } : Dk).lv = D.lv from rfl, HV.out] at this; exact this); clear hm1 hf1)
    | ((with_reducible refine gate_builtin (b := .append) (xs := #[.tmp 14, .tmp 17]) rfl ?_); at_builtin; refine Kd.R_append kAc (w0 := w1) 0 rfl (.tmp 14) (.tmp 17) 68 89 (.agg #[.pointer none, .int .i64 0, .nilFunc]) 24 rfl Tryd.underlying68 info89 rfl (by decide) (by omega) (.slice A D.loose.length c) D.loose (.make s f b1 b2) [.pointer none, .int .i64 0, .func (.func 66) #[] #[P b1, P b2]] (fun _ => True) (fun _ => False) rfl rfl ?aP (fun _ hk => hk.elim) (fun _ _ => trivial) ?aO ?aB ?aS ?aL ?_; (case aP => exact rfl); (case aO => exact (by have := Kd.R_mono (ok' := fun _ => True) G1.out.at_.row (fun _ _ => trivial); rw [show ({ D with n := D.n + 1, dir := (.make s f b1 b2 : Ac).app D.dir } : Dk).lv = D.lv from rfl, HV.out] at this; exact this)); (case aB => exact Below.refl 0 w1); (case aS => exact Nat.zero_le _); (case aL => omega); intro v1 w2 ho hb2 hg2 hat2; obtain ⟨A9, c9, hv9⟩ := Kd.R_slice ho; have L2 := hid (acted G1.out B1.out (fun k hk => ⟨(HBO.out k hk).1, Nat.lt_of_lt_of_le (HBO.out k hk).2.1 G1.out.fr.size, (HBO.out k hk).2.2⟩) ho (by rw [show ({ D with n := D.n + 1, dir := (.make s f b1 b2 : Ac).app D.dir } : Dk).lv = D.lv from rfl, HV.out]; exact Fr.grown hg2) (by rw [show ({ D with n := D.n + 1, dir := (.make s f b1 b2 : Ac).app D.dir } : Dk).lv = D.lv from rfl, HV.out]; exact hat2)); have hc1 : w2.heap[D.d]? = w1.heap[D.d]? := (Fr.grown hg2).keep D.d G1.out.at_.d_lt (by rw [← HV.out]; intro hm; exact ((Dk.ne HH.out).2.1 D.d (by simpa using hm)).1 rfl); have hc2 := hc1.trans G1.out.at_.cell; have d2 : w2.cell? ⟨D.d, 2, none⟩ = some (.slice A D.loose.length c) := (by rw [cell_of hc2 2, ← HV.out]; rfl); have f2 := free_of hc2 2; clear hc1 hc2 ho hb2 hg2 hat2; rw [List.length_append, List.length_singleton] at hv9; subst hv9))
  go_end0
  exact ⟨rfl, _, L2.out.1, L2.out.2.1, L2.out.2.2⟩
set_option maxHeartbeats 4000000 in
set_option maxRecDepth 100000 in
theorem turn_gone (h : DkAt w D) (s : ByteArray) (b1 : Nat) (hb : BoxIs w (.gone s b1)) (hbo : ∀ k ∈ bxs (.gone s b1), k ∉ D.own ∧ k ∉ D.boxes) (hlen : D.loose.length < 4294967296) :
    Calls Tryd.prog 65 #[P D.d, .func (.func 70) #[] #[P b1]] w fun e w' => e = .returned (.tuple #[]) ∧ ∃ v1, DkAt w' { D with n := D.n + 1, dir := (.gone s b1 : Ac).app D.dir, lv := v1, loose := D.loose ++ [.gone s b1] } ∧ Fr D.own w w' ∧ ∀ k ∈ ({ D with n := D.n + 1, dir := (.gone s b1 : Ac).app D.dir, lv := v1, loose := D.loose ++ [.gone s b1] } : Dk).own, k ∈ D.own ∨ w.heap.size ≤ k := by
  have e29 : ∀ args w, (callFunc 70 args).run Tryd.prog w = .ok (.enter 70 args) w := enters_of Tryd.func70 (by kernel_rfl) rfl
  have c0 := h.c0
  have HH := hid h
  have HB := hid hb
  have hbo' := fun k hk => (hbo k hk).1
  have HBO := hid (fun k (hk : k ∈ bxs (.gone s b1)) => (⟨hbo' k hk, hb.lt k hk, (hbo k hk).2⟩ : k ∉ D.own ∧ k < w.heap.size ∧ k ∉ D.boxes))
  obtain ⟨A, c, hv⟩ := Kd.R_slice h.row
  have HV := hid hv
  have hdne := (Dk.ne h).1.1
  clear h hb hv hbo hbo'
  go_enter Tryd.func65, Tryd.ntmps65
  go_wp2_with (first
    | (go_at_fn 70; refine (do_gone s b1 HB.out HH.out.dirM).mono ?_; rintro e w1 ⟨rfl, hm1, hf1⟩; have G1 := hid (Goes.turn_dir HH.out hm1 hf1); have B1 := hid (HB.out.keep (fun k hk hlt => hf1.keep k hlt (fun hm => (HBO.out k hk).1 (by rw [List.mem_singleton.1 hm]; simp [Dk.own])))); have c2 : w1.cell? ⟨D.d, 2, none⟩ = some (.slice A D.loose.length c) := (by have := G1.out.at_.c2; rw [show ({ D with n := D.n + 1, dir := (.gone s b1 : Ac).app D.dir } : Dk).lv = D.lv from rfl, HV.out] at this; exact this); clear hm1 hf1)
    | ((with_reducible refine gate_builtin (b := .append) (xs := #[.tmp 14, .tmp 17]) rfl ?_); at_builtin; refine Kd.R_append kAc (w0 := w1) 0 rfl (.tmp 14) (.tmp 17) 68 89 (.agg #[.pointer none, .int .i64 0, .nilFunc]) 24 rfl Tryd.underlying68 info89 rfl (by decide) (by omega) (.slice A D.loose.length c) D.loose (.gone s b1) [.pointer none, .int .i64 0, .func (.func 70) #[] #[P b1]] (fun _ => True) (fun _ => False) rfl rfl ?aP (fun _ hk => hk.elim) (fun _ _ => trivial) ?aO ?aB ?aS ?aL ?_; (case aP => exact rfl); (case aO => exact (by have := Kd.R_mono (ok' := fun _ => True) G1.out.at_.row (fun _ _ => trivial); rw [show ({ D with n := D.n + 1, dir := (.gone s b1 : Ac).app D.dir } : Dk).lv = D.lv from rfl, HV.out] at this; exact this)); (case aB => exact Below.refl 0 w1); (case aS => exact Nat.zero_le _); (case aL => omega); intro v1 w2 ho hb2 hg2 hat2; obtain ⟨A9, c9, hv9⟩ := Kd.R_slice ho; have L2 := hid (acted G1.out B1.out (fun k hk => ⟨(HBO.out k hk).1, Nat.lt_of_lt_of_le (HBO.out k hk).2.1 G1.out.fr.size, (HBO.out k hk).2.2⟩) ho (by rw [show ({ D with n := D.n + 1, dir := (.gone s b1 : Ac).app D.dir } : Dk).lv = D.lv from rfl, HV.out]; exact Fr.grown hg2) (by rw [show ({ D with n := D.n + 1, dir := (.gone s b1 : Ac).app D.dir } : Dk).lv = D.lv from rfl, HV.out]; exact hat2)); have hc1 : w2.heap[D.d]? = w1.heap[D.d]? := (Fr.grown hg2).keep D.d G1.out.at_.d_lt (by rw [← HV.out]; intro hm; exact ((Dk.ne HH.out).2.1 D.d (by simpa using hm)).1 rfl); have hc2 := hc1.trans G1.out.at_.cell; have d2 : w2.cell? ⟨D.d, 2, none⟩ = some (.slice A D.loose.length c) := (by rw [cell_of hc2 2, ← HV.out]; rfl); have f2 := free_of hc2 2; clear hc1 hc2 ho hb2 hg2 hat2; rw [List.length_append, List.length_singleton] at hv9; subst hv9))
  go_end0
  exact ⟨rfl, _, L2.out.1, L2.out.2.1, L2.out.2.2⟩
set_option maxHeartbeats 4000000 in
set_option maxRecDepth 100000 in
theorem turn_move (h : DkAt w D) (s t : ByteArray) (b1 b2 : Nat) (hb : BoxIs w (.move s t b1 b2)) (hbo : ∀ k ∈ bxs (.move s t b1 b2), k ∉ D.own ∧ k ∉ D.boxes) (hn : D.n < maxLen) (hlen : D.loose.length < 4294967296) (fb : Nat) (hf : D.dir s = some fb) :
    Calls Tryd.prog 65 #[P D.d, .func (.func 71) #[] #[P b1, P b2]] w fun e w' => e = .returned (.tuple #[]) ∧ ∃ v1, DkAt w' { D with n := D.n + 1, dir := (.move s t b1 b2 : Ac).app D.dir, lv := v1, loose := D.loose ++ [.move s t b1 b2] } ∧ Fr D.own w w' ∧ ∀ k ∈ ({ D with n := D.n + 1, dir := (.move s t b1 b2 : Ac).app D.dir, lv := v1, loose := D.loose ++ [.move s t b1 b2] } : Dk).own, k ∈ D.own ∨ w.heap.size ≤ k := by
  have e29 : ∀ args w, (callFunc 71 args).run Tryd.prog w = .ok (.enter 71 args) w := enters_of Tryd.func71 (by kernel_rfl) rfl
  have c0 := h.c0
  have HH := hid h
  have HB := hid hb
  have hbo' := fun k hk => (hbo k hk).1
  have HBO := hid (fun k (hk : k ∈ bxs (.move s t b1 b2)) => (⟨hbo' k hk, hb.lt k hk, (hbo k hk).2⟩ : k ∉ D.own ∧ k < w.heap.size ∧ k ∉ D.boxes))
  obtain ⟨A, c, hv⟩ := Kd.R_slice h.row
  have HV := hid hv
  have hdne := (Dk.ne h).1.1
  have hbm : b1 ≠ D.dm := fun e => hbo' b1 (by simp [bxs]) (by rw [e]; simp [Dk.own])
  have HF0 := hid hf
  clear hf
  clear h hb hv hbo hbo'
  go_enter Tryd.func65, Tryd.ntmps65
  go_wp2_with (first
    | (go_at_fn 71; refine (do_move s t b1 b2 HB.out HH.out.dirM hn fb HF0.out hbm).mono ?_; rintro e w1 ⟨rfl, hm1, hf1⟩; have G1 := hid (Goes.turn_dir HH.out hm1 hf1); have B1 := hid (HB.out.keep (fun k hk hlt => hf1.keep k hlt (fun hm => (HBO.out k hk).1 (by rw [List.mem_singleton.1 hm]; simp [Dk.own])))); have c2 : w1.cell? ⟨D.d, 2, none⟩ = some (.slice A D.loose.length c) := (by have := G1.out.at_.c2; rw [show ({ D with n := D.n + 1, dir := (.move s t b1 b2 : Ac).app D.dir } : Dk).lv = D.lv from rfl, HV.out] at this; exact this); clear hm1 hf1)
    | ((with_reducible refine gate_builtin (b := .append) (xs := #[.tmp 14, .tmp 17]) rfl ?_); at_builtin; refine Kd.R_append kAc (w0 := w1) 0 rfl (.tmp 14) (.tmp 17) 68 89 (.agg #[.pointer none, .int .i64 0, .nilFunc]) 24 rfl Tryd.underlying68 info89 rfl (by decide) (by omega) (.slice A D.loose.length c) D.loose (.move s t b1 b2) [.pointer none, .int .i64 0, .func (.func 71) #[] #[P b1, P b2]] (fun _ => True) (fun _ => False) rfl rfl ?aP (fun _ hk => hk.elim) (fun _ _ => trivial) ?aO ?aB ?aS ?aL ?_; (case aP => exact rfl); (case aO => exact (by have := Kd.R_mono (ok' := fun _ => True) G1.out.at_.row (fun _ _ => trivial); rw [show ({ D with n := D.n + 1, dir := (.move s t b1 b2 : Ac).app D.dir } : Dk).lv = D.lv from rfl, HV.out] at this; exact this)); (case aB => exact Below.refl 0 w1); (case aS => exact Nat.zero_le _); (case aL => omega); intro v1 w2 ho hb2 hg2 hat2; obtain ⟨A9, c9, hv9⟩ := Kd.R_slice ho; have L2 := hid (acted G1.out B1.out (fun k hk => ⟨(HBO.out k hk).1, Nat.lt_of_lt_of_le (HBO.out k hk).2.1 G1.out.fr.size, (HBO.out k hk).2.2⟩) ho (by rw [show ({ D with n := D.n + 1, dir := (.move s t b1 b2 : Ac).app D.dir } : Dk).lv = D.lv from rfl, HV.out]; exact Fr.grown hg2) (by rw [show ({ D with n := D.n + 1, dir := (.move s t b1 b2 : Ac).app D.dir } : Dk).lv = D.lv from rfl, HV.out]; exact hat2)); have hc1 : w2.heap[D.d]? = w1.heap[D.d]? := (Fr.grown hg2).keep D.d G1.out.at_.d_lt (by rw [← HV.out]; intro hm; exact ((Dk.ne HH.out).2.1 D.d (by simpa using hm)).1 rfl); have hc2 := hc1.trans G1.out.at_.cell; have d2 : w2.cell? ⟨D.d, 2, none⟩ = some (.slice A D.loose.length c) := (by rw [cell_of hc2 2, ← HV.out]; rfl); have f2 := free_of hc2 2; clear hc1 hc2 ho hb2 hg2 hat2; rw [List.length_append, List.length_singleton] at hv9; subst hv9))
  go_end0
  exact ⟨rfl, _, L2.out.1, L2.out.2.1, L2.out.2.2⟩
end
end Go.Proofs.YthlmbgaipbjbhaaDoor.L
end
section
namespace Go.Proofs.YthlmbgaipbjbhaaDoor.L
open Go.RowKit Go.Lib Go.Maps
open Go.Proofs.YthlmbgaipbjbhaaDoorW.PrintWords Go.Proofs.YthlmbgaipbjbhaaDoorW.PrintLast Go.Proofs.YthlmbgaipbjbhaaDoorW.PrintMore
section
variable {w : World} {D : Dk}
def codeE (D : Dk) (must : Bool) (names : List ByteArray) : Int := if (startE D must names).2 = 0 then (if (startE D must names).1 then 34 else 0) else (startE D must names).2
def Dk.count (D : Dk) : Dk := { D with ops := D.ops + 1 }
theorem Goes.count {w' : World} (h' : DkAt w' { D with ops := D.ops + 1 }) (f : Fr [D.d] w w') : Goes w w' D D.count := Goes.head h' f rfl rfl
theorem Goes.dead {w' : World} (h' : DkAt w' { D with off := true }) (f : Fr [D.d] w w') : Goes w w' D { D with off := true } := Goes.head h' f rfl rfl
theorem Goes.acted {w1 w2 : World} {D1 D2 : Dk} (g1 : Goes w w1 D D1) (h2 : DkAt w2 D2) (f2 : Fr D1.own w1 w2) (o2 : ∀ k ∈ D2.own, k ∈ D1.own ∨ w1.heap.size ≤ k) (hb : ∀ k ∈ D2.boxes, k ∈ D1.boxes ∨ w.heap.size ≤ k) : Goes w w2 D D2 :=
  ⟨h2, g1.fr.trans f2 g1.own, fun k hk => (o2 k hk).elim (fun e => g1.own k e) (fun e => .inr (Nat.le_trans g1.fr.size e)), fun k hk => (hb k hk).elim (fun e => g1.box k e) .inr⟩
theorem boxes_snoc {D2 : Dk} {l : List Ac} {a : Ac} {S : Nat} (e : D2.loose = l ++ [a]) (e1 : l = D.loose) (h : ∀ k ∈ bxs a, S ≤ k) : ∀ k ∈ D2.boxes, k ∈ D.boxes ∨ S ≤ k := by
  intro k hk
  unfold Dk.boxes at hk ⊢
  rw [e, e1, List.flatMap_append, List.mem_append] at hk
  rcases hk with hk | hk
  · exact .inl hk
  · exact .inr (h k (by simpa using hk))
theorem codeE_zero {must : Bool} {names : List ByteArray} (h : codeE D must names = 0) : startE D must names = (false, 0) := by
  unfold codeE at h
  split at h
  · rename_i h2
    split at h
    · cases h
    · rename_i h1
      cases hs : startE D must names with
      | mk a b =>
        rw [hs] at h1 h2
        simp only at h1 h2
        rw [h2]
        cases a
        · rfl
        · exact absurd rfl h1
  · rename_i h2
    exact absurd h h2
theorem startE_ok {must : Bool} {names : List ByteArray} (h : startE D must names = (false, 0)) : names.all nameOk = true ∧ (must = true → (D.dir (names.headD ByteArray.empty)).isSome = true) ∧ ¬ 0 < D.fails D.ops := by
  unfold startE at h
  by_cases h1 : names.all nameOk = true
  · rw [if_pos h1] at h
    by_cases h2 : (must && (D.dir (names.headD ByteArray.empty)).isNone) = true
    · rw [if_pos h2] at h
      injection h with _ h4
      cases h4
    · rw [if_neg h2] at h
      refine ⟨h1, fun hm => ?_, ?_⟩
      · rw [hm, Bool.true_and] at h2
        cases hd : D.dir (names.headD ByteArray.empty) with
        | none => rw [hd] at h2; exact absurd rfl h2
        | some _ => rfl
      · injection h with h3 h4
        simpa using h3
  · rw [if_neg h1] at h
    injection h with _ h4
    cases h4
theorem startE_name {must : Bool} {s : ByteArray} (h : startE D must [s] = (false, 0)) : nameOk s = true ∧ (must = true → (D.dir s).isSome = true) ∧ ¬ 0 < D.fails D.ops := by
  obtain ⟨h1, h2, h3⟩ := startE_ok h
  exact ⟨by simpa using h1, h2, h3⟩
set_option maxHeartbeats 4000000 in
set_option maxRecDepth 100000 in
theorem remove_dead (h : DkAt w D) (hd : D.dead = true) (s : ByteArray) :
    Calls Tryd.prog 56 #[P D.d, .string s] w fun e w' => e = .returned (.int .i64 35) ∧ Goes w w' D { D with off := true } := by
  have HS := hid (fun (W : World) (f : Fr [] w W) (A : Option Addr) (n c : Nat) => starts_dead (h.new f) hd true A n c)
  have HF := hid (fun (o1 o2 : Obj) => ((Fr.alloc [] w o1).trans (Fr.alloc [] _ o2) (fun _ hk => .inl hk) : Fr [] w _))
  clear h
  go_enter Tryd.func56, Tryd.ntmps56
  go_wp2_with (go_at_call 44; refine (HS.out _ (HF.out _ _) _ _ _).mono ?_; rintro e w1 ⟨rfl, h1, f1⟩; have G1 := hid (Goes.dead h1 ((HF.out _ _).none.trans f1 (fun _ hk => .inl hk))); clear h1 f1)
  go_ret
  exact ⟨rfl, G1.out⟩
set_option maxHeartbeats 4000000 in
set_option maxRecDepth 100000 in
theorem remove_live (h : DkAt w D) (hd : D.dead = false) (h0 : 0 ≤ D.ops) (h1 : D.ops < 4611686018427387904) (hlen : D.loose.length < 4294967296) (s : ByteArray) :
    Calls Tryd.prog 56 #[P D.d, .string s] w fun e w' => e = .returned (.int .i64 (codeE D true [s])) ∧ (codeE D true [s] ≠ 0 → Goes w w' D D.count) ∧
      (codeE D true [s] = 0 → ∃ b1 v1, Goes w w' D { D with ops := D.ops + 1, n := D.n + 1, dir := (Ac.gone s b1).app D.dir, lv := v1, loose := D.loose ++ [.gone s b1] }) := by
  have HF := hid (fun (o1 o2 : Obj) => ((Fr.alloc [] w o1).trans (Fr.alloc [] _ o2) (fun _ hk => .inl hk) : Fr [] w _))
  have HS := hid (show let W := (w.alloc (.cells #[.string s] 9)).alloc (.cells #[.string s] 9); Calls Tryd.prog 44 #[P D.d, .bool true, .slice (some ⟨w.heap.size + 1, 0, none⟩) 1 1] W fun e w' => e = .returned (.tuple #[.bool (startE D true [s]).1, .int .i64 (startE D true [s]).2]) ∧ DkAt w' { D with ops := D.ops + 1 } ∧ Fr [D.d] W w' from by
    intro W
    refine starts_live (h.new (HF.out _ _)) hd h0 h1 true [s] (some ⟨w.heap.size + 1, 0, none⟩) 1 (by simp) (fun _ => ⟨w.heap.size + 1, 0, rfl, by simp, fun e => by have := h.d_lt; omega, fun j hj => ?_⟩) (fun _ => by simp)
    obtain rfl : j = 0 := by simpa using hj
    have := (cell_of (MapKept.heap_alloc (w.alloc (.cells #[.string s] 9)) (.cells #[.string s] 9)).1 0)
    simp only [World.size_alloc] at this
    exact this.trans rfl)
  have HB := hid (fun (W : World) (hW : Fr [D.d] ((w.alloc (.cells #[.string s] 9)).alloc (.cells #[.string s] 9)) W) => (show W.heap[w.heap.size]? = some (.cells #[.string s] 9 (0, 0)) from
    (hW.keep _ (by simp; omega) (by simpa using fun e : w.heap.size = D.d => by have := h.d_lt; omega)).trans ((Below.heap_alloc _ _ _ (by simp)).trans (MapKept.heap_alloc w (.cells #[.string s] 9)).1)))
  have HH := hid h
  have hnew : ∀ k, k ∈ D.own ∨ k ∈ D.boxes → k ≠ w.heap.size := fun k hk e => by
    rcases hk with hk | hk
    · have := h.lt k hk; omega
    · have := h.blt k hk; omega
  have HN := hid hnew
  clear h hnew
  cases hE : startE D true [s] with
  | mk fl e2 =>
    rw [hE] at HS
    have HE := hid hE
    clear hE
    by_cases he : e2 = 0
    · subst he
      cases fl with
      | true =>
        go_enter Tryd.func56, Tryd.ntmps56
        go_wp2_with (go_at_call 44; refine HS.out.mono ?_; rintro e w1 ⟨rfl, h1, f1⟩; have G1 := hid (Goes.count h1 ((HF.out _ _).none.trans f1 (fun _ hk => .inl hk))); clear h1 f1)
        go_ret
        have hc : codeE D true [s] = 34 := by unfold codeE; rw [HE.out]; rfl
        exact ⟨by rw [hc]; rfl, fun _ => G1.out, fun h => by rw [hc] at h; cases h⟩
      | false =>
        have hc := hid (show codeE D true [s] = 0 from by unfold codeE; rw [HE.out]; rfl)
        have hok := startE_name HE.out
        have HSZ := hid (name_short hok.1)
        go_enter Tryd.func56, Tryd.ntmps56
        go_wp2_with (first
          | (go_at_call 44; refine HS.out.mono ?_; rintro e w1 ⟨rfl, h1, f1⟩; have G1 := hid (Goes.count h1 ((HF.out _ _).none.trans f1 (fun _ hk => .inl hk))); have B1 := hid (HB.out _ f1); clear h1 f1)
          | (go_at_call 65; refine (turn_gone G1.out.at_ s w.heap.size ⟨B1.out, HSZ.out⟩ (fun k hk => (by simp [bxs] at hk; subst hk; exact ⟨fun hm => HN.out _ (.inl hm) rfl, fun hm => HN.out _ (.inr hm) rfl⟩)) hlen).mono ?_; rintro e w2 ⟨rfl, v1, h2, f2, o2⟩; have G2 := hid (Goes.acted G1.out h2 f2 o2 (boxes_snoc (D := D.count) (l := D.loose) rfl rfl (fun k hk => (by simp [bxs] at hk; omega)))); clear h2 f2 o2))
        go_ret
        exact ⟨by rw [hc.out]; rfl, fun h => absurd hc.out h, fun _ => ⟨w.heap.size, v1, G2.out⟩⟩
    · have hez : ¬ e2 = 0 := he
      go_enter Tryd.func56, Tryd.ntmps56
      go_wp2_with (go_at_call 44; refine HS.out.mono ?_; rintro e w1 ⟨rfl, h1, f1⟩; have G1 := hid (Goes.count h1 ((HF.out _ _).none.trans f1 (fun _ hk => .inl hk))); clear h1 f1)
      go_ret
      have hc : codeE D true [s] = e2 := by unfold codeE; rw [HE.out]; simp [hez]
      exact ⟨by rw [hc]; rfl, fun _ => G1.out, fun h => by rw [hc] at h; exact absurd h hez⟩
end
end Go.Proofs.YthlmbgaipbjbhaaDoor.L
end
section
namespace Go.Proofs.YthlmbgaipbjbhaaDoor.L
open Go.RowKit Go.Lib Go.Maps
open Go.Proofs.YthlmbgaipbjbhaaDoorW.PrintWords Go.Proofs.YthlmbgaipbjbhaaDoorW.PrintLast Go.Proofs.YthlmbgaipbjbhaaDoorW.PrintMore
section
variable {w : World} {D : Dk}
set_option maxHeartbeats 4000000 in
set_option maxRecDepth 100000 in
theorem rename_dead (h : DkAt w D) (hd : D.dead = true) (s t : ByteArray) :
    Calls Tryd.prog 57 #[P D.d, .string s, .string t] w fun e w' => e = .returned (.int .i64 35) ∧ Goes w w' D { D with off := true } := by
  have HS := hid (fun (W : World) (f : Fr [] w W) (A : Option Addr) (n c : Nat) => starts_dead (h.new f) hd true A n c)
  have HF := hid (fun (o1 o2 o3 : Obj) => (((Fr.alloc [] w o1).trans (Fr.alloc [] _ o2) (fun _ hk => .inl hk)).trans (Fr.alloc [] _ o3) (fun _ hk => .inl hk) : Fr [] w _))
  clear h
  go_enter Tryd.func57, Tryd.ntmps57
  go_wp2_with (go_at_call 44; refine (HS.out _ (HF.out _ _ _) _ _ _).mono ?_; rintro e w1 ⟨rfl, h1, f1⟩; have G1 := hid (Goes.dead h1 ((HF.out _ _ _).none.trans f1 (fun _ hk => .inl hk))); clear h1 f1)
  go_ret
  exact ⟨rfl, G1.out⟩
set_option maxHeartbeats 8000000 in
set_option maxRecDepth 100000 in
theorem rename_live (h : DkAt w D) (hd : D.dead = false) (h0 : 0 ≤ D.ops) (h1 : D.ops < 4611686018427387904) (hn : D.n < maxLen) (hlen : D.loose.length < 4294967296) (s t : ByteArray) :
    Calls Tryd.prog 57 #[P D.d, .string s, .string t] w fun e w' => e = .returned (.int .i64 (codeE D true [s, t])) ∧ ((codeE D true [s, t] ≠ 0 ∨ s = t) → Goes w w' D D.count) ∧
      (codeE D true [s, t] = 0 → s ≠ t → ∃ b1 b2 v1, Goes w w' D { D with ops := D.ops + 1, n := D.n + 1, dir := (Ac.move s t b1 b2).app D.dir, lv := v1, loose := D.loose ++ [.move s t b1 b2] }) := by
  have HF := hid (fun (o1 o2 o3 : Obj) => (((Fr.alloc [] w o1).trans (Fr.alloc [] _ o2) (fun _ hk => .inl hk)).trans (Fr.alloc [] _ o3) (fun _ hk => .inl hk) : Fr [] w _))
  have HS := hid (show let W := ((w.alloc (.cells #[.string s] 9)).alloc (.cells #[.string t] 9)).alloc (.cells #[.string s, .string t] 9); Calls Tryd.prog 44 #[P D.d, .bool true, .slice (some ⟨w.heap.size + 1 + 1, 0, none⟩) 2 2] W fun e w' => e = .returned (.tuple #[.bool (startE D true [s, t]).1, .int .i64 (startE D true [s, t]).2]) ∧ DkAt w' { D with ops := D.ops + 1 } ∧ Fr [D.d] W w' from by
    intro W
    refine starts_live (h.new (HF.out _ _ _)) hd h0 h1 true [s, t] (some ⟨w.heap.size + 1 + 1, 0, none⟩) 2 (by simp) (fun _ => ⟨w.heap.size + 1 + 1, 0, rfl, by simp, fun e => by have := h.d_lt; omega, fun j hj => ?_⟩) (fun _ => by simp)
    have hb := (MapKept.heap_alloc ((w.alloc (.cells #[.string s] 9)).alloc (.cells #[.string t] 9)) (.cells #[.string s, .string t] 9)).1
    simp only [World.size_alloc] at hb
    match j, hj with
    | 0, _ => exact (cell_of hb 0).trans rfl
    | 1, _ => exact (cell_of hb 1).trans rfl)
  have HB := hid (fun (W : World) (hW : Fr [D.d] (((w.alloc (.cells #[.string s] 9)).alloc (.cells #[.string t] 9)).alloc (.cells #[.string s, .string t] 9)) W) => (show W.heap[w.heap.size]? = some (.cells #[.string s] 9 (0, 0)) ∧ W.heap[w.heap.size + 1]? = some (.cells #[.string t] 9 (0, 0)) from by
    have hdl := h.d_lt
    have hb2 := (MapKept.heap_alloc (w.alloc (.cells #[.string s] 9)) (.cells #[.string t] 9)).1
    simp only [World.size_alloc] at hb2
    exact ⟨(hW.keep _ (by simp; omega) (by simpa using fun e : w.heap.size = D.d => by omega)).trans ((Below.heap_alloc _ _ _ (by simp; omega)).trans ((Below.heap_alloc _ _ _ (by simp)).trans (MapKept.heap_alloc w (.cells #[.string s] 9)).1)),
      (hW.keep _ (by simp) (by simpa using fun e : w.heap.size + 1 = D.d => by omega)).trans ((Below.heap_alloc _ _ _ (by simp)).trans hb2)⟩))
  have hnew : ∀ k, k ∈ D.own ∨ k ∈ D.boxes → k < w.heap.size := fun k hk => by
    rcases hk with hk | hk
    · exact h.lt k hk
    · exact h.blt k hk
  have HN := hid hnew
  clear h hnew
  cases hE : startE D true [s, t] with
  | mk fl e2 =>
    rw [hE] at HS
    have HE := hid hE
    clear hE
    by_cases he : e2 = 0
    · subst he
      cases fl with
      | true =>
        go_enter Tryd.func57, Tryd.ntmps57
        go_wp2_with (go_at_call 44; refine HS.out.mono ?_; rintro e w1 ⟨rfl, h1, f1⟩; have G1 := hid (Goes.count h1 ((HF.out _ _ _).none.trans f1 (fun _ hk => .inl hk))); clear h1 f1)
        go_ret
        have hc : codeE D true [s, t] = 34 := by unfold codeE; rw [HE.out]; rfl
        exact ⟨by rw [hc]; rfl, fun _ => G1.out, fun h => by rw [hc] at h; cases h⟩
      | false =>
        have hc := hid (show codeE D true [s, t] = 0 from by unfold codeE; rw [HE.out]; rfl)
        have hok := startE_ok HE.out
        have HNM := hid (show s.size ≤ 80 ∧ t.size ≤ 80 from by
          have h1 := hok.1
          simp only [List.all_cons, List.all_nil, Bool.and_true, Bool.and_eq_true] at h1
          exact ⟨name_short h1.1, name_short h1.2⟩)
        have HFB := hid (show ∃ fb, D.dir s = some fb from Option.isSome_iff_exists.1 (hok.2.1 rfl))
        clear hok
        by_cases hst : s = t
        · have hbe : (s.toList == t.toList) = true := by rw [hst]; simp
          have hbe2 : (s.toList = t.toList) = True := by rw [hst]; simp
          have HST := hid hst
          clear hst
          go_enter Tryd.func57, Tryd.ntmps57
          go_wp2_with (go_at_call 44; refine HS.out.mono ?_; rintro e w1 ⟨rfl, h1, f1⟩; have G1 := hid (Goes.count h1 ((HF.out _ _ _).none.trans f1 (fun _ hk => .inl hk))); have B1 := hid (HB.out _ f1); have x1 : w1.cell? ⟨w.heap.size, 0, none⟩ = some (.string s) := (cell_of B1.out.1 0).trans rfl; have x2 : w1.cell? ⟨w.heap.size + 1, 0, none⟩ = some (.string t) := (cell_of B1.out.2 0).trans rfl; clear h1 f1)
          go_ret
          exact ⟨by rw [hc.out]; rfl, fun _ => G1.out, fun _ h => absurd HST.out h⟩
        · have hbe : (s.toList == t.toList) = false := beq_eq_false_iff_ne.2 (str_ne hst)
          have hbe2 : (s.toList = t.toList) = False := eq_false (str_ne hst)
          have HST := hid hst
          clear hst
          go_enter Tryd.func57, Tryd.ntmps57
          go_wp2_with (first
            | (go_at_call 44; refine HS.out.mono ?_; rintro e w1 ⟨rfl, h1, f1⟩; have G1 := hid (Goes.count h1 ((HF.out _ _ _).none.trans f1 (fun _ hk => .inl hk))); have B1 := hid (HB.out _ f1); have x1 : w1.cell? ⟨w.heap.size, 0, none⟩ = some (.string s) := (cell_of B1.out.1 0).trans rfl; have x2 : w1.cell? ⟨w.heap.size + 1, 0, none⟩ = some (.string t) := (cell_of B1.out.2 0).trans rfl; clear h1 f1)
            | (go_at_call 65; obtain ⟨fb, hfb⟩ := HFB.out; refine (turn_move G1.out.at_ s t w.heap.size (w.heap.size + 1) ⟨B1.out.1, B1.out.2, HNM.out.1, HNM.out.2⟩ (fun k hk => (by simp [bxs] at hk; exact ⟨fun hm => by have := HN.out _ (.inl hm); omega, fun hm => by have := HN.out _ (.inr hm); omega⟩)) hn hlen fb hfb).mono ?_; rintro e w2 ⟨rfl, v1, h2, f2, o2⟩; have G2 := hid (Goes.acted G1.out h2 f2 o2 (boxes_snoc (D := D.count) (l := D.loose) rfl rfl (fun k hk => (by simp [bxs] at hk; omega)))); clear h2 f2 o2))
          go_ret
          exact ⟨by rw [hc.out]; rfl, fun h => (h.elim (fun h => absurd hc.out h) (fun h => absurd h HST.out)), fun _ _ => ⟨w.heap.size, w.heap.size + 1, v1, G2.out⟩⟩
    · have hez : ¬ e2 = 0 := he
      go_enter Tryd.func57, Tryd.ntmps57
      go_wp2_with (go_at_call 44; refine HS.out.mono ?_; rintro e w1 ⟨rfl, h1, f1⟩; have G1 := hid (Goes.count h1 ((HF.out _ _ _).none.trans f1 (fun _ hk => .inl hk))); clear h1 f1)
      go_ret
      have hc : codeE D true [s, t] = e2 := by unfold codeE; rw [HE.out]; simp [hez]
      exact ⟨by rw [hc]; rfl, fun _ => G1.out, fun h => by rw [hc] at h; exact absurd h hez⟩
end
end Go.Proofs.YthlmbgaipbjbhaaDoor.L
end
