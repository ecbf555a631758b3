/- An act done and laid with the loose ones. -/
import Derived.Test.YtgcenkmekpaapaaTurn
namespace Go.Proofs.Ytgcenkmekpaapaa.L
open Go.RowKit Go.Lib Go.Maps
open Go.Proofs.YtgcenkmekpaapaaW.PrintWords Go.Proofs.YtgcenkmekpaapaaW.PrintLast Go.Proofs.YtgcenkmekpaapaaW.PrintMore
section
variable {w : World} {D : Dk}
theorem acted {w1 w2 : World} {D1 : Dk} {a : Ac} {v1 : Value} (g1 : Goes w w1 D D1) (ha : BoxIs w1 a) (hbo : ∀ k ∈ bxs a, k ∉ D1.own ∧ k < w1.heap.size ∧ k ∉ D.boxes)
    (hr : Kd.R kAc 67 w2 0 (fun _ => True) v1 (D1.loose ++ [a])) (hg : Fr (D1.lv.ownBlock.toList) w1 w2) (hv : v1.ownBlock = D1.lv.ownBlock ∨ ∃ b, v1.ownBlock = some b ∧ w1.heap.size ≤ b) :
    DkAt (w2.setCell ⟨D1.d, 2, none⟩ v1) { D1 with lv := v1, loose := D1.loose ++ [a] } ∧ Fr D.own w (w2.setCell ⟨D1.d, 2, none⟩ v1) ∧ ∀ k ∈ ({ D1 with lv := v1, loose := D1.loose ++ [a] } : Dk).own, k ∈ D.own ∨ w.heap.size ≤ k := by
  have h1 := g1.at_
  obtain ⟨_, hlv, _, hbx⟩ := Dk.ne h1
  have hvb : ∀ k, k < w1.heap.size → D1.lv.ownBlock ≠ some k → v1.ownBlock ≠ some k := fun k hk hn e => by
    rcases hv with hv | ⟨b, hv, hb⟩
    · exact hn (hv ▸ e)
    · rw [hv] at e
      injection e with e
      omega
  have hlo : ∀ k, k ∉ D1.own → D1.lv.ownBlock ≠ some k := fun k hk e => hk (by simp [Dk.own, e])
  have hmem : ∀ k, D1.lv.ownBlock = some k → k ∈ D1.lv.ownBlock.toList := fun k hk => by rw [hk]; simp
  obtain ⟨r1, r2, r3⟩ := Goes.turn_loose h1 hg hr (hv.imp id .inr) (fun x hx => by
      rcases List.mem_append.1 hx with hx | hx
      · exact (h1.boxed x hx).keep (fun k hk hlt => hg.keep k hlt (fun hm => (hbx k (List.mem_flatMap.2 ⟨x, hx, hk⟩)).2.2.2.2.1 (by simpa using hm)))
      · rw [List.mem_singleton.1 hx]
        exact ha.keep (fun k hk hlt => hg.keep k hlt (fun hm => hlo k (hbo k hk).1 (by simpa using hm))))
    (fun x hx k hk => by
      rcases List.mem_append.1 hx with hx | hx
      · exact .inl (List.mem_flatMap.2 ⟨x, hx, hk⟩)
      · rw [List.mem_singleton.1 hx] at hk
        exact .inr ⟨(hbo k hk).1, hvb k (hbo k hk).2.1 (hlo k (hbo k hk).1)⟩)
    (fun x hx k hk hkb => hvb k (h1.blt k hkb) (hbx k hkb).2.2.2.2.1)
  exact ⟨r1, g1.fr.trans r2 g1.own, fun k hk => by
    rcases r3 k hk with e | e
    · exact g1.own k e
    · exact .inr (Nat.le_trans g1.fr.size e)⟩
set_option maxHeartbeats 4000000 in
set_option maxRecDepth 100000 in
theorem turn_make (h : DkAt w D) (s : ByteArray) (f b1 b2 : Nat) (hb : BoxIs w (.make s f b1 b2)) (hbo : ∀ k ∈ bxs (.make s f b1 b2), k ∉ D.own ∧ k ∉ D.boxes) (hn : D.n < maxLen) (hlen : D.loose.length < 4294967296) :
    Calls Try.prog 28 #[P D.d, .func (.func 29) #[] #[P b1, P b2]] w fun e w' => e = .returned (.tuple #[]) ∧ ∃ v1, DkAt w' { D with n := D.n + 1, dir := (.make s f b1 b2 : Ac).app D.dir, lv := v1, loose := D.loose ++ [.make s f b1 b2] } ∧ Fr D.own w w' ∧ ∀ k ∈ ({ D with n := D.n + 1, dir := (.make s f b1 b2 : Ac).app D.dir, lv := v1, loose := D.loose ++ [.make s f b1 b2] } : Dk).own, k ∈ D.own ∨ w.heap.size ≤ k := by
  have e29 : ∀ args w, (callFunc 29 args).run Try.prog w = .ok (.enter 29 args) w := enters_of Try.func29 (by kernel_rfl) rfl
  have c0 := h.c0
  have HH := hid h
  have HB := hid hb
  have hbo' := fun k hk => (hbo k hk).1
  have HBO := hid (fun k (hk : k ∈ bxs (.make s f b1 b2)) => (⟨hbo' k hk, hb.lt k hk, (hbo k hk).2⟩ : k ∉ D.own ∧ k < w.heap.size ∧ k ∉ D.boxes))
  obtain ⟨A, c, hv⟩ := Kd.R_slice h.row
  have HV := hid hv
  have hdne := (Dk.ne h).1.1
  clear h hb hv hbo hbo'
  go_enter Try.func28, Try.ntmps28
  go_wp2_with (first
    | (go_at_fn 29; refine (do_make s f b1 b2 HB.out HH.out.dirM hn).mono ?_; rintro e w1 ⟨rfl, hm1, hf1⟩; have G1 := hid (Goes.turn_dir HH.out hm1 hf1); have B1 := hid (HB.out.keep (fun k hk hlt => hf1.keep k hlt (fun hm => (HBO.out k hk).1 (by rw [List.mem_singleton.1 hm]; simp [Dk.own])))); have c2 : w1.cell? ⟨D.d, 2, none⟩ = some (.slice A D.loose.length c) := (by have := G1.out.at_.c2; rw [show ({ D with n := D.n + 1, dir := (.make s f b1 b2 : Ac).app D.dir } : Dk).lv = D.lv from rfl, HV.out] at this; exact this); clear hm1 hf1)
    | ((with_reducible refine gate_builtin (b := .append) (xs := #[.tmp 14, .tmp 17]) rfl ?_); at_builtin; refine Kd.R_append kAc (w0 := w1) 0 rfl (.tmp 14) (.tmp 17) 56 67 (.agg #[.pointer none, .int .i64 0, .nilFunc]) 24 rfl Try.underlying56 info67 rfl (by decide) (by omega) (.slice A D.loose.length c) D.loose (.make s f b1 b2) [.pointer none, .int .i64 0, .func (.func 29) #[] #[P b1, P b2]] (fun _ => True) (fun _ => False) rfl rfl ?aP (fun _ hk => hk.elim) (fun _ _ => trivial) ?aO ?aB ?aS ?aL ?_; (case aP => exact rfl); (case aO => exact (by have := Kd.R_mono (ok' := fun _ => True) G1.out.at_.row (fun _ _ => trivial); rw [show ({ D with n := D.n + 1, dir := (.make s f b1 b2 : Ac).app D.dir } : Dk).lv = D.lv from rfl, HV.out] at this; exact this)); (case aB => exact Below.refl 0 w1); (case aS => exact Nat.zero_le _); (case aL => omega); intro v1 w2 ho hb2 hg2 hat2; obtain ⟨A9, c9, hv9⟩ := Kd.R_slice ho; have L2 := hid (acted G1.out B1.out (fun k hk => ⟨(HBO.out k hk).1, Nat.lt_of_lt_of_le (HBO.out k hk).2.1 G1.out.fr.size, (HBO.out k hk).2.2⟩) ho (by rw [show ({ D with n := D.n + 1, dir := (.make s f b1 b2 : Ac).app D.dir } : Dk).lv = D.lv from rfl, HV.out]; exact Fr.grown hg2) (by rw [show ({ D with n := D.n + 1, dir := (.make s f b1 b2 : Ac).app D.dir } : Dk).lv = D.lv from rfl, HV.out]; exact hat2)); have hc1 : w2.heap[D.d]? = w1.heap[D.d]? := (Fr.grown hg2).keep D.d G1.out.at_.d_lt (by rw [← HV.out]; intro hm; exact ((Dk.ne HH.out).2.1 D.d (by simpa using hm)).1 rfl); have hc2 := hc1.trans G1.out.at_.cell; have d2 : w2.cell? ⟨D.d, 2, none⟩ = some (.slice A D.loose.length c) := (by rw [cell_of hc2 2, ← HV.out]; rfl); have f2 := free_of hc2 2; clear hc1 hc2 ho hb2 hg2 hat2; rw [List.length_append, List.length_singleton] at hv9; subst hv9))
  go_end0
  exact ⟨rfl, _, L2.out.1, L2.out.2.1, L2.out.2.2⟩
set_option maxHeartbeats 4000000 in
set_option maxRecDepth 100000 in
theorem turn_gone (h : DkAt w D) (s : ByteArray) (b1 : Nat) (hb : BoxIs w (.gone s b1)) (hbo : ∀ k ∈ bxs (.gone s b1), k ∉ D.own ∧ k ∉ D.boxes) (hlen : D.loose.length < 4294967296) :
    Calls Try.prog 28 #[P D.d, .func (.func 39) #[] #[P b1]] w fun e w' => e = .returned (.tuple #[]) ∧ ∃ v1, DkAt w' { D with n := D.n + 1, dir := (.gone s b1 : Ac).app D.dir, lv := v1, loose := D.loose ++ [.gone s b1] } ∧ Fr D.own w w' ∧ ∀ k ∈ ({ D with n := D.n + 1, dir := (.gone s b1 : Ac).app D.dir, lv := v1, loose := D.loose ++ [.gone s b1] } : Dk).own, k ∈ D.own ∨ w.heap.size ≤ k := by
  have e29 : ∀ args w, (callFunc 39 args).run Try.prog w = .ok (.enter 39 args) w := enters_of Try.func39 (by kernel_rfl) rfl
  have c0 := h.c0
  have HH := hid h
  have HB := hid hb
  have hbo' := fun k hk => (hbo k hk).1
  have HBO := hid (fun k (hk : k ∈ bxs (.gone s b1)) => (⟨hbo' k hk, hb.lt k hk, (hbo k hk).2⟩ : k ∉ D.own ∧ k < w.heap.size ∧ k ∉ D.boxes))
  obtain ⟨A, c, hv⟩ := Kd.R_slice h.row
  have HV := hid hv
  have hdne := (Dk.ne h).1.1
  clear h hb hv hbo hbo'
  go_enter Try.func28, Try.ntmps28
  go_wp2_with (first
    | (go_at_fn 39; refine (do_gone s b1 HB.out HH.out.dirM).mono ?_; rintro e w1 ⟨rfl, hm1, hf1⟩; have G1 := hid (Goes.turn_dir HH.out hm1 hf1); have B1 := hid (HB.out.keep (fun k hk hlt => hf1.keep k hlt (fun hm => (HBO.out k hk).1 (by rw [List.mem_singleton.1 hm]; simp [Dk.own])))); have c2 : w1.cell? ⟨D.d, 2, none⟩ = some (.slice A D.loose.length c) := (by have := G1.out.at_.c2; rw [show ({ D with n := D.n + 1, dir := (.gone s b1 : Ac).app D.dir } : Dk).lv = D.lv from rfl, HV.out] at this; exact this); clear hm1 hf1)
    | ((with_reducible refine gate_builtin (b := .append) (xs := #[.tmp 14, .tmp 17]) rfl ?_); at_builtin; refine Kd.R_append kAc (w0 := w1) 0 rfl (.tmp 14) (.tmp 17) 56 67 (.agg #[.pointer none, .int .i64 0, .nilFunc]) 24 rfl Try.underlying56 info67 rfl (by decide) (by omega) (.slice A D.loose.length c) D.loose (.gone s b1) [.pointer none, .int .i64 0, .func (.func 39) #[] #[P b1]] (fun _ => True) (fun _ => False) rfl rfl ?aP (fun _ hk => hk.elim) (fun _ _ => trivial) ?aO ?aB ?aS ?aL ?_; (case aP => exact rfl); (case aO => exact (by have := Kd.R_mono (ok' := fun _ => True) G1.out.at_.row (fun _ _ => trivial); rw [show ({ D with n := D.n + 1, dir := (.gone s b1 : Ac).app D.dir } : Dk).lv = D.lv from rfl, HV.out] at this; exact this)); (case aB => exact Below.refl 0 w1); (case aS => exact Nat.zero_le _); (case aL => omega); intro v1 w2 ho hb2 hg2 hat2; obtain ⟨A9, c9, hv9⟩ := Kd.R_slice ho; have L2 := hid (acted G1.out B1.out (fun k hk => ⟨(HBO.out k hk).1, Nat.lt_of_lt_of_le (HBO.out k hk).2.1 G1.out.fr.size, (HBO.out k hk).2.2⟩) ho (by rw [show ({ D with n := D.n + 1, dir := (.gone s b1 : Ac).app D.dir } : Dk).lv = D.lv from rfl, HV.out]; exact Fr.grown hg2) (by rw [show ({ D with n := D.n + 1, dir := (.gone s b1 : Ac).app D.dir } : Dk).lv = D.lv from rfl, HV.out]; exact hat2)); have hc1 : w2.heap[D.d]? = w1.heap[D.d]? := (Fr.grown hg2).keep D.d G1.out.at_.d_lt (by rw [← HV.out]; intro hm; exact ((Dk.ne HH.out).2.1 D.d (by simpa using hm)).1 rfl); have hc2 := hc1.trans G1.out.at_.cell; have d2 : w2.cell? ⟨D.d, 2, none⟩ = some (.slice A D.loose.length c) := (by rw [cell_of hc2 2, ← HV.out]; rfl); have f2 := free_of hc2 2; clear hc1 hc2 ho hb2 hg2 hat2; rw [List.length_append, List.length_singleton] at hv9; subst hv9))
  go_end0
  exact ⟨rfl, _, L2.out.1, L2.out.2.1, L2.out.2.2⟩
set_option maxHeartbeats 4000000 in
set_option maxRecDepth 100000 in
theorem turn_move (h : DkAt w D) (s t : ByteArray) (b1 b2 : Nat) (hb : BoxIs w (.move s t b1 b2)) (hbo : ∀ k ∈ bxs (.move s t b1 b2), k ∉ D.own ∧ k ∉ D.boxes) (hn : D.n < maxLen) (hlen : D.loose.length < 4294967296) (fb : Nat) (hf : D.dir s = some fb) :
    Calls Try.prog 28 #[P D.d, .func (.func 36) #[] #[P b1, P b2]] w fun e w' => e = .returned (.tuple #[]) ∧ ∃ v1, DkAt w' { D with n := D.n + 1, dir := (.move s t b1 b2 : Ac).app D.dir, lv := v1, loose := D.loose ++ [.move s t b1 b2] } ∧ Fr D.own w w' ∧ ∀ k ∈ ({ D with n := D.n + 1, dir := (.move s t b1 b2 : Ac).app D.dir, lv := v1, loose := D.loose ++ [.move s t b1 b2] } : Dk).own, k ∈ D.own ∨ w.heap.size ≤ k := by
  have e29 : ∀ args w, (callFunc 36 args).run Try.prog w = .ok (.enter 36 args) w := enters_of Try.func36 (by kernel_rfl) rfl
  have c0 := h.c0
  have HH := hid h
  have HB := hid hb
  have hbo' := fun k hk => (hbo k hk).1
  have HBO := hid (fun k (hk : k ∈ bxs (.move s t b1 b2)) => (⟨hbo' k hk, hb.lt k hk, (hbo k hk).2⟩ : k ∉ D.own ∧ k < w.heap.size ∧ k ∉ D.boxes))
  obtain ⟨A, c, hv⟩ := Kd.R_slice h.row
  have HV := hid hv
  have hdne := (Dk.ne h).1.1
  have hbm : b1 ≠ D.dm := fun e => hbo' b1 (by simp [bxs]) (by rw [e]; simp [Dk.own])
  have HF0 := hid hf
  clear hf
  clear h hb hv hbo hbo'
  go_enter Try.func28, Try.ntmps28
  go_wp2_with (first
    | (go_at_fn 36; refine (do_move s t b1 b2 HB.out HH.out.dirM hn fb HF0.out hbm).mono ?_; rintro e w1 ⟨rfl, hm1, hf1⟩; have G1 := hid (Goes.turn_dir HH.out hm1 hf1); have B1 := hid (HB.out.keep (fun k hk hlt => hf1.keep k hlt (fun hm => (HBO.out k hk).1 (by rw [List.mem_singleton.1 hm]; simp [Dk.own])))); have c2 : w1.cell? ⟨D.d, 2, none⟩ = some (.slice A D.loose.length c) := (by have := G1.out.at_.c2; rw [show ({ D with n := D.n + 1, dir := (.move s t b1 b2 : Ac).app D.dir } : Dk).lv = D.lv from rfl, HV.out] at this; exact this); clear hm1 hf1)
    | ((with_reducible refine gate_builtin (b := .append) (xs := #[.tmp 14, .tmp 17]) rfl ?_); at_builtin; refine Kd.R_append kAc (w0 := w1) 0 rfl (.tmp 14) (.tmp 17) 56 67 (.agg #[.pointer none, .int .i64 0, .nilFunc]) 24 rfl Try.underlying56 info67 rfl (by decide) (by omega) (.slice A D.loose.length c) D.loose (.move s t b1 b2) [.pointer none, .int .i64 0, .func (.func 36) #[] #[P b1, P b2]] (fun _ => True) (fun _ => False) rfl rfl ?aP (fun _ hk => hk.elim) (fun _ _ => trivial) ?aO ?aB ?aS ?aL ?_; (case aP => exact rfl); (case aO => exact (by have := Kd.R_mono (ok' := fun _ => True) G1.out.at_.row (fun _ _ => trivial); rw [show ({ D with n := D.n + 1, dir := (.move s t b1 b2 : Ac).app D.dir } : Dk).lv = D.lv from rfl, HV.out] at this; exact this)); (case aB => exact Below.refl 0 w1); (case aS => exact Nat.zero_le _); (case aL => omega); intro v1 w2 ho hb2 hg2 hat2; obtain ⟨A9, c9, hv9⟩ := Kd.R_slice ho; have L2 := hid (acted G1.out B1.out (fun k hk => ⟨(HBO.out k hk).1, Nat.lt_of_lt_of_le (HBO.out k hk).2.1 G1.out.fr.size, (HBO.out k hk).2.2⟩) ho (by rw [show ({ D with n := D.n + 1, dir := (.move s t b1 b2 : Ac).app D.dir } : Dk).lv = D.lv from rfl, HV.out]; exact Fr.grown hg2) (by rw [show ({ D with n := D.n + 1, dir := (.move s t b1 b2 : Ac).app D.dir } : Dk).lv = D.lv from rfl, HV.out]; exact hat2)); have hc1 : w2.heap[D.d]? = w1.heap[D.d]? := (Fr.grown hg2).keep D.d G1.out.at_.d_lt (by rw [← HV.out]; intro hm; exact ((Dk.ne HH.out).2.1 D.d (by simpa using hm)).1 rfl); have hc2 := hc1.trans G1.out.at_.cell; have d2 : w2.cell? ⟨D.d, 2, none⟩ = some (.slice A D.loose.length c) := (by rw [cell_of hc2 2, ← HV.out]; rfl); have f2 := free_of hc2 2; clear hc1 hc2 ho hb2 hg2 hat2; rw [List.length_append, List.length_singleton] at hv9; subst hv9))
  go_end0
  exact ⟨rfl, _, L2.out.1, L2.out.2.1, L2.out.2.2⟩
end
end Go.Proofs.Ytgcenkmekpaapaa.L
