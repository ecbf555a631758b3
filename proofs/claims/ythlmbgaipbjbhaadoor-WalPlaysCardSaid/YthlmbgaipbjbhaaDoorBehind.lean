/- Small equations of the model that a walk wants at function values; make([]T, 0, n). The laws' world: the groups behind a call. -/
import Derived.Test.YthlmbgaipbjbhaaDoorWMore
import Derived.Test.YthlmbgaipbjbhaaDoorWs
section
namespace Go.Proofs.YthlmbgaipbjbhaaDoor.P
open Go.RowKit Go.Proofs.YthlmbgaipbjbhaaDoorW.PrintWords Go.Proofs.YthlmbgaipbjbhaaDoorW.PrintLast Go.Proofs.YthlmbgaipbjbhaaDoorW.PrintMore
section
variable {P : Program} {ops : Array Oper} {rest : List Oper} {o : Oper} {a : Act} {Q : Exit → Act → World → Prop} {Kc : Act → World → Prop} {α : Type}
theorem made0 (d : Kd α) {W : World} (base e : Nat) (cells : Array Value) (m : Nat) (ok : Nat → Prop) (hfresh : ok W.heap.size) (hbase : base ≤ W.heap.size) (hm : m ≤ 9223372036854775807) (hc : cells.size = m * d.sz) :
    d.R e (W.alloc (.cells cells e)) base ok (.slice (some ⟨W.heap.size, 0, none⟩) 0 m) ([] : List α) := by
  refine ⟨fun k hk => ?_, [], ?_, ?_⟩
  · have : W.heap.size = k := by simpa [Value.ownBlock] using hk
    subst this
    exact hfresh
  · have h2 := World.ownsRow_lit (base := base) (e := e) (size := d.sz) W cells m hbase (by simpa [maxLen] using hm) hc
    simpa using own_take (m := 0) h2 (Nat.zero_le _)
  · exact ⟨by simp, fun j p hj => by simp at hj⟩
theorem make0_run {W : World} (e : Nat) (t : TypeId) (x y : Operand) (ho : o.op = .makeSlice t x y) (m : Nat) (hx : a.eval x = .int .i64 0) (hy : a.eval y = .int .i64 (m : Int)) (sz : Nat)
    (ht : P.underlying t = some (.slice e)) (z : Value) (bytes : Nat) (hinfo : (P.info? e).map (fun i => (i.zero, i.size, i.bytes)) = some (some z, sz, bytes)) (hb0 : 0 < bytes) (hl : m * bytes ≤ 281474976710656) :
    (execOp a.eval o).run P W = .ok (.value (.slice (some ⟨W.heap.size, 0, none⟩) 0 m)) (W.alloc (.cells (madeCells z.cells (m * sz)) e)) := by
  obtain ⟨i0, hi, hzz⟩ := Option.map_eq_some_iff.1 hinfo
  simp only [Prod.mk.injEq] at hzz
  obtain ⟨hz0, hz1, hz2⟩ := hzz
  have hm : m ≤ 281474976710656 := Nat.le_trans (Nat.le_mul_of_pos_right _ hb0) hl
  have hr := run_make (P := P) W t e i0 z ht hi hz0 .i64 .i64 0 (m : Int) (by omega) (by omega)
    (by
      have h3 : ((i0.bytes * m : Nat) : Int) ≤ 281474976710656 := by rw [hz2, Nat.mul_comm]; omega
      rwa [Int.natCast_mul] at h3) (by omega)
  simp only [Int.toNat_natCast] at hr
  rw [hz1] at hr
  simp [execOp, ho, hx, hy, hr]
theorem R_make0_step (d : Kd α) {w0 W : World} (base e : Nat) (hw : Region.wanted o (yielded ops a.tmps) = true) {N : Tmp} (_hd : o.dst = some N) (t : TypeId) (x y : Operand) (ho : o.op = .makeSlice t x y) (n : Int) (hx : a.eval x = .int .i64 0) (hy : a.eval y = .int .i64 n)
    (ht : P.underlying t = some (.slice e)) (z : Value) (bytes : Nat) (hinfo : (P.info? e).map (fun i => (i.zero, i.size, i.bytes)) = some (some z, d.sz, bytes)) (_hz : z.cells.size = d.sz) (_hs0 : 0 < d.sz) (hb0 : 0 < bytes)
    (z0 : α) {ok okp : Nat → Prop} (_hzero : d.M W base okp z0 z.cells.toList) (_hok : ∀ k, okp k → ok k) (hfresh : ok W.heap.size) (h0 : 0 ≤ n) (hl : n.toNat * bytes ≤ 281474976710656) (HB : Below base w0 W) (hbase : base ≤ W.heap.size)
    (h : ∀ v1 w1, d.R e w1 base ok v1 ([] : List α) → Below base w0 w1 → W.grownBy w1 none → (∃ b, v1.ownBlock = some b ∧ W.heap.size ≤ b) → Kc (a.put o.dst v1) w1) : if Region.wanted o (yielded ops a.tmps) = true then Oper.wp P o a W Kc Q else Kc (a.put o.dst undef) W := by
  obtain ⟨m, rfl⟩ := Int.eq_ofNat_of_zero_le h0
  simp only [Int.toNat_natCast] at hl
  have hm : m ≤ 281474976710656 := Nat.le_trans (Nat.le_mul_of_pos_right _ hb0) hl
  exact event_step hw (make0_run e t x y ho m hx hy d.sz ht z bytes hinfo hb0 hl) (h _ _ (made0 d base e _ m ok hfresh hbase (by omega) (by simp [size_madeCells])) (HB.alloc hbase _) (World.grownBy_alloc W _ none) ⟨W.heap.size, by simp [Value.ownBlock], Nat.le_refl _⟩)
end
end Go.Proofs.YthlmbgaipbjbhaaDoor.P
end
section
namespace Go.Proofs.YthlmbgaipbjbhaaDoor.L
open Go.RowKit Go.Lib Go.Maps Go.Proofs.YthlmbgaipbjbhaaDoor.P
open Go.Proofs.YthlmbgaipbjbhaaDoorW.PrintWords Go.Proofs.YthlmbgaipbjbhaaDoorW.PrintLast Go.Proofs.YthlmbgaipbjbhaaDoorW.PrintMore
set_option linter.unusedVariables false
set_option linter.unusedSimpArgs false
def nxt (q : Op) (G : List (List ByteArray)) : List (List ByteArray) := if pickI q.kind 8 = 4 then [fewL q.l] else G ++ [fewL q.l]
abbrev opVal (q : Op) : Value := .agg #[.int .i64 q.kind, .slice q.at_ q.l.length q.cap, .int .i64 q.n, .int .i64 q.torn]
abbrev boxObj (q : Op) : Obj := .cells #[.int .i64 q.kind, .slice q.at_ q.l.length q.cap, .int .i64 q.n, .int .i64 q.torn] 52
theorem R_one {W : World} {v0 : Value} {l : List ByteArray} {base : Nat} {ok okp : Nat → Prop} (hp : Kd.R Kd.string 9 W base okp v0 l) (hok : ∀ k, okp k → ok k) (hfresh : ok W.heap.size) (hbase : base ≤ W.heap.size) :
    Kd.R kG 34 (W.alloc (.cells #[v0] 34)) base ok (.slice (some ⟨W.heap.size, 0, none⟩) 1 1) [l] := by
  refine ⟨fun k hk => ?_, [v0], ?_, ?_, fun j p hj => ?_⟩
  · have : W.heap.size = k := by simpa [Value.ownBlock] using hk
    subst this
    exact hfresh
  · have h2 := World.ownsRow_lit (base := base) (e := 34) (size := 1) W #[v0] 1 hbase (by decide) (by simp)
    have h3 : (W.alloc (.cells #[v0] 34)).ownsRow base 34 1 (.slice (some ⟨W.heap.size, 0, none⟩) 1 1) 1 [v0] := by simpa using h2
    exact h3
  · rfl
  · obtain ⟨hjl, rfl⟩ := List.getElem?_eq_some_iff.1 hj
    obtain rfl : j = 0 := by simpa using hjl
    refine ⟨v0, rfl, ?_⟩
    refine Kd.R_mono (Kd.R_below (Kd.R_bound hp) (al_below W _)) (fun k hk => ⟨hok k hk.1, fun he => ?_⟩)
    have h3 : k = W.heap.size := by simpa [Value.ownBlock] using he
    have := hk.2.2.1
    omega
theorem few_calls (W : World) (A : Option Addr) (c : Nat) (l : List ByteArray) (h : TxIs W A l c) :
    Calls Tryd.prog 41 #[.slice A l.length c] W fun e w' => ∃ v, e = .returned v ∧ Kd.R Kd.string 9 w' W.heap.size (fun _ => True) v (fewL l) ∧ Below W.heap.size W w' := by
  obtain ⟨k, hk⟩ := (few_ev l).rounds
  exact tussocklaw05_few.calls k A c l (fewL l) W h.row h.le hk
set_option maxHeartbeats 8000000 in
set_option maxRecDepth 100000 in
theorem behind_calls (w : World) (x d k : Nat) (vg vf : Value) (t : Bool) (G : List (List ByteArray)) (hx : w.heap[x]? = some (wsObj d k vg vf t)) (ok : Nat → Prop) (hfresh : ∀ j, w.heap.size ≤ j → ok j) (hR : Kd.R kG 34 w 0 ok vg G) (hG : G.length < 4294967296) (q : Op) (hq : OpIs w q) :
    Calls Tryd.prog 18 #[P x, opVal q] w fun e w' => ∃ v, e = .returned v ∧ Kd.R kG 34 w' 0 ok v (nxt q G) ∧ Below w.heap.size w w' := by
  have HP := hid (fun W => pick_calls q.kind 8 hq.kind (by omega) W)
  have hvb := pick_bd q.kind 8 (by omega)
  have HN := hid (show nxt q G = if pickI q.kind 8 = 4 then [fewL q.l] else G ++ [fewL q.l] from rfl)
  obtain ⟨A, cG, rfl⟩ := Kd.R_slice hR
  have c2 : w.cell? ⟨x, 2, none⟩ = some (.slice A G.length cG) := (cell_of hx 2).trans rfl
  have HF := hid (fun (W : World) (hW : Below w.heap.size w W) => few_calls W q.at_ q.cap q.l (hq.row.keep hW))
  have HR := hid hR
  have HFR := hid hfresh
  have HGL := hid hG
  have HX := hid (lt_of hx)
  clear hR hfresh hq hx hG
  generalize pickI q.kind 8 = pv at *
  by_cases h4 : pv = 4
  · have HNX := hid (show nxt q G = [fewL q.l] from by rw [HN.out, if_pos h4])
    subst h4
    clear hvb HN
    go_enter Tryd.func18, Tryd.ntmps18
    go_upto_region 2 with (go_at_call 12; refine (HP.out _).mono ?_; rintro e w_ ⟨rfl, hww⟩; have hww2 := hww.symm; subst hww2)
    go_wp2_with (go_at_call 41; refine (HF.out _ (al_below w _)).mono ?_; rintro e w2 ⟨v2, rfl, hr2, hb2⟩; obtain ⟨A2, cc2, rfl⟩ := Kd.R_slice hr2; have R2 := hid hr2; have B2 := hid ((al_below w _).trans (hb2.mono (by simp only [al_size]; omega))); have HS := hid (show w.heap.size ≤ w2.heap.size from by have := hb2.size; simp only [al_size] at this; omega); clear hr2 hb2)
    go_ret
    rw [HNX.out]
    exact ⟨_, rfl, R_one (Kd.R_lower (Kd.R_bound R2.out) (Nat.zero_le _)) (fun k hk => HFR.out k (by have := hk.2.1; simp only [al_size] at this; omega)) (HFR.out _ HS.out) (Nat.zero_le _), B2.out.trans ((al_below w2 _).mono HS.out)⟩
  · have hb4 : (pv == 4) = false := by simp [h4]
    have HNX := hid (show nxt q G = G ++ [fewL q.l] from by rw [HN.out, if_neg h4])
    clear hvb HN
    go_enter Tryd.func18, Tryd.ntmps18
    go_upto_region 3 with (go_at_call 12; refine (HP.out _).mono ?_; rintro e w_ ⟨rfl, hww⟩; have hww2 := hww.symm; subst hww2)
    have mq : (w.alloc (boxObj q)).cell? ⟨w.heap.size, 1, none⟩ = some (.slice q.at_ q.l.length q.cap) := (cell_of (al_get w _) 1).trans rfl
    have m2 : (w.alloc (boxObj q)).cell? ⟨x, 2, none⟩ = some (.slice A G.length cG) := (Below.cell (al_below w _) HX.out).trans c2
    refine start_ (n := 18) (S := fun w' => w'.cell? ⟨x, 2, none⟩ = some (.slice A G.length cG) ∧ w'.cell? ⟨w.heap.size, 1, none⟩ = some (.slice q.at_ q.l.length q.cap)) (ds := []) #[false, false, false, false, false, false, false, false, false, false, false, false, false, false, false, false, false, false] (by kernel_rfl) rfl rfl ⟨m2, mq⟩ (fun hHeld => ?_)
    refine pure_ (i := 0) (N := some 13) (v := ?_) (a' := ?_) #[true, false, false, false, false, false, false, false, false, false, false, false, false, false, false, false, false, false] rfl rfl (by kernel_rfl) (fun _ _ _ h => h) (Or.inl ⟨by rfl, ?_⟩) ?_ ?_
    rotate_left
    · intro w'
      go_simp
      with_reducible rfl
    rotate_left
    · simp only [Act.put, List.setIfInBounds_toArray, List.set_cons_zero, List.set_cons_succ, i64_w, i32_w]
      rfl
    refine pure_ (i := 1) (N := some 14) (v := ?_) (a' := ?_) #[true, true, false, false, false, false, false, false, false, false, false, false, false, false, false, false, false, false] rfl rfl (by kernel_rfl) (fun _ _ _ h => h) (Or.inl ⟨by rfl, ?_⟩) ?_ ?_
    rotate_left
    · intro w'
      go_simp
      with_reducible rfl
    rotate_left
    · simp only [Act.put, List.setIfInBounds_toArray, List.set_cons_zero, List.set_cons_succ, i64_w, i32_w]
      rfl
    refine pure_ (i := 2) (N := some 15) (v := ?_) (a' := ?_) #[true, true, true, false, false, false, false, false, false, false, false, false, false, false, false, false, false, false] rfl rfl (by kernel_rfl) (fun _ _ _ h => h) (Or.inl ⟨by rfl, ?_⟩) ?_ ?_
    rotate_left
    · intro w'
      go_simp
      with_reducible rfl
    rotate_left
    · simp only [Act.put, List.setIfInBounds_toArray, List.set_cons_zero, List.set_cons_succ, i64_w, i32_w]
      rfl
    refine take_ (i := 3) (N := some 16) (v := ?_) (a' := ?_) #[true, true, true, true, false, false, false, false, false, false, false, false, false, false, false, false, false, false] rfl rfl (by kernel_rfl) (fun _ _ _ h => h) (Or.inl ⟨by rfl, ?_⟩) hHeld ?_ ?_
    rotate_left
    · rintro w' ⟨s0, s1⟩
      go_simp
      with_reducible rfl
    rotate_left
    · simp only [Act.put, List.setIfInBounds_toArray, List.set_cons_zero, List.set_cons_succ, i64_w, i32_w]
      rfl
    refine pure_ (i := 4) (N := some 17) (v := ?_) (a' := ?_) #[true, true, true, true, true, false, false, false, false, false, false, false, false, false, false, false, false, false] rfl rfl (by kernel_rfl) (fun _ _ _ h => h) (Or.inl ⟨by rfl, ?_⟩) ?_ ?_
    rotate_left
    · intro w'
      go_simp
      with_reducible rfl
    rotate_left
    · simp only [Act.put, List.setIfInBounds_toArray, List.set_cons_zero, List.set_cons_succ, i64_w, i32_w]
      rfl
    refine pure_ (i := 5) (N := some 18) (v := ?_) (a' := ?_) #[true, true, true, true, true, true, false, false, false, false, false, false, false, false, false, false, false, false] rfl rfl (by kernel_rfl) (fun _ _ _ h => h) (Or.inl ⟨by rfl, ?_⟩) ?_ ?_
    rotate_left
    · intro w'
      go_simp
      with_reducible rfl
    rotate_left
    · simp only [Act.put, List.setIfInBounds_toArray, List.set_cons_zero, List.set_cons_succ, i64_w, i32_w]
      rfl
    refine pure_ (i := 7) (N := some 20) (v := ?_) (a' := ?_) #[true, true, true, true, true, true, false, true, false, false, false, false, false, false, false, false, false, false] rfl rfl (by kernel_rfl) (fun _ _ _ h => h) (Or.inl ⟨by rfl, ?_⟩) ?_ ?_
    rotate_left
    · intro w'
      go_simp
      with_reducible rfl
    rotate_left
    · simp only [Act.put, List.setIfInBounds_toArray, List.set_cons_zero, List.set_cons_succ, i64_w, i32_w]
      rfl
    refine pure_ (i := 8) (N := some 21) (v := ?_) (a' := ?_) #[true, true, true, true, true, true, false, true, true, false, false, false, false, false, false, false, false, false] rfl rfl (by kernel_rfl) (fun _ _ _ h => h) (Or.inl ⟨by rfl, ?_⟩) ?_ ?_
    rotate_left
    · intro w'
      go_simp
      with_reducible rfl
    rotate_left
    · simp only [Act.put, List.setIfInBounds_toArray, List.set_cons_zero, List.set_cons_succ, i64_w, i32_w]
      rfl
    refine pure_ (i := 9) (N := some 22) (v := ?_) (a' := ?_) #[true, true, true, true, true, true, false, true, true, true, false, false, false, false, false, false, false, false] rfl rfl (by kernel_rfl) (fun _ _ _ h => h) (Or.inl ⟨by rfl, ?_⟩) ?_ ?_
    rotate_left
    · intro w'
      go_simp
      with_reducible rfl
    rotate_left
    · simp only [Act.put, List.setIfInBounds_toArray, List.set_cons_zero, List.set_cons_succ, i64_w, i32_w]
      rfl
    refine take_ (i := 10) (N := some 23) (v := ?_) (a' := ?_) #[true, true, true, true, true, true, false, true, true, true, true, false, false, false, false, false, false, false] rfl rfl (by kernel_rfl) (fun _ _ _ h => h) (Or.inl ⟨by rfl, ?_⟩) hHeld ?_ ?_
    rotate_left
    · rintro w' ⟨s0, s1⟩
      go_simp
      with_reducible rfl
    rotate_left
    · simp only [Act.put, List.setIfInBounds_toArray, List.set_cons_zero, List.set_cons_succ, i64_w, i32_w]
      rfl
    refine pure_ (i := 12) (N := some 25) (v := ?_) (a' := ?_) #[true, true, true, true, true, true, false, true, true, true, true, false, true, false, false, false, false, false] rfl rfl (by kernel_rfl) (fun _ _ _ h => h) (Or.inl ⟨by rfl, ?_⟩) ?_ ?_
    rotate_left
    · intro w'
      go_simp
      with_reducible rfl
    rotate_left
    · simp only [Act.put, List.setIfInBounds_toArray, List.set_cons_zero, List.set_cons_succ, i64_w, i32_w]
      rfl
    refine take_ (i := 13) (N := some 26) (v := ?_) (a' := ?_) #[true, true, true, true, true, true, false, true, true, true, true, false, true, true, false, false, false, false] rfl rfl (by kernel_rfl) (fun _ _ _ h => h) (Or.inl ⟨by rfl, ?_⟩) hHeld ?_ ?_
    rotate_left
    · rintro w' ⟨s0, s1⟩
      go_simp
      with_reducible rfl
    rotate_left
    · simp only [Act.put, List.setIfInBounds_toArray, List.set_cons_zero, List.set_cons_succ, i64_w, i32_w]
      rfl
    have B1 := hid (show Below w.heap.size w (w.alloc (boxObj q)).drew from (al_below w _).trans (below_drew (Below.refl _ _)))
    have hlz : wrap64 ((G.length : Int) + 1) = ((G.length + 1 : Nat) : Int) := by have := HGL.out; unfold wrap64; omega
    have HR1 := hid (Kd.R_below HR.out B1.out)
    have HS1 := hid (show w.heap.size ≤ (w.alloc (boxObj q)).drew.heap.size from B1.out.size)
    have HSL := hid (show w.heap.size < (w.alloc (boxObj q)).drew.heap.size from by simp only [World.size_drew, al_size]; omega)
    have hH0 := hHeld
    generalize (w.alloc (boxObj q)).drew = W1 at *
    rw [hlz]
    have HX1 := hid (show x < W1.heap.size from Nat.lt_of_lt_of_le HX.out HS1.out)
    have hx_ : (⟨x, 2, none⟩ : Addr).block < W1.heap.size := HX1.out
    have hw_ : (⟨w.heap.size, 1, none⟩ : Addr).block < W1.heap.size := HSL.out
    refine one_ (i := 6) (N := some 19) #[true, true, true, true, true, true, true, true, true, true, true, false, true, true, false, false, false, false] rfl rfl (by kernel_rfl) (by decide) (fun K hK => ?_)
    refine R_make0_step kG (w0 := W1) 0 34 (by rfl) rfl 28 (.const (.int .i64 0)) (.tmp 18) rfl ((G.length + 1 : Nat) : Int) rfl rfl Tryd.underlying28 (.slice none 0 0) 24 info34 rfl (by decide) (by decide) (z0 := []) (ok := ok) (okp := fun _ => False) ⟨_, rfl, Kd.R_nil _ _ _ _ _⟩ (fun _ hk => hk.elim) (HFR.out _ HS1.out) (by omega) (by have := HGL.out; rw [Int.toNat_natCast]; omega) (Below.refl 0 W1) (Nat.zero_le _) ?_
    intro v2 W2 hr2 hb2 hg2 hat2
    have hB2 : Below W1.heap.size W1 W2 := (Below.refl _ _).grown hg2 (Nat.le_refl _) (by simp)
    obtain ⟨A2, c2, rfl⟩ := Kd.R_slice hr2
    have R2 := hid hr2
    have B2 := hid hB2
    have O2 := hid (show ∀ k, (Value.slice A2 ([] : List (List ByteArray)).length c2).ownBlock = some k → W1.heap.size ≤ k from fun k hk => by obtain ⟨b, hb, hle⟩ := hat2; rw [hb] at hk; injection hk with hk; omega)
    clear hr2 hb2 hg2 hat2 hB2
    refine hK.out _ _ ⟨(Below.cell B2.out hx_).trans hHeld.1, (Below.cell B2.out hw_).trans hHeld.2⟩ (fun hHeld => ?_)
    clear hK K
    refine norm_ (a' := ?_) ?_ ?_
    rotate_left
    · show Act.put _ (some 19) _ = _
      simp only [Act.put, List.setIfInBounds_toArray, List.set_cons_zero, List.set_cons_succ, i64_w, i32_w]
      rfl
    refine one_ (i := 11) (N := some 24) #[true, true, true, true, true, true, true, true, true, true, true, true, true, true, false, false, false, false] rfl rfl (by kernel_rfl) (by decide) (fun K hK => ?_)
    refine Kd.R_append_rows_step kG (Rr := fun g cs => kG.M W2 0 (fun k => ok k ∧ k < W1.heap.size) g cs) (w0 := W2) 0 (by rfl) (.tmp 19) (.tmp 23) 28 34 (.slice none 0 0) 24 rfl Tryd.underlying28 info34 rfl (by decide) (by omega) (.slice A2 ([] : List (List ByteArray)).length c2) [] G A G.length cG ok (fun k => ok k ∧ k < W1.heap.size) rfl rfl ?aO ?aR (fun _ _ h => h) ?aK (fun k hk => HFR.out k (by have := B2.out.size; have := HS1.out; omega)) (Below.refl 0 W2) (Nat.zero_le _) ?aL ?_
    case aO => exact R2.out
    case aR =>
      obtain ⟨A', c', he, _, hr⟩ := OwnRow.reads (Kd.R_bound HR1.out).2
      injection he with he _ _
      rw [he]
      exact hr.imp_ B2.out (fun p c hp => Kd.M_below (kG.M_mono (fun k hk => ⟨hk.1.1, hk.1.2.2.1⟩) hp) B2.out)
    case aK => exact fun k hk => ⟨hk.1, fun e => by have := O2.out k e.symm; have := hk.2; omega⟩
    case aL => have := HGL.out; simp only [List.length_nil]; omega
    intro v3 W3 hr3 hb3 hg3 hat3
    have hB3 : Below W1.heap.size W2 W3 := (Below.refl _ _).grown hg3 B2.out.size O2.out
    have hO3 : ∀ k, v3.ownBlock = some k → W1.heap.size ≤ k := fun k hk => by
      rcases hat3 with h | ⟨b, hb, hle⟩
      · exact O2.out k (by rw [← h]; exact hk)
      · rw [hb] at hk; injection hk with hk; have := B2.out.size; omega
    obtain ⟨A3, c3, rfl⟩ := Kd.R_slice hr3
    have R3 := hid (show Kd.R kG 34 W3 0 ok (.slice A3 ([] ++ G).length c3) G from hr3)
    have B3 := hid hB3
    have O3 := hid hO3
    clear hr3 hb3 hg3 hat3 hB3 hO3
    refine hK.out _ _ ⟨(Below.cell B3.out hx_).trans hHeld.1, (Below.cell B3.out hw_).trans hHeld.2⟩ (fun hHeld => ?_)
    clear hK K
    refine norm_ (a' := ?_) ?_ ?_
    rotate_left
    · show Act.put _ (some 24) _ = _
      simp only [Act.put, List.setIfInBounds_toArray, List.set_cons_zero, List.set_cons_succ, i64_w, i32_w]
      rfl
    refine one_ (i := 14) (N := some 27) #[true, true, true, true, true, true, true, true, true, true, true, true, true, true, true, false, false, false] rfl rfl (by kernel_rfl) (by decide) (fun K hK => ?_)
    refine goes_ Tryd.func41 (by kernel_rfl) rfl #[.slice q.at_ q.l.length q.cap] (by rfl) rfl rfl (by (try simp only [List.map_toArray, List.map_cons, List.map_nil]); rfl) ?_
    refine (HF.out _ (B1.out.trans ((B2.out.trans B3.out).mono HS1.out))).mono ?_
    rintro e W4 ⟨v4, rfl, hr4, hb4⟩
    obtain ⟨A4, c4, rfl⟩ := Kd.R_slice hr4
    have R4 := hid hr4
    have B4 := hid hb4
    have hB4 : Below W1.heap.size W3 W4 := hb4.mono (Nat.le_trans B2.out.size B3.out.size)
    clear hr4 hb4
    refine ⟨_, rfl, ?_⟩
    refine hK.out _ _ ⟨(Below.cell hB4 hx_).trans hHeld.1, (Below.cell hB4 hw_).trans hHeld.2⟩ (fun hHeld => ?_)
    clear hK K
    refine norm_ (a' := ?_) ?_ ?_
    rotate_left
    · show Act.put _ (some 27) _ = _
      simp only [Act.put, List.setIfInBounds_toArray, List.set_cons_zero, List.set_cons_succ, i64_w, i32_w]
      rfl
    refine one_ (i := 15) (N := some 28) #[true, true, true, true, true, true, true, true, true, true, true, true, true, true, true, true, false, false] rfl rfl (by kernel_rfl) (by decide) (fun K hK => ?_)
    refine value_ (w1 := ?_) (v := ?_) (by rfl) rfl ?_ ?_
    rotate_left 2
    · go_simp
      constructor
      · rfl
      · rfl
    refine hK.out _ _ ⟨(Below.cell ((al_below W4 _).mono (Nat.le_trans B2.out.size (Nat.le_trans B3.out.size B4.out.size))) hx_).trans hHeld.1, (Below.cell ((al_below W4 _).mono (Nat.le_trans B2.out.size (Nat.le_trans B3.out.size B4.out.size))) hw_).trans hHeld.2⟩ (fun hHeld => ?_)
    clear hK K
    refine norm_ (a' := ?_) ?_ ?_
    rotate_left
    · show Act.put _ (some 28) _ = _
      simp only [Act.put, List.setIfInBounds_toArray, List.set_cons_zero, List.set_cons_succ, i64_w, i32_w]
      rfl
    refine one_ (i := 16) (N := some 29) #[true, true, true, true, true, true, true, true, true, true, true, true, true, true, true, true, true, false] rfl rfl (by kernel_rfl) (by decide) (fun K hK => ?_)
    refine Kd.R_append_step kG (w0 := W4) 0 (by rfl) (.tmp 24) (.tmp 28) 28 34 (.slice none 0 0) 24 rfl Tryd.underlying28 info34 rfl (by decide) (by omega) (.slice A3 ([] ++ G).length c3) G (fewL q.l) [.slice A4 (fewL q.l).length c4] ok (fun k => W3.heap.size ≤ k ∧ k < W4.heap.size) rfl rfl ?aP ?aK (fun k hk => HFR.out k (by have := B2.out.size; have := HS1.out; have := B3.out.size; have := B4.out.size; omega)) ?aO (Below.refl 0 W4) (Nat.zero_le _) ?aL ?_
    case aP => exact ⟨_, rfl, Kd.R_lower (Kd.R_mono (Kd.R_bound R4.out) (fun k hk => ⟨hk.2.1, hk.2.2.1⟩)) (Nat.zero_le _)⟩
    case aK => exact fun k hk => ⟨HFR.out k (by have := B2.out.size; have := HS1.out; have := B3.out.size; have := hk.1; omega), fun e => by have := (Kd.R_bound R3.out).1 k e.symm; have := this.2.2.1; have := hk.1; omega⟩
    case aO => exact Kd.R_below R3.out B4.out
    case aL => have := HGL.out; omega
    intro v5 W5 hr5 hb5 hg5 hat5
    have hB5 : Below W1.heap.size W4 W5 := (Below.refl _ _).grown hg5 (Nat.le_trans B2.out.size (Nat.le_trans B3.out.size B4.out.size)) O3.out
    obtain ⟨A5, c5, rfl⟩ := Kd.R_slice hr5
    have R5 := hid (show Kd.R kG 34 W5 0 ok (.slice A5 (G.length + 1) c5) (G ++ [fewL q.l]) from by rw [show G.length + 1 = (G ++ [fewL q.l]).length by simp]; exact hr5)
    have B5 := hid hB5
    clear hr5 hb5 hg5 hat5 hB5
    refine hK.out _ _ ⟨(Below.cell (hB4.trans B5.out) hx_).trans ((Below.cell B3.out hx_).trans ((Below.cell B2.out hx_).trans hH0.1)), (Below.cell (hB4.trans B5.out) hw_).trans ((Below.cell B3.out hw_).trans ((Below.cell B2.out hw_).trans hH0.2))⟩ (fun hHeld => ?_)
    clear hK K
    refine norm_ (a' := ?_) ?_ ?_
    rotate_left
    · show Act.put _ (some 29) _ = _
      simp only [Act.put, List.setIfInBounds_toArray, List.set_cons_zero, List.set_cons_succ, i64_w, i32_w]
      rfl
    refine pure_ (i := 17) (N := some 4) (v := ?_) (a' := ?_) #[true, true, true, true, true, true, true, true, true, true, true, true, true, true, true, true, true, true] rfl rfl (by kernel_rfl) (fun _ _ _ h => h) (Or.inl ⟨by rfl, ?_⟩) ?_ ?_
    rotate_left
    · intro w'
      go_simp
      with_reducible rfl
    rotate_left
    · simp only [Act.put, List.setIfInBounds_toArray, List.set_cons_zero, List.set_cons_succ, i64_w, i32_w]
      rfl
    refine done_ (by kernel_rfl) ?_
    try go_wp2
    go_ret
    rw [HNX.out]
    exact ⟨_, rfl, R5.out, B1.out.trans ((((B2.out.trans B3.out).trans (B4.out.mono (Nat.le_trans B2.out.size B3.out.size))).trans B5.out).mono HS1.out)⟩
end Go.Proofs.YthlmbgaipbjbhaaDoor.L
end
