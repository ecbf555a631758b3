/- The laws' world: lay. -/
import Derived.Test.YthlmbgaipbjbhaaDoorBehind
namespace Go.Proofs.YthlmbgaipbjbhaaDoor.L
open Go.RowKit Go.Lib Go.Maps Go.Proofs.YthlmbgaipbjbhaaDoor.P
open Go.Proofs.YthlmbgaipbjbhaaDoorW.PrintWords Go.Proofs.YthlmbgaipbjbhaaDoorW.PrintLast Go.Proofs.YthlmbgaipbjbhaaDoorW.PrintMore
set_option linter.unusedVariables false
set_option linter.unusedSimpArgs false
def Ways (w0 w' : World) (R k : Nat) (D D' : Dk) (name : ByteArray) (G H : List (List ByteArray)) (c : Int) : Prop :=
  (c = 0 ∧ Lw w0 w' D' k name H) ∨ (c = 35 ∧ Gone D ∧ Cuts D' name (fun o => Reads (o.getD []) G ∨ Reads (o.getD []) H)) ∨ (Why D D' c R ∧ Lw w0 w' D' k name G)
theorem Ways.new {w0 w1 w2 : World} {R k : Nat} {D D' : Dk} {name : ByteArray} {G H : List (List ByteArray)} {c : Int} (h : Ways w0 w1 R k D D' name G H c) (f : Fr [] w1 w2) : Ways w0 w2 R k D D' name G H c := by
  rcases h with ⟨e, l⟩ | h | ⟨y, l⟩
  · exact .inl ⟨e, l.new f⟩
  · exact .inr (.inl h)
  · exact .inr (.inr ⟨y, l.new f⟩)
def DidLay (w0 w : World) (R N B k : Nat) (D : Dk) (name next : ByteArray) (G H : List (List ByteArray)) (F : List Int) (t : Bool) (e : Ending) (w' : World) : Prop :=
  ∃ (c : Int) (D' : Dk), e = .returned (.tuple #[.int .i64 c, .bool (mayL t F c D.ops D'.ops || (c == 35))]) ∧ Dw w0 w' (N + 16) B D' ∧ Did (fun x => x = name ∨ x = next) 7 D D' ∧ Fr (k :: D.own) w w' ∧ (∀ j ∈ D'.own, j ∈ D.own ∨ w.heap.size ≤ j) ∧ Ways w0 w' R k D D' name G H c
theorem fewL_bytes (l : List ByteArray) : (enc (fewL l)).length ≤ 7277 := by
  have h := (fewL_ok l).1.enc
  have h2 := (fewL_ok l).2
  have h3 := fewL_length l
  omega
theorem OpsIn.refl (D D' : Dk) {N B : Nat} {T : ByteArray → Prop} (g : Good N B D) (hN : N < 1048576) (d : Did T 7 D D') : wrap64 (D'.ops - D.ops) = D'.ops - D.ops ∧ D'.ops - D.ops ≤ 12 := by
  have h1 := d.lo
  have h2 := d.hi
  unfold wrap64
  constructor <;> omega
theorem CS_after {w1 : World} {l : List ByteArray} {base : Nat} {A : Option Addr} {c : Nat} {own : List Nat} (h : Kd.R Kd.string 9 w1 base (fun _ => True) (.slice A l.length c) l) (hlt : ∀ j ∈ own, j < base) : ∀ W, Fr own w1 W → Kd.C Kd.string W A l.length l := fun W f => by
  obtain ⟨a, b, he, _, hc⟩ := Kd.R_reads (Kd.R_step (Kd.R_bound h) (w1 := W) (fun j hj hlt' => f.keep j hlt' (fun hm => by have := hlt j hm; have := hj.2.1; omega)))
  injection he with he _ _
  rw [he]
  exact hc
set_option maxHeartbeats 16000000 in
set_option maxRecDepth 100000 in
theorem lay_calls {w0 w : World} {N B k R x : Nat} {D : Dk} {name next : ByteArray} {G : List (List ByteArray)} (dw : Dw w0 w N B D) (lw : Lw w0 w D k name G) (hL : Laid w0) (hN : N + 40 < 1048576) (hB : B < 1099511627776) (hnm : Named name next) (ns : List ByteArray) (o : Only (fun x => x ∈ ns) D) (hin : name ∈ ns) (hin2 : next ∈ ns)
    (vg : Value) (A : Option Addr) (cp : Nat) (F : List Int) (t : Bool) (hx : w.heap[x]? = some (wsObj D.d k vg (.slice A F.length cp) t)) (hxo : x ∉ k :: D.own) (hF : ∀ W, Fr (k :: D.own) w W → Kd.C (Kd.int .i64) W A F.length F) (hFl : F.length < 4611686018427387904) (q : Op) (hq : OpIs w0 q) (hbl : (encs G).length + 7277 ≤ B) (hR : R = (ns.length + 1) * B) :
    Calls Tryd.prog 19 #[P x, opVal q] w fun e w' => DidLay w0 w R N B k D name next G (nxt q G) F t e w' := by
  have HP := hid (fun W => pick_calls q.kind 8 hq.kind (by omega) W)
  have hvb := pick_bd q.kind 8 (by omega)
  have HN := hid (show nxt q G = if pickI q.kind 8 = 4 then [fewL q.l] else G ++ [fewL q.l] from rfl)
  have HF := hid (fun (W : World) (hW : Below w.heap.size w W) => few_calls W q.at_ q.cap q.l (hq.row.keep (dw.bel.trans (hW.mono dw.bel.size))))
  have HB1 := hid (al_below w (boxObj q))
  have HX := hid (lt_of hx)
  have HXO := hid hxo
  have HOB := hid hx
  have HDW := hid dw
  have HLW := hid lw
  have HL_ := hid hL
  have HNB := hid (And.intro hN hB)
  have HNM := hid hnm
  have HO := hid o
  have HIN := hid (And.intro hin hin2)
  have HFI := hid hF
  have HFL := hid hFl
  have HBL := hid hbl
  have HR_ := hid hR
  have HOP := hid (fun (W : World) (hW : Below w.heap.size w W) => ops_calls (dw.new (Fr.of_below hW [])).at_)
  have HW1 := hid (show w.heap.size < (w.alloc (boxObj q)).heap.size from by simp only [al_size]; omega)
  have HWO := hid (show w.heap.size ∉ k :: D.own from fun hm => by
    rcases List.mem_cons.1 hm with e | hm
    · obtain ⟨s, r, u, h1, _⟩ := lw.lw
      have := lt_of h1
      omega
    · have := dw.at_.lt _ hm; omega)
  have HKL := hid (show k < w.heap.size from by obtain ⟨s, r, u, h1, _⟩ := lw.lw; exact lt_of h1)
  have HC1 := hid (show w.cell? ⟨x, 1, none⟩ = some (P k) from (cell_of hx 1).trans rfl)
  have c0 : w.cell? ⟨x, 0, none⟩ = some (P D.d) := (cell_of hx 0).trans rfl
  have m0 : (w.alloc (boxObj q)).cell? ⟨x, 0, none⟩ = some (P D.d) := (Below.cell (al_below w _) (lt_of hx)).trans c0
  have HMY := hid (fun (w5 : World) (c : Int) (D' : Dk) (hd : D'.d = D.d) (dw5 : Dw w0 w5 (N + 16) B D') (f : Fr (k :: D.own) w w5) => may_calls dw5.at_ x k vg A cp F t c D.ops (by rw [hd]; exact (f.keep x (lt_of hx) hxo).trans hx) (hF w5 f) hFl)
  clear hx hxo hF hq dw lw hL hN hB hnm o hin hin2 hFl hbl hR c0
  generalize pickI q.kind 8 = pv at *
  by_cases h4 : pv = 4
  · have HNX := hid (show nxt q G = [fewL q.l] from by rw [HN.out, if_pos h4])
    subst h4
    clear hvb HN
    go_enter Tryd.func19, Tryd.ntmps19
    go_upto_region 4 with (first | (go_at_call 17; refine (HOP.out _ (al_below w _)).mono ?_; rintro e w_ ⟨rfl, hww⟩; have hww2 := hww.symm; subst hww2) | (go_at_call 12; refine (HP.out _).mono ?_; rintro e w_ ⟨rfl, hww⟩; have hww2 := hww.symm; subst hww2))
    have mq : (w.alloc (boxObj q)).cell? ⟨w.heap.size, 1, none⟩ = some (.slice q.at_ q.l.length q.cap) := (cell_of (al_get w _) 1).trans rfl
    have m1 : (w.alloc (boxObj q)).cell? ⟨x, 1, none⟩ = some (P k) := (Below.cell (al_below w _) HX.out).trans HC1.out
    refine start_ (n := 9) (S := fun w' => w'.cell? ⟨x, 1, none⟩ = some (P k) ∧ w'.cell? ⟨w.heap.size, 1, none⟩ = some (.slice q.at_ q.l.length q.cap)) (ds := []) #[false, false, false, false, false, false, false, false, false] (by kernel_rfl) rfl rfl ⟨m1, mq⟩ (fun hHeld => ?_)
    refine pure_ (i := 0) (N := some 18) (v := ?_) (a' := ?_) #[true, false, false, false, false, false, false, false, false] rfl rfl (by kernel_rfl) (fun _ _ _ h => h) (Or.inl ⟨by rfl, ?_⟩) ?_ ?_
    rotate_left
    · intro w'
      go_simp
      with_reducible rfl
    rotate_left
    · simp only [Act.put, List.setIfInBounds_toArray, List.set_cons_zero, List.set_cons_succ, i64_w, i32_w]
      rfl
    refine pure_ (i := 1) (N := some 19) (v := ?_) (a' := ?_) #[true, true, false, false, false, false, false, false, false] rfl rfl (by kernel_rfl) (fun _ _ _ h => h) (Or.inl ⟨by rfl, ?_⟩) ?_ ?_
    rotate_left
    · intro w'
      go_simp
      with_reducible rfl
    rotate_left
    · simp only [Act.put, List.setIfInBounds_toArray, List.set_cons_zero, List.set_cons_succ, i64_w, i32_w]
      rfl
    refine pure_ (i := 2) (N := some 20) (v := ?_) (a' := ?_) #[true, true, true, false, false, false, false, false, false] rfl rfl (by kernel_rfl) (fun _ _ _ h => h) (Or.inl ⟨by rfl, ?_⟩) ?_ ?_
    rotate_left
    · intro w'
      go_simp
      with_reducible rfl
    rotate_left
    · simp only [Act.put, List.setIfInBounds_toArray, List.set_cons_zero, List.set_cons_succ, i64_w, i32_w]
      rfl
    refine take_ (i := 3) (N := some 21) (v := ?_) (a' := ?_) #[true, true, true, true, false, false, false, false, false] rfl rfl (by kernel_rfl) (fun _ _ _ h => h) (Or.inl ⟨by rfl, ?_⟩) hHeld ?_ ?_
    rotate_left
    · rintro w' ⟨s0, s1⟩
      go_simp
      with_reducible rfl
    rotate_left
    · simp only [Act.put, List.setIfInBounds_toArray, List.set_cons_zero, List.set_cons_succ, i64_w, i32_w]
      rfl
    refine pure_ (i := 4) (N := some 22) (v := ?_) (a' := ?_) #[true, true, true, true, true, false, false, false, false] rfl rfl (by kernel_rfl) (fun _ _ _ h => h) (Or.inl ⟨by rfl, ?_⟩) ?_ ?_
    rotate_left
    · intro w'
      go_simp
      with_reducible rfl
    rotate_left
    · simp only [Act.put, List.setIfInBounds_toArray, List.set_cons_zero, List.set_cons_succ, i64_w, i32_w]
      rfl
    refine take_ (i := 5) (N := some 23) (v := ?_) (a' := ?_) #[true, true, true, true, true, true, false, false, false] rfl rfl (by kernel_rfl) (fun _ _ _ h => h) (Or.inl ⟨by rfl, ?_⟩) hHeld ?_ ?_
    rotate_left
    · rintro w' ⟨s0, s1⟩
      go_simp
      with_reducible rfl
    rotate_left
    · simp only [Act.put, List.setIfInBounds_toArray, List.set_cons_zero, List.set_cons_succ, i64_w, i32_w]
      rfl
    have hBx := HX.out
    have hBw := HW1.out
    refine one_ (i := 6) (N := some 24) #[true, true, true, true, true, true, true, false, false] rfl rfl (by kernel_rfl) (by decide) (fun K hK => ?_)
    refine goes_ Tryd.func41 (by kernel_rfl) rfl #[.slice q.at_ q.l.length q.cap] (by rfl) rfl rfl (by (try simp only [List.map_toArray, List.map_cons, List.map_nil]); rfl) ?_
    refine (HF.out _ (below_drew HB1.out)).mono ?_
    rintro e W4 ⟨v4, rfl, hr4, hb4⟩
    obtain ⟨A4, c4, rfl⟩ := Kd.R_slice hr4
    have HB4 := hid (show Below w.heap.size w W4 from (below_drew HB1.out).trans (hb4.mono (by simp only [World.size_drew]; exact HB1.out.size)))
    have hq4 := (Below.cell hb4 (a := ⟨w.heap.size, 1, none⟩) (by simp only [World.size_drew]; exact hBw)).trans hHeld.2
    have hqo : W4.heap[w.heap.size]? = some (boxObj q) := (hb4.block _ (by simp only [World.size_drew]; exact HW1.out)).trans (al_get w _)
    have HW4 := hid (show (w.alloc (boxObj q)).heap.size ≤ W4.heap.size from by have := hb4.size; simpa only [World.size_drew] using this)
    have hc4 := CS_after (own := k :: D.own) hr4 (fun j hj => by
      simp only [World.size_drew, al_size]
      rcases List.mem_cons.1 hj with e | hj
      · have := HKL.out; omega
      · have := HDW.out.at_.lt _ hj; omega)
    have HC4 := hid hc4
    clear hr4 hb4 hc4
    refine ⟨_, rfl, ?_⟩
    refine hK.out _ _ ⟨(Below.cell HB4.out hBx).trans HC1.out, hq4⟩ (fun hHeld => ?_)
    clear hK K
    refine norm_ (a' := ?_) ?_ ?_
    rotate_left
    · show Act.put _ (some 24) _ = _
      simp only [Act.put, List.setIfInBounds_toArray, List.set_cons_zero, List.set_cons_succ, i64_w, i32_w]
      rfl
    refine one_ (i := 7) (N := some 25) #[true, true, true, true, true, true, true, true, false] rfl rfl (by kernel_rfl) (by decide) (fun K hK => ?_)
    refine goes_ Tryd.func29 (by kernel_rfl) rfl #[P k, .slice A4 (fewL q.l).length c4] (by rfl) rfl rfl (by (try simp only [List.map_toArray, List.map_cons, List.map_nil]); rfl) ?_
    refine (reset_w (HDW.out.new (Fr.of_below HB4.out [])) (HLW.out.new (Fr.of_below HB4.out [])) HL_.out HNB.out.1 HNB.out.2 HNM.out ns HO.out HIN.out.1 HIN.out.2 A4 c4 (fewL_ok q.l).1 (HC4.out _ (Fr.refl _ _)) (by have := HBL.out; have := fewL_bytes q.l; omega) HR_.out).mono ?_
    rintro e w5 ⟨c, D', rfl, dw5, did5, fr5, own5, way5⟩
    have DW5 := hid dw5
    have DD5 := hid did5
    have FR5 := hid fr5
    have OW5 := hid own5
    have WY5 := hid way5
    have hf5 : Fr (k :: D.own) w w5 := (Fr.of_below HB4.out _).trans fr5 (fun j hj => .inl hj)
    have hc15 : w5.cell? ⟨x, 1, none⟩ = some (P k) := (cell_of ((hf5.keep x HX.out HXO.out).trans HOB.out) 1).trans rfl
    have hq5 : w5.cell? ⟨w.heap.size, 1, none⟩ = some (.slice q.at_ q.l.length q.cap) := (cell_of ((fr5.keep w.heap.size (Nat.lt_of_lt_of_le HW1.out HW4.out) HWO.out).trans hqo) 1).trans rfl
    have HF5 := hid hf5
    clear dw5 did5 fr5 own5 way5 hf5
    refine ⟨_, rfl, ?_⟩
    refine hK.out _ _ ⟨hc15, hq5⟩ (fun hHeld => ?_)
    clear hK K
    refine norm_ (a' := ?_) ?_ ?_
    rotate_left
    · show Act.put _ (some 25) _ = _
      simp only [Act.put, List.setIfInBounds_toArray, List.set_cons_zero, List.set_cons_succ, i64_w, i32_w]
      rfl
    refine pure_ (i := 8) (N := some 7) (v := ?_) (a' := ?_) #[true, true, true, true, true, true, true, true, true] rfl rfl (by kernel_rfl) (fun _ _ _ h => h) (Or.inl ⟨by rfl, ?_⟩) ?_ ?_
    rotate_left
    · intro w'
      go_simp
      with_reducible rfl
    rotate_left
    · simp only [Act.put, List.setIfInBounds_toArray, List.set_cons_zero, List.set_cons_succ, i64_w, i32_w]
      rfl
    refine done_ (by kernel_rfl) ?_
    have m0 : ∀ z, (w5.drewN z).cell? ⟨x, 0, none⟩ = some (P D.d) := fun z => (cell_of ((HF5.out.keep x HX.out HXO.out).trans HOB.out) 0).trans rfl
    have HOP5 := hid (fun (z : Nat) => (show Calls Tryd.prog 17 #[P D.d] (w5.drewN z) fun e w' => e = .returned (.int .i64 D'.ops) ∧ w' = w5.drewN z from by rw [← DD5.out.d]; exact ops_calls (DW5.out.at_.drewN z)))
    have HM := hid (HMY.out w5 c D' DD5.out.d DW5.out HF5.out)
    have HSB := hid (OpsIn.refl D D' HDW.out.good (by have := HNB.out.1; omega) DD5.out)
    have hw12 := HSB.out.1
    have hle12 := HSB.out.2
    have HE := hid (show mayL t F c D.ops D'.ops = mayL t F c D.ops D'.ops from rfl)
    generalize hmy : mayL t F c D.ops D'.ops = my at *
    have HMYE := hid hmy
    clear hmy HE
    have HFIN := hid (fun (z : Nat) (b : Bool) (hb : b = (my || (c == 35))) => (show DidLay w0 w R N B k D name next G (nxt q G) F t (.returned (.tuple #[.int .i64 c, .bool b])) (w5.drewN z) from
      have f : Fr [] w5 (w5.drewN z) := Fr.of_drawn ⟨z, rfl⟩
      ⟨c, D', by rw [HMYE.out, hb], DW5.out.new f, DD5.out, HF5.out.trans f (fun j hj => by simp at hj), fun j hj => (OW5.out j hj).elim .inl (fun e => .inr (Nat.le_trans HB4.out.size e)), (HNX.out ▸ WY5.out : Ways w0 w5 R k D D' name G (nxt q G) c).new f⟩))
    cases my with
    | true =>
      go_upto_region 7 with (go_at_call 24; refine HM.out.mono ?_; rintro e w6 ⟨rfl, z, hz⟩; have hz2 := hz.symm; subst hz2; have m0z := m0 z)
      go_wp2_with (go_at_call 17; refine (HOP5.out z).mono ?_; rintro e w_ ⟨rfl, hww⟩; have hww2 := hww.symm; subst hww2)
      go_ret2
      exact HFIN.out z true (by simp)
    | false =>
      by_cases h35 : c = 35
      · have hb35 : (c == 35) = true := by simp [h35]
        clear h35
        go_upto_region 7 with (go_at_call 24; refine HM.out.mono ?_; rintro e w6 ⟨rfl, z, hz⟩; have hz2 := hz.symm; subst hz2; have m0z := m0 z)
        go_wp2_with (go_at_call 17; refine (HOP5.out z).mono ?_; rintro e w_ ⟨rfl, hww⟩; have hww2 := hww.symm; subst hww2)
        go_ret2
        exact HFIN.out z true (by simp [hb35])
      · have hb35 : (c == 35) = false := by simp [h35]
        clear h35
        go_upto_region 7 with (go_at_call 24; refine HM.out.mono ?_; rintro e w6 ⟨rfl, z, hz⟩; have hz2 := hz.symm; subst hz2; have m0z := m0 z)
        go_wp2_with (go_at_call 17; refine (HOP5.out z).mono ?_; rintro e w_ ⟨rfl, hww⟩; have hww2 := hww.symm; subst hww2)
        go_ret2
        exact HFIN.out z false (by simp [hb35])
  · have hb4 : (pv == 4) = false := by simp [h4]
    have HNX := hid (show nxt q G = G ++ [fewL q.l] from by rw [HN.out, if_neg h4])
    clear hvb HN
    go_enter Tryd.func19, Tryd.ntmps19
    go_upto_region 5 with (first | (go_at_call 17; refine (HOP.out _ (al_below w _)).mono ?_; rintro e w_ ⟨rfl, hww⟩; have hww2 := hww.symm; subst hww2) | (go_at_call 12; refine (HP.out _).mono ?_; rintro e w_ ⟨rfl, hww⟩; have hww2 := hww.symm; subst hww2))
    have mq : (w.alloc (boxObj q)).cell? ⟨w.heap.size, 1, none⟩ = some (.slice q.at_ q.l.length q.cap) := (cell_of (al_get w _) 1).trans rfl
    have m1 : (w.alloc (boxObj q)).cell? ⟨x, 1, none⟩ = some (P k) := (Below.cell (al_below w _) HX.out).trans HC1.out
    refine start_ (n := 9) (S := fun w' => w'.cell? ⟨x, 1, none⟩ = some (P k) ∧ w'.cell? ⟨w.heap.size, 1, none⟩ = some (.slice q.at_ q.l.length q.cap)) (ds := []) #[false, false, false, false, false, false, false, false, false] (by kernel_rfl) rfl rfl ⟨m1, mq⟩ (fun hHeld => ?_)
    refine pure_ (i := 0) (N := some 26) (v := ?_) (a' := ?_) #[true, false, false, false, false, false, false, false, false] rfl rfl (by kernel_rfl) (fun _ _ _ h => h) (Or.inl ⟨by rfl, ?_⟩) ?_ ?_
    rotate_left
    · intro w'
      go_simp
      with_reducible rfl
    rotate_left
    · simp only [Act.put, List.setIfInBounds_toArray, List.set_cons_zero, List.set_cons_succ, i64_w, i32_w]
      rfl
    refine pure_ (i := 1) (N := some 27) (v := ?_) (a' := ?_) #[true, true, false, false, false, false, false, false, false] rfl rfl (by kernel_rfl) (fun _ _ _ h => h) (Or.inl ⟨by rfl, ?_⟩) ?_ ?_
    rotate_left
    · intro w'
      go_simp
      with_reducible rfl
    rotate_left
    · simp only [Act.put, List.setIfInBounds_toArray, List.set_cons_zero, List.set_cons_succ, i64_w, i32_w]
      rfl
    refine pure_ (i := 2) (N := some 28) (v := ?_) (a' := ?_) #[true, true, true, false, false, false, false, false, false] rfl rfl (by kernel_rfl) (fun _ _ _ h => h) (Or.inl ⟨by rfl, ?_⟩) ?_ ?_
    rotate_left
    · intro w'
      go_simp
      with_reducible rfl
    rotate_left
    · simp only [Act.put, List.setIfInBounds_toArray, List.set_cons_zero, List.set_cons_succ, i64_w, i32_w]
      rfl
    refine take_ (i := 3) (N := some 29) (v := ?_) (a' := ?_) #[true, true, true, true, false, false, false, false, false] rfl rfl (by kernel_rfl) (fun _ _ _ h => h) (Or.inl ⟨by rfl, ?_⟩) hHeld ?_ ?_
    rotate_left
    · rintro w' ⟨s0, s1⟩
      go_simp
      with_reducible rfl
    rotate_left
    · simp only [Act.put, List.setIfInBounds_toArray, List.set_cons_zero, List.set_cons_succ, i64_w, i32_w]
      rfl
    refine pure_ (i := 4) (N := some 30) (v := ?_) (a' := ?_) #[true, true, true, true, true, false, false, false, false] rfl rfl (by kernel_rfl) (fun _ _ _ h => h) (Or.inl ⟨by rfl, ?_⟩) ?_ ?_
    rotate_left
    · intro w'
      go_simp
      with_reducible rfl
    rotate_left
    · simp only [Act.put, List.setIfInBounds_toArray, List.set_cons_zero, List.set_cons_succ, i64_w, i32_w]
      rfl
    refine take_ (i := 5) (N := some 31) (v := ?_) (a' := ?_) #[true, true, true, true, true, true, false, false, false] rfl rfl (by kernel_rfl) (fun _ _ _ h => h) (Or.inl ⟨by rfl, ?_⟩) hHeld ?_ ?_
    rotate_left
    · rintro w' ⟨s0, s1⟩
      go_simp
      with_reducible rfl
    rotate_left
    · simp only [Act.put, List.setIfInBounds_toArray, List.set_cons_zero, List.set_cons_succ, i64_w, i32_w]
      rfl
    have hBx := HX.out
    have hBw := HW1.out
    refine one_ (i := 6) (N := some 32) #[true, true, true, true, true, true, true, false, false] rfl rfl (by kernel_rfl) (by decide) (fun K hK => ?_)
    refine goes_ Tryd.func41 (by kernel_rfl) rfl #[.slice q.at_ q.l.length q.cap] (by rfl) rfl rfl (by (try simp only [List.map_toArray, List.map_cons, List.map_nil]); rfl) ?_
    refine (HF.out _ (below_drew HB1.out)).mono ?_
    rintro e W4 ⟨v4, rfl, hr4, hb4⟩
    obtain ⟨A4, c4, rfl⟩ := Kd.R_slice hr4
    have HB4 := hid (show Below w.heap.size w W4 from (below_drew HB1.out).trans (hb4.mono (by simp only [World.size_drew]; exact HB1.out.size)))
    have hq4 := (Below.cell hb4 (a := ⟨w.heap.size, 1, none⟩) (by simp only [World.size_drew]; exact hBw)).trans hHeld.2
    have hqo : W4.heap[w.heap.size]? = some (boxObj q) := (hb4.block _ (by simp only [World.size_drew]; exact HW1.out)).trans (al_get w _)
    have HW4 := hid (show (w.alloc (boxObj q)).heap.size ≤ W4.heap.size from by have := hb4.size; simpa only [World.size_drew] using this)
    have hc4 := CS_after (own := k :: D.own) hr4 (fun j hj => by
      simp only [World.size_drew, al_size]
      rcases List.mem_cons.1 hj with e | hj
      · have := HKL.out; omega
      · have := HDW.out.at_.lt _ hj; omega)
    have HC4 := hid hc4
    clear hr4 hb4 hc4
    refine ⟨_, rfl, ?_⟩
    refine hK.out _ _ ⟨(Below.cell HB4.out hBx).trans HC1.out, hq4⟩ (fun hHeld => ?_)
    clear hK K
    refine norm_ (a' := ?_) ?_ ?_
    rotate_left
    · show Act.put _ (some 32) _ = _
      simp only [Act.put, List.setIfInBounds_toArray, List.set_cons_zero, List.set_cons_succ, i64_w, i32_w]
      rfl
    refine one_ (i := 7) (N := some 33) #[true, true, true, true, true, true, true, true, false] rfl rfl (by kernel_rfl) (by decide) (fun K hK => ?_)
    refine goes_ Tryd.func11 (by kernel_rfl) rfl #[P k, .slice A4 (fewL q.l).length c4] (by rfl) rfl rfl (by (try simp only [List.map_toArray, List.map_cons, List.map_nil]); rfl) ?_
    refine (append_w (HDW.out.new (Fr.of_below HB4.out [])) (HLW.out.new (Fr.of_below HB4.out [])) HL_.out HNB.out.1 HNB.out.2 HNM.out ns HO.out HIN.out.1 HIN.out.2 A4 c4 (fewL_ok q.l).1 HC4.out (by have := HBL.out; have := fewL_bytes q.l; omega) HR_.out).mono ?_
    rintro e w5 ⟨c, D', rfl, dw5, did5, fr5, own5, way5⟩
    have DW5 := hid dw5
    have DD5 := hid did5
    have FR5 := hid fr5
    have OW5 := hid own5
    have WY5 := hid way5
    have hf5 : Fr (k :: D.own) w w5 := (Fr.of_below HB4.out _).trans fr5 (fun j hj => .inl hj)
    have hc15 : w5.cell? ⟨x, 1, none⟩ = some (P k) := (cell_of ((hf5.keep x HX.out HXO.out).trans HOB.out) 1).trans rfl
    have hq5 : w5.cell? ⟨w.heap.size, 1, none⟩ = some (.slice q.at_ q.l.length q.cap) := (cell_of ((fr5.keep w.heap.size (Nat.lt_of_lt_of_le HW1.out HW4.out) HWO.out).trans hqo) 1).trans rfl
    have HF5 := hid hf5
    clear dw5 did5 fr5 own5 way5 hf5
    refine ⟨_, rfl, ?_⟩
    refine hK.out _ _ ⟨hc15, hq5⟩ (fun hHeld => ?_)
    clear hK K
    refine norm_ (a' := ?_) ?_ ?_
    rotate_left
    · show Act.put _ (some 33) _ = _
      simp only [Act.put, List.setIfInBounds_toArray, List.set_cons_zero, List.set_cons_succ, i64_w, i32_w]
      rfl
    refine pure_ (i := 8) (N := some 7) (v := ?_) (a' := ?_) #[true, true, true, true, true, true, true, true, true] rfl rfl (by kernel_rfl) (fun _ _ _ h => h) (Or.inl ⟨by rfl, ?_⟩) ?_ ?_
    rotate_left
    · intro w'
      go_simp
      with_reducible rfl
    rotate_left
    · simp only [Act.put, List.setIfInBounds_toArray, List.set_cons_zero, List.set_cons_succ, i64_w, i32_w]
      rfl
    refine done_ (by kernel_rfl) ?_
    have m0 : ∀ z, (w5.drewN z).cell? ⟨x, 0, none⟩ = some (P D.d) := fun z => (cell_of ((HF5.out.keep x HX.out HXO.out).trans HOB.out) 0).trans rfl
    have HOP5 := hid (fun (z : Nat) => (show Calls Tryd.prog 17 #[P D.d] (w5.drewN z) fun e w' => e = .returned (.int .i64 D'.ops) ∧ w' = w5.drewN z from by rw [← DD5.out.d]; exact ops_calls (DW5.out.at_.drewN z)))
    have HM := hid (HMY.out w5 c D' DD5.out.d DW5.out HF5.out)
    have HSB := hid (OpsIn.refl D D' HDW.out.good (by have := HNB.out.1; omega) DD5.out)
    have hw12 := HSB.out.1
    have hle12 := HSB.out.2
    have HE := hid (show mayL t F c D.ops D'.ops = mayL t F c D.ops D'.ops from rfl)
    generalize hmy : mayL t F c D.ops D'.ops = my at *
    have HMYE := hid hmy
    clear hmy HE
    have HFIN := hid (fun (z : Nat) (b : Bool) (hb : b = (my || (c == 35))) => (show DidLay w0 w R N B k D name next G (nxt q G) F t (.returned (.tuple #[.int .i64 c, .bool b])) (w5.drewN z) from
      have f : Fr [] w5 (w5.drewN z) := Fr.of_drawn ⟨z, rfl⟩
      ⟨c, D', by rw [HMYE.out, hb], DW5.out.new f, DD5.out, HF5.out.trans f (fun j hj => by simp at hj), fun j hj => (OW5.out j hj).elim .inl (fun e => .inr (Nat.le_trans HB4.out.size e)), (HNX.out ▸ WY5.out : Ways w0 w5 R k D D' name G (nxt q G) c).new f⟩))
    cases my with
    | true =>
      go_upto_region 7 with (go_at_call 24; refine HM.out.mono ?_; rintro e w6 ⟨rfl, z, hz⟩; have hz2 := hz.symm; subst hz2; have m0z := m0 z)
      go_wp2_with (go_at_call 17; refine (HOP5.out z).mono ?_; rintro e w_ ⟨rfl, hww⟩; have hww2 := hww.symm; subst hww2)
      go_ret2
      exact HFIN.out z true (by simp)
    | false =>
      by_cases h35 : c = 35
      · have hb35 : (c == 35) = true := by simp [h35]
        clear h35
        go_upto_region 7 with (go_at_call 24; refine HM.out.mono ?_; rintro e w6 ⟨rfl, z, hz⟩; have hz2 := hz.symm; subst hz2; have m0z := m0 z)
        go_wp2_with (go_at_call 17; refine (HOP5.out z).mono ?_; rintro e w_ ⟨rfl, hww⟩; have hww2 := hww.symm; subst hww2)
        go_ret2
        exact HFIN.out z true (by simp [hb35])
      · have hb35 : (c == 35) = false := by simp [h35]
        clear h35
        go_upto_region 7 with (go_at_call 24; refine HM.out.mono ?_; rintro e w6 ⟨rfl, z, hz⟩; have hz2 := hz.symm; subst hz2; have m0z := m0 z)
        go_wp2_with (go_at_call 17; refine (HOP5.out z).mono ?_; rintro e w_ ⟨rfl, hww⟩; have hww2 := hww.symm; subst hww2)
        go_ret2
        exact HFIN.out z false (by simp [hb35])
end Go.Proofs.YthlmbgaipbjbhaaDoor.L
