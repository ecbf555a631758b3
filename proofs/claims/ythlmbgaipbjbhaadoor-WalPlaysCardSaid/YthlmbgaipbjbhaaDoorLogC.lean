/- whole, Append, Reset: a log's calls. Append: a group more; groups that are refused. -/
import Derived.Test.YthlmbgaipbjbhaaDoorLogA
import Derived.StillTailTactics
section
namespace Go.Proofs.YthlmbgaipbjbhaaDoor.L
open Go.RowKit Go.Lib Go.Maps Go.Proofs.YthlmbgaipbjbhaaDoor.P
open Go.Proofs.YthlmbgaipbjbhaaDoorW.PrintWords Go.Proofs.YthlmbgaipbjbhaaDoorW.PrintLast Go.Proofs.YthlmbgaipbjbhaaDoorW.PrintMore
attribute [local go_sem] max2_int min2_int max_two min_two
set_option linter.unusedVariables false
section
variable {w w0 w1 w2 : World} {k : Nat} {N B R M : Nat} {D D0 D1 D2 : Dk} {name next : ByteArray} {size size' : Int} {ready ready' torn torn' : Bool} {l : List Int} {G : List (List ByteArray)} {g : List ByteArray} {c : Int}
theorem LG.trans (h : LG w0 w1 k D0 D name size ready torn) (h' : LG w1 w2 k D D1 name size' ready' torn') : LG w0 w2 k D0 D1 name size' ready' torn' :=
  ⟨h'.at_, h'.log, h.fr.trans h'.fr (fun j hj => by
    rcases List.mem_cons.1 hj with e | hj
    · exact .inl (by rw [e]; exact List.mem_cons_self)
    · exact (h.own j hj).imp (List.mem_cons_of_mem _) id), fun j hj => by
    rcases h'.own j hj with e | e
    · exact h.own j e
    · exact .inr (Nat.le_trans h.fr.size e), fun j hj => by
    rcases h'.box j hj with e | e
    · exact h.box j e
    · exact .inr (Nat.le_trans h.fr.size e), h.off⟩
theorem LG.again (h : LG w0 w k D0 D name size ready torn) : LG w w k D D name size ready torn := LG.start h.at_ h.log h.koff.1 h.koff.2
theorem LG.lt (h : LG w0 w k D0 D name size ready torn) : ∀ j ∈ k :: D.own, j < w.heap.size := fun j hj => by
  rcases List.mem_cons.1 hj with e | hj
  · rw [e]; exact lt_of h.log
  · exact h.at_.lt j hj
theorem LG.row (h : LG w w1 k D D1 name size ready torn) (hlow : ∀ j, j ∈ D1.own ∨ j ∈ D1.boxes → j < w.heap.size) (hb : Below w.heap.size w1 w2) : LG w w2 k D D1 name size ready torn :=
  ⟨h.at_.keep (fun j hj _ => hb.block j (hlow j hj)), (hb.block k h.off.2.2).trans h.log, ⟨hb.os.trans h.fr.os, hb.tape.trans h.fr.tape, hb.output.trans h.fr.output, Nat.le_trans h.fr.size hb.size, fun j hj hn => (hb.block j hj).trans (h.fr.keep j hj hn)⟩, h.own, h.box, h.off⟩
theorem C_after {base : Nat} {A : Option Addr} {c : Nat} {own : List Nat} (h : Kd.R kB 5 w1 base (fun _ => True) (.slice A l.length c) l) (hlt : ∀ j ∈ own, j < base) : ∀ W, Fr own w1 W → Kd.C kB W A l.length l := fun W f => by
  have r := Kd.R_step (Kd.R_mono (Kd.R_bound h) (fun k hk => hk.2.1)) (fun k hk hlt' => f.keep k hlt' (fun hm => by have := hlt k hm; have : base ≤ k := hk; omega))
  obtain ⟨A', c', e, _, hC⟩ := Kd.R_reads r
  injection e with e1 e2 e3
  rw [e1]; exact hC
def WholePost (N B k : Nat) (D : Dk) (name : ByteArray) (size : Int) (ready torn : Bool) (b0 : List Int) (sz : Nat) (w : World) (e : Ending) (w' : World) : Prop := ∃ (c' : Int) (D' : Dk) (v : Value) (lst : List Int), e = .returned (.tuple #[v, .int .i64 c']) ∧ Kd.R kB 5 w' w.heap.size (fun _ => True) v lst ∧ LG w w' k D D' name size ready torn ∧ Good (N + 2) B D' ∧ Did (fun _ => False) 1 D D' ∧ (∀ j, j ∈ D'.own ∨ j ∈ D'.boxes → j < w.heap.size) ∧ ((c' = 0 ∧ lst = b0.take sz) ∨ (c' = 35 ∧ D.dead = true) ∨ (c' = 34 ∧ 0 < D.fails D.ops ∧ D'.ops = D.ops + 1))
set_option maxHeartbeats 16000000 in
set_option maxRecDepth 100000 in
theorem whole_calls (h : LG w w k D D name size ready torn) (g : Good N B D) (hN : N + 8 < 1048576) (hB : B ≤ 140737488355327) (hs : nameOk name = true) (b0 : List Int) (hf : Firm D name (some b0)) (sz : Nat) (hsz : size = sz) (hsl : sz ≤ b0.length) :
    Calls Tryd.prog 36 #[P k] w fun e w' => WholePost N B k D name size ready torn b0 sz w e w' := by
  subst hsz
  obtain ⟨f, hff, hd, hfb, _⟩ := hf.yes b0 rfl
  have h0 := h.c0
  have h1 := h.c1
  have HG := hid h
  have hsl2 := name_short hs
  have HSZ := hid (fun (W : World) (hW : Fr [] w W) => size_some (h.at_.new hW) name (by unfold maxLen; omega) f hff hd)
  have HRD := hid (fun (W : World) (hW : Fr [] w W) => read_any (h.at_.new hW) g (by omega) hB name hs f hff hd)
  have HB0 := hid hfb
  have HLOW := hid (show ∀ j, j ∈ D.own ∨ j ∈ D.boxes → j < w.heap.size from fun j hj => hj.elim (h.at_.lt j) (h.at_.blt j))
  clear h g hf hd hff
  rw [hfb] at HSZ HRD
  clear hfb
  go_enter Tryd.func36, Tryd.ntmps36
  go_upto_region 1 with fail
  go_region_held3 (fun w_ => w_.cell? ⟨k, 0, none⟩ = some (P D.d) ∧ w_.cell? ⟨k, 1, none⟩ = some (.string name)) (first | exact ⟨h0, h1⟩ | exact ⟨m0, m1⟩ | go_keep) (first | (go_at_call 21; refine (HSZ.out _ (Fr.refl [] w).drew).mono ?_; rintro e w1 ⟨rfl, hww⟩; have GW := hid (show LG w w1 k D D name sz ready torn from by rw [hww]; exact HG.out.new (Fr.refl [] w).drew); have HFW := hid (show Fr [] w w1 from by rw [hww]; exact (Fr.refl [] w).drew); have m0 := GW.out.c0; have m1 := GW.out.c1; clear hww))
  go_upto_region 3 with fail
  have h0 := GW.out.c0
  have h1 := GW.out.c1
  go_region_held3 (fun w_ => w_.cell? ⟨k, 0, none⟩ = some (P D.d) ∧ w_.cell? ⟨k, 1, none⟩ = some (.string name)) (first | exact ⟨h0, h1⟩ | exact ⟨m0, m1⟩ | go_keep) (first | (go_at_call 31; refine (HRD.out _ (HFW.out.drew)).mono ?_; rintro e w2 ⟨c2, D2, v9, lst, rfl, r9, gg, g2, d2, hc2⟩; have G2 := hid ((GW.out.new (Fr.refl [] w1).drew).step gg d2.d); have R9 := hid r9; have Hg2 := hid g2; have Hd2 := hid d2; have HC2 := hid hc2; have HSS := hid (show w.heap.size ≤ w1.drew.heap.size from HFW.out.drew.size); have m0 : w2.cell? ⟨k, 0, none⟩ = some (P D.d) := (G2.out.c0).trans (by rw [d2.d]); have m1 := G2.out.c1; clear gg g2 d2 hc2 r9))
  obtain ⟨A9, c9, hv9⟩ := B_slice R9.out
  subst hv9
  have q2 := G2.out.c2
  have hle : c2 = 0 → sz ≤ lst.length := fun e => by
    rcases HC2.out with ⟨e2, _⟩ | ⟨e2, _⟩ | ⟨_, _, e2⟩
    · rw [e] at e2; cases e2
    · rw [e] at e2; cases e2
    · rw [e2]; exact hsl
  obtain ⟨inner, ho⟩ := Kd.R_own R9.out
  obtain ⟨A', c', e9, hlc, hC9⟩ := Kd.R_reads R9.out
  injection e9 with e91 _ e93
  subst e91; subst e93
  by_cases hm : sz < lst.length
  · have hmn : ((sz : Nat) : Int) < (lst.length : Int) := by omega
    obtain ⟨M, hM, hq, _⟩ := takeB w2 A9 c9 lst sz (sz : Int) rfl hC9 (by omega) hlc
    have hMl : M.length = sz := by rw [hM, List.length_take]; omega
    rw [hMl] at hq
    have HRT := hid (Kd.R_take R9.out (show sz ≤ lst.length by omega))
    clear hM hMl hle hm
    go_wp2
    all_goals (try (exfalso; omega))
    go_ret2
    unfold WholePost
    refine ⟨c2, D2, _, lst.take sz, rfl, Kd.R_lower HRT.out (by exact HSS.out), G2.out, Hg2.out, Hd2.out, (by rcases HC2.out with ⟨_, _, rfl, _⟩ | ⟨_, _, rfl, _⟩ | ⟨_, rfl, _⟩ <;> exact HLOW.out), ?_⟩
    rcases HC2.out with ⟨e2, hdd, _⟩ | ⟨e2, h2, rfl, _⟩ | ⟨e2, _, e3⟩
    · exact .inr (.inl ⟨e2, hdd⟩)
    · exact .inr (.inr ⟨e2, h2, rfl⟩)
    · exact .inl ⟨e2, by rw [e3]⟩
  · have hmn : ((lst.length : Nat) : Int) ≤ (sz : Int) := by omega
    obtain ⟨M, hM, hq, _⟩ := takeB w2 A9 c9 lst lst.length (lst.length : Int) rfl hC9 (Nat.le_refl _) hlc
    have hMl : M.length = lst.length := by rw [hM, List.length_take]; omega
    rw [hMl] at hq
    have HLE := hid (fun (e : c2 = 0) => (show lst = b0.take sz from by
      rcases HC2.out with ⟨e2, _⟩ | ⟨e2, _⟩ | ⟨_, _, e3⟩
      · rw [e] at e2; cases e2
      · rw [e] at e2; cases e2
      · rw [List.take_of_length_le (by rw [← e3]; omega)]; exact e3))
    by_cases he : lst.length = sz
    · have hq2 : ∀ W : World, (Instr.slice 33 (.slice A9 lst.length c9) none (some (.int .i64 (sz : Int))) none).run Tryd.prog W = .ok (.slice A9 lst.length c9) W := fun W => by rw [← he]; exact hq W
      have HE := hid he
      clear hM hMl hle hm he
      go_wp2
      all_goals (try (exfalso; omega))
      all_goals (
        go_ret2
        unfold WholePost
        refine ⟨c2, D2, _, lst, rfl, Kd.R_lower R9.out (by exact HSS.out), G2.out, Hg2.out, Hd2.out, (by rcases HC2.out with ⟨_, _, rfl, _⟩ | ⟨_, _, rfl, _⟩ | ⟨_, rfl, _⟩ <;> exact HLOW.out), ?_⟩
        rcases HC2.out with ⟨e2, hdd, _⟩ | ⟨e2, h2, rfl, _⟩ | ⟨e2, _, e3⟩
        · exact .inr (.inl ⟨e2, hdd⟩)
        · exact .inr (.inr ⟨e2, h2, rfl⟩)
        · exact .inl ⟨e2, HLE.out e2⟩)
    · have hlt3 : ((lst.length : Nat) : Int) < (sz : Int) := by omega
      clear hM hMl hle hm he
      go_wp2
      all_goals (try (exfalso; omega))
      go_ret2
      unfold WholePost
      refine ⟨c2, D2, _, lst, rfl, Kd.R_lower R9.out (by exact HSS.out), G2.out, Hg2.out, Hd2.out, (by rcases HC2.out with ⟨_, _, rfl, _⟩ | ⟨_, _, rfl, _⟩ | ⟨_, rfl, _⟩ <;> exact HLOW.out), ?_⟩
      rcases HC2.out with ⟨e2, hdd, _⟩ | ⟨e2, h2, rfl, _⟩ | ⟨e2, _, e3⟩
      · exact .inr (.inl ⟨e2, hdd⟩)
      · exact .inr (.inr ⟨e2, h2, rfl⟩)
      · exact .inl ⟨e2, HLE.out e2⟩
def Log (D : Dk) (name : ByteArray) (G : List (List ByteArray)) (size : Int) (ready torn : Bool) : Prop :=
  ∃ t, Tail t ∧ Lies D name (encs G ++ t) ready ∧ size = (encs G).length ∧ (torn = true ↔ t ≠ [])
def Reads (b : List Int) (G : List (List ByteArray)) : Prop := ∃ t, Tail t ∧ b = encs G ++ t
def LogTo (R : Nat) (D D' : Dk) (name : ByteArray) (G : List (List ByteArray)) (H : List (List ByteArray)) (size' : Int) (ready' torn' : Bool) (c : Int) : Prop :=
  (c = 0 ∧ Log D' name H size' ready' torn') ∨ (c = 35 ∧ Gone D ∧ Cuts D' name (fun o => Reads (o.getD []) G ∨ Reads (o.getD []) H)) ∨ (Why D D' c R ∧ Log D' name G size' ready' torn')
theorem enc_ne (g : List ByteArray) : enc g ≠ [] := fun h => by
  have := enc_length g
  rw [h, List.length_nil] at this
  omega
theorem tail_take (hg : GOk g) {n : Nat} (hn : n ≤ (enc g).length) : Reads (encs G ++ (enc g).take n) G ∨ Reads (encs G ++ (enc g).take n) (G ++ [g]) := by
  by_cases h : n < (enc g).length
  · exact .inl ⟨_, ⟨g, n, hg, h, rfl⟩, rfl⟩
  · rw [List.take_of_length_le (by omega)]
    exact .inr ⟨[], Tail.nil, by rw [encs_append, encs_one, List.append_nil]⟩
theorem put_log (hg : GOk g) {D' : Dk} (h : PutTo R D D' name (encs G) (enc g) size size' ready' c) (hs : size = (encs G).length) : LogTo R D D' name G (G ++ [g]) size' ready' false c := by
  rcases h with ⟨e, h1, h2, h3⟩ | ⟨e, hgn, h1⟩ | ⟨h1, h2, h3⟩
  · refine .inl ⟨e, [], Tail.nil, ?_, ?_, by simp⟩
    · rw [encs_append, encs_one, List.append_nil, h2]; exact h3
    · rw [h1, hs, encs_append, encs_one, List.length_append]; omega
  · exact .inr (.inl ⟨e, hgn, h1.mono (fun o ⟨n, hn, ho⟩ => by rw [ho]; exact tail_take hg hn)⟩)
  · exact .inr (.inr ⟨h1, [], Tail.nil, by rw [List.append_nil]; exact h3, by rw [h2, hs], by simp⟩)
theorem new_log {H : List (List ByteArray)} {t : List Int} (ht : Tail t) {D' : Dk} (h : NewTo R D D' name (encs G ++ t) (encs H) size size' ready ready' torn torn' c) (hs : size = (encs G).length) (htt : torn = true ↔ t ≠ []) : LogTo R D D' name G H size' ready' torn' c := by
  rcases h with ⟨e, h1, h2, h3, h4⟩ | ⟨e, hgn, h1⟩ | ⟨h1, h2, h3, h4, h5⟩
  · exact .inl ⟨e, [], Tail.nil, by rw [List.append_nil, h2]; exact h4, h1, by rw [h3]; simp⟩
  · refine .inr (.inl ⟨e, hgn, h1.mono (fun o ho => ?_)⟩)
    rcases ho with ho | ho
    · exact .inl ⟨t, ht, ho⟩
    · exact .inr ⟨[], Tail.nil, by rw [ho, List.append_nil]⟩
  · exact .inr (.inr ⟨h1, t, ht, by rw [h3]; exact h5, by rw [h2, hs], by rw [h4]; exact htt⟩)
structure Named (name next : ByteArray) : Prop where
  nok : nameOk name = true
  nx : next = name ++ ⟨#[126]⟩
  nok2 : nameOk next = true
  nne : next ≠ name
def CallPost (R N B k : Nat) (D : Dk) (name next : ByteArray) (G H : List (List ByteArray)) (w : World) (e : Ending) (w' : World) : Prop :=
  ∃ (c' : Int) (D' : Dk) (size' : Int) (ready' torn' : Bool), e = .returned (.int .i64 c') ∧ LG w w' k D D' name size' ready' torn' ∧ Good (N + 16) B D' ∧ Did (fun x => x = name ∨ x = next) 7 D D' ∧ LogTo R D D' name G H size' ready' torn' c'
set_option maxHeartbeats 32000000 in
set_option maxRecDepth 100000 in
theorem reset_calls (h : LG w w k D D name size ready torn) (hLd : Laid w) (gd : Good N B D) (hN : N + 32 < 1048576) (hB : B < 1099511627776) (hnm : Named name next) (ns : List ByteArray) (o : Only (fun x => x ∈ ns) D) (hin : name ∈ ns) (hin2 : next ∈ ns) (A : Option Addr) (c : Nat) (hg : GOk g) (hC : Kd.C Kd.string w A g.length g) (hl : Log D name G size ready torn) (hbl : (enc g).length ≤ B) (hR : R = (ns.length + 1) * B) :
    Calls Tryd.prog 29 #[P k, .slice A g.length c] w fun e w' => CallPost R N B k D name next G [g] w e w' := by
  obtain ⟨t, ht, hli, hsz, htt⟩ := hl
  have HFL := hid (fails_calls w k A c g hC (by have := hg.1; omega) (by have := hg.2; omega))
  rw [gCode_ok hg] at HFL
  have HFR := hid (fun (W : World) (hW : Below w.heap.size w W) => frame_calls W (hLd.below hW) A c g (Kd.C_below hC hW) hg)
  have HAN := hid (fun (W : World) (v : Value) (hb : Below w.heap.size w W) (A2 : Option Addr) (c2 : Nat) (hr : Kd.R kB 5 W w.heap.size (fun _ => True) (.slice A2 (enc g).length c2) (enc g)) => anew_calls (h.new (Fr.of_below hb [])).again gd (by omega) hB hnm.nok hnm.nx hnm.nok2 hnm.nne ns o hin hin2 A2 c2 (C_after hr h.lt) (enc_ne g) hli hbl hR)
  have HG := hid h
  have HT := hid (And.intro ht (And.intro hsz htt))
  clear h hLd gd o hC hli ht hsz htt
  generalize hgl : g.length = gl at *
  go_enter Tryd.func29, Tryd.ntmps29
  go_upto_region 4 with (go_at_call 33; refine HFL.out.mono ?_; rintro e w_ ⟨rfl, hww⟩; have hww2 := hww.symm; subst hww2)
  go_region_with (first
    | (go_at_call 35; refine (HFR.out _ (by repeat (first | exact Below.refl _ _ | apply pw_below_drewN | apply below_alloc | apply below_drew))).mono ?_; rintro e w2 ⟨v2, rfl, hr2, hb2⟩; have B2 := hid (show Below w.heap.size w w2 from ((by repeat (first | exact Below.refl _ _ | apply pw_below_drewN | apply below_alloc | apply below_drew)) : Below w.heap.size w _).trans (hb2.mono (by simp only [World.size_drew]; omega))); obtain ⟨A2, c2, rfl⟩ := B_slice hr2; have R2 := hid (Kd.R_lower hr2 (show w.heap.size ≤ _ by simp only [World.size_drew]; omega)); clear hr2 hb2)
    | (go_at_call 37; refine (HAN.out _ (.slice A2 (enc g).length c2) B2.out A2 c2 R2.out).mono ?_; intro e w3 hp; obtain ⟨c', D', size', ready', torn', rfl, g3, g4, d3, n3⟩ := hp; have G3 := hid g3; have Hg3 := hid g4; have Hd3 := hid d3; have HN3 := hid n3; clear g3 g4 d3 n3))
  all_goals (
    go_wp2
    go_ret
    unfold CallPost
    exact ⟨c', D', size', ready', torn', rfl, (HG.out.new (Fr.of_below B2.out [])).trans G3.out, Hg3.out.mono (by omega) (Nat.le_refl _), Hd3.out.wider (fun _ hx => hx) (by omega), new_log HT.out.1 (by rw [encs_one]; exact HN3.out) HT.out.2.1 HT.out.2.2⟩)
end
end Go.Proofs.YthlmbgaipbjbhaaDoor.L
end
section
namespace Go.Proofs.YthlmbgaipbjbhaaDoor.L
open Go.RowKit Go.Lib Go.Maps Go.Proofs.YthlmbgaipbjbhaaDoor.P
open Go.Proofs.YthlmbgaipbjbhaaDoorW.PrintWords Go.Proofs.YthlmbgaipbjbhaaDoorW.PrintLast Go.Proofs.YthlmbgaipbjbhaaDoorW.PrintMore
set_option linter.unusedVariables false
section
variable {w w0 w1 w2 : World} {k : Nat} {N B R M : Nat} {D D0 D1 D2 : Dk} {name next : ByteArray} {size size' : Int} {ready ready' torn torn' : Bool} {l : List Int} {G : List (List ByteArray)} {g : List ByteArray} {c : Int}
theorem CallPost.mono {H : List (List ByteArray)} {e : Ending} {w' : World} (h : CallPost R N B k D name next G H w e w') (hN : N ≤ M) : CallPost R M B k D name next G H w e w' := by
  obtain ⟨c', D', size', ready', torn', he, a, b, d, n⟩ := h
  exact ⟨c', D', size', ready', torn', he, a, b.mono (by omega) (Nat.le_refl _), d, n⟩
theorem LogTo.before {T : ByteArray → Prop} {j : Nat} {H : List (List ByteArray)} (h : LogTo R D1 D2 name G H size' ready' torn' c) (d : Did T j D D1) : LogTo R D D2 name G H size' ready' torn' c := by
  rcases h with h | ⟨e, hgn, h⟩ | ⟨h, hl⟩
  · exact .inl h
  · exact .inr (.inl ⟨e, gone_before d hgn, h⟩)
  · refine .inr (.inr ⟨?_, hl⟩)
    rcases h with ⟨e, hr⟩ | ⟨e, t, h1, h2, h3⟩
    · exact .inl ⟨e, by rw [← d.room]; exact hr⟩
    · exact .inr ⟨e, t, by have := d.lo; omega, h2, by rw [← d.fails]; exact h3⟩
theorem Did.two {T T' T2 : ByteArray → Prop} {j i m : Nat} (h : Did T j D D1) (h' : Did T' i D1 D2) (hT : ∀ x, T x → T2 x) (hT' : ∀ x, T' x → T2 x) (hm : j + i ≤ m) : Did T2 m D D2 :=
  ((h.wider hT (Nat.le_refl _)).trans (h'.wider hT' (Nat.le_refl _))).wider (fun _ hx => hx) hm
theorem Log.did {T : ByteArray → Prop} {j : Nat} (h : Log D name G size ready torn) (d : Did T j D D1) (hT : ∀ x, T x → x ≠ name) : Log D1 name G size ready torn := by
  obtain ⟨t, a, b, c⟩ := h
  exact ⟨t, a, b.did d hT, c⟩
set_option maxHeartbeats 32000000 in
set_option maxRecDepth 100000 in
theorem append_false (h : LG w w k D D name size ready torn) (hLd : ∀ W, Fr (k :: D.own) w W → Laid W) (gd : Good N B D) (hN : N + 40 < 1048576) (hB : B < 1099511627776) (hnm : Named name next) (ns : List ByteArray) (o : Only (fun x => x ∈ ns) D) (hin : name ∈ ns) (hin2 : next ∈ ns) (A : Option Addr) (c : Nat) (hg : GOk g) (hC : ∀ W, Fr (k :: D.own) w W → Kd.C Kd.string W A g.length g) (hl : Log D name G size ready torn) (hbl : (encs G).length + (enc g).length ≤ B) (hR : R = (ns.length + 1) * B) (hff : torn = false) :
    Calls Tryd.prog 11 #[P k, .slice A g.length c] w fun e w' => CallPost R N B k D name next G (G ++ [g]) w e w' := by
  obtain ⟨t, ht, hli, hsz, htt⟩ := hl
  have HFL := hid (fails_calls w k A c g (hC w (Fr.refl _ _)) (by have := hg.1; omega) (by have := hg.2; omega))
  rw [gCode_ok hg] at HFL
  have HFR := hid (fun (W : World) (hW : Below w.heap.size w W) => frame_calls W (hLd W (Fr.of_below hW _)) A c g (hC W (Fr.of_below hW _)) hg)
  have HG := hid h
  have c4 := h.c4
  cases torn with
  | false =>
    obtain rfl : t = [] := by
      cases t with
      | nil => rfl
      | cons a r => exact absurd (htt.2 (by simp)) (by decide)
    rw [List.append_nil] at hli
    have HPU := hid (fun (W : World) (hb : Below w.heap.size w W) (A2 : Option Addr) (c2 : Nat) (hr : Kd.R kB 5 W w.heap.size (fun _ => True) (.slice A2 (enc g).length c2) (enc g)) => put_calls (h.new (Fr.of_below hb [])).again gd (by omega) hB hnm.nok ns o hin A2 c2 (C_after hr h.lt) (enc_ne g) hli hbl (by rw [hsz]; omega) hR)
    have HSZ := hid hsz
    clear h hLd gd o hC hli ht hsz htt
    generalize hgl : g.length = gl at *
    go_enter Tryd.func11, Tryd.ntmps11
    go_upto_region 5 with (go_at_call 33; refine HFL.out.mono ?_; rintro e w_ ⟨rfl, hww⟩; have hww2 := hww.symm; subst hww2)
    go_region_with (first
      | (go_at_call 35; refine (HFR.out _ (by repeat (first | exact Below.refl _ _ | apply pw_below_drewN | apply below_alloc | apply below_drew))).mono ?_; rintro e w2 ⟨v2, rfl, hr2, hb2⟩; have B2 := hid (show Below w.heap.size w w2 from ((by repeat (first | exact Below.refl _ _ | apply pw_below_drewN | apply below_alloc | apply below_drew)) : Below w.heap.size w _).trans (hb2.mono (by simp only [World.size_drew]; omega))); obtain ⟨A2, c2, rfl⟩ := B_slice hr2; have R2 := hid (Kd.R_lower hr2 (show w.heap.size ≤ _ by simp only [World.size_drew]; omega)); clear hr2 hb2)
      | (go_at_call 34; refine (HPU.out _ B2.out A2 c2 R2.out).mono ?_; rintro e w3 ⟨c', D', size', ready', rfl, g3, g4, d3, n3⟩; have G3 := hid g3; have Hg3 := hid g4; have Hd3 := hid d3; have HN3 := hid n3; clear g3 g4 d3 n3))
    all_goals (
      go_wp2
      go_ret
      unfold CallPost
      exact ⟨c', D', size', ready', false, rfl, (HG.out.new (Fr.of_below B2.out [])).trans G3.out, Hg3.out.mono (by omega) (Nat.le_refl _), Hd3.out.wider (fun _ hx => Or.inl hx) (by omega), put_log hg HN3.out HSZ.out⟩)
  | true => exact absurd hff (by decide)
end
end Go.Proofs.YthlmbgaipbjbhaaDoor.L
end
