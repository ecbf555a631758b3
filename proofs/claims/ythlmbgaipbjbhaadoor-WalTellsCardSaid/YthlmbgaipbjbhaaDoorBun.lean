/- Append: a group more; groups that are refused. Append: a group more; groups that are refused. A disk, and a log on it, since a world w0: what each call leaves. -/
import Derived.Test.YthlmbgaipbjbhaaDoorLogB
import Derived.StillTailTactics
import Derived.Test.YthlmbgaipbjbhaaDoorOpen
section
namespace Go.Proofs.YthlmbgaipbjbhaaDoor.L
open Go.RowKit Go.Lib Go.Maps Go.Proofs.YthlmbgaipbjbhaaDoor.P
open Go.Proofs.YthlmbgaipbjbhaaDoorW.PrintWords Go.Proofs.YthlmbgaipbjbhaaDoorW.PrintLast Go.Proofs.YthlmbgaipbjbhaaDoorW.PrintMore
set_option linter.unusedVariables false
section
variable {w w0 w1 w2 : World} {k : Nat} {N B R M : Nat} {D D0 D1 D2 : Dk} {name next : ByteArray} {size size' : Int} {ready ready' torn torn' : Bool} {l : List Int} {G : List (List ByteArray)} {g : List ByteArray} {c : Int}
theorem CallPost.mono {H : List (List ByteArray)} {e : Ending} {w' : World} (h : CallPost R N B k D name next G H w e w') (hN : N ≤ M) : CallPost R M B k D name next G H w e w' := by
  obtain ⟨c', D', size', ready', torn', he, a, b, d, n⟩ := h
  exact ⟨c', D', size', ready', torn', he, a, b.mono (by omega) (Nat.le_refl _), d, n⟩
theorem LogTo.before {T : ByteArray → Prop} {j : Nat} {H : List (List ByteArray)} (h : LogTo R D1 D2 name G H size' ready' torn' c) (d : Did T j D D1) : LogTo R D D2 name G H size' ready' torn' c := by
  rcases h with h | ⟨e, hgn, h⟩ | ⟨h, hl⟩
  · exact .inl h
  · exact .inr (.inl ⟨e, gone_before d hgn, h⟩)
  · refine .inr (.inr ⟨?_, hl⟩)
    rcases h with ⟨e, hr⟩ | ⟨e, t, h1, h2, h3⟩
    · exact .inl ⟨e, by rw [← d.room]; exact hr⟩
    · exact .inr ⟨e, t, by have := d.lo; omega, h2, by rw [← d.fails]; exact h3⟩
theorem Did.two {T T' T2 : ByteArray → Prop} {j i m : Nat} (h : Did T j D D1) (h' : Did T' i D1 D2) (hT : ∀ x, T x → T2 x) (hT' : ∀ x, T' x → T2 x) (hm : j + i ≤ m) : Did T2 m D D2 :=
  ((h.wider hT (Nat.le_refl _)).trans (h'.wider hT' (Nat.le_refl _))).wider (fun _ hx => hx) hm
theorem Log.did {T : ByteArray → Prop} {j : Nat} (h : Log D name G size ready torn) (d : Did T j D D1) (hT : ∀ x, T x → x ≠ name) : Log D1 name G size ready torn := by
  obtain ⟨t, a, b, c⟩ := h
  exact ⟨t, a, b.did d hT, c⟩
set_option maxHeartbeats 32000000 in
set_option maxRecDepth 100000 in
theorem append_false (h : LG w w k D D name size ready torn) (hLd : ∀ W, Fr (k :: D.own) w W → Laid W) (gd : Good N B D) (hN : N + 40 < 1048576) (hB : B < 1099511627776) (hnm : Named name next) (ns : List ByteArray) (o : Only (fun x => x ∈ ns) D) (hin : name ∈ ns) (hin2 : next ∈ ns) (A : Option Addr) (c : Nat) (hg : GOk g) (hC : ∀ W, Fr (k :: D.own) w W → Kd.C Kd.string W A g.length g) (hl : Log D name G size ready torn) (hbl : (encs G).length + (enc g).length ≤ B) (hR : R = (ns.length + 1) * B) (hff : torn = false) :
    Calls Tryd.prog 11 #[P k, .slice A g.length c] w fun e w' => CallPost R N B k D name next G (G ++ [g]) w e w' := by
  obtain ⟨t, ht, hli, hsz, htt⟩ := hl
  have HFL := hid (fails_calls w k A c g (hC w (Fr.refl _ _)) (by have := hg.1; omega) (by have := hg.2; omega))
  rw [gCode_ok hg] at HFL
  have HFR := hid (fun (W : World) (hW : Below w.heap.size w W) => frame_calls W (hLd W (Fr.of_below hW _)) A c g (hC W (Fr.of_below hW _)) hg)
  have HG := hid h
  have c4 := h.c4
  cases torn with
  | false =>
    obtain rfl : t = [] := by
      cases t with
      | nil => rfl
      | cons a r => exact absurd (htt.2 (by simp)) (by decide)
    rw [List.append_nil] at hli
    have HPU := hid (fun (W : World) (hb : Below w.heap.size w W) (A2 : Option Addr) (c2 : Nat) (hr : Kd.R kB 5 W w.heap.size (fun _ => True) (.slice A2 (enc g).length c2) (enc g)) => put_calls (h.new (Fr.of_below hb [])).again gd (by omega) hB hnm.nok ns o hin A2 c2 (C_after hr h.lt) (enc_ne g) hli hbl (by rw [hsz]; omega) hR)
    have HSZ := hid hsz
    clear h hLd gd o hC hli ht hsz htt
    generalize hgl : g.length = gl at *
    go_enter Tryd.func11, Tryd.ntmps11
    go_upto_region 5 with (go_at_call 33; refine HFL.out.mono ?_; rintro e w_ ⟨rfl, hww⟩; have hww2 := hww.symm; subst hww2)
    go_region_with (first
      | (go_at_call 35; refine (HFR.out _ (by repeat (first | exact Below.refl _ _ | apply pw_below_drewN | apply below_alloc | apply below_drew))).mono ?_; rintro e w2 ⟨v2, rfl, hr2, hb2⟩; have B2 := hid (show Below w.heap.size w w2 from ((by repeat (first | exact Below.refl _ _ | apply pw_below_drewN | apply below_alloc | apply below_drew)) : Below w.heap.size w _).trans (hb2.mono (by simp only [World.size_drew]; omega))); obtain ⟨A2, c2, rfl⟩ := B_slice hr2; have R2 := hid (Kd.R_lower hr2 (show w.heap.size ≤ _ by simp only [World.size_drew]; omega)); clear hr2 hb2)
      | (go_at_call 34; refine (HPU.out _ B2.out A2 c2 R2.out).mono ?_; rintro e w3 ⟨c', D', size', ready', rfl, g3, g4, d3, n3⟩; have G3 := hid g3; have Hg3 := hid g4; have Hd3 := hid d3; have HN3 := hid n3; clear g3 g4 d3 n3))
    all_goals (
      go_wp2
      go_ret
      unfold CallPost
      exact ⟨c', D', size', ready', false, rfl, (HG.out.new (Fr.of_below B2.out [])).trans G3.out, Hg3.out.mono (by omega) (Nat.le_refl _), Hd3.out.wider (fun _ hx => Or.inl hx) (by omega), put_log hg HN3.out HSZ.out⟩)
  | true => exact absurd hff (by decide)
end
end Go.Proofs.YthlmbgaipbjbhaaDoor.L
end
section
namespace Go.Proofs.YthlmbgaipbjbhaaDoor.L
open Go.RowKit Go.Lib Go.Maps Go.Proofs.YthlmbgaipbjbhaaDoor.P
open Go.Proofs.YthlmbgaipbjbhaaDoorW.PrintWords Go.Proofs.YthlmbgaipbjbhaaDoorW.PrintLast Go.Proofs.YthlmbgaipbjbhaaDoorW.PrintMore
set_option linter.unusedVariables false
section
variable {w w0 w1 w2 : World} {k : Nat} {N B R M : Nat} {D D0 D1 D2 : Dk} {name next : ByteArray} {size size' : Int} {ready ready' torn torn' : Bool} {l : List Int} {G : List (List ByteArray)} {g : List ByteArray} {c : Int}
set_option maxHeartbeats 32000000 in
set_option maxRecDepth 100000 in
theorem append_true (h : LG w w k D D name size ready torn) (hLd : ∀ W, Fr (k :: D.own) w W → Laid W) (gd : Good N B D) (hN : N + 40 < 1048576) (hB : B < 1099511627776) (hnm : Named name next) (ns : List ByteArray) (o : Only (fun x => x ∈ ns) D) (hin : name ∈ ns) (hin2 : next ∈ ns) (A : Option Addr) (c : Nat) (hg : GOk g) (hC : ∀ W, Fr (k :: D.own) w W → Kd.C Kd.string W A g.length g) (hl : Log D name G size ready torn) (hbl : (encs G).length + (enc g).length ≤ B) (hR : R = (ns.length + 1) * B) (hff : torn = true) :
    Calls Tryd.prog 11 #[P k, .slice A g.length c] w fun e w' => CallPost R N B k D name next G (G ++ [g]) w e w' := by
  obtain ⟨t, ht, hli, hsz, htt⟩ := hl
  have HFL := hid (fails_calls w k A c g (hC w (Fr.refl _ _)) (by have := hg.1; omega) (by have := hg.2; omega))
  rw [gCode_ok hg] at HFL
  have HFR := hid (fun (W : World) (hW : Below w.heap.size w W) => frame_calls W (hLd W (Fr.of_below hW _)) A c g (hC W (Fr.of_below hW _)) hg)
  have HG := hid h
  have c4 := h.c4
  cases torn with
  | false => exact absurd hff (by decide)
  | true =>
    have htn : t ≠ [] := htt.1 rfl
    obtain ⟨of, hf1, hf2, hf3⟩ := hli
    obtain ⟨b0, rfl⟩ : ∃ b0, of = some b0 := by
      cases of with
      | none => exact absurd (List.append_eq_nil_iff.1 hf2.symm).2 htn
      | some b => exact ⟨b, rfl⟩
    have hb0 : b0 = encs G ++ t := hf2
    have hli2 : Lies D name (encs G ++ t) ready := ⟨_, hf1, hf2, hf3⟩
    have HWH := hid (whole_calls h gd (by omega) (by omega) hnm.nok b0 hf1 (encs G).length hsz (by rw [hb0, List.length_append]; omega))
    have HTK := hid (show b0.take (encs G).length = encs G from by rw [hb0, List.take_left])
    have HLI := hid hli2
    have HT := hid (And.intro ht (And.intro hsz htt))
    have HO := hid o
    have HLT := hid h.lt
    have HCW := hid (And.intro hLd hC)
    clear HFR h hLd gd o hC ht hsz htt hf1 hf2 hf3 hb0 hli2 htn
    generalize hgl : g.length = gl at *
    go_enter Tryd.func11, Tryd.ntmps11
    go_upto_region 7 with (first
      | (go_at_call 33; refine HFL.out.mono ?_; rintro e w_ ⟨rfl, hww⟩; have hww2 := hww.symm; subst hww2)
      | (go_at_call 36; refine HWH.out.mono ?_; intro e w1 hp; obtain ⟨c1, D1, v1, lst, rfl, r1, g1, g2, d1, low1, hc1⟩ := hp; have HLOW := hid low1; have R1 := hid r1; have G1 := hid g1; have Hg1 := hid g2; have Hd1 := hid d1; have HC1 := hid hc1; clear r1 g1 g2 d1 hc1 low1))
    obtain ⟨A1, cc1, hv1⟩ := B_slice R1.out
    subst hv1
    by_cases hz : c1 = 0
    · subst hz
      have hlst : lst = encs G := by
        rcases HC1.out with ⟨_, e⟩ | ⟨e, _⟩ | ⟨e, _⟩
        · rw [e]; exact HTK.out
        · cases e
        · cases e
      subst hlst
      have HLI1 := hid (HLI.out.did Hd1.out (fun x hx => hx.elim))
      have HFR := hid (fun (W : World) (hW : Below w1.heap.size w1 W) => frame_calls W ((HCW.out.1 w1 G1.out.fr).below hW) A c g (Kd.C_below (by rw [hgl]; exact HCW.out.2 w1 G1.out.fr) hW) hg)
      rw [hgl] at HFR
      have HWS := hid G1.out.fr.size
      have HAN := hid (fun (W : World) (hb : Below w.heap.size w1 W) (A2 : Option Addr) (c2 : Nat) (hr : Kd.R kB 5 W w.heap.size (fun _ => True) (.slice A2 (encs G ++ enc g).length c2) (encs G ++ enc g)) => anew_calls (G1.out.row HLOW.out hb).again Hg1.out (by omega) hB hnm.nok hnm.nx hnm.nok2 hnm.nne ns (Hd1.out.only _ (fun x hx => hx.elim) HO.out) hin hin2 A2 c2 (C_after hr (fun j hj => by
        rcases List.mem_cons.1 hj with e | hj
        · rw [e]; exact G1.out.off.2.2
        · exact HLOW.out j (.inl hj))) (fun e => enc_ne g (List.append_eq_nil_iff.1 e).2) HLI1.out (by rw [List.length_append]; exact hbl) hR)
      have HLEN := hid (show (encs G).length + (enc g).length ≤ 140737488355328 by omega)
      generalize hE : encs G = EG at *
      generalize hF : enc g = EF at *
      clear HC1 HWH HTK HCW
      go_upto_region 9 with fail
      refine start_ (n := 9) (S := fun _ => True) (ds := []) #[false, false, false, false, false, false, false, false, false] (by kernel_rfl) rfl rfl trivial (fun _ => ?_)
      refine pure_ (i := 0) (N := some 36) (v := ?_) (a' := ?_) #[true, false, false, false, false, false, false, false, false] rfl rfl (by kernel_rfl) (fun _ _ _ h => h) (Or.inl ⟨by rfl, ?_⟩) ?_ ?_
      rotate_left
      · intro w'
        go_simp
        with_reducible rfl
      rotate_left
      · simp only [Act.put, List.setIfInBounds_toArray, List.set_cons_zero, List.set_cons_succ]
        rfl
      refine pure_ (i := 1) (N := some 37) (v := ?_) (a' := ?_) #[true, true, false, false, false, false, false, false, false] rfl rfl (by kernel_rfl) (fun _ _ _ h => h) (Or.inl ⟨by rfl, ?_⟩) ?_ ?_
      rotate_left
      · intro w'
        go_simp
        with_reducible rfl
      rotate_left
      · simp only [Act.put, List.setIfInBounds_toArray, List.set_cons_zero, List.set_cons_succ]
        rfl
      refine pure_ (i := 2) (N := some 38) (v := ?_) (a' := ?_) #[true, true, true, false, false, false, false, false, false] rfl rfl (by kernel_rfl) (fun _ _ _ h => h) (Or.inl ⟨by rfl, ?_⟩) ?_ ?_
      rotate_left
      · intro w'
        go_simp
        with_reducible rfl
      rotate_left
      · simp only [Act.put, List.setIfInBounds_toArray, List.set_cons_zero, List.set_cons_succ]
        rfl
      refine pure_ (i := 3) (N := some 39) (v := ?_) (a' := ?_) #[true, true, true, true, false, false, false, false, false] rfl rfl (by kernel_rfl) (fun _ _ _ h => h) (Or.inl ⟨by rfl, ?_⟩) ?_ ?_
      rotate_left
      · intro w'
        go_simp
        with_reducible rfl
      rotate_left
      · simp only [Act.put, List.setIfInBounds_toArray, List.set_cons_zero, List.set_cons_succ]
        rfl
      refine pure_ (i := 4) (N := some 40) (v := ?_) (a' := ?_) #[true, true, true, true, true, false, false, false, false] rfl rfl (by kernel_rfl) (fun _ _ _ h => h) (Or.inl ⟨by rfl, ?_⟩) ?_ ?_
      rotate_left
      · intro w'
        go_simp
        with_reducible rfl
      rotate_left
      · simp only [Act.put, List.setIfInBounds_toArray, List.set_cons_zero, List.set_cons_succ]
        rfl
      refine one_ (i := 5) (N := some 41) #[true, true, true, true, true, true, false, false, false] rfl rfl (by kernel_rfl) (by decide) (fun K hK => ?_)
      refine goes_ Tryd.func35 (by kernel_rfl) rfl #[.slice A gl c] (by rfl) rfl rfl (by (try simp only [List.map_toArray, List.map_cons, List.map_nil]); rfl) ?_
      refine (HFR.out _ (below_drew (Below.refl _ _))).mono ?_
      rintro e w2 ⟨v2, rfl, hr2, hb2⟩
      have B2 := hid (show Below w1.heap.size w1 w2 from (below_drew (Below.refl _ _)).trans (hb2.mono (by simp only [World.size_drew]; omega)))
      obtain ⟨A2, c2, rfl, hlc2, hC2⟩ := Kd.R_reads hr2
      have C2 := hid hC2
      clear hr2 hb2 hC2
      refine ⟨_, rfl, ?_⟩
      refine hK.out _ _ trivial (fun _ => ?_)
      clear hK K
      refine norm_ (a' := ?_) ?_ ?_
      rotate_left
      · show Act.put _ (some 41) _ = _
        simp only [Act.put, List.setIfInBounds_toArray, List.set_cons_zero, List.set_cons_succ]
        rfl
      refine one_ (i := 6) (N := some 42) #[true, true, true, true, true, true, true, false, false] rfl rfl (by kernel_rfl) (by decide) (fun K hK => ?_)
      refine Kd.R_append_rows_step kB (w0 := w1) w.heap.size (by rfl) (.tmp 39) (.tmp 41) 33 5 (.int .u8 0) 1 rfl Tryd.underlying33 info5 rfl (by decide) (by omega) (.slice A1 EG.length cc1) EG EF _ _ _ (fun _ => True) (fun _ => False) rfl rfl ?aO ?aR (fun _ _ h => h) (fun _ h => h.elim) (fun _ _ => trivial) ?aB ?aS ?aL ?_
      case aO => exact Kd.R_below R1.out B2.out
      case aR => exact C2.out
      case aB => exact B2.out.mono HWS.out
      case aS => exact Nat.le_trans HWS.out B2.out.size
      case aL => have := HLEN.out; omega
      intro v3 w3 hr3 hb3 hg3 hat3
      obtain ⟨A3, c3, rfl⟩ := B_slice hr3
      have R3 := hid hr3
      have B3 := hid hb3
      clear hr3 hb3 hg3 hat3
      refine hK.out _ _ trivial (fun _ => ?_)
      clear hK K
      refine norm_ (a' := ?_) ?_ ?_
      rotate_left
      · show Act.put _ (some 42) _ = _
        simp only [Act.put, List.setIfInBounds_toArray, List.set_cons_zero, List.set_cons_succ]
        rfl
      refine one_ (i := 7) (N := some 43) #[true, true, true, true, true, true, true, true, false] rfl rfl (by kernel_rfl) (by decide) (fun K hK => ?_)
      refine goes_ Tryd.func37 (by kernel_rfl) rfl #[P k, .slice A3 (EG ++ EF).length c3] (by rfl) rfl rfl (by (try simp only [List.map_toArray, List.map_cons, List.map_nil]); rfl) ?_
      refine (HAN.out _ B3.out A3 c3 R3.out).mono ?_
      intro e w4 hp
      obtain ⟨c', D', size', ready', torn', rfl, g3, g4, d3, n3⟩ := hp
      have G3 := hid g3
      have Hg3 := hid g4
      have Hd3 := hid d3
      have HN3 := hid n3
      clear g3 g4 d3 n3
      refine ⟨_, rfl, ?_⟩
      refine hK.out _ _ trivial (fun _ => ?_)
      clear hK K
      refine norm_ (a' := ?_) ?_ ?_
      rotate_left
      · show Act.put _ (some 43) _ = _
        simp only [Act.put, List.setIfInBounds_toArray, List.set_cons_zero, List.set_cons_succ]
        rfl
      refine pure_ (i := 8) (N := some 4) (v := ?_) (a' := ?_) #[true, true, true, true, true, true, true, true, true] rfl rfl (by kernel_rfl) (fun _ _ _ h => h) (Or.inl ⟨by rfl, ?_⟩) ?_ ?_
      rotate_left
      · intro w'
        go_simp
        with_reducible rfl
      rotate_left
      · simp only [Act.put, List.setIfInBounds_toArray, List.set_cons_zero, List.set_cons_succ]
        rfl
      refine done_ (by kernel_rfl) ?_
      try go_wp2
      go_ret
      unfold CallPost
      subst hE
      subst hF
      exact ⟨c', D', size', ready', torn', rfl, (G1.out.row HLOW.out B3.out).trans G3.out, Hg3.out.mono (by omega) (Nat.le_refl _), Hd1.out.two Hd3.out (fun _ hx => hx.elim) (fun _ hx => hx) (by omega), (new_log HT.out.1 (by rw [encs_append, encs_one]; exact HN3.out) HT.out.2.1 (by simpa using HT.out.2.2)).before Hd1.out⟩
    · have HCN := hid (show LogTo R D D1 name G (G ++ [g]) size ready true c1 from by
        have hlog : Log D1 name G size ready true := ⟨t, HT.out.1, HLI.out.did Hd1.out (fun x hx => hx.elim), HT.out.2.1, by simpa using HT.out.2.2⟩
        rcases HC1.out with ⟨e, _⟩ | ⟨e, hdd⟩ | ⟨e, hf, ho⟩
        · exact absurd e hz
        · exact .inr (.inl ⟨e, gone_of hdd, (HLI.out.did Hd1.out (fun x hx => hx.elim)).cuts (Q := fun x => Reads x G ∨ Reads x (G ++ [g])) Hg1.out (.inl ⟨t, HT.out.1, rfl⟩)⟩)
        · exact .inr (.inr ⟨.inr ⟨e, D.ops, Int.le_refl _, by omega, hf⟩, hlog⟩))
      clear HC1
      go_wp2
      go_ret
      unfold CallPost
      exact ⟨c1, D1, size, ready, true, rfl, G1.out, Hg1.out.mono (by omega) (Nat.le_refl _), Hd1.out.wider (fun _ hx => hx.elim) (by omega), HCN.out⟩
theorem append_calls (h : LG w w k D D name size ready torn) (hLd : ∀ W, Fr (k :: D.own) w W → Laid W) (gd : Good N B D) (hN : N + 40 < 1048576) (hB : B < 1099511627776) (hnm : Named name next) (ns : List ByteArray) (o : Only (fun x => x ∈ ns) D) (hin : name ∈ ns) (hin2 : next ∈ ns) (A : Option Addr) (c : Nat) (hg : GOk g) (hC : ∀ W, Fr (k :: D.own) w W → Kd.C Kd.string W A g.length g) (hl : Log D name G size ready torn) (hbl : (encs G).length + (enc g).length ≤ B) (hR : R = (ns.length + 1) * B) :
    Calls Tryd.prog 11 #[P k, .slice A g.length c] w fun e w' => CallPost R N B k D name next G (G ++ [g]) w e w' := by
  cases torn with
  | false => exact append_false h hLd gd hN hB hnm ns o hin hin2 A c hg hC hl hbl hR rfl
  | true => exact append_true h hLd gd hN hB hnm ns o hin hin2 A c hg hC hl hbl hR rfl
end
end Go.Proofs.YthlmbgaipbjbhaaDoor.L
end
section
namespace Go.Proofs.YthlmbgaipbjbhaaDoor.L
open Go.RowKit Go.Lib Go.Maps Go.Proofs.YthlmbgaipbjbhaaDoor.P
open Go.Proofs.YthlmbgaipbjbhaaDoorW.PrintWords Go.Proofs.YthlmbgaipbjbhaaDoorW.PrintLast Go.Proofs.YthlmbgaipbjbhaaDoorW.PrintMore
set_option linter.unusedVariables false
structure Dw (w0 w : World) (N B : Nat) (D : Dk) : Prop where
  at_ : DkAt w D
  bel : Below w0.heap.size w0 w
  own : ∀ j, j ∈ D.own ∨ j ∈ D.boxes → w0.heap.size ≤ j
  good : Good N B D
structure Lw (w0 w : World) (D : Dk) (k : Nat) (name : ByteArray) (G : List (List ByteArray)) : Prop where
  lw : ∃ size ready torn, w.heap[k]? = some (logObj D.d name size ready torn) ∧ Log D name G size ready torn
  ge : w0.heap.size ≤ k
  off : k ∉ D.own ∧ k ∉ D.boxes
section
variable {w0 w w' : World} {N M B k : Nat} {D D' : Dk} {name next : ByteArray} {G : List (List ByteArray)} {g : List ByteArray}
theorem Dw.mono (h : Dw w0 w N B D) (hN : N ≤ M) : Dw w0 w M B D := ⟨h.at_, h.bel, h.own, h.good.mono hN (Nat.le_refl _)⟩
theorem Dw.step (h : Dw w0 w N B D) (g : Goes w w' D D') (hg : Good M B D') : Dw w0 w' M B D' :=
  ⟨g.at_, h.bel.trans (g.fr.below h.bel.size (fun j hj => h.own j (.inl hj))), fun j hj => by
    rcases hj with hj | hj
    · exact (g.own j hj).elim (fun e => h.own j (.inl e)) (fun e => Nat.le_trans h.bel.size e)
    · exact (g.box j hj).elim (fun e => h.own j (.inr e)) (fun e => Nat.le_trans h.bel.size e), hg⟩
theorem Dw.new (h : Dw w0 w N B D) (f : Fr [] w w') : Dw w0 w' N B D := h.step (Goes.new h.at_ f) h.good
theorem Dw.laid (h : Dw w0 w N B D) (hL : Laid w0) {own : List Nat} (ho : ∀ j ∈ own, w0.heap.size ≤ j) : ∀ W, Fr own w W → Laid W := fun W f => hL.below (h.bel.trans (f.below h.bel.size ho))
theorem Lw.new (h : Lw w0 w D k name G) (f : Fr [] w w') : Lw w0 w' D k name G := by
  obtain ⟨s, r, t, h1, h2⟩ := h.lw
  exact ⟨⟨s, r, t, (f.keep k (lt_of h1) (by simp)).trans h1, h2⟩, h.ge, h.off⟩
structure Calm (R : Nat) (D : Dk) : Prop where
  cut : D.cut < 0
  off : D.off = false
  fails : ∀ t, D.fails t = 0
  room : (R : Int) ≤ D.room
theorem Calm.did {R : Nat} {T : ByteArray → Prop} {j : Nat} (h : Calm R D) (d : Did T j D D') : Calm R D' := ⟨by rw [d.cut]; exact h.cut, d.off h.cut h.off, by rw [d.fails]; exact h.fails, by rw [d.room]; exact h.room⟩
theorem Calm.to {R : Nat} {H : List (List ByteArray)} {s : Int} {r t : Bool} {c : Int} (h : Calm R D) (l : LogTo R D D' name G H s r t c) : c = 0 ∧ Log D' name H s r t := by
  rcases l with h1 | ⟨_, hg, _⟩ | ⟨hw, _⟩
  · exact h1
  · exact absurd ⟨h.cut, h.off⟩ hg
  · rcases hw with ⟨_, hr⟩ | ⟨_, t, _, _, hf⟩
    · have := h.room; omega
    · rw [h.fails t] at hf; exact absurd hf (by decide)
def DidCall (w0 w : World) (R N B k : Nat) (D : Dk) (name next : ByteArray) (G H : List (List ByteArray)) (e : Ending) (w' : World) : Prop :=
  ∃ (c : Int) (D' : Dk), e = .returned (.int .i64 c) ∧ Dw w0 w' (N + 16) B D' ∧ Did (fun x => x = name ∨ x = next) 7 D D' ∧ Fr (k :: D.own) w w' ∧ (∀ j ∈ D'.own, j ∈ D.own ∨ w.heap.size ≤ j) ∧
    ((c = 0 ∧ Lw w0 w' D' k name H) ∨ (c = 35 ∧ Gone D ∧ Cuts D' name (fun o => Reads (o.getD []) G ∨ Reads (o.getD []) H)) ∨ (Why D D' c R ∧ Lw w0 w' D' k name G))
theorem did_call {R : Nat} {H : List (List ByteArray)} {e : Ending} (dw : Dw w0 w N B D) (lw : Lw w0 w D k name G) (h : CallPost R N B k D name next G H w e w') : DidCall w0 w R N B k D name next G H e w' := by
  obtain ⟨c, D', s, r, t, he, hg, gd, dd, hl⟩ := h
  have hk : k < w.heap.size := hg.off.2.2
  refine ⟨c, D', he, ⟨hg.at_, dw.bel.trans (hg.fr.below dw.bel.size (fun j hj => ?_)), fun j hj => ?_, gd⟩, dd, hg.fr, hg.own, ?_⟩
  · rcases List.mem_cons.1 hj with e | hj
    · rw [e]; exact lw.ge
    · exact dw.own j (.inl hj)
  · rcases hj with hj | hj
    · exact (hg.own j hj).elim (fun e => dw.own j (.inl e)) (fun e => Nat.le_trans dw.bel.size e)
    · exact (hg.box j hj).elim (fun e => dw.own j (.inr e)) (fun e => Nat.le_trans dw.bel.size e)
  · have hlog : ∀ {K : List (List ByteArray)}, Log D' name K s r t → Lw w0 w' D' k name K := fun hK => ⟨⟨s, r, t, hg.log, hK⟩, lw.ge, hg.koff⟩
    rcases hl with ⟨e, h1⟩ | h1 | ⟨h1, h2⟩
    · exact .inl ⟨e, hlog h1⟩
    · exact .inr (.inl h1)
    · exact .inr (.inr ⟨h1, hlog h2⟩)
theorem append_w (dw : Dw w0 w N B D) (lw : Lw w0 w D k name G) (hL : Laid w0) (hN : N + 40 < 1048576) (hB : B < 1099511627776) (hnm : Named name next) (ns : List ByteArray) (o : Only (fun x => x ∈ ns) D) (hin : name ∈ ns) (hin2 : next ∈ ns) (A : Option Addr) (c : Nat) (hg : GOk g) (hC : ∀ W, Fr (k :: D.own) w W → Kd.C Kd.string W A g.length g) (hbl : (encs G).length + (enc g).length ≤ B) {R : Nat} (hR : R = (ns.length + 1) * B) :
    Calls Tryd.prog 11 #[P k, .slice A g.length c] w fun e w' => DidCall w0 w R N B k D name next G (G ++ [g]) e w' := by
  obtain ⟨s, r, t, h1, h2⟩ := lw.lw
  refine (append_calls (LG.start dw.at_ h1 lw.off.1 lw.off.2) (dw.laid hL (fun j hj => ?_)) dw.good hN hB hnm ns o hin hin2 A c hg hC h2 hbl hR).mono (fun e w' h => did_call dw lw h)
  rcases List.mem_cons.1 hj with e | hj
  · rw [e]; exact lw.ge
  · exact dw.own j (.inl hj)
theorem reset_w (dw : Dw w0 w N B D) (lw : Lw w0 w D k name G) (hL : Laid w0) (hN : N + 40 < 1048576) (hB : B < 1099511627776) (hnm : Named name next) (ns : List ByteArray) (o : Only (fun x => x ∈ ns) D) (hin : name ∈ ns) (hin2 : next ∈ ns) (A : Option Addr) (c : Nat) (hg : GOk g) (hC : Kd.C Kd.string w A g.length g) (hbl : (enc g).length ≤ B) {R : Nat} (hR : R = (ns.length + 1) * B) :
    Calls Tryd.prog 29 #[P k, .slice A g.length c] w fun e w' => DidCall w0 w R N B k D name next G [g] e w' := by
  obtain ⟨s, r, t, h1, h2⟩ := lw.lw
  exact (reset_calls (LG.start dw.at_ h1 lw.off.1 lw.off.2) (hL.below dw.bel) dw.good (by omega) hB hnm ns o hin hin2 A c hg hC h2 hbl hR).mono (fun e w' h => did_call dw lw h)
theorem open_new (dw : Dw w0 w N B D) (hs : wName name = true) (f : Firm D name none) :
    Calls Tryd.prog 10 #[P D.d, .string name] w fun e w' => ∃ k, e = .returned (.tuple #[P k, .slice none 0 0, .int .i64 0]) ∧ Below w.heap.size w w' ∧ Dw w0 w' N B D ∧ w.heap.size ≤ k ∧ Lw w0 w' D k name [] := by
  refine (open_none dw.at_ hs (f.no rfl)).mono ?_
  rintro e w' ⟨k, rfl, hb, hk, hc⟩
  exact ⟨k, rfl, hb, dw.new (Fr.of_below hb []), hk, ⟨0, false, false, hc, [], Tail.nil, ⟨none, f, rfl, fun e => by cases e⟩, rfl, by simp⟩, Nat.le_trans dw.bel.size hk, fun hm => by have := dw.at_.lt k hm; omega, fun hm => by have := dw.at_.blt k hm; omega⟩
end
end Go.Proofs.YthlmbgaipbjbhaaDoor.L
end
