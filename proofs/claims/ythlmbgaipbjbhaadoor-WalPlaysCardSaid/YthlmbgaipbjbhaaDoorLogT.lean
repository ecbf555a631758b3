/- Append: a group more; groups that are refused. -/
import Derived.Test.YthlmbgaipbjbhaaDoorLogC
namespace Go.Proofs.YthlmbgaipbjbhaaDoor.L
open Go.RowKit Go.Lib Go.Maps Go.Proofs.YthlmbgaipbjbhaaDoor.P
open Go.Proofs.YthlmbgaipbjbhaaDoorW.PrintWords Go.Proofs.YthlmbgaipbjbhaaDoorW.PrintLast Go.Proofs.YthlmbgaipbjbhaaDoorW.PrintMore
set_option linter.unusedVariables false
section
variable {w w0 w1 w2 : World} {k : Nat} {N B R M : Nat} {D D0 D1 D2 : Dk} {name next : ByteArray} {size size' : Int} {ready ready' torn torn' : Bool} {l : List Int} {G : List (List ByteArray)} {g : List ByteArray} {c : Int}
set_option maxHeartbeats 32000000 in
set_option maxRecDepth 100000 in
theorem append_true (h : LG w w k D D name size ready torn) (hLd : ∀ W, Fr (k :: D.own) w W → Laid W) (gd : Good N B D) (hN : N + 40 < 1048576) (hB : B < 1099511627776) (hnm : Named name next) (ns : List ByteArray) (o : Only (fun x => x ∈ ns) D) (hin : name ∈ ns) (hin2 : next ∈ ns) (A : Option Addr) (c : Nat) (hg : GOk g) (hC : ∀ W, Fr (k :: D.own) w W → Kd.C Kd.string W A g.length g) (hl : Log D name G size ready torn) (hbl : (encs G).length + (enc g).length ≤ B) (hR : R = (ns.length + 1) * B) (hff : torn = true) :
    Calls Tryd.prog 11 #[P k, .slice A g.length c] w fun e w' => CallPost R N B k D name next G (G ++ [g]) w e w' := by
  obtain ⟨t, ht, hli, hsz, htt⟩ := hl
  have HFL := hid (fails_calls w k A c g (hC w (Fr.refl _ _)) (by have := hg.1; omega) (by have := hg.2; omega))
  rw [gCode_ok hg] at HFL
  have HFR := hid (fun (W : World) (hW : Below w.heap.size w W) => frame_calls W (hLd W (Fr.of_below hW _)) A c g (hC W (Fr.of_below hW _)) hg)
  have HG := hid h
  have c4 := h.c4
  cases torn with
  | false => exact absurd hff (by decide)
  | true =>
    have htn : t ≠ [] := htt.1 rfl
    obtain ⟨of, hf1, hf2, hf3⟩ := hli
    obtain ⟨b0, rfl⟩ : ∃ b0, of = some b0 := by
      cases of with
      | none => exact absurd (List.append_eq_nil_iff.1 hf2.symm).2 htn
      | some b => exact ⟨b, rfl⟩
    have hb0 : b0 = encs G ++ t := hf2
    have hli2 : Lies D name (encs G ++ t) ready := ⟨_, hf1, hf2, hf3⟩
    have HWH := hid (whole_calls h gd (by omega) (by omega) hnm.nok b0 hf1 (encs G).length hsz (by rw [hb0, List.length_append]; omega))
    have HTK := hid (show b0.take (encs G).length = encs G from by rw [hb0, List.take_left])
    have HLI := hid hli2
    have HT := hid (And.intro ht (And.intro hsz htt))
    have HO := hid o
    have HLT := hid h.lt
    have HCW := hid (And.intro hLd hC)
    clear HFR h hLd gd o hC ht hsz htt hf1 hf2 hf3 hb0 hli2 htn
    generalize hgl : g.length = gl at *
    go_enter Tryd.func11, Tryd.ntmps11
    go_upto_region 7 with (first
      | (go_at_call 33; refine HFL.out.mono ?_; rintro e w_ ⟨rfl, hww⟩; have hww2 := hww.symm; subst hww2)
      | (go_at_call 36; refine HWH.out.mono ?_; intro e w1 hp; obtain ⟨c1, D1, v1, lst, rfl, r1, g1, g2, d1, low1, hc1⟩ := hp; have HLOW := hid low1; have R1 := hid r1; have G1 := hid g1; have Hg1 := hid g2; have Hd1 := hid d1; have HC1 := hid hc1; clear r1 g1 g2 d1 hc1 low1))
    obtain ⟨A1, cc1, hv1⟩ := B_slice R1.out
    subst hv1
    by_cases hz : c1 = 0
    · subst hz
      have hlst : lst = encs G := by
        rcases HC1.out with ⟨_, e⟩ | ⟨e, _⟩ | ⟨e, _⟩
        · rw [e]; exact HTK.out
        · cases e
        · cases e
      subst hlst
      have HLI1 := hid (HLI.out.did Hd1.out (fun x hx => hx.elim))
      have HFR := hid (fun (W : World) (hW : Below w1.heap.size w1 W) => frame_calls W ((HCW.out.1 w1 G1.out.fr).below hW) A c g (Kd.C_below (by rw [hgl]; exact HCW.out.2 w1 G1.out.fr) hW) hg)
      rw [hgl] at HFR
      have HWS := hid G1.out.fr.size
      have HAN := hid (fun (W : World) (hb : Below w.heap.size w1 W) (A2 : Option Addr) (c2 : Nat) (hr : Kd.R kB 5 W w.heap.size (fun _ => True) (.slice A2 (encs G ++ enc g).length c2) (encs G ++ enc g)) => anew_calls (G1.out.row HLOW.out hb).again Hg1.out (by omega) hB hnm.nok hnm.nx hnm.nok2 hnm.nne ns (Hd1.out.only _ (fun x hx => hx.elim) HO.out) hin hin2 A2 c2 (C_after hr (fun j hj => by
        rcases List.mem_cons.1 hj with e | hj
        · rw [e]; exact G1.out.off.2.2
        · exact HLOW.out j (.inl hj))) (fun e => enc_ne g (List.append_eq_nil_iff.1 e).2) HLI1.out (by rw [List.length_append]; exact hbl) hR)
      have HLEN := hid (show (encs G).length + (enc g).length ≤ 140737488355328 by omega)
      generalize hE : encs G = EG at *
      generalize hF : enc g = EF at *
      clear HC1 HWH HTK HCW
      go_upto_region 9 with fail
      refine start_ (n := 9) (S := fun _ => True) (ds := []) #[false, false, false, false, false, false, false, false, false] (by kernel_rfl) rfl rfl trivial (fun _ => ?_)
      refine pure_ (i := 0) (N := some 36) (v := ?_) (a' := ?_) #[true, false, false, false, false, false, false, false, false] rfl rfl (by kernel_rfl) (fun _ _ _ h => h) (Or.inl ⟨by rfl, ?_⟩) ?_ ?_
      rotate_left
      · intro w'
        go_simp
        with_reducible rfl
      rotate_left
      · simp only [Act.put, List.setIfInBounds_toArray, List.set_cons_zero, List.set_cons_succ]
        rfl
      refine pure_ (i := 1) (N := some 37) (v := ?_) (a' := ?_) #[true, true, false, false, false, false, false, false, false] rfl rfl (by kernel_rfl) (fun _ _ _ h => h) (Or.inl ⟨by rfl, ?_⟩) ?_ ?_
      rotate_left
      · intro w'
        go_simp
        with_reducible rfl
      rotate_left
      · simp only [Act.put, List.setIfInBounds_toArray, List.set_cons_zero, List.set_cons_succ]
        rfl
      refine pure_ (i := 2) (N := some 38) (v := ?_) (a' := ?_) #[true, true, true, false, false, false, false, false, false] rfl rfl (by kernel_rfl) (fun _ _ _ h => h) (Or.inl ⟨by rfl, ?_⟩) ?_ ?_
      rotate_left
      · intro w'
        go_simp
        with_reducible rfl
      rotate_left
      · simp only [Act.put, List.setIfInBounds_toArray, List.set_cons_zero, List.set_cons_succ]
        rfl
      refine pure_ (i := 3) (N := some 39) (v := ?_) (a' := ?_) #[true, true, true, true, false, false, false, false, false] rfl rfl (by kernel_rfl) (fun _ _ _ h => h) (Or.inl ⟨by rfl, ?_⟩) ?_ ?_
      rotate_left
      · intro w'
        go_simp
        with_reducible rfl
      rotate_left
      · simp only [Act.put, List.setIfInBounds_toArray, List.set_cons_zero, List.set_cons_succ]
        rfl
      refine pure_ (i := 4) (N := some 40) (v := ?_) (a' := ?_) #[true, true, true, true, true, false, false, false, false] rfl rfl (by kernel_rfl) (fun _ _ _ h => h) (Or.inl ⟨by rfl, ?_⟩) ?_ ?_
      rotate_left
      · intro w'
        go_simp
        with_reducible rfl
      rotate_left
      · simp only [Act.put, List.setIfInBounds_toArray, List.set_cons_zero, List.set_cons_succ]
        rfl
      refine one_ (i := 5) (N := some 41) #[true, true, true, true, true, true, false, false, false] rfl rfl (by kernel_rfl) (by decide) (fun K hK => ?_)
      refine goes_ Tryd.func35 (by kernel_rfl) rfl #[.slice A gl c] (by rfl) rfl rfl (by (try simp only [List.map_toArray, List.map_cons, List.map_nil]); rfl) ?_
      refine (HFR.out _ (below_drew (Below.refl _ _))).mono ?_
      rintro e w2 ⟨v2, rfl, hr2, hb2⟩
      have B2 := hid (show Below w1.heap.size w1 w2 from (below_drew (Below.refl _ _)).trans (hb2.mono (by simp only [World.size_drew]; omega)))
      obtain ⟨A2, c2, rfl, hlc2, hC2⟩ := Kd.R_reads hr2
      have C2 := hid hC2
      clear hr2 hb2 hC2
      refine ⟨_, rfl, ?_⟩
      refine hK.out _ _ trivial (fun _ => ?_)
      clear hK K
      refine norm_ (a' := ?_) ?_ ?_
      rotate_left
      · show Act.put _ (some 41) _ = _
        simp only [Act.put, List.setIfInBounds_toArray, List.set_cons_zero, List.set_cons_succ]
        rfl
      refine one_ (i := 6) (N := some 42) #[true, true, true, true, true, true, true, false, false] rfl rfl (by kernel_rfl) (by decide) (fun K hK => ?_)
      refine Kd.R_append_rows_step kB (w0 := w1) w.heap.size (by rfl) (.tmp 39) (.tmp 41) 33 5 (.int .u8 0) 1 rfl Tryd.underlying33 info5 rfl (by decide) (by omega) (.slice A1 EG.length cc1) EG EF _ _ _ (fun _ => True) (fun _ => False) rfl rfl ?aO ?aR (fun _ _ h => h) (fun _ h => h.elim) (fun _ _ => trivial) ?aB ?aS ?aL ?_
      case aO => exact Kd.R_below R1.out B2.out
      case aR => exact C2.out
      case aB => exact B2.out.mono HWS.out
      case aS => exact Nat.le_trans HWS.out B2.out.size
      case aL => have := HLEN.out; omega
      intro v3 w3 hr3 hb3 hg3 hat3
      obtain ⟨A3, c3, rfl⟩ := B_slice hr3
      have R3 := hid hr3
      have B3 := hid hb3
      clear hr3 hb3 hg3 hat3
      refine hK.out _ _ trivial (fun _ => ?_)
      clear hK K
      refine norm_ (a' := ?_) ?_ ?_
      rotate_left
      · show Act.put _ (some 42) _ = _
        simp only [Act.put, List.setIfInBounds_toArray, List.set_cons_zero, List.set_cons_succ]
        rfl
      refine one_ (i := 7) (N := some 43) #[true, true, true, true, true, true, true, true, false] rfl rfl (by kernel_rfl) (by decide) (fun K hK => ?_)
      refine goes_ Tryd.func37 (by kernel_rfl) rfl #[P k, .slice A3 (EG ++ EF).length c3] (by rfl) rfl rfl (by (try simp only [List.map_toArray, List.map_cons, List.map_nil]); rfl) ?_
      refine (HAN.out _ B3.out A3 c3 R3.out).mono ?_
      intro e w4 hp
      obtain ⟨c', D', size', ready', torn', rfl, g3, g4, d3, n3⟩ := hp
      have G3 := hid g3
      have Hg3 := hid g4
      have Hd3 := hid d3
      have HN3 := hid n3
      clear g3 g4 d3 n3
      refine ⟨_, rfl, ?_⟩
      refine hK.out _ _ trivial (fun _ => ?_)
      clear hK K
      refine norm_ (a' := ?_) ?_ ?_
      rotate_left
      · show Act.put _ (some 43) _ = _
        simp only [Act.put, List.setIfInBounds_toArray, List.set_cons_zero, List.set_cons_succ]
        rfl
      refine pure_ (i := 8) (N := some 4) (v := ?_) (a' := ?_) #[true, true, true, true, true, true, true, true, true] rfl rfl (by kernel_rfl) (fun _ _ _ h => h) (Or.inl ⟨by rfl, ?_⟩) ?_ ?_
      rotate_left
      · intro w'
        go_simp
        with_reducible rfl
      rotate_left
      · simp only [Act.put, List.setIfInBounds_toArray, List.set_cons_zero, List.set_cons_succ]
        rfl
      refine done_ (by kernel_rfl) ?_
      try go_wp2
      go_ret
      unfold CallPost
      subst hE
      subst hF
      exact ⟨c', D', size', ready', torn', rfl, (G1.out.row HLOW.out B3.out).trans G3.out, Hg3.out.mono (by omega) (Nat.le_refl _), Hd1.out.two Hd3.out (fun _ hx => hx.elim) (fun _ hx => hx) (by omega), (new_log HT.out.1 (by rw [encs_append, encs_one]; exact HN3.out) HT.out.2.1 (by simpa using HT.out.2.2)).before Hd1.out⟩
    · have HCN := hid (show LogTo R D D1 name G (G ++ [g]) size ready true c1 from by
        have hlog : Log D1 name G size ready true := ⟨t, HT.out.1, HLI.out.did Hd1.out (fun x hx => hx.elim), HT.out.2.1, by simpa using HT.out.2.2⟩
        rcases HC1.out with ⟨e, _⟩ | ⟨e, hdd⟩ | ⟨e, hf, ho⟩
        · exact absurd e hz
        · exact .inr (.inl ⟨e, gone_of hdd, (HLI.out.did Hd1.out (fun x hx => hx.elim)).cuts (Q := fun x => Reads x G ∨ Reads x (G ++ [g])) Hg1.out (.inl ⟨t, HT.out.1, rfl⟩)⟩)
        · exact .inr (.inr ⟨.inr ⟨e, D.ops, Int.le_refl _, by omega, hf⟩, hlog⟩))
      clear HC1
      go_wp2
      go_ret
      unfold CallPost
      exact ⟨c1, D1, size, ready, true, rfl, G1.out, Hg1.out.mono (by omega) (Nat.le_refl _), Hd1.out.wider (fun _ hx => hx.elim) (by omega), HCN.out⟩
theorem append_calls (h : LG w w k D D name size ready torn) (hLd : ∀ W, Fr (k :: D.own) w W → Laid W) (gd : Good N B D) (hN : N + 40 < 1048576) (hB : B < 1099511627776) (hnm : Named name next) (ns : List ByteArray) (o : Only (fun x => x ∈ ns) D) (hin : name ∈ ns) (hin2 : next ∈ ns) (A : Option Addr) (c : Nat) (hg : GOk g) (hC : ∀ W, Fr (k :: D.own) w W → Kd.C Kd.string W A g.length g) (hl : Log D name G size ready torn) (hbl : (encs G).length + (enc g).length ≤ B) (hR : R = (ns.length + 1) * B) :
    Calls Tryd.prog 11 #[P k, .slice A g.length c] w fun e w' => CallPost R N B k D name next G (G ++ [g]) w e w' := by
  cases torn with
  | false => exact append_false h hLd gd hN hB hnm ns o hin hin2 A c hg hC hl hbl hR rfl
  | true => exact append_true h hLd gd hN hB hnm ns o hin hin2 A c hg hC hl hbl hR rfl
end
end Go.Proofs.YthlmbgaipbjbhaaDoor.L
