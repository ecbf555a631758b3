/- Open: a log goes on. A disk, and a log on it, since a world w0: what each call leaves. -/
import Derived.Test.YthlmbgaipbjbhaaDoorLogC
import Derived.Test.YthlmbgaipbjbhaaDoorLogT
section
namespace Go.Proofs.YthlmbgaipbjbhaaDoor.L
open Go.RowKit Go.Lib Go.Maps Go.Proofs.YthlmbgaipbjbhaaDoor.P
open Go.Proofs.YthlmbgaipbjbhaaDoorW.PrintWords Go.Proofs.YthlmbgaipbjbhaaDoorW.PrintLast Go.Proofs.YthlmbgaipbjbhaaDoorW.PrintMore
set_option linter.unusedVariables false
abbrev kG : Kd (List ByteArray) := Kd.slice 9 Kd.string
theorem info34 : (Tryd.prog.info? 34).map (fun i => (i.zero, i.size, i.bytes)) = some (some (.slice none 0 0), 1, 24) := by kernel_rfl
section
variable {w : World} {k N B : Nat} {D D1 : Dk} {name : ByteArray} {G : List (List ByteArray)}
set_option maxHeartbeats 8000000 in
set_option maxRecDepth 100000 in
theorem open_form (h : DkAt w D) (hs : name.size < 4611686018427387904) (hn : wName name = false) :
    Calls Tryd.prog 10 #[P D.d, .string name] w fun e w' => e = .returned (.tuple #[.pointer none, .slice none 0 0, .int .i64 50]) ∧ Below w.heap.size w w' := by
  have HR := hid (wright_calls w name hs)
  rw [hn] at HR
  clear h
  go_enter Tryd.func10, Tryd.ntmps10
  go_wp2_with (go_at_call 30; refine HR.out.mono ?_; rintro e w1 ⟨rfl, hb⟩; have HB := hid hb; clear hb)
  go_ret3
  exact ⟨rfl, HB.out⟩
set_option maxHeartbeats 8000000 in
set_option maxRecDepth 100000 in
theorem open_none (h : DkAt w D) (hs : wName name = true) (hd : D.dir name = none) :
    Calls Tryd.prog 10 #[P D.d, .string name] w fun e w' => ∃ k, e = .returned (.tuple #[P k, .slice none 0 0, .int .i64 0]) ∧ Below w.heap.size w w' ∧ w.heap.size ≤ k ∧ w'.heap[k]? = some (logObj D.d name 0 false false) := by
  have hsz := wName_ok hs
  have HR := hid (wright_calls w name (by omega))
  rw [hs] at HR
  have HSZ := hid (fun (W : World) (hW : Fr [] w W) => size_none (h.new hW) name (by have := hsz.2; unfold maxLen; omega) hd)
  clear h
  go_enter Tryd.func10, Tryd.ntmps10
  go_wp2_with (first
    | (go_at_call 30; refine HR.out.mono ?_; rintro e w1 ⟨rfl, hb⟩; have HB := hid hb; clear hb)
    | (go_at_call 21; refine (HSZ.out _ (Fr.of_below (below_alloc HB.out _) [])).mono ?_; rintro e w_ ⟨rfl, hww⟩; have hww2 := hww.symm; subst hww2))
  go_ret3
  exact ⟨w1.heap.size, rfl, below_alloc HB.out _, HB.out.size, (MapKept.heap_alloc w1 _).1⟩
theorem rd_good {L rest : List Int} {g : List ByteArray} (hg : GOk g) (hL : L = enc g ++ rest) : RdIs L g (enc g).length 0 := by
  have hb := hg.body
  have := hg.1
  have := hg.2
  refine .inr ⟨(body g).length, crc (four (body g).length), body g ++ (four (crc (body g)) ++ rest), ?_, by omega, crc_lt _, ?_⟩
  · rw [hL]; unfold enc headL; simp only [List.append_assoc]
  · rw [enc_length]
    exact .good rfl g rest rfl rfl hg
theorem rd_tail {t : List Int} (h : Tail t) : RdIs t [] 0 0 := by
  obtain ⟨g, m, hg, hm, rfl⟩ := h
  have hb := hg.body
  have := hg.1
  have := hg.2
  have hl := enc_length g
  by_cases h8 : m < 8
  · exact .inl ⟨by rw [List.length_take]; omega, rfl, rfl, rfl⟩
  · refine .inr ⟨(body g).length, crc (four (body g).length), (body g ++ four (crc (body g))).take (m - 8), ?_, by omega, crc_lt _, .cut rfl (by rw [List.length_take]; omega)⟩
    have e : enc g = (four (body g).length ++ four (crc (four (body g).length))) ++ (body g ++ four (crc (body g))) := by unfold enc headL; simp only [List.append_assoc]
    have e8 : (four (body g).length ++ four (crc (four (body g).length))).length = 8 := rfl
    rw [e, List.take_append, e8, List.take_of_length_le (by rw [e8]; omega), List.append_assoc]
theorem Goes.far {w2 w3 : World} {D2 : Dk} (h : Goes w w2 D D2) (F : Fr [k] w2 w3) (hk : w.heap.size ≤ k) (hlow : ∀ j, j ∈ D2.own ∨ j ∈ D2.boxes → j < w.heap.size) : Goes w w3 D D2 :=
  ⟨h.at_.fr F (fun j hj hm => by rw [List.mem_singleton.1 hm] at hj; have := hlow k hj; omega), h.fr.trans F (fun j hj => .inr (by rw [List.mem_singleton.1 hj]; exact hk)), h.own, h.box⟩
def OpenPost (N B : Nat) (D : Dk) (name : ByteArray) (G : List (List ByteArray)) (t : List Int) (w : World) (e : Ending) (w' : World) : Prop :=
  ∃ D', Goes w w' D D' ∧ Good (N + 2) B D' ∧ Did (fun _ => False) 1 D D' ∧ (∀ j, j ∈ D'.own ∨ j ∈ D'.boxes → j < w.heap.size) ∧
    ((∃ k v, e = .returned (.tuple #[P k, v, .int .i64 0]) ∧ Kd.R kG 34 w' w.heap.size (fun j => j ≠ k) v G ∧ w'.heap[k]? = some (logObj D.d name (encs G).length false (decide (t ≠ []))) ∧ w.heap.size ≤ k ∧ k ∉ D'.own ∧ k ∉ D'.boxes) ∨
     (∃ c : Int, e = .returned (.tuple #[.pointer none, .slice none 0 0, .int .i64 c]) ∧ ((c = 35 ∧ D.dead = true) ∨ (c = 34 ∧ 0 < D.fails D.ops ∧ D'.ops = D.ops + 1))))
set_option maxHeartbeats 16000000 in
set_option maxRecDepth 100000 in
theorem open_some (h : DkAt w D) (hLd : ∀ W, Fr D.own w W → Laid W) (g : Good N B D) (hN : N + 8 < 1048576) (hB : B < 1099511627776) (hs : wName name = true) (t : List Int) (ht : Tail t) (hG : ∀ x ∈ G, GOk x) (hGl : G.length < 1048576) (f : Fl) (hf : f ∈ D.fs) (hd : D.dir name = some f.blk) (hfb : f.b = encs G ++ t) :
    Calls Tryd.prog 10 #[P D.d, .string name] w fun e w' => OpenPost N B D name G t w e w' := by
  have hsz := wName_ok hs
  have HR := hid (wright_calls w name (by omega))
  rw [hs] at HR
  have HSZ := hid (fun (W : World) (hW : Fr [] w W) => size_some (h.new hW) name (by have := hsz.2; unfold maxLen; omega) f hf hd)
  have HRD := hid (fun (W : World) (hW : Fr [] w W) => read_any (h.new hW) g (by omega) (by omega) name hsz.1 f hf hd)
  have hbig := g.big f hf
  rw [hfb] at HSZ HRD hbig
  have HLD := hid hLd
  have HTT := hid ht
  have HGG := hid hG
  have HLT := hid (show ∀ j, j ∈ D.own ∨ j ∈ D.boxes → j < w.heap.size from fun j hj => hj.elim (h.lt j) (h.blt j))
  have HD := hid h
  clear h hLd hf hd hfb ht hG g
  have htl : (encs G ++ t).length ≤ B := hbig
  generalize hFB : encs G ++ t = fb at *
  have HFB := hid hFB
  clear hFB hbig
  go_enter Tryd.func10, Tryd.ntmps10
  go_upto_region 9 with (first
    | (go_at_call 30; refine HR.out.mono ?_; rintro e w1 ⟨rfl, hb⟩; have HB := hid hb; clear hb)
    | (go_at_call 21; refine (HSZ.out _ (Fr.of_below (below_alloc HB.out _) [])).mono ?_; rintro e w_ ⟨rfl, hww⟩; have hww2 := hww.symm; subst hww2)
    | (go_at_call 31; refine (HRD.out _ (Fr.of_below (below_alloc HB.out _) [])).mono ?_; rintro e w2 ⟨c2, D2, v9, lst, rfl, r9, gg, g2, d2, hc2⟩; have R9 := hid r9; have GG := hid gg; have Hg2 := hid g2; have Hd2 := hid d2; have HC2 := hid hc2; clear gg g2 d2 hc2 r9))
  obtain ⟨k, hk⟩ : ∃ k, k = w1.heap.size := ⟨_, rfl⟩
  have HK := hid (show (w1.alloc (logObj D.d name 0 false false)).heap[k]? = some (logObj D.d name 0 false false) from by rw [hk]; exact (MapKept.heap_alloc w1 _).1)
  have HKW := hid (show w.heap.size ≤ k from by rw [hk]; exact HB.out.size)
  have HGO := hid (show Goes w w2 D D2 from (Goes.new HD.out (Fr.of_below (below_alloc HB.out _) [])).trans GG.out)
  have HOWN := hid (show (∀ j, j ∈ D2.own ∨ j ∈ D2.boxes → j < w.heap.size) from by rcases HC2.out with ⟨_, _, rfl, _⟩ | ⟨_, _, rfl, _⟩ | ⟨_, rfl, _⟩ <;> exact HLT.out)
  have HK2 := hid (show w2.heap[k]? = some (logObj D.d name 0 false false) from (GG.out.fr.keep k (by rw [hk]; simp only [World.size_alloc]; omega) (fun hm => by have := HLT.out k (.inl hm); have := HKW.out; omega)).trans HK.out)
  have HKB := hid (show k < (w1.alloc (.cells #[P D.d, .string name, .int .i64 0, .bool false, .bool false] 75)).heap.size from by rw [hk]; simp only [World.size_alloc]; omega)
  rw [← hk]
  clear hk GG
  by_cases hz : c2 = 0
  · subst hz
    have hl : lst = fb := by
      rcases HC2.out with ⟨e, _⟩ | ⟨e, _⟩ | ⟨_, _, e⟩
      · cases e
      · cases e
      · exact e
    subst hl
    obtain ⟨A9, c9, rfl, hlc9, hC9⟩ := Kd.R_reads R9.out
    have HLS := hid (show ∀ W, Fr [k] w2 W → Kd.C kB W A9 lst.length lst from C_after R9.out (fun j hj => by rw [List.mem_singleton.1 hj]; exact HKB.out))
    have HLC := hid hlc9
    have HNG := hid hGl
    have HBY := hid (show byteL lst from by rw [← HFB.out]; exact byteL_app (encs_byte G) HTT.out.byte)
    clear hlc9 hC9
    obtain ⟨NG, hNG⟩ : ∃ NG, NG = G.length := ⟨_, rfl⟩
    have HNGe := hid hNG
    have hNGl : NG < 1048576 := by omega
    clear hNG hGl
    have HLE := hid (show lst.length = (encs G).length + t.length from by rw [← HFB.out, List.length_append])
    have HLB := hid htl
    clear htl HC2
    generalize hln : lst.length = ln at *
    have HLN := hid hln
    clear hln
    go_wp2
    go_loopg [10, 11, 12, 13] (NG + 1) (fun gg s10 _ _ _ wr => ∃ (kk : Nat) (A : Option Addr) (c : Nat) (acc : List (List ByteArray)), kk ≤ NG ∧ NG + 1 - kk ≤ gg ∧ s10 = .slice A acc.length c ∧ Hid (acc = G.take kk) ∧ Hid (acc.length = kk) ∧ Hid (Kd.R kG 34 wr w2.heap.size (fun _ => True) (.slice A acc.length c) acc) ∧ Hid (Fr [k] w2 wr) ∧ Hid (wr.heap[k]? = some (logObj D.d name ((encs (G.take kk)).length : Nat) false false)))
    case atStart => exact ⟨0, none, 0, [], Nat.zero_le _, by omega, rfl, hid rfl, hid rfl, hid (Kd.R_nil _ _ _ _ _), hid (Fr.refl _ _), HK2⟩
    case round =>
      obtain ⟨kk, A, c, acc, hkk, hgk, rfl, HA, HAL, RA, FA, HKC⟩ := hrel
      have q2 := (cell_of HKC.out 2).trans rfl
      have f2 := free_of HKC.out 2
      have HFR := hid (show Fr D.own w wr from HGO.out.fr.trans FA.out (fun j hj => .inr (by rw [List.mem_singleton.1 hj]; exact HKW.out)))
      obtain ⟨sz, hsz⟩ : ∃ sz, sz = (encs (G.take kk)).length := ⟨_, rfl⟩
      have HSZE := hid hsz
      rw [← hsz] at q2
      have hle := HLE.out
      have hsplit : encs G = encs (G.take kk) ++ encs (G.drop kk) := by rw [← encs_append, List.take_append_drop]
      have hdl : lst.drop sz = encs (G.drop kk) ++ t := by rw [← HFB.out, hsplit, hsz, List.append_assoc, List.drop_left]
      have hsle : sz ≤ ln := by rw [hle, hsplit, List.length_append, hsz]; omega
      obtain ⟨A', M, hM, hq, hC', hc'⟩ := dropB wr A9 c9 lst sz (sz : Int) rfl (by rw [HLN.out]; exact HLS.out wr FA.out) (by rw [HLN.out]; exact hsle) (by rw [HLN.out]; exact HLC.out)
      rw [HLN.out] at hq
      have hMe : M = encs (G.drop kk) ++ t := by rw [hM]; exact hdl
      have hMl : M.length = ln - sz := by rw [hM, List.length_drop, HLN.out]
      have hMb : byteL M := by rw [hM]; exact fun x hx => HBY.out x (List.mem_of_mem_drop hx)
      by_cases hlt : kk < NG
      · have hlt2 : kk < G.length := by rw [← HNGe.out]; exact hlt
        have hdrop : G.drop kk = G[kk] :: G.drop (kk + 1) := List.drop_eq_getElem_cons hlt2
        have hgok := HGG.out _ (List.getElem_mem hlt2)
        have hMg : M = enc G[kk] ++ (encs (G.drop (kk + 1)) ++ t) := by rw [hMe, hdrop, encs_cons, List.append_assoc]
        have HQ := hid (read_calls wr (HLD.out wr HFR.out) A' (c9 - sz) M hC' hc' hMb (by rw [hMl]; have := HLB.out; omega) (rd_good hgok hMg))
        have hel := enc_length G[kk]
        have hlen1 : M.length = (enc G[kk]).length + ((encs (G.drop (kk + 1))).length + t.length) := by rw [hMg]; simp only [List.length_append]
        have HA2 := hid (show acc ++ [G[kk]] = G.take (kk + 1) from by rw [HA.out, List.take_succ_eq_append_getElem hlt2])
        have HS2 := hid (show (encs (G.take (kk + 1))).length = sz + (enc G[kk]).length from by rw [List.take_succ_eq_append_getElem hlt2, encs_append, encs_one, List.length_append, ← hsz])
        generalize G[kk] = gx at *
        generalize henc : (enc gx).length = el at *
        have hel13 : ((el : Int) == 0) = false := by simp; omega
        have hszl : (sz : Int) < (ln : Int) := by omega
        have HMN := hid (show M.length ≤ ln from by omega)
        have HBD := hid (show sz + el ≤ ln from by omega)
        have HLTK := hid hlt
        clear hsz hsplit hdl hM hMe hMl hMb hdrop hgok hMg hel hlen1 henc hlt hlt2 hle HA hc' hC'
        generalize M.length = ml at *
        have hbdz : (sz : Int) + (el : Int) < 4611686018427387904 := by have := HBD.out; have := HLB.out; omega
        go_wp2_with (first
          | (go_at_call 32; refine HQ.out.mono ?_; rintro e w3 ⟨v3, rfl, r3, hb3⟩; obtain ⟨A3, c3, rfl⟩ := Kd.R_slice r3; have R3 := hid r3; have B3 := hid hb3; have RA3 := hid (Kd.R_below RA.out hb3); have HK3 := hid ((hb3.block k (lt_of HKC.out)).trans HKC.out); have F3 := hid (FA.out.trans (Fr.of_below hb3 []) (fun _ hj => by cases hj)); clear r3 hb3)
          | ((with_reducible refine gate_builtin (b := .append) (xs := #[.tmp 69, .tmp 71]) rfl ?_); (try (refine gate_guard (by rfl) ?_; dsimp only)); at_builtin; refine Kd.R_append kG (w0 := w3) w2.heap.size rfl (.tmp 69) (.tmp 71) 28 34 (.slice none 0 0) 24 rfl Tryd.underlying28 info34 rfl (by decide) (by omega) (.slice A acc.length c) acc gx [.slice A3 gx.length c3] (fun _ => True) (fun j => wr.heap.size ≤ j) rfl rfl ?aP ?aQ (fun _ _ => trivial) ?aO ?aB ?aS ?aL ?_; (case aP => exact Kd.M_row (Kd.R_lower (Kd.R_mono (Kd.R_bound R3.out) (fun j hj => hj.2.1)) FA.out.size)); (case aQ => exact fun j hj => ⟨trivial, fun e => by have := (Kd.R_bound RA.out).1 j e.symm; exact Nat.lt_irrefl _ (Nat.lt_of_lt_of_le this.2.2.1 hj)⟩); (case aO => exact RA3.out); (case aB => exact Below.refl _ _); (case aS => exact F3.out.size); (case aL => have := HAL.out; omega); intro v4 w4 hr4 hb4 hg4 hat4; obtain ⟨A4, c4, rfl⟩ := Kd.R_slice hr4; have R4 := hid hr4; have HK4 := hid ((hb4.block k (lt_of HK2.out)).trans HK3.out); have F4 := hid (show Fr [k] w2 w4 from ⟨hb4.os.trans F3.out.os, hb4.tape.trans F3.out.tape, hb4.output.trans F3.out.output, Nat.le_trans F3.out.size hb4.size, fun j hj hn => (hb4.block j hj).trans (F3.out.keep j hj hn)⟩); have q4 : w4.cell? ⟨k, 2, none⟩ = some (.int .i64 (sz : Int)) := (by have := (cell_of HK4.out 2).trans rfl; rw [← HSZE.out] at this; exact this); have f4 := free_of HK4.out 2; clear hr4 hb4 hg4 hat4))
        go_roundg (NG + 1 - (kk + 1))
        case measure => have := HLTK.out; omega
        case rel => exact ⟨kk + 1, A4, c4, acc ++ [gx], by have := HLTK.out; omega, by omega, by rw [List.length_append]; rfl, HA2, hid (by rw [List.length_append, HAL.out]; rfl), hid (Kd.R_mono (Kd.R_far (Kd.R_bound R4.out) (p := ⟨k, 2, none⟩) (fun j hj => by have := hj.2.1; have := lt_of HK2.out; show j ≠ k; omega) _) (fun _ _ => trivial)), hid (F4.out.trans (Fr.set w4 ⟨k, 2, none⟩ _ (List.mem_singleton.2 rfl) : Fr [k] _ _) (fun _ hj => .inl hj)), hid (by rw [heap_set HK4.out, HS2.out]; rfl)⟩
      · have hkN : kk = NG := by omega
        have hdn : G.drop kk = [] := List.drop_of_length_le (by rw [hkN, HNGe.out]; exact Nat.le_refl _)
        have htk : G.take kk = G := List.take_of_length_le (by rw [hkN, HNGe.out]; exact Nat.le_refl _)
        have hMt : M = t := by rw [hMe, hdn]; rfl
        have hszG : sz = (encs G).length := by rw [hsz, htk]
        have HRG := hid (show Kd.R kG 34 wr w.heap.size (fun j => j ≠ k) (.slice A acc.length c) G from by
          have e : acc = G := by rw [HA.out, htk]
          have r := RA.out
          rw [e] at r ⊢
          exact Kd.R_lower (Kd.R_mono (Kd.R_bound r) (fun j hj => by have := hj.2.1; have := lt_of HK2.out; omega)) HGO.out.fr.size)
        have HKG := hid (show wr.heap[k]? = some (logObj D.d name ((encs G).length : Nat) false false) from by rw [← htk]; exact HKC.out)
        by_cases htn : t = []
        · have hge : ¬ ((sz : Int)) < (ln : Int) := by rw [hle, htn, hszG]; simp
          have HTN := hid htn
          clear hsz hsplit hdl hM hMe hMl hMb hdn htk hMt hszG HA htn hle hkN hlt hC' hc' hsle
          go_wp2
          go_ret3
          unfold OpenPost
          exact ⟨D2, HGO.out.far FA.out HKW.out HOWN.out, Hg2.out, Hd2.out, HOWN.out, .inl ⟨k, _, rfl, HRG.out, by rw [HTN.out]; exact HKG.out, HKW.out, (fun hm => by have := HOWN.out k (.inl hm); have := HKW.out; omega), (fun hm => by have := HOWN.out k (.inr hm); have := HKW.out; omega)⟩⟩
        · have hszl : ((sz : Int)) < (ln : Int) := by
            have := List.length_pos_iff.2 htn
            omega
          have HTN := hid (show decide (t ≠ []) = true from decide_eq_true htn)
          have HQ := hid (read_calls wr (HLD.out wr HFR.out) A' (c9 - sz) M hC' hc' hMb (by rw [hMl]; have := HLB.out; omega) (rd_tail (by rw [hMt]; exact HTT.out)))
          clear hsz hsplit hdl hM hMe hMl hMb hdn htk hMt hszG HA htn hle hkN hlt hC' hc' hsle
          generalize M.length = ml at *
          go_wp2_with (go_at_call 32; refine HQ.out.mono ?_; rintro e w3 ⟨v3, rfl, r3, hb3⟩; have RG3 := hid (Kd.R_below HRG.out hb3); have HK3 := hid ((hb3.block k (lt_of HKC.out)).trans HKG.out); have F3 := hid (FA.out.trans (Fr.of_below hb3 []) (fun _ hj => by cases hj)); have q4 := (cell_of HK3.out 4).trans rfl; have f4 := free_of HK3.out 4; clear r3 hb3)
          go_ret3
          unfold OpenPost
          exact ⟨D2, HGO.out.far (F3.out.trans (Fr.set w3 ⟨k, 4, none⟩ _ (List.mem_singleton.2 rfl) : Fr [k] _ _) (fun _ hj => .inl hj)) HKW.out HOWN.out, Hg2.out, Hd2.out, HOWN.out, .inl ⟨k, _, rfl, Kd.R_far RG3.out (p := ⟨k, 4, none⟩) (fun j hj => hj) _, by rw [heap_set HK3.out, HTN.out]; rfl, HKW.out, (fun hm => by have := HOWN.out k (.inl hm); have := HKW.out; omega), (fun hm => by have := HOWN.out k (.inr hm); have := HKW.out; omega)⟩⟩
  · have HCC := hid (show (c2 = 35 ∧ D.dead = true) ∨ (c2 = 34 ∧ 0 < D.fails D.ops ∧ D2.ops = D.ops + 1) from by
      rcases HC2.out with ⟨e, h1, _⟩ | ⟨e, h1, rfl, _⟩ | ⟨e, _⟩
      · exact .inl ⟨e, h1⟩
      · exact .inr ⟨e, h1, rfl⟩
      · exact absurd e hz)
    clear HC2
    go_wp2
    go_ret3
    unfold OpenPost
    exact ⟨D2, HGO.out, Hg2.out, Hd2.out, HOWN.out, .inr ⟨c2, rfl, HCC.out⟩⟩
end
end Go.Proofs.YthlmbgaipbjbhaaDoor.L
end
section
namespace Go.Proofs.YthlmbgaipbjbhaaDoor.L
open Go.RowKit Go.Lib Go.Maps Go.Proofs.YthlmbgaipbjbhaaDoor.P
open Go.Proofs.YthlmbgaipbjbhaaDoorW.PrintWords Go.Proofs.YthlmbgaipbjbhaaDoorW.PrintLast Go.Proofs.YthlmbgaipbjbhaaDoorW.PrintMore
set_option linter.unusedVariables false
structure Dw (w0 w : World) (N B : Nat) (D : Dk) : Prop where
  at_ : DkAt w D
  bel : Below w0.heap.size w0 w
  own : ∀ j, j ∈ D.own ∨ j ∈ D.boxes → w0.heap.size ≤ j
  good : Good N B D
structure Lw (w0 w : World) (D : Dk) (k : Nat) (name : ByteArray) (G : List (List ByteArray)) : Prop where
  lw : ∃ size ready torn, w.heap[k]? = some (logObj D.d name size ready torn) ∧ Log D name G size ready torn
  ge : w0.heap.size ≤ k
  off : k ∉ D.own ∧ k ∉ D.boxes
section
variable {w0 w w' : World} {N M B k : Nat} {D D' : Dk} {name next : ByteArray} {G : List (List ByteArray)} {g : List ByteArray}
theorem Dw.mono (h : Dw w0 w N B D) (hN : N ≤ M) : Dw w0 w M B D := ⟨h.at_, h.bel, h.own, h.good.mono hN (Nat.le_refl _)⟩
theorem Dw.step (h : Dw w0 w N B D) (g : Goes w w' D D') (hg : Good M B D') : Dw w0 w' M B D' :=
  ⟨g.at_, h.bel.trans (g.fr.below h.bel.size (fun j hj => h.own j (.inl hj))), fun j hj => by
    rcases hj with hj | hj
    · exact (g.own j hj).elim (fun e => h.own j (.inl e)) (fun e => Nat.le_trans h.bel.size e)
    · exact (g.box j hj).elim (fun e => h.own j (.inr e)) (fun e => Nat.le_trans h.bel.size e), hg⟩
theorem Dw.new (h : Dw w0 w N B D) (f : Fr [] w w') : Dw w0 w' N B D := h.step (Goes.new h.at_ f) h.good
theorem Dw.laid (h : Dw w0 w N B D) (hL : Laid w0) {own : List Nat} (ho : ∀ j ∈ own, w0.heap.size ≤ j) : ∀ W, Fr own w W → Laid W := fun W f => hL.below (h.bel.trans (f.below h.bel.size ho))
theorem Lw.new (h : Lw w0 w D k name G) (f : Fr [] w w') : Lw w0 w' D k name G := by
  obtain ⟨s, r, t, h1, h2⟩ := h.lw
  exact ⟨⟨s, r, t, (f.keep k (lt_of h1) (by simp)).trans h1, h2⟩, h.ge, h.off⟩
structure Calm (R : Nat) (D : Dk) : Prop where
  cut : D.cut < 0
  off : D.off = false
  fails : ∀ t, D.fails t = 0
  room : (R : Int) ≤ D.room
theorem Calm.did {R : Nat} {T : ByteArray → Prop} {j : Nat} (h : Calm R D) (d : Did T j D D') : Calm R D' := ⟨by rw [d.cut]; exact h.cut, d.off h.cut h.off, by rw [d.fails]; exact h.fails, by rw [d.room]; exact h.room⟩
theorem Calm.to {R : Nat} {H : List (List ByteArray)} {s : Int} {r t : Bool} {c : Int} (h : Calm R D) (l : LogTo R D D' name G H s r t c) : c = 0 ∧ Log D' name H s r t := by
  rcases l with h1 | ⟨_, hg, _⟩ | ⟨hw, _⟩
  · exact h1
  · exact absurd ⟨h.cut, h.off⟩ hg
  · rcases hw with ⟨_, hr⟩ | ⟨_, t, _, _, hf⟩
    · have := h.room; omega
    · rw [h.fails t] at hf; exact absurd hf (by decide)
def DidCall (w0 w : World) (R N B k : Nat) (D : Dk) (name next : ByteArray) (G H : List (List ByteArray)) (e : Ending) (w' : World) : Prop :=
  ∃ (c : Int) (D' : Dk), e = .returned (.int .i64 c) ∧ Dw w0 w' (N + 16) B D' ∧ Did (fun x => x = name ∨ x = next) 7 D D' ∧ Fr (k :: D.own) w w' ∧ (∀ j ∈ D'.own, j ∈ D.own ∨ w.heap.size ≤ j) ∧
    ((c = 0 ∧ Lw w0 w' D' k name H) ∨ (c = 35 ∧ Gone D ∧ Cuts D' name (fun o => Reads (o.getD []) G ∨ Reads (o.getD []) H)) ∨ (Why D D' c R ∧ Lw w0 w' D' k name G))
theorem did_call {R : Nat} {H : List (List ByteArray)} {e : Ending} (dw : Dw w0 w N B D) (lw : Lw w0 w D k name G) (h : CallPost R N B k D name next G H w e w') : DidCall w0 w R N B k D name next G H e w' := by
  obtain ⟨c, D', s, r, t, he, hg, gd, dd, hl⟩ := h
  have hk : k < w.heap.size := hg.off.2.2
  refine ⟨c, D', he, ⟨hg.at_, dw.bel.trans (hg.fr.below dw.bel.size (fun j hj => ?_)), fun j hj => ?_, gd⟩, dd, hg.fr, hg.own, ?_⟩
  · rcases List.mem_cons.1 hj with e | hj
    · rw [e]; exact lw.ge
    · exact dw.own j (.inl hj)
  · rcases hj with hj | hj
    · exact (hg.own j hj).elim (fun e => dw.own j (.inl e)) (fun e => Nat.le_trans dw.bel.size e)
    · exact (hg.box j hj).elim (fun e => dw.own j (.inr e)) (fun e => Nat.le_trans dw.bel.size e)
  · have hlog : ∀ {K : List (List ByteArray)}, Log D' name K s r t → Lw w0 w' D' k name K := fun hK => ⟨⟨s, r, t, hg.log, hK⟩, lw.ge, hg.koff⟩
    rcases hl with ⟨e, h1⟩ | h1 | ⟨h1, h2⟩
    · exact .inl ⟨e, hlog h1⟩
    · exact .inr (.inl h1)
    · exact .inr (.inr ⟨h1, hlog h2⟩)
theorem append_w (dw : Dw w0 w N B D) (lw : Lw w0 w D k name G) (hL : Laid w0) (hN : N + 40 < 1048576) (hB : B < 1099511627776) (hnm : Named name next) (ns : List ByteArray) (o : Only (fun x => x ∈ ns) D) (hin : name ∈ ns) (hin2 : next ∈ ns) (A : Option Addr) (c : Nat) (hg : GOk g) (hC : ∀ W, Fr (k :: D.own) w W → Kd.C Kd.string W A g.length g) (hbl : (encs G).length + (enc g).length ≤ B) {R : Nat} (hR : R = (ns.length + 1) * B) :
    Calls Tryd.prog 11 #[P k, .slice A g.length c] w fun e w' => DidCall w0 w R N B k D name next G (G ++ [g]) e w' := by
  obtain ⟨s, r, t, h1, h2⟩ := lw.lw
  refine (append_calls (LG.start dw.at_ h1 lw.off.1 lw.off.2) (dw.laid hL (fun j hj => ?_)) dw.good hN hB hnm ns o hin hin2 A c hg hC h2 hbl hR).mono (fun e w' h => did_call dw lw h)
  rcases List.mem_cons.1 hj with e | hj
  · rw [e]; exact lw.ge
  · exact dw.own j (.inl hj)
theorem reset_w (dw : Dw w0 w N B D) (lw : Lw w0 w D k name G) (hL : Laid w0) (hN : N + 40 < 1048576) (hB : B < 1099511627776) (hnm : Named name next) (ns : List ByteArray) (o : Only (fun x => x ∈ ns) D) (hin : name ∈ ns) (hin2 : next ∈ ns) (A : Option Addr) (c : Nat) (hg : GOk g) (hC : Kd.C Kd.string w A g.length g) (hbl : (enc g).length ≤ B) {R : Nat} (hR : R = (ns.length + 1) * B) :
    Calls Tryd.prog 29 #[P k, .slice A g.length c] w fun e w' => DidCall w0 w R N B k D name next G [g] e w' := by
  obtain ⟨s, r, t, h1, h2⟩ := lw.lw
  exact (reset_calls (LG.start dw.at_ h1 lw.off.1 lw.off.2) (hL.below dw.bel) dw.good (by omega) hB hnm ns o hin hin2 A c hg hC h2 hbl hR).mono (fun e w' h => did_call dw lw h)
theorem open_new (dw : Dw w0 w N B D) (hs : wName name = true) (f : Firm D name none) :
    Calls Tryd.prog 10 #[P D.d, .string name] w fun e w' => ∃ k, e = .returned (.tuple #[P k, .slice none 0 0, .int .i64 0]) ∧ Below w.heap.size w w' ∧ Dw w0 w' N B D ∧ w.heap.size ≤ k ∧ Lw w0 w' D k name [] := by
  refine (open_none dw.at_ hs (f.no rfl)).mono ?_
  rintro e w' ⟨k, rfl, hb, hk, hc⟩
  exact ⟨k, rfl, hb, dw.new (Fr.of_below hb []), hk, ⟨0, false, false, hc, [], Tail.nil, ⟨none, f, rfl, fun e => by cases e⟩, rfl, by simp⟩, Nat.le_trans dw.bel.size hk, fun hm => by have := dw.at_.lt k hm; omega, fun hm => by have := dw.at_.blt k hm; omega⟩
end
end Go.Proofs.YthlmbgaipbjbhaaDoor.L
end
