/- What WalTells wants: names, live calls, a log that is opened behind a turn. -/
import Derived.Test.YthlmbgaipbjbhaaDoorPair
namespace Go.Proofs.YthlmbgaipbjbhaaDoor.L
open Go.RowKit Go.Lib Go.Maps Go.Proofs.YthlmbgaipbjbhaaDoor.P
open Go.Proofs.YthlmbgaipbjbhaaDoorW.PrintWords Go.Proofs.YthlmbgaipbjbhaaDoorW.PrintLast Go.Proofs.YthlmbgaipbjbhaaDoorW.PrintMore
set_option linter.unusedVariables false
section
variable {w0 w w' : World} {N B k kc x : Nat} {D D' : Dk} {vg : Value} {G H : List (List ByteArray)} {s : ByteArray}
theorem names_mem {d : Names} {es : List (ByteArray × Nat)} (h : Lists d es) {s : ByteArray} (hs : s ∈ (namesOf es).map (fun b => (⟨b.toArray⟩ : ByteArray))) : ∃ b, d s = some b := by
  obtain ⟨x, hx, rfl⟩ := List.mem_map.1 hs
  have h2 : x ∈ es.map fun p => p.1.data.toList := List.mem_mergeSort.1 hx
  obtain ⟨p, hp, rfl⟩ := List.mem_map.1 h2
  exact ⟨p.2, (h.is p.1 p.2 (h.short p hp)).2 hp⟩
theorem names_w (h : DkAt w D) (g : Good N B D) (hN : N ≤ 4294967296) :
    Calls Tryd.prog 20 #[P D.d] w fun e w' => ∃ v l, e = .returned v ∧ Kd.R Kd.string 9 w' w.heap.size (fun _ => True) v l ∧ Below w.heap.size w w' ∧ l.length ≤ N ∧ ∀ s ∈ l, ∃ b, D.dir s = some b := by
  obtain ⟨es, hes, _, hel⟩ := h.dirM.list
  have hl := Nat.le_trans hel g.nN
  refine (names_calls h es hes (by omega)).mono ?_
  rintro e w' ⟨v, rfl, hr, hb⟩
  exact ⟨v, _, rfl, hr, hb, by simp [namesOf]; exact hl, fun s hs => names_mem hes hs⟩
theorem Wx.of_lay2 {e : Ending} (h : Wx w0 w N D kc k x vg G) (hc : D.cut < 0) (hoff : D.off = false) (hl : DidLay w0 w 12582912 N 4194304 k D nLog nLog2 G H [] false e w') :
    ∃ (D' : Dk), e = .returned (.tuple #[.int .i64 0, .bool true]) ∧ Wx w0 w' (N + 16) D' kc k x vg G ∧ D'.d = D.d ∧ Fr (k :: D.own) w w' ∧ (∀ j ∈ D'.own, j ∈ D.own ∨ w.heap.size ≤ j) ∧ Lw w0 w' D' k nLog H ∧ D'.cut < 0 ∧ D'.off = false := by
  obtain ⟨c, D', rfl, dw, d, f, ho, way⟩ := hl
  have hx : Wx w0 w' (N + 16) D' kc k x vg G := by
    refine ⟨dw, by rw [d.d]; exact (f.keep x h.xlt h.xoff).trans h.obj, h.xge, fun hm => ?_, Nat.lt_of_lt_of_le h.klt f.size, h.kge, d.only _ (fun y hy => by rcases hy with hy | hy <;> simp [hy]) h.only, by rw [d.fails]; exact h.fails, by rw [d.room]; exact h.room, h.row.to f (fun j hj => List.mem_cons_of_mem _ hj) (fun j hj => ?_)⟩
    · rcases List.mem_cons.1 hm with e | hm
      · exact h.xoff (by rw [e]; exact List.mem_cons_self)
      · exact (ho x hm).elim (fun e => h.xoff (List.mem_cons_of_mem _ e)) (fun e => by have := h.xlt; omega)
    · rcases List.mem_cons.1 hj with e | hj
      · exact .inl (by rw [e]; exact List.mem_cons_self)
      · rcases List.mem_cons.1 hj with e | hj
        · exact .inl (by rw [e]; simp)
        · exact (ho j hj).elim (fun e => .inl (List.mem_cons_of_mem _ (List.mem_cons_of_mem _ e))) .inr
  rcases way with ⟨e, l⟩ | ⟨e, hg, l⟩ | ⟨y, _⟩
  · refine ⟨D', ?_, hx, d.d, f, ho, l, by rw [d.cut]; exact hc, d.off hc hoff⟩
    rw [e, mayL_nil _ _ _ _ (fun h => absurd h (by decide))]; rfl
  · exact absurd ⟨hc, hoff⟩ hg
  · rcases y with ⟨_, hr⟩ | ⟨_, t, _, _, hf⟩
    · have := h.room; omega
    · rw [h.fails t] at hf; exact absurd hf (by decide)
theorem Wx.of_call {e : Ending} (h : Wx w0 w N D kc k x vg G) (hl : DidCall w0 w 12582912 N 4194304 k D nLog nLog2 G H e w') :
    ∃ (c : Int) (D' : Dk), e = .returned (.int .i64 c) ∧ Wx w0 w' (N + 16) D' kc k x vg G ∧ D'.d = D.d ∧ Fr (k :: D.own) w w' ∧ Cuts D' nLog (fun o => Reads (o.getD []) G ∨ Reads (o.getD []) H) := by
  obtain ⟨c, D', rfl, dw, d, f, ho, way⟩ := hl
  have hx : Wx w0 w' (N + 16) D' kc k x vg G := by
    refine ⟨dw, by rw [d.d]; exact (f.keep x h.xlt h.xoff).trans h.obj, h.xge, fun hm => ?_, Nat.lt_of_lt_of_le h.klt f.size, h.kge, d.only _ (fun y hy => by rcases hy with hy | hy <;> simp [hy]) h.only, by rw [d.fails]; exact h.fails, by rw [d.room]; exact h.room, h.row.to f (fun j hj => List.mem_cons_of_mem _ hj) (fun j hj => ?_)⟩
    · rcases List.mem_cons.1 hm with e | hm
      · exact h.xoff (by rw [e]; exact List.mem_cons_self)
      · exact (ho x hm).elim (fun e => h.xoff (List.mem_cons_of_mem _ e)) (fun e => by have := h.xlt; omega)
    · rcases List.mem_cons.1 hj with e | hj
      · exact .inl (by rw [e]; exact List.mem_cons_self)
      · rcases List.mem_cons.1 hj with e | hj
        · exact .inl (by rw [e]; simp)
        · exact (ho j hj).elim (fun e => .inl (List.mem_cons_of_mem _ (List.mem_cons_of_mem _ e))) .inr
  rcases way with ⟨e, l⟩ | ⟨e, hg, l⟩ | ⟨y, l⟩
  · exact ⟨c, D', rfl, hx, d.d, f, (l.cuts dw.good).mono (fun _ h => .inr h)⟩
  · exact ⟨c, D', rfl, hx, d.d, f, l⟩
  · exact ⟨c, D', rfl, hx, d.d, f, (l.cuts dw.good).mono (fun _ h => .inl h)⟩
def Told (G : List (List ByteArray)) (y : Int) (w : World) (D : Dk) (e : Ending) (w' : World) : Prop :=
  Fr D.own w w' ∧ ((∃ k A c, e = .returned (.tuple #[P k, .slice A G.length c, .int .i64 0]) ∧ Kd.C kG w' A G.length G ∧ G.length ≤ c) ∨ (y ≠ 0 ∧ e = .returned (.tuple #[.pointer none, .slice none 0 0, .int .i64 52])))
theorem OpenPost.told {t : List Int} {y : Int} {e : Ending} (h : OpenPost N B D nLog G t w e w') (hd : D.dead = false) (hf : ∀ t, D.fails t = 0) : Told G y w D e w' := by
  obtain ⟨D', g, _, _, _, h⟩ := h
  refine ⟨g.fr, .inl ?_⟩
  rcases h with ⟨k, v, he, hr, _⟩ | ⟨c, _, ⟨_, h⟩ | ⟨_, h, _⟩⟩
  · obtain ⟨A, c, rfl, h1, h2⟩ := R_c hr
    exact ⟨k, A, c, he, h2, h1⟩
  · rw [hd] at h; cases h
  · rw [hf] at h; exact absurd h (by decide)
theorem OpenBad.told {y : Int} {e : Ending} (h : OpenBad N B D w e w') (hd : D.dead = false) (hf : ∀ t, D.fails t = 0) (hy : y ≠ 0) : Told G y w D e w' := by
  obtain ⟨D', g, _, _, _, h⟩ := h
  refine ⟨g.fr, .inr ⟨hy, ?_⟩⟩
  rcases h with h | ⟨c, _, ⟨_, h⟩ | ⟨_, h, _⟩⟩
  · exact h
  · rw [hd] at h; cases h
  · rw [hf] at h; exact absurd h (by decide)
theorem told_calls {w1 : World} {o : Option (List Int)} (hL : ∀ W, Fr D.own w W → Laid W) (a : DkAt w D) (g : Good N B D) (hN : N + 8 < 1048576) (hB : B < 1099511627776) (f : Firm D nLog o) (hr : Reads (o.getD []) G) (hG : ∀ x ∈ G, GOk x) (hGl : G.length < 1048576) (hd : D.dead = false) (hfa : ∀ t, D.fails t = 0)
    (fl : Fl) (hfl : fl ∈ D.fs) (hs : D.dir s = some fl.blk) (p : Nat) (hp : p < fl.b.length) (y : Int) (hy : 0 ≤ y ∧ y < 256) (gs : Goes w w1 D (D.setF (turnF fl p (xor8 (fl.b.getD p 0) y)))) :
    Calls Tryd.prog 10 #[P D.d, .string nLog] w1 fun e w' => Told G y w1 (D.setF (turnF fl p (xor8 (fl.b.getD p 0) y))) e w' := by
  obtain ⟨v, hv⟩ : ∃ v, v = xor8 (fl.b.getD p 0) y := ⟨_, rfl⟩
  rw [← hv] at gs ⊢
  have g2 : Good N B (D.setF (turnF fl p v)) := g.turn hfl rfl rfl (List.length_set ..)
  have hd2 : (D.setF (turnF fl p v)).dead = false := hd
  have hf2 : ∀ t, (D.setF (turnF fl p v)).fails t = 0 := hfa
  have hL2 : ∀ W, Fr (D.setF (turnF fl p v)).own w1 W → Laid W := fun W hW => hL W (gs.fr.trans hW gs.own)
  obtain ⟨t, ht, ho⟩ := hr
  cases o with
  | none =>
    have hdir : (D.setF (turnF fl p v)).dir nLog = none := f.no rfl
    have hG0 : G = [] := encs_nil (List.append_eq_nil_iff.1 ho.symm).1
    subst hG0
    refine (open_none (D := D.setF (turnF fl p v)) gs.at_ wNameLog hdir).mono ?_
    rintro e w' ⟨k, rfl, hb, _, _⟩
    exact ⟨Fr.of_below hb _, .inl ⟨k, none, 0, rfl, ⟨rfl, by simp, fun h => by simp at h⟩, Nat.le_refl _⟩⟩
  | some b =>
    obtain ⟨f0, hf0, hd0, hb0, hs0⟩ := f.yes b rfl
    have hbe : f0.b = encs G ++ t := hb0.trans ho
    by_cases hsn : s = nLog
    · subst hsn
      rw [hs] at hd0
      injection hd0 with hd0
      obtain rfl := g.uniq fl hfl f0 hf0 hd0
      have hby : byteL fl.b := by rw [hbe]; exact byteL_app (encs_byte G) ht.byte
      have hmem : turnF fl p v ∈ (D.setF (turnF fl p v)).fs := setF_self hfl rfl
      have hgd : fl.b.getD p 0 = fl.b[p] := by rw [List.getD_eq_getElem?_getD, List.getElem?_eq_getElem hp]; rfl
      have hxi := xor8_is (hby _ (List.getElem_mem hp)) hy
      rw [hgd] at hv
      rw [← hv] at hxi
      by_cases hy0 : y = 0
      · have hvp : v = fl.b[p] := hxi.2.2 hy0
        have hset : (turnF fl p v).b = encs G ++ t := by
          show fl.b.set p v = _
          rw [hvp, List.set_getElem_self, hbe]
        exact (open_some (D := D.setF (turnF fl p v)) gs.at_ hL2 g2 hN hB wNameLog t ht hG hGl (turnF fl p v) hmem hs hset).mono (fun e w' h => h.told hd2 hf2)
      · have hne : v ≠ fl.b[p] := fun h => hy0 (hxi.2.1 h)
        have hpl : p < (encs G ++ t).length := by rw [← hbe]; exact hp
        have hne' : v ≠ (encs G ++ t)[p] := by
          have h2 : fl.b[p]? = (encs G ++ t)[p]? := by rw [hbe]
          rw [List.getElem?_eq_getElem hp, List.getElem?_eq_getElem hpl] at h2
          injection h2 with h2
          rw [← h2]; exact hne
        obtain ⟨G1, t1, h1, h3, h4, h5, h6⟩ := turn_log G t hG ht p v hpl hxi.1 hne'
        have hset : (turnF fl p v).b = encs G1 ++ t1 := by
          show fl.b.set p v = _
          rw [hbe, h1]
        rcases h6 with ⟨rfl, h6⟩ | ⟨h6, h7⟩
        · exact (open_torn (D := D.setF (turnF fl p v)) gs.at_ hL2 g2 hN hB wNameLog t1 ⟨h5, h6⟩ h3 hGl (turnF fl p v) hmem hs hset).mono (fun e w' h => h.told hd2 hf2)
        · exact (open_bad (D := D.setF (turnF fl p v)) gs.at_ hL2 g2 hN hB wNameLog t1 ⟨h5, h7⟩ h6 h3 (by omega) (turnF fl p v) hmem hs hset).mono (fun e w' h => h.told hd2 hf2 hy0)
    · have hmem : f0 ∈ (D.setF (turnF fl p v)).fs := setF_mem rfl f0 hf0 (fun e => hsn (g.dinj s nLog fl.blk hs (by rw [← (show f0.blk = fl.blk from e)]; exact hd0)))
      exact (open_some (D := D.setF (turnF fl p v)) gs.at_ hL2 g2 hN hB wNameLog t ht hG hGl f0 hmem hd0 hbe).mono (fun e w' h => h.told hd2 hf2)
end
end Go.Proofs.YthlmbgaipbjbhaaDoor.L
