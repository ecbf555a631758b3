/- A crash, and a log that is opened, since a world w0; slices of texts that a function writes out. The laws' head: some of the document's examples. -/
import Derived.Test.YthlmbgaipbjbhaaDoorBun
section
namespace Go.Proofs.YthlmbgaipbjbhaaDoor.L
open Go.RowKit Go.Lib Go.Maps Go.Proofs.YthlmbgaipbjbhaaDoor.P
open Go.Proofs.YthlmbgaipbjbhaaDoorW.PrintWords Go.Proofs.YthlmbgaipbjbhaaDoorW.PrintLast Go.Proofs.YthlmbgaipbjbhaaDoorW.PrintMore
set_option linter.unusedVariables false
theorem replay_only {P : ByteArray → Prop} : ∀ (l : List Ac) (d0 : Names), (∀ x b, d0 x = some b → P x) → (∀ a ∈ l, ∀ x ∈ acT a, P x) → ∀ x b, replay l d0 x = some b → P x
  | [], d0, h0, _ => h0
  | a :: l, d0, h0, h => by
    refine replay_only l (a.app d0) (fun x b hx => ?_) (fun y hy => h y (List.mem_cons_of_mem _ hy))
    have ha := h a List.mem_cons_self
    cases a with
    | grow => exact h0 x b hx
    | make s f b1 b2 =>
      simp only [Ac.app] at hx
      split at hx
      · rename_i e; exact ha x (by rw [e]; exact List.mem_singleton.2 rfl)
      · exact h0 x b hx
    | move s t b1 b2 =>
      simp only [Ac.app] at hx
      split at hx
      · cases hx
      · split at hx
        · rename_i e; exact ha x (by rw [e]; exact List.mem_singleton.2 rfl)
        · exact h0 x b hx
    | gone s b1 =>
      simp only [Ac.app] at hx
      split at hx
      · cases hx
      · exact h0 x b hx
section
variable {w0 w w' : World} {N M B k : Nat} {D D' : Dk} {name next : ByteArray} {G : List (List ByteArray)} {g : List ByteArray} {keep torn : Int}
theorem Only.crash {P : ByteArray → Prop} (o : Only P D) (c : Crashed keep torn D D') : Only P D' := by
  have hd : ∀ x b, D'.dir x = some b → P x := fun x b hx => by
    cases hq : dirU keep D.loose D.sure D.loose.length x with
    | none => rw [c.gone x hq] at hx; cases hx
    | some b2 =>
      rw [dirU_take _ _ _ _ (Nat.le_refl _)] at hq
      exact replay_only _ _ o.sure (fun a ha => o.acts a (List.mem_of_mem_take ha)) x b2 hq
  exact ⟨hd, by rw [c.sure]; exact hd, by rw [c.loose]; exact fun a ha => by cases ha⟩
theorem Calm.crash {R : Nat} (h : (R : Int) ≤ D.room) (c : Crashed keep torn D D') : Calm R D' := ⟨by rw [c.cut]; decide, c.off, c.fails, by rw [c.room]; exact h⟩
theorem crash_w (dw : Dw w0 w N B D) (hN : N < 1152921504606846976) (hB : B ≤ 140737488355327) (keep torn : Int) :
    Calls Tryd.prog 13 #[P D.d, .int .i64 keep, .int .i64 torn] w fun e w' => ∃ D2, e = .returned (P D2.d) ∧ Below w.heap.size w w' ∧ Dw w0 w' N B D ∧ Dw w0 w' (N + N) B D2 ∧ Crashed keep torn D D2 ∧ (∀ j, j ∈ D2.own ∨ j ∈ D2.boxes → w.heap.size ≤ j) := by
  refine (crash_good dw.at_ dw.good hN hB keep torn).mono ?_
  rintro e w' ⟨D2, rfl, h1, g2, c, hb, ho, _⟩
  have hown : ∀ j, j ∈ D2.own ∨ j ∈ D2.boxes → w.heap.size ≤ j := fun j hj => by
    rcases hj with hj | hj
    · exact ho j hj
    · unfold Dk.boxes at hj; rw [c.loose] at hj; cases hj
  exact ⟨D2, rfl, hb, dw.new (Fr.of_below hb []), ⟨h1, dw.bel.trans (hb.mono dw.bel.size), fun j hj => Nat.le_trans dw.bel.size (hown j hj), g2⟩, c, hown⟩
def DidOpen (w0 w : World) (N B : Nat) (D : Dk) (name : ByteArray) (G : List (List ByteArray)) (e : Ending) (w' : World) : Prop :=
  ∃ D', Dw w0 w' (N + 2) B D' ∧ Did (fun _ => False) 1 D D' ∧ Fr D.own w w' ∧ (∀ j ∈ D'.own, j ∈ D.own) ∧ (∀ j ∈ D'.boxes, j ∈ D.boxes) ∧
    ((∃ k v, e = .returned (.tuple #[P k, v, .int .i64 0]) ∧ Kd.R kG 34 w' w.heap.size (fun j => j ≠ k) v G ∧ w.heap.size ≤ k ∧ Lw w0 w' D' k name G) ∨
     (∃ c : Int, e = .returned (.tuple #[.pointer none, .slice none 0 0, .int .i64 c]) ∧ ((c = 35 ∧ D.dead = true) ∨ (c = 34 ∧ 0 < D.fails D.ops ∧ D'.ops = D.ops + 1))))
theorem encs_nil {G : List (List ByteArray)} (h : encs G = []) : G = [] := by
  cases G with
  | nil => rfl
  | cons a r => rw [encs_cons] at h; exact absurd (List.append_eq_nil_iff.1 h).1 (enc_ne a)
theorem open_w (dw : Dw w0 w N B D) (hL : Laid w0) (hN : N + 8 < 1048576) (hB : B < 1099511627776) (hs : wName name = true) (o : Option (List Int)) (f : Firm D name o) (hr : Reads (o.getD []) G) (hG : ∀ x ∈ G, GOk x) (hGl : G.length < 1048576) :
    Calls Tryd.prog 10 #[P D.d, .string name] w fun e w' => DidOpen w0 w N B D name G e w' := by
  obtain ⟨t, ht, he⟩ := hr
  cases o with
  | none =>
    have hn : encs G ++ t = [] := he.symm
    obtain rfl := encs_nil (List.append_eq_nil_iff.1 hn).1
    refine (open_new dw hs f).mono ?_
    rintro e w' ⟨k, rfl, hb, dw', hk, lw⟩
    exact ⟨D, dw'.mono (by omega), (Did.refl _ D).wider (fun _ hx => hx) (by omega), Fr.of_below hb _, fun j hj => hj, fun j hj => hj, .inl ⟨k, _, rfl, Kd.R_nil _ _ _ _ _, hk, lw⟩⟩
  | some b =>
    obtain ⟨x, hx, h1, h2, h3⟩ := f.yes b rfl
    have hb : x.b = encs G ++ t := h2.trans he
    refine (open_some dw.at_ (dw.laid hL (fun j hj => dw.own j (.inl hj))) dw.good hN hB hs t ht hG hGl x hx h1 hb).mono ?_
    rintro e w' ⟨D', gg, gd, dd, hlow, hh⟩
    refine ⟨D', dw.step gg gd, dd, gg.fr, fun j hj => ?_, fun j hj => ?_, ?_⟩
    · exact (gg.own j hj).elim id (fun e => by have := hlow j (.inl hj); omega)
    · exact (gg.box j hj).elim id (fun e => by have := hlow j (.inr hj); omega)
    · rcases hh with ⟨k, v, rfl, hr, hc, hk, ho1, ho2⟩ | hh
      · refine .inl ⟨k, v, rfl, hr, hk, ⟨_, false, decide (t ≠ []), by rw [dd.d]; exact hc, t, ht, ⟨some b, dd.firm name _ (fun x hx => hx.elim) f, he, fun e => by cases e⟩, rfl, by simp⟩, Nat.le_trans dw.bel.size hk, ho1, ho2⟩
      · exact .inr hh
theorem Lw.firm (h : Lw w0 w D k name G) : ∃ o, Firm D name o ∧ Reads (o.getD []) G := by
  obtain ⟨s, r, t, _, u, hu, ⟨o, h1, h2, _⟩, _⟩ := h.lw
  exact ⟨o, h1, u, hu, h2⟩
theorem Lw.cuts (h : Lw w0 w D k name G) (g : Good N B D) : Cuts D name (fun o => Reads (o.getD []) G) := by
  obtain ⟨o, h1, h2⟩ := h.firm
  exact h1.cuts g h2
theorem R_call {v : Value} {base : Nat} (h : Kd.R kG 34 w base (fun j => j ∉ k :: D.own) v G) (f : Fr (k :: D.own) w w') (ho : ∀ j ∈ D'.own, j ∈ D.own ∨ w.heap.size ≤ j) : Kd.R kG 34 w' base (fun j => j ∉ k :: D'.own) v G :=
  Kd.R_mono (Kd.R_step (Kd.R_mono (Kd.R_bound h) (fun j hj => (⟨hj.1, hj.2.2.1⟩ : j ∉ k :: D.own ∧ j < w.heap.size))) (fun j hj hlt => f.keep j hlt hj.1)) (fun j hj hm => by
    rcases List.mem_cons.1 hm with e | hm
    · exact hj.1 (by rw [e]; exact List.mem_cons_self)
    · rcases ho j hm with e | e
      · exact hj.1 (List.mem_cons_of_mem _ e)
      · have := hj.2; omega)
theorem R_old {v : Value} {base : Nat} {own : List Nat} (h : Kd.R kG 34 w base (fun _ => True) v G) (hlt : ∀ j ∈ own, j < base) : Kd.R kG 34 w base (fun j => j ∉ own) v G :=
  Kd.R_mono (Kd.R_bound h) (fun j hj hm => by have := hlt j hm; have := hj.2.1; omega)
theorem R_c {v : Value} {base : Nat} {ok : Nat → Prop} (h : Kd.R kG 34 w base ok v G) : ∃ A c, v = .slice A G.length c ∧ G.length ≤ c ∧ Kd.C kG w A G.length G := Kd.R_reads h
theorem Lw.after {i : Nat} (h : Lw w0 w D k name G) (f : Fr D.own w w') (d : Did (fun _ => False) i D D') (ho : ∀ j ∈ D'.own, j ∈ D.own) (hb : ∀ j ∈ D'.boxes, j ∈ D.boxes) : Lw w0 w' D' k name G := by
  obtain ⟨s, r, t, h1, h2⟩ := h.lw
  exact ⟨⟨s, r, t, by rw [f.keep k (lt_of h1) h.off.1, d.d]; exact h1, h2.did d (fun x hx => hx.elim)⟩, h.ge, fun hm => h.off.1 (ho k hm), fun hm => h.off.2 (hb k hm)⟩
theorem Calm.live {R : Nat} (h : Calm R D) : D.dead = false := live_of h.cut h.off
theorem C_lit (l : List ByteArray) {W : World} {b : Nat} {e : TypeId} (h : W.heap[b]? = some (.cells (l.map Value.string).toArray e (0, 0))) (hl : l.length ≤ 9223372036854775807) : Kd.C Kd.string W (some ⟨b, 0, none⟩) l.length l :=
  Kd.C_of_reads (d := ByteArray.empty) (h1 := fun _ => rfl) ⟨rfl, hl, fun _ => ⟨_, rfl, fun j hj => by
    rw [add_plain, cell_of h j]
    simp [List.getD_eq_getElem?_getD, List.getElem?_eq_getElem hj]⟩⟩
theorem C_lit_after (l : List ByteArray) (e : TypeId) (hl : l.length ≤ 9223372036854775807) {own : List Nat} (ho : w.heap.size ∉ own) : ∀ W, Fr own (w.alloc (.cells (l.map Value.string).toArray e)) W → Kd.C Kd.string W (some ⟨w.heap.size, 0, none⟩) l.length l := fun W f =>
  C_lit l ((f.keep _ (by simp) ho).trans (MapKept.heap_alloc w (.cells (l.map Value.string).toArray e)).1) hl
theorem C_nilS (w : World) : Kd.C Kd.string w none ([] : List ByteArray).length [] := ⟨rfl, by simp, fun h => by simp at h⟩
theorem C_rows {W : World} {b : Nat} {e : TypeId} (vs : List Value) (gs : List (List ByteArray)) (h : W.heap[b]? = some (.cells vs.toArray e (0, 0))) (hl : vs.length = gs.length) (hm : gs.length ≤ 9223372036854775807)
    (hv : ∀ (i : Nat) (h1 : i < vs.length) (h2 : i < gs.length), ∃ A c, vs[i] = .slice A gs[i].length c ∧ gs[i].length ≤ c ∧ Kd.C Kd.string W A gs[i].length gs[i]) : Kd.C kG W (some ⟨b, 0, none⟩) gs.length gs := by
  refine ⟨rfl, hm, fun _ => ⟨_, rfl, fun j p hj => ?_⟩⟩
  obtain ⟨hjl, rfl⟩ := List.getElem?_eq_some_iff.1 hj
  obtain ⟨A, c, e1, e2, e3⟩ := hv j (by omega) hjl
  refine ⟨[.slice A gs[j].length c], rfl, ⟨A, c, rfl, e2, e3⟩, fun i u hu => ?_⟩
  obtain ⟨hi, rfl⟩ := List.getElem?_eq_some_iff.1 hu
  obtain rfl : i = 0 := by simpa using hi
  show W.cell? ((⟨b, 0, none⟩ : Addr).add (j * 1 + 0)) = some (.slice A gs[j].length c)
  rw [Nat.mul_one, Nat.add_zero, add_plain, cell_of h j, ← e1]
  simp [List.getElem?_eq_getElem (show j < vs.length by omega)]
theorem DidCall.calm {R : Nat} {H : List (List ByteArray)} {e : Ending} (h : DidCall w0 w R N B k D name next G H e w') (hc : Calm R D) :
    ∃ D', e = .returned (.int .i64 0) ∧ Dw w0 w' (N + 16) B D' ∧ Did (fun x => x = name ∨ x = next) 7 D D' ∧ Fr (k :: D.own) w w' ∧ (∀ j ∈ D'.own, j ∈ D.own ∨ w.heap.size ≤ j) ∧ Lw w0 w' D' k name H := by
  obtain ⟨c, D', he, h1, h2, h3, h4, h5⟩ := h
  rcases h5 with ⟨e0, h5⟩ | ⟨_, hg, _⟩ | ⟨hw, _⟩
  · exact ⟨D', by rw [he, e0], h1, h2, h3, h4, h5⟩
  · exact absurd ⟨hc.cut, hc.off⟩ hg
  · rcases hw with ⟨_, hr⟩ | ⟨_, t, _, _, hf⟩
    · have := hc.room; omega
    · rw [hc.fails t] at hf; exact absurd hf (by decide)
theorem DidOpen.calm {R : Nat} {e : Ending} (h : DidOpen w0 w N B D name G e w') (hc : Calm R D) :
    ∃ D' k v, e = .returned (.tuple #[P k, v, .int .i64 0]) ∧ Dw w0 w' (N + 2) B D' ∧ Did (fun _ => False) 1 D D' ∧ Fr D.own w w' ∧ (∀ j ∈ D'.own, j ∈ D.own) ∧ (∀ j ∈ D'.boxes, j ∈ D.boxes) ∧ Kd.R kG 34 w' w.heap.size (fun j => j ≠ k) v G ∧ w.heap.size ≤ k ∧ Lw w0 w' D' k name G := by
  obtain ⟨D', h1, h2, h3, h4, h4b, h5⟩ := h
  rcases h5 with ⟨k, v, he, h5, h6, h7⟩ | ⟨c, _, ⟨_, h5⟩ | ⟨_, h5, _⟩⟩
  · exact ⟨D', k, v, he, h1, h2, h3, h4, h4b, h5, h6, h7⟩
  · rw [hc.live] at h5; cases h5
  · rw [hc.fails] at h5; exact absurd h5 (by decide)
theorem new_w (w0 : World) (room : Int) (hr : 0 ≤ room ∧ room < 4611686018427387904) {w : World} (hb : Below w0.heap.size w0 w) (B : Nat) :
    Calls Tryd.prog 9 #[.int .i64 room] w fun e w' => ∃ D, e = .returned (.tuple #[P D.d, .int .i64 0]) ∧ Below w.heap.size w w' ∧ Dw w0 w' 0 B D ∧ (∀ j, j ∈ D.own ∨ j ∈ D.boxes → w.heap.size ≤ j) ∧ (∀ s, Firm D s none) ∧ (∀ P : ByteArray → Prop, Only P D) ∧ (∀ R : Nat, (R : Int) ≤ room → Calm R D) := by
  refine (new_calls room hr.1 w).mono ?_
  rintro e w' ⟨rfl, h, hb2⟩
  have ho : ∀ j, j ∈ (newD w.heap.size room).own ∨ j ∈ (newD w.heap.size room).boxes → w.heap.size ≤ j := fun j hj => by
    simp [newD, Dk.own, Dk.boxes, Value.ownBlock] at hj
    omega
  exact ⟨newD w.heap.size room, rfl, hb2, ⟨h, hb.trans (hb2.mono hb.size), fun j hj => Nat.le_trans hb.size (ho j hj), Good.fresh _ _ _ _ hr.1⟩, ho, fun s => ⟨rfl, fun _ => rfl, (fun b e => by cases e), (fun a ha => by cases ha)⟩, fun P => ⟨(fun x b hx => by cases hx), (fun x b hx => by cases hx), (fun a ha => by cases ha)⟩, fun R hR => ⟨by show (-1 : Int) < 0; decide, rfl, fun _ => rfl, hR⟩⟩
end
end Go.Proofs.YthlmbgaipbjbhaaDoor.L
end
section
namespace Go.Proofs.YthlmbgaipbjbhaaDoor.L
open Go.RowKit Go.Lib Go.Maps Go.Proofs.YthlmbgaipbjbhaaDoor.P
open Go.Proofs.YthlmbgaipbjbhaaDoorW.PrintWords Go.Proofs.YthlmbgaipbjbhaaDoorW.PrintLast Go.Proofs.YthlmbgaipbjbhaaDoorW.PrintMore
set_option linter.unusedVariables false
abbrev tA : ByteArray := ⟨#[97]⟩
abbrev tB : ByteArray := ⟨#[98]⟩
abbrev tC : ByteArray := ⟨#[99]⟩
abbrev tD : ByteArray := ⟨#[100]⟩
abbrev nL : ByteArray := ⟨#[108]⟩
abbrev nL2 : ByteArray := ⟨#[108, 126]⟩
theorem namedL : Named nL nL2 := ⟨by kernel_rfl, by kernel_rfl, by kernel_rfl, by decide⟩
theorem wNameL : wName nL = true := by kernel_rfl
theorem gokAB : GOk [tA, tB] := ⟨by decide, by decide⟩
theorem gokN : GOk [] := ⟨by decide, by decide⟩
theorem gokC : GOk [tC] := ⟨by decide, by decide⟩
theorem gokD : GOk [tD] := ⟨by decide, by decide⟩
theorem lenAB : (enc [tA, tB]).length ≤ 29 := gokAB.enc
theorem lenN : (enc []).length ≤ 17 := gokN.enc
theorem lenC : (enc [tC]).length ≤ 23 := gokC.enc
theorem lenD : (enc [tD]).length ≤ 23 := gokD.enc
theorem lw_lt {w0 w : World} {N B k : Nat} {D : Dk} {name : ByteArray} {G : List (List ByteArray)} (dw : Dw w0 w N B D) (lw : Lw w0 w D k name G) : w.heap.size ∉ k :: D.own := fun hm => by
  obtain ⟨s, r, t, h1, _⟩ := lw.lw
  rcases List.mem_cons.1 hm with e | hm
  · have := lt_of h1; omega
  · have := dw.at_.lt _ hm; omega
theorem al_get (W : World) (o : Obj) : (W.alloc o).heap[W.heap.size]? = some o := (MapKept.heap_alloc W o).1
theorem al_keep {W : World} (o : Obj) {k : Nat} (h : k < W.heap.size) : (W.alloc o).heap[k]? = W.heap[k]? := (Fr.alloc [] W o).keep k h (by simp)
theorem al_size (W : World) (o : Obj) : (W.alloc o).heap.size = W.heap.size + 1 := by simp
theorem R_alloc1 {ok : Nat → Prop} {base : Nat} {v : Value} {w : World} {G : List (List ByteArray)} (h : Kd.R kG 34 w base ok v G) (o : Obj) : Kd.R kG 34 (w.alloc o) base ok v G := Kd.R_alloc h o
theorem R_cS {w : World} {base : Nat} {ok : Nat → Prop} {A : Option Addr} {n c : Nat} {G : List (List ByteArray)} (h : Kd.R kG 34 w base ok (.slice A n c) G) : n = G.length ∧ G.length ≤ c ∧ Kd.C kG w A G.length G := by
  obtain ⟨A', c', e, h1, h2⟩ := R_c h
  cases e
  exact ⟨rfl, h1, h2⟩
abbrev litW (w : World) : World :=
  (((w.alloc (.cells #[.string tA, .string tB] 9)).alloc (.cells #[] 9)).alloc (.cells #[.string tC] 9)).alloc
    (.cells #[.slice (some ⟨w.heap.size, 0, none⟩) 2 2, .slice (some ⟨w.heap.size + 1, 0, none⟩) 0 0, .slice (some ⟨w.heap.size + 1 + 1, 0, none⟩) 1 1] 34)
abbrev litD (w : World) : World := (w.alloc (.cells #[.string tD] 9)).alloc (.cells #[.slice (some ⟨w.heap.size, 0, none⟩) 1 1] 34)
theorem same_abc (w : World) (A : Option Addr) (c : Nat) {base : Nat} {ok : Nat → Prop} (h : Kd.R kG 34 w base ok (.slice A 3 c) [[tA, tB], [], [tC]]) :
    Calls Tryd.prog 14 #[.slice A 3 c, .slice (some ⟨w.heap.size + 1 + 1 + 1, 0, none⟩) 3 3] (litW w) fun e w' => e = .returned (.bool true) ∧ Drawn0 (litW w) w' := by
  obtain ⟨K, hK⟩ := (same_ev [[tA, tB], [], [tC]] [[tA, tB], [], [tC]] (by decide) (by decide)).rounds
  obtain ⟨_, h1, h2⟩ := R_cS (R_alloc1 (R_alloc1 (R_alloc1 (R_alloc1 h (.cells #[.string tA, .string tB] 9)) (.cells #[] 9)) (.cells #[.string tC] 9)) (.cells #[.slice (some ⟨w.heap.size, 0, none⟩) 2 2, .slice (some ⟨w.heap.size + 1, 0, none⟩) 0 0, .slice (some ⟨w.heap.size + 1 + 1, 0, none⟩) 1 1] 34))
  have hg0 : (litW w).heap[w.heap.size]? = some (.cells #[.string tA, .string tB] 9) := by
    unfold litW
    rw [al_keep _ (by simp only [al_size]; omega), al_keep _ (by simp only [al_size]; omega), al_keep _ (by simp only [al_size]; omega), al_get]
  have hg2 : (litW w).heap[w.heap.size + 1 + 1]? = some (.cells #[.string tC] 9) := by
    unfold litW
    rw [al_keep _ (by simp only [al_size]; omega)]
    have := al_get ((w.alloc (.cells #[.string tA, .string tB] 9)).alloc (.cells #[] 9)) (.cells #[.string tC] 9)
    simp only [al_size] at this
    exact this
  have hg1 : (litW w).heap[w.heap.size + 1]? = some (.cells #[] 9) := by
    unfold litW
    rw [al_keep _ (by simp only [al_size]; omega), al_keep _ (by simp only [al_size]; omega)]
    have := al_get (w.alloc (.cells #[.string tA, .string tB] 9)) (.cells #[] 9)
    simp only [al_size] at this
    exact this
  have hg3 : (litW w).heap[w.heap.size + 1 + 1 + 1]? = some (.cells #[.slice (some ⟨w.heap.size, 0, none⟩) 2 2, .slice (some ⟨w.heap.size + 1, 0, none⟩) 0 0, .slice (some ⟨w.heap.size + 1 + 1, 0, none⟩) 1 1] 34) := by
    unfold litW
    have := al_get (((w.alloc (.cells #[.string tA, .string tB] 9)).alloc (.cells #[] 9)).alloc (.cells #[.string tC] 9)) (.cells #[.slice (some ⟨w.heap.size, 0, none⟩) 2 2, .slice (some ⟨w.heap.size + 1, 0, none⟩) 0 0, .slice (some ⟨w.heap.size + 1 + 1, 0, none⟩) 1 1] 34)
    simp only [al_size] at this
    exact this
  have hC : Kd.C kG (litW w) (some ⟨w.heap.size + 1 + 1 + 1, 0, none⟩) 3 [[tA, tB], [], [tC]] :=
    C_rows (gs := [[tA, tB], [], [tC]]) [.slice (some ⟨w.heap.size, 0, none⟩) 2 2, .slice (some ⟨w.heap.size + 1, 0, none⟩) 0 0, .slice (some ⟨w.heap.size + 1 + 1, 0, none⟩) 1 1] hg3 rfl (by decide) (fun i h1 h2 => by
      match i, h1, h2 with
      | 0, _, _ => exact ⟨_, _, rfl, Nat.le_refl _, C_lit [tA, tB] hg0 (by decide)⟩
      | 1, _, _ => exact ⟨_, _, rfl, Nat.le_refl _, C_lit [] hg1 (by decide)⟩
      | 2, _, _ => exact ⟨_, _, rfl, Nat.le_refl _, C_lit [tC] hg2 (by decide)⟩
      | i + 3, h1, _ => exact absurd h1 (by simp))
  exact tussocklaw05_same.calls K A c [[tA, tB], [], [tC]] _ 3 [[tA, tB], [], [tC]] true _ h2 h1 hC (by decide) (hK.trans (by decide))
theorem same_d (w : World) (A : Option Addr) (c : Nat) {base : Nat} {ok : Nat → Prop} (h : Kd.R kG 34 w base ok (.slice A 1 c) [[tD]]) :
    Calls Tryd.prog 14 #[.slice A 1 c, .slice (some ⟨w.heap.size + 1, 0, none⟩) 1 1] (litD w) fun e w' => e = .returned (.bool true) ∧ Drawn0 (litD w) w' := by
  obtain ⟨K, hK⟩ := (same_ev [[tD]] [[tD]] (by decide) (by decide)).rounds
  obtain ⟨_, h1, h2⟩ := R_cS (R_alloc1 (R_alloc1 h (.cells #[.string tD] 9)) (.cells #[.slice (some ⟨w.heap.size, 0, none⟩) 1 1] 34))
  have hg0 : (litD w).heap[w.heap.size]? = some (.cells #[.string tD] 9) := by
    unfold litD
    rw [al_keep _ (by simp only [al_size]; omega), al_get]
  have hg1 : (litD w).heap[w.heap.size + 1]? = some (.cells #[.slice (some ⟨w.heap.size, 0, none⟩) 1 1] 34) := by
    unfold litD
    have := al_get (w.alloc (.cells #[.string tD] 9)) (.cells #[.slice (some ⟨w.heap.size, 0, none⟩) 1 1] 34)
    simp only [al_size] at this
    exact this
  have hC : Kd.C kG (litD w) (some ⟨w.heap.size + 1, 0, none⟩) 1 [[tD]] :=
    C_rows (gs := [[tD]]) [.slice (some ⟨w.heap.size, 0, none⟩) 1 1] hg1 rfl (by decide) (fun i h1 h2 => by
      match i, h1, h2 with
      | 0, _, _ => exact ⟨_, _, rfl, Nat.le_refl _, C_lit [tD] hg0 (by decide)⟩
      | i + 1, h1, _ => exact absurd h1 (by simp))
  exact tussocklaw05_same.calls K A c [[tD]] _ 1 [[tD]] true _ h2 h1 hC (by decide) (hK.trans (by decide))
theorem al_below (W : World) (o : Obj) : Below W.heap.size W (W.alloc o) := (Fr.alloc [] W o).below (Nat.le_refl _) (by simp)
theorem lit_below (w : World) : Below w.heap.size w (litW w) :=
  (al_below w _).trans (((al_below _ _).mono (by simp only [al_size]; omega)).trans (((al_below _ _).mono (by simp only [al_size]; omega)).trans ((al_below _ _).mono (by simp only [al_size]; omega))))
theorem litD_below (w : World) : Below w.heap.size w (litD w) :=
  (al_below w _).trans ((al_below _ _).mono (by simp only [al_size]; omega))
theorem R_b2 {w w' w2 : World} {base : Nat} {ok : Nat → Prop} {v : Value} {G : List (List ByteArray)} (h : Kd.R kG 34 w base ok v G) (h1 : Below w.heap.size w w') (h2 : Below w'.heap.size w' w2) : Kd.R kG 34 w2 base (fun j => j < w.heap.size) v G :=
  Kd.R_below (Kd.R_mono (Kd.R_bound h) (fun j hj => (hj.2.2.1 : j < w.heap.size))) (h1.trans (h2.mono h1.size))
theorem below_drawn {w w' : World} (h : Drawn0 w w') : Below w.heap.size w w' := (Fr.of_drawn (own := []) h).below (Nat.le_refl _) (by simp)
set_option maxHeartbeats 32000000 in
set_option maxRecDepth 100000 in
theorem shown_calls (w : World) (hL : Laid w) : Calls Tryd.prog 8 #[] w fun e w' => e = .returned (.bool true) ∧ Below w.heap.size w w' := by
  have HL := hid hL
  clear hL
  go_enter Tryd.func8, Tryd.ntmps8
  go_upto_region 4 with (go_at_call 9; refine (new_w w 10000 (by decide) (Below.refl _ _) 3000).mono ?_; rintro e w1 ⟨D0, rfl, hb1, dw1, ho1, hf1, hn1, hc1⟩; have DW1 := hid dw1; have HF1 := hid hf1; have HN1 := hid (hn1 (fun x => x ∈ [nL, nL2])); have HC1 := hid (hc1 9000 (by decide)); clear hb1 dw1 ho1 hf1 hn1 hc1)
  go_upto_region 7 with (go_at_call 10; refine (open_new DW1.out wNameL (HF1.out _)).mono ?_; rintro e w2 ⟨k, rfl, hb2, dw2, hk, lw2⟩; have DW2 := hid dw2; have LW2 := hid lw2; clear hb2 dw2 hk lw2)
  go_upto_region 8 with (go_at_call 11; refine (append_w (DW2.out.new (Fr.alloc [] w2 (.cells #[.string tA, .string tB] 9))) (LW2.out.new (Fr.alloc [] w2 (.cells #[.string tA, .string tB] 9))) HL.out (by decide) (by decide) namedL [nL, nL2] HN1.out (by simp) (by simp) _ 2 gokAB (C_lit_after [tA, tB] 9 (by decide) (lw_lt DW2.out LW2.out)) (by have := lenAB; simp only [encs, List.map_nil, List.flatten_nil, List.length_nil]; omega) rfl).mono ?_; intro e w3 h3; obtain ⟨D3, rfl, dw3, d3, _, _, lw3⟩ := h3.calm HC1.out; have DW3 := hid dw3; have LW3 := hid lw3; have HD3 := hid d3; clear h3 dw3 lw3 d3)
  have ho3 := HD3.out.only (fun x => x ∈ [nL, nL2]) (fun x hx => by rcases hx with hx | hx <;> simp [hx]) HN1.out
  have HN3 := hid ho3
  have HC3 := hid (HC1.out.did HD3.out)
  clear ho3
  go_upto_region 9 with (go_at_call 11; refine (append_w DW3.out LW3.out HL.out (by decide) (by decide) namedL [nL, nL2] HN3.out (by simp) (by simp) none 0 gokN (fun W _ => C_nilS W) (by have := lenAB; have := lenN; simp only [List.nil_append, encs_one]; omega) rfl).mono ?_; intro e w4 h4; obtain ⟨D4, rfl, dw4, d4, _, _, lw4⟩ := h4.calm HC3.out; have DW4 := hid dw4; have LW4 := hid lw4; have HD4 := hid d4; clear h4 dw4 lw4 d4)
  have HN4 := hid (HD4.out.only (fun x => x ∈ [nL, nL2]) (fun x hx => by rcases hx with hx | hx <;> simp [hx]) HN3.out)
  have HC4 := hid (HC3.out.did HD4.out)
  go_upto_region 10 with (go_at_call 11; refine (append_w (DW4.out.new (Fr.alloc [] w4 (.cells #[.string tC] 9))) (LW4.out.new (Fr.alloc [] w4 (.cells #[.string tC] 9))) HL.out (by decide) (by decide) namedL [nL, nL2] HN4.out (by simp) (by simp) _ 1 gokC (C_lit_after [tC] 9 (by decide) (lw_lt DW4.out LW4.out)) (by have := lenAB; have := lenN; have := lenC; simp only [List.nil_append, encs_append, encs_one, List.length_append]; omega) rfl).mono ?_; intro e w5 h5; obtain ⟨D5, rfl, dw5, d5, _, _, lw5⟩ := h5.calm HC4.out; have DW5 := hid dw5; have LW5 := hid (show Lw w w5 D5 k nL [[tA, tB], [], [tC]] from lw5); have HD5 := hid d5; clear h5 dw5 lw5 d5)
  have HN5 := hid (HD5.out.only (fun x => x ∈ [nL, nL2]) (fun x hx => by rcases hx with hx | hx <;> simp [hx]) HN4.out)
  have HC5 := hid (HC4.out.did HD5.out)
  have e5 : D5.d = D0.d := HD5.out.d.trans (HD4.out.d.trans HD3.out.d)
  obtain ⟨o5, f5, r5⟩ := LW5.out.firm
  have HO5 := hid (open_w DW5.out HL.out (by decide) (by decide) wNameL o5 f5 r5 (fun x hx => by
    simp only [List.mem_cons, List.not_mem_nil, or_false] at hx
    rcases hx with rfl | rfl | rfl
    · exact gokAB
    · exact gokN
    · exact gokC) (by decide))
  rw [e5] at HO5
  clear f5 r5
  go_upto_region 11 with (go_at_call 10; refine HO5.out.mono ?_; intro e w6 h6; obtain ⟨D6, k6, v6, rfl, dw6, d6, fr6, own6, box6, r6, hk6, lw6⟩ := h6.calm HC5.out; have DW6 := hid dw6; have HD6 := hid d6; have LW6 := hid (LW5.out.after fr6 d6 own6 box6); have HR6 := hid (show Kd.R kG 34 w6 w5.heap.size (fun j => j ∉ k :: D6.own) v6 [[tA, tB], [], [tC]] from R_old (Kd.R_mono r6 (fun _ _ => trivial)) (fun j hj => by
    rcases List.mem_cons.1 hj with e | hj
    · obtain ⟨s, r, t, h1, _⟩ := LW5.out.lw
      rw [e]; exact lt_of h1
    · exact DW5.out.at_.lt j (own6 j hj))); clear h6 dw6 d6 fr6 own6 box6 r6 hk6 lw6)
  clear HO5
  have HN6 := hid (HD6.out.only (fun x => x ∈ [nL, nL2]) (fun x hx => hx.elim) HN5.out)
  have HC6 := hid (HC5.out.did HD6.out)
  obtain ⟨A6, c6, rfl⟩ := Kd.R_slice HR6.out
  go_upto_region 12 with (go_at_call 29; refine (reset_w (DW6.out.new (Fr.alloc [] w6 (.cells #[.string tD] 9))) (LW6.out.new (Fr.alloc [] w6 (.cells #[.string tD] 9))) HL.out (by decide) (by decide) namedL [nL, nL2] HN6.out (by simp) (by simp) _ 1 gokD (C_lit_after [tD] 9 (by decide) (lw_lt DW6.out LW6.out) _ (Fr.refl _ _)) (by have := lenD; omega) rfl).mono ?_; intro e w7 h7; obtain ⟨D7, rfl, dw7, d7, fr7, own7, lw7⟩ := h7.calm HC6.out; have DW7 := hid dw7; have LW7 := hid lw7; have HD7 := hid d7; have HR7 := hid (R_call (Kd.R_alloc HR6.out _) fr7 own7); clear h7 dw7 lw7 d7 fr7 own7)
  have HC7 := hid (HC6.out.did HD7.out)
  have e7 : D7.d = D0.d := HD7.out.d.trans (HD6.out.d.trans e5)
  have HCR := hid (crash_w DW7.out (by decide) (by decide) 0 0)
  rw [e7] at HCR
  have HCU := hid (LW7.out.cuts DW7.out.good)
  clear HR6
  go_upto_region 13 with (first
    | (go_at_call 13; refine HCR.out.mono ?_; rintro e w8 ⟨D8, rfl, hb8, dw8, dx8, cr8, low8⟩; have DW8 := hid dw8; have DX8 := hid dx8; have CR8 := hid cr8; have HR8 := hid (Kd.R_below (Kd.R_mono (Kd.R_bound HR7.out) (fun j hj => (hj.2.2.1 : j < w7.heap.size))) hb8); have LO8 := hid low8; obtain ⟨o8, r8, f8⟩ := HCU.out.crash DW7.out.good dx8.good cr8; have HO8 := hid (open_w dx8 HL.out (by decide) (by decide) wNameL o8 f8 r8 (fun x hx => by rw [List.mem_singleton.1 hx]; exact gokD) (by decide)); have HC8 := hid (Calm.crash (R := 9000) HC7.out.room cr8); clear hb8 dw8 dx8 cr8 low8 f8 r8)
    | (go_at_call 10; refine HO8.out.mono ?_; intro e w9 h9; obtain ⟨D9, k9, v9, rfl, dw9, d9, fr9, own9, box9, r9, hk9, lw9⟩ := h9.calm HC8.out; have DW9 := hid dw9; have HK9 := hid (DW8.out.at_.fr fr9 (fun j hj hm => by have := LO8.out j (.inl hm); have : j < w7.heap.size := hj.elim (DW7.out.at_.lt j) (DW7.out.at_.blt j); omega)); have HR9 := hid r9; have HR6b := hid (Kd.R_step HR8.out (fun j hj hlt => fr9.keep j hlt (fun hm => by have := LO8.out j (.inl hm); have : j < w7.heap.size := hj; omega))); clear h9 dw9 d9 fr9 own9 box9 r9 hk9 lw9))
  clear HR7 HR8
  have HOF := hid (open_form (name := ⟨#[]⟩) HK9.out (by decide) (by kernel_rfl))
  rw [e7] at HOF
  obtain ⟨A9, c9, rfl⟩ := Kd.R_slice HR9.out
  go_upto_region 14 with (go_at_call 10; refine HOF.out.mono ?_; rintro e w10 ⟨rfl, hb10⟩; have HB10 := hid hb10; clear hb10)
  have HR6c := hid (Kd.R_below HR6b.out HB10.out)
  clear HR6b
  clear HOF HCU HO8 HC8 HCR DW8 DX8 CR8 LO8 LW7 DW7 HD7 DW6 HD6 LW6 DW5 LW5 HD5 HN5 HC5 HC6 HN6
  have HS1 := hid (same_abc w10 A6 c6 HR6c.out)
  have HS2 := hid (fun (W : World) (h : Below w10.heap.size w10 W) => same_d W A9 c9 (R_b2 HR9.out HB10.out h))
  go_wp2_with (first
    | (go_at_call 14; with_reducible refine HS1.out.mono ?_; rintro e w11 ⟨rfl, hd11⟩; have HD11 := hid hd11; clear hd11)
    | (go_at_call 14; refine (HS2.out w11 ((lit_below w10).trans ((below_drawn HD11.out).mono (lit_below w10).size))).mono ?_; rintro e w12 ⟨rfl, hd12⟩; have HD12 := hid hd12; clear hd12))
  have HBL := hid (DW9.out.bel)
  go_ret
  refine ⟨rfl, ?_⟩
  have h10 := HBL.out.trans (HB10.out.mono HBL.out.size)
  have hL := (lit_below w10).trans ((below_drawn HD11.out).mono (lit_below w10).size)
  have hD := (litD_below w11).trans ((below_drawn HD12.out).mono (litD_below w11).size)
  have h11 := h10.trans (hL.mono h10.size)
  exact h11.trans (hD.mono h11.size)
end Go.Proofs.YthlmbgaipbjbhaaDoor.L
end
