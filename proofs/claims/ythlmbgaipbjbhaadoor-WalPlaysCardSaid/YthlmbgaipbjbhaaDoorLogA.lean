/- anew, walked: bytes laid in the place of the file's, for good, or not. wal.right, fails: which names and groups are refused. -/
import Derived.Test.YthlmbgaipbjbhaaDoorPutW
section
namespace Go.Proofs.YthlmbgaipbjbhaaDoor.L
open Go.RowKit Go.Lib Go.Maps Go.Proofs.YthlmbgaipbjbhaaDoor.P
open Go.Proofs.YthlmbgaipbjbhaaDoorW.PrintWords Go.Proofs.YthlmbgaipbjbhaaDoorW.PrintLast Go.Proofs.YthlmbgaipbjbhaaDoorW.PrintMore
set_option linter.unusedVariables false
def Gone1 (next : ByteArray) (D1 : Dk) : Prop := D1.dir next = none
def Laid2 (next : ByteArray) (l : List Int) (D1 : Dk) : Prop := ∃ f ∈ D1.fs, D1.dir next = some f.blk ∧ f.b = l
def Sure3 (next : ByteArray) (l : List Int) (D1 : Dk) : Prop := ∃ f ∈ D1.fs, D1.dir next = some f.blk ∧ f.b = l ∧ f.sure = f.b.length
def Two (b l : List Int) (o : Option (List Int)) : Prop := o.getD [] = b ∨ o.getD [] = l
inductive Run (S : Dk → Prop) (R : Nat) (D D1 : Dk) (name : ByteArray) (b l : List Int) (ready : Bool) (c : Int) : Prop where
  | go (hc : c = 0) (h : S D1)
  | off (hc : c = 35) (hg : Gone D) (h : Cuts D1 name (Two b l))
  | no (h : Why D D1 c R) (hl : Lies D1 name b ready)
section
variable {w : World} {k : Nat} {N M B R K : Nat} {D D1 D2 : Dk} {name next : ByteArray} {size : Int} {ready torn : Bool} {b l : List Int} {c : Int} {S S' : Dk → Prop} {T : ByteArray → Prop}
theorem Why.ne (h : Why D D1 c R) : c ≠ 0 ∧ c ≠ 35 := by
  rcases h with ⟨e, _⟩ | ⟨e, _⟩ <;> (rw [e]; decide)
theorem Why.more (h : Why D D1 c R) (hlo : D1.ops ≤ D2.ops) : Why D D2 c R := by
  rcases h with h | ⟨e, t, h1, h2, h3⟩
  · exact .inl h
  · exact .inr ⟨e, t, h1, by omega, h3⟩
theorem Run.ok (h : Run S R D D1 name b l ready c) (hc : c = 0) : S D1 := by
  cases h with
  | go _ h => exact h
  | off e _ _ => rw [hc] at e; cases e
  | no h _ => exact absurd hc h.ne.1
theorem Run.skip (h : Run S R D D1 name b l ready c) (hc : c ≠ 0) : Run S' R D D1 name b l ready c := by
  cases h with
  | go e _ => exact absurd e hc
  | off e hg h => exact .off e hg h
  | no h hl => exact .no h hl
theorem Lies.two (h : Lies D1 name b ready) (g : Good N B D1) : Cuts D1 name (Two b l) := h.cuts (Q := fun x => x = b ∨ x = l) g (.inl rfl)
abbrev St (S : Dk → Prop) (name : ByteArray) (b : List Int) (ready : Bool) (D1 : Dk) : Prop := S D1 ∧ Lies D1 name b ready
def Up4 (name : ByteArray) (b l : List Int) (ready : Bool) (D1 : Dk) : Prop := ∃ o, Moved D1 name o l ∧ Cuts D1 name (Two b l) ∧ o.getD [] = b ∧ (ready = true → o ≠ none)
def In5 (name : ByteArray) (l : List Int) (D1 : Dk) : Prop := Firm D1 name (some l)
theorem run1 (h : Lies D name b ready) (hT : ∀ x, T x → x ≠ name) (d2 : Did T K D D2) (g2 : Good M B D2) (hc : RmC D D2 next c) : Run (St (Gone1 next) name b ready) R D D2 name b l ready c := by
  have hl := h.did d2 hT
  rcases hc with ⟨e, hdd, rfl⟩ | ⟨e, hf, rfl⟩ | ⟨e, hd⟩
  · exact .off e (gone_of hdd) (hl.two g2)
  · exact .no (why_io rfl (Int.le_refl _) (Int.le_refl _) hf e) hl
  · exact .go e ⟨hd, hl⟩
theorem run2 {ns : List ByteArray} (hS : St (Gone1 next) name b ready D1) (d1 : Did T K D D1) (d2 : Did (fun x => x = next) 1 D1 D2) (hne : next ≠ name) (g2 : Good M B D2) (hc : AppC ns N B D1 D2 next l c) (hln : l ≠ []) (hR : R = (ns.length + 1) * B) : Run (St (Laid2 next l) name b ready) R D D2 name b l ready c := by
  have hl := hS.2.did d2 (fun x hx => by rw [hx]; exact hne)
  rcases hc with ⟨e, hdd, rfl⟩ | ⟨e, hr, _, rfl⟩ | ⟨e, hf, rfl⟩ | ⟨e, D3, f, hm, _, ⟨e2, _⟩ | ⟨_, row, lv, rfl⟩⟩
  · exact .off e (gone_did d1 hdd) (hl.two g2)
  · exact .no (.inl ⟨e, by rw [hR, ← d1.room]; exact hr⟩) hl
  · exact .no (why_io d1.fails d1.lo (Int.le_refl _) hf e) hl
  · exact absurd e2 hln
  · refine .go e ⟨?_, hl⟩
    have hfm := hm.at_
    rcases hm with ⟨h1, _⟩ | ⟨h1, h2, _⟩
    · rw [show D1.dir next = none from hS.1] at h1; cases h1
    · exact ⟨⟨f.blk, row, f.b ++ l, f.sure⟩, (mem_setF (D := D3) hfm.1 ⟨f.blk, row, f.b ++ l, f.sure⟩ rfl _).2 (.inl rfl), hfm.2, by rw [h2]; rfl⟩
theorem run3 (hS : St (Laid2 next l) name b ready D1) (d1 : Did T K D D1) (d2 : Did (fun x => x = next) 1 D1 D2) (hne : next ≠ name) (hn : nameOk next = true) (g1 : Good N B D1) (g2 : Good M B D2) (hc : SyC D1 next D2 c) : Run (St (Sure3 next l) name b ready) R D D2 name b l ready c := by
  have hl := hS.2.did d2 (fun x hx => by rw [hx]; exact hne)
  obtain ⟨f, hf, h1, h2⟩ := hS.1
  have hs : startE D1 true [next] = (decide (0 < D1.fails D1.ops), 0) := by unfold startE; simp [hn, h1]
  rcases hc with ⟨e, hdd, rfl⟩ | hc
  · exact .off e (gone_did d1 hdd) (hl.two g2)
  · have hops := hc.same.1
    rcases hc with ⟨e, e2, _⟩ | ⟨e, e2, _⟩ | ⟨e, e2, x, hx, hxd, lv, rfl⟩
    · rw [hs] at e
      have e3 : c = 0 := e
      rw [e3] at e2
      rcases e2 with e2 | e2 <;> exact absurd e2 (by decide)
    · rw [hs] at e
      injection e with e _
      exact .no (why_io d1.fails d1.lo (by omega) (of_decide_eq_true e) e2) hl
    · rw [h1] at hxd
      injection hxd with hxd
      obtain rfl := g1.uniq f hf x hx hxd
      exact .go e2 ⟨⟨⟨f.blk, f.row, f.b, f.b.length⟩, (mem_setF (D := D1.struckF lv f.blk) hx ⟨f.blk, f.row, f.b, f.b.length⟩ rfl _).2 (.inl rfl), h1, h2, rfl⟩, hl⟩
theorem run4 (hS : St (Sure3 next l) name b ready D1) (d1 : Did T K D D1) (hne : next ≠ name) (g1 : Good N B D1) (g2 : Good M B D2) (hc : ReC D1 D2 next name c) : Run (Up4 name b l ready) R D D2 name b l ready c := by
  obtain ⟨f, hf, h1, h2, h3⟩ := hS.1
  rcases hc with ⟨e, hdd, rfl⟩ | ⟨e, hf, rfl⟩ | ⟨e, b1, b2, v1, hD⟩
  · exact .off e (gone_did d1 hdd) ((hS.2.same (fun _ f => f.off)).two g2)
  · exact .no (why_io d1.fails d1.lo (Int.le_refl _) hf e) (hS.2.same (fun _ f => f.count))
  · obtain ⟨o, k1, k2, k3⟩ := hS.2
    have := k1.moved (Q := Two b l) hne hf h1 h3 g1 b1 b2 v1 hD g2 (.inl k2) (.inr h2)
    rw [h2] at this
    exact .go e ⟨o, this.1, this.2, k2, k3⟩
theorem run5 (hS : Up4 name b l ready D1) (d1 : Did T K D D1) (g2 : Good M B D2) (hc : SdC D1 D2 c) : Run (In5 name l) R D D2 name b l ready c := by
  obtain ⟨o, h1, h2, h3, h4⟩ := hS
  rcases hc with ⟨e, hdd, rfl⟩ | ⟨lv, m, rfl, ⟨e, hf⟩ | ⟨e, hf⟩⟩
  · exact .off e (gone_did d1 hdd) h2.off
  · exact .no (why_io d1.fails d1.lo (by rw [(synced_same lv m).1]; exact Int.le_refl _) hf e) ⟨o, (h1.synced lv m).1 hf, h3, h4⟩
  · exact .go e ((h1.synced lv m).2 hf)
theorem size_any (h : DkAt w D) (g : Good N B D) (s : ByteArray) (hs : s.size ≤ maxLen) : Calls Tryd.prog 21 #[P D.d, .string s] w fun e w' => ∃ x : Int, e = .returned (.int .i64 x) ∧ w' = w ∧ ((D.dir s = none ∧ x = -1) ∨ ∃ f ∈ D.fs, D.dir s = some f.blk ∧ x = f.b.length) := by
  cases hd : D.dir s with
  | none => exact (size_none h s hs hd).mono (by rintro e w' ⟨rfl, rfl⟩; exact ⟨_, rfl, rfl, .inl ⟨rfl, rfl⟩⟩)
  | some fb =>
    obtain ⟨_, f, hf, rfl⟩ := g.dirI s fb hd
    exact (size_some h s hs f hf hd).mono (by rintro e w' ⟨rfl, rfl⟩; exact ⟨_, rfl, rfl, .inr ⟨f, hf, rfl, rfl⟩⟩)
def NewTo (R : Nat) (D D' : Dk) (name : ByteArray) (b l : List Int) (size size' : Int) (ready ready' torn torn' : Bool) (c : Int) : Prop :=
  (c = 0 ∧ size' = l.length ∧ ready' = true ∧ torn' = false ∧ Lies D' name l true) ∨ (c = 35 ∧ Gone D ∧ Cuts D' name (Two b l)) ∨ (Why D D' c R ∧ size' = size ∧ ready' = ready ∧ torn' = torn ∧ Lies D' name b ready)
def AnewPost (R N B k : Nat) (D : Dk) (name next : ByteArray) (size : Int) (ready torn : Bool) (b l : List Int) (w : World) (e : Ending) (w' : World) : Prop := ∃ (c' : Int) (D' : Dk) (size' : Int) (ready' torn' : Bool), e = .returned (.int .i64 c') ∧ LG w w' k D D' name size' ready' torn' ∧ Good (N + 12) B D' ∧ Did (fun x => x = name ∨ x = next) 6 D D' ∧ NewTo R D D' name b l size size' ready ready' torn torn' c'
set_option maxHeartbeats 32000000 in
set_option maxRecDepth 100000 in
theorem anew_calls (h : LG w w k D D name size ready torn) (g : Good N B D) (hN : N + 20 < 1048576) (hB : B < 1099511627776) (hs : nameOk name = true) (hnx : next = name ++ ⟨#[126]⟩) (hs2 : nameOk next = true) (hnn : next ≠ name) (ns : List ByteArray) (o : Only (fun x => x ∈ ns) D) (hin : name ∈ ns) (hin2 : next ∈ ns) (A : Option Addr) (c : Nat) (hC : ∀ W, Fr (k :: D.own) w W → Kd.C kB W A l.length l) (hne : l ≠ []) (hl : Lies D name b ready) (hbl : l.length ≤ B) (hR : R = (ns.length + 1) * B) :
    Calls Tryd.prog 37 #[P k, .slice A l.length c] w fun e w' => AnewPost R N B k D name next size ready torn b l w e w' := by
  have h0 := h.c0
  have h1 := h.c1
  have HG := hid h
  have HC := hid hC
  have HL := hid hl
  have HO := hid o
  have Hg := hid g
  have hsz2 := name_short hs2
  have hadd : ∀ W : World, (Op.stringOp .add name ⟨#[126]⟩).run Tryd.prog W = .ok (.string next) W := fun W => by rw [hnx]; exact run_string_add_sum W name ⟨#[126]⟩ (by have := name_short hs; show name.size + 1 ≤ _; omega)
  have HSZ := hid (fun (W : World) (hW : Fr [] w W) => size_any (h.at_.new hW) g next (by unfold maxLen; omega))
  have HR := hid hR
  clear h hC hl o g hnx hR
  generalize hln : l.length = ln at *
  go_enter Tryd.func37, Tryd.ntmps37
  go_upto_if 18 with (go_at_call 21; refine (HSZ.out _ (Fr.refl [] w)).mono ?_; rintro e w_ ⟨x, rfl, hww, hx⟩; have hww2 := hww.symm; subst hww2; have HX := hid hx; clear hx)
  go_cut [6] (fun v6 wc => ∃ (D1 : Dk) (c1 : Int), v6 = .int .i64 c1 ∧ Hid (LG w wc k D D1 name size ready torn) ∧ Hid (Good (N + 2) B D1) ∧ Hid (Did (fun x => x = name ∨ x = next) 1 D D1) ∧ Hid (Run (St (Gone1 next) name b ready) R D D1 name b l ready c1))
  case first =>
    rcases HX.out with ⟨hx1, hx2⟩ | ⟨f, hf, hx1, hx2⟩
    · have HX1 := hid hx1
      clear hx1
      subst hx2
      go_wp2
      go_meet
      case rel => exact ⟨D, 0, rfl, HG, hid (Hg.out.mono (by omega) (Nat.le_refl _)), hid ((Did.refl _ D).wider (fun _ hx => hx) (by omega)), hid (.go rfl ⟨HX1.out, HL.out⟩)⟩
    · have hge : (0 : Int) ≤ x := by omega
      have HX1 := hid hx1
      have HOP := hid (fun (W : World) (hW : Fr [] w W) => remove_any (HG.out.at_.new hW) Hg.out (by omega) next hs2 (by rw [HX1.out]; rfl))
      clear hx1 hx2
      go_wp2_with (go_at_call 56; refine (HOP.out _ (Fr.refl [] w)).mono ?_; rintro e w2 ⟨c2, D2, rfl, gg, g2, d2, hc⟩; have G2 := hid (HG.out.step gg d2.d); have HC2 := hid hc; clear gg hc)
      go_meet
      case rel => exact ⟨D2, c2, rfl, G2, hid g2, hid (d2.wider (fun x hx => Or.inr hx) (Nat.le_refl _)), hid (run1 HL.out (fun x hx => by rw [hx]; exact hnn) d2 g2 HC2.out)⟩
  case rest =>
    obtain ⟨D1, c1, rfl, G1, Hg1, Hd1, HS1⟩ := hcut
    try clear h0 h1
    have h0 := G1.out.c0
    have h1 := G1.out.c1
    have D1d : D1.d = D.d := Hd1.out.d
    rw [D1d] at h0
    go_upto_if 26 with fail
    go_cut [6] (fun v6 wc => ∃ (D1 : Dk) (c1 : Int), v6 = .int .i64 c1 ∧ Hid (LG w wc k D D1 name size ready torn) ∧ Hid (Good (N + 4) B D1) ∧ Hid (Did (fun x => x = name ∨ x = next) 2 D D1) ∧ Hid (Run (St (Laid2 next l) name b ready) R D D1 name b l ready c1))
    case first =>
      by_cases hz : c1 = 0
      · subst hz
        have HST := hid (HS1.out.ok rfl)
        have HOP := hid (fun (W : World) (hW : Fr [] wc W) => append_any (G1.out.at_.new hW) Hg1.out (by omega) hB hs2 A l c (fun W2 hW2 => by
          rw [hln]
          refine HC.out W2 (G1.out.fr.trans ((hW.none.trans hW2 (fun _ hk => .inl hk)).wider (fun j hj => .inl (List.mem_cons_of_mem _ hj)) : Fr (k :: D1.own) wc W2) (fun j hj => ?_))
          rcases List.mem_cons.1 hj with e | hj
          · exact .inl (by rw [e]; exact List.mem_cons_self)
          · exact (G1.out.own j hj).imp (List.mem_cons_of_mem _) id) (fun f hf hdf => by
          rw [show D1.dir next = none from HST.out.1] at hdf; cases hdf) (by omega) ns (Hd1.out.only _ (fun x hx => by rcases hx with hx | hx <;> (rw [hx]; first | exact hin | exact hin2)) HO.out))
        rw [hln] at HOP
        rw [D1d] at HOP
        go_wp2_with (go_at_call 49; refine (HOP.out _ (Fr.refl [] wc)).mono ?_; rintro e w2 ⟨c2, D2, rfl, gg, g2, d2, hc⟩; have G2 := hid (G1.out.step gg d2.d); have HC2 := hid hc; clear gg hc)
        skip
        go_meet
        case rel => exact ⟨D2, c2, rfl, G2, hid (g2.mono (by omega) (Nat.le_refl _)), hid ((Hd1.out.trans (d2.wider (fun x hx => Or.inr hx) (Nat.le_refl 1))).wider (fun _ hx => hx) (by omega)), hid (run2 HST.out Hd1.out d2 hnn g2 HC2.out hne HR.out)⟩
      · go_wp2
        go_meet
        case rel => exact ⟨D1, c1, rfl, G1, hid (Hg1.out.mono (by omega) (Nat.le_refl _)), hid (Hd1.out.wider (fun _ hx => hx) (by omega)), hid (HS1.out.skip hz)⟩
    case rest =>
    obtain ⟨D1, c1, rfl, G1, Hg1, Hd1, HS1⟩ := hcut
    try clear h0 h1
    have h0 := G1.out.c0
    have h1 := G1.out.c1
    have D1d : D1.d = D.d := Hd1.out.d
    rw [D1d] at h0
    go_upto_if 35 with fail
    go_cut [6] (fun v6 wc => ∃ (D1 : Dk) (c1 : Int), v6 = .int .i64 c1 ∧ Hid (LG w wc k D D1 name size ready torn) ∧ Hid (Good (N + 6) B D1) ∧ Hid (Did (fun x => x = name ∨ x = next) 3 D D1) ∧ Hid (Run (St (Sure3 next l) name b ready) R D D1 name b l ready c1))
    case first =>
      by_cases hz : c1 = 0
      · subst hz
        have HST := hid (HS1.out.ok rfl)
        have HOP := hid (fun (W : World) (hW : Fr [] wc W) => sync_any (G1.out.at_.new hW) Hg1.out (by omega) next)
        rw [D1d] at HOP
        go_wp2_with (go_at_call 51; refine (HOP.out _ (Fr.refl [] wc)).mono ?_; rintro e w2 ⟨c2, D2, rfl, gg, g2, d2, hc⟩; have G2 := hid (G1.out.step gg d2.d); have HC2 := hid hc; clear gg hc)
        skip
        go_meet
        case rel => exact ⟨D2, c2, rfl, G2, hid (g2.mono (by omega) (Nat.le_refl _)), hid ((Hd1.out.trans (d2.wider (fun x hx => Or.inr hx) (Nat.le_refl 1))).wider (fun _ hx => hx) (by omega)), hid (run3 HST.out Hd1.out d2 hnn hs2 Hg1.out g2 HC2.out)⟩
      · go_wp2
        go_meet
        case rel => exact ⟨D1, c1, rfl, G1, hid (Hg1.out.mono (by omega) (Nat.le_refl _)), hid (Hd1.out.wider (fun _ hx => hx) (by omega)), hid (HS1.out.skip hz)⟩
    case rest =>
    obtain ⟨D1, c1, rfl, G1, Hg1, Hd1, HS1⟩ := hcut
    try clear h0 h1
    have h0 := G1.out.c0
    have h1 := G1.out.c1
    have D1d : D1.d = D.d := Hd1.out.d
    rw [D1d] at h0
    go_upto_if 43 with fail
    go_cut [6] (fun v6 wc => ∃ (D1 : Dk) (c1 : Int), v6 = .int .i64 c1 ∧ Hid (LG w wc k D D1 name size ready torn) ∧ Hid (Good (N + 8) B D1) ∧ Hid (Did (fun x => x = name ∨ x = next) 4 D D1) ∧ Hid (Run (Up4 name b l ready) R D D1 name b l ready c1))
    case first =>
      by_cases hz : c1 = 0
      · subst hz
        have HST := hid (HS1.out.ok rfl)
        have HOP := hid (fun (W : World) (hW : Fr [] wc W) => rename_any (G1.out.at_.new hW) Hg1.out (by omega) next name hs2 hs (by obtain ⟨f, _, e, _⟩ := HST.out.1; rw [e]; rfl) hnn)
        rw [D1d] at HOP
        go_upto_region 10 with fail
        go_region_held3 (fun w_ => w_.cell? ⟨k, 0, none⟩ = some (P D.d) ∧ w_.cell? ⟨k, 1, none⟩ = some (.string name)) (first | exact ⟨h0, h1⟩ | exact ⟨m0, m1⟩ | go_keep) (first | (go_at_call 57; refine (HOP.out _ (Fr.refl [] wc).drew).mono ?_; rintro e w2 ⟨c2, D2, rfl, gg, g2, d2, hc⟩; have G2 := hid ((G1.out.new (Fr.refl [] wc).drew).step gg d2.d); have HC2 := hid hc; have m0 : w2.cell? ⟨k, 0, none⟩ = some (P D.d) := (G2.out.c0).trans (by rw [d2.d, D1d]); have m1 := G2.out.c1; clear gg hc))
        go_wp2
        go_meet
        case rel => exact ⟨D2, c2, rfl, G2, hid (g2.mono (by omega) (Nat.le_refl _)), hid ((Hd1.out.trans (d2.wider (fun x hx => Or.symm hx) (Nat.le_refl 1))).wider (fun _ hx => hx) (by omega)), hid (run4 HST.out Hd1.out hnn Hg1.out g2 HC2.out)⟩
      · go_wp2
        go_meet
        case rel => exact ⟨D1, c1, rfl, G1, hid (Hg1.out.mono (by omega) (Nat.le_refl _)), hid (Hd1.out.wider (fun _ hx => hx) (by omega)), hid (HS1.out.skip hz)⟩
    case rest =>
    obtain ⟨D1, c1, rfl, G1, Hg1, Hd1, HS1⟩ := hcut
    try clear h0 h1
    have h0 := G1.out.c0
    have h1 := G1.out.c1
    have D1d : D1.d = D.d := Hd1.out.d
    rw [D1d] at h0
    go_upto_if 55 with fail
    go_cut [6] (fun v6 wc => ∃ (D1 : Dk) (c1 : Int), v6 = .int .i64 c1 ∧ Hid (LG w wc k D D1 name size ready torn) ∧ Hid (Good (N + 10) B D1) ∧ Hid (Did (fun x => x = name ∨ x = next) 5 D D1) ∧ Hid (Run (In5 name l) R D D1 name b l ready c1))
    case first =>
      by_cases hz : c1 = 0
      · subst hz
        have HST := hid (HS1.out.ok rfl)
        have HOP := hid (fun (W : World) (hW : Fr [] wc W) => syncdir_any (G1.out.at_.new hW) Hg1.out (by omega))
        rw [D1d] at HOP
        go_wp2_with (go_at_call 50; refine (HOP.out _ (Fr.refl [] wc)).mono ?_; rintro e w2 ⟨c2, D2, rfl, gg, g2, d2, hc⟩; have G2 := hid (G1.out.step gg d2.d); have HC2 := hid hc; clear gg hc)
        skip
        go_meet
        case rel => exact ⟨D2, c2, rfl, G2, hid (g2.mono (by omega) (Nat.le_refl _)), hid ((Hd1.out.trans (d2.wider (fun x hx => hx.elim) (Nat.le_refl 1))).wider (fun _ hx => hx) (by omega)), hid (run5 HST.out Hd1.out g2 HC2.out)⟩
      · go_wp2
        go_meet
        case rel => exact ⟨D1, c1, rfl, G1, hid (Hg1.out.mono (by omega) (Nat.le_refl _)), hid (Hd1.out.wider (fun _ hx => hx) (by omega)), hid (HS1.out.skip hz)⟩
    case rest =>
    obtain ⟨D1, c1, rfl, G1, Hg1, Hd1, HS1⟩ := hcut
    try clear h0 h1
    have h0 := G1.out.c0
    have h1 := G1.out.c1
    have D1d : D1.d = D.d := Hd1.out.d
    rw [D1d] at h0
    by_cases hz : c1 = 0
    · subst hz
      have HST := hid (HS1.out.ok rfl)
      have GA := hid (G1.out.size_ (ln : Int))
      have GB := hid (GA.out.ready_ true)
      have GC := hid (GB.out.torn_ false)
      have q2 := G1.out.c2
      have f2 := G1.out.free 2
      have q3 := GA.out.c3
      have f3 := GA.out.free 3
      have q4 := GB.out.c4
      have f4 := GB.out.free 4
      go_wp2
      go_ret
      unfold AnewPost
      exact ⟨0, D1, ln, true, false, rfl, GC.out, Hg1.out.mono (by omega) (Nat.le_refl _), Hd1.out.wider (fun _ hx => hx) (by omega), .inl ⟨rfl, by rw [hln], rfl, rfl, ⟨_, HST.out, rfl, fun _ => by simp⟩⟩⟩
    · cases HS1.out with
      | go e _ => exact absurd e hz
      | off e hgn hcu =>
        subst e
        have HCU := hid (And.intro hgn hcu)
        clear hcu hgn
        go_wp2
        go_ret
        unfold AnewPost
        exact ⟨35, D1, size, ready, torn, rfl, G1.out, Hg1.out.mono (by omega) (Nat.le_refl _), Hd1.out.wider (fun _ hx => hx) (by omega), .inr (.inl ⟨rfl, HCU.out.1, HCU.out.2⟩)⟩
      | no hwhy hli =>
        have HWY := hid hwhy
        have HLI := hid hli
        have hn35 := hwhy.ne.2
        have hb35 : (c1 != 35) = true := by simpa using hn35
        clear hwhy hli
        have HSZ2 := hid (fun (W : World) (hW : Fr [] wc W) => size_any (G1.out.at_.new hW) Hg1.out next (by unfold maxLen; omega))
        rw [D1d] at HSZ2
        go_upto_if 84 with (go_at_call 21; refine (HSZ2.out _ (Fr.refl [] wc)).mono ?_; rintro e w_ ⟨x, rfl, hww, hx⟩; have hww2 := hww.symm; subst hww2; have HX := hid hx; clear hx)
        rcases HX.out with ⟨hx1, hx2⟩ | ⟨f, hf, hx1, hx2⟩
        · subst hx2
          clear hx1
          go_wp2
          go_ret
          unfold AnewPost
          exact ⟨c1, D1, size, ready, torn, rfl, G1.out, Hg1.out.mono (by omega) (Nat.le_refl _), Hd1.out.wider (fun _ hx => hx) (by omega), .inr (.inr ⟨HWY.out, rfl, rfl, rfl, HLI.out⟩)⟩
        · obtain ⟨xn, rfl⟩ : ∃ xn : Nat, x = (xn : Int) := ⟨_, hx2⟩
          have HX1 := hid hx1
          have hge2 : decide ((0 : Int) ≤ (xn : Int)) = true := decide_eq_true (by omega)
          (try rw [hge2])
          have HOP := hid (fun (W : World) (hW : Fr [] wc W) => remove_any (G1.out.at_.new hW) Hg1.out (by omega) next hs2 (by rw [HX1.out]; rfl))
          rw [D1d] at HOP
          clear hx1 hx2
          go_wp2_with (go_at_call 56; refine (HOP.out _ (Fr.refl [] wc)).mono ?_; rintro e w2 ⟨c2, D2, rfl, gg, g2, d2, hc⟩; have G2 := hid (G1.out.step gg d2.d); clear gg hc)
          go_ret
          unfold AnewPost
          exact ⟨c1, D2, size, ready, torn, rfl, G2.out, g2.mono (by omega) (Nat.le_refl _), (Hd1.out.trans (d2.wider (fun x hx => Or.inr hx) (Nat.le_refl 1))).wider (fun _ hx => hx) (by omega), .inr (.inr ⟨HWY.out.more d2.lo, rfl, rfl, rfl, HLI.out.did d2 (fun x hx => by rw [hx]; exact hnn)⟩)⟩
end
end Go.Proofs.YthlmbgaipbjbhaaDoor.L
end
section
namespace Go.Proofs.YthlmbgaipbjbhaaDoor.L
open Go.RowKit Go.Lib Go.Maps Go.Proofs.YthlmbgaipbjbhaaDoor.P
open Go.Proofs.YthlmbgaipbjbhaaDoorW.PrintWords Go.Proofs.YthlmbgaipbjbhaaDoorW.PrintLast Go.Proofs.YthlmbgaipbjbhaaDoorW.PrintMore
set_option linter.unusedVariables false
def wName (s : ByteArray) : Bool := !(bytesOf s).any badC && (decide (1 ≤ s.size) && decide (s.size ≤ 70))
theorem wName_ok {s : ByteArray} (h : wName s = true) : nameOk s = true ∧ s.size ≤ 70 := by
  unfold wName at h
  simp only [Bool.and_eq_true, Bool.not_eq_true', decide_eq_true_eq] at h
  unfold nameOk
  refine ⟨?_, h.2.2⟩
  simp only [Bool.and_eq_true, Bool.not_eq_true', decide_eq_true_eq]
  exact ⟨⟨h.2.1, by omega⟩, h.1⟩
set_option maxHeartbeats 4000000 in
set_option maxRecDepth 100000 in
theorem wright_calls (w : World) (s : ByteArray) (hs : s.size < 4611686018427387904) :
    Calls Tryd.prog 30 #[.string s] w fun e w' => e = .returned (.bool (wName s)) ∧ Below w.heap.size w w' := by
  have kb := fun (W : World) => print_bytes (P := Tryd.prog) 9 33 5 Tryd.underlying9 Tryd.underlying33 Tryd.underlying5 s W
  have HB := hid (bytes_below (Below.refl w.heap.size w) (Nat.le_refl _) 5 s)
  have hr := bytes_reads w 5 s (by omega)
  have hlen : (bytesOf s).length = s.size := bytesOf_length s
  have HC := hid (show ∀ j, j < s.size → (Lib.bytesWorld w 5 s).cell? ⟨w.heap.size, j, none⟩ = some (.int .u8 ((bytesOf s).getD j 0)) from fun j hj => by
    obtain ⟨ad, he, hc⟩ := hr.2.2 (by omega)
    injection he with he
    have := hc j hj
    rw [← he, add_plain] at this
    exact this)
  clear hr
  have HW := hid (show wName s = (!(bytesOf s).any badC && (decide (1 ≤ s.size) && decide (s.size ≤ 70))) from rfl)
  generalize wName s = wn at *
  generalize bytesOf s = bs at *
  generalize hn : s.size = n at *
  go_enter Tryd.func30, Tryd.ntmps30
  go_wp2
  go_loopg [4, 8] n (fun gg _ s8 wr => ∃ kk : Nat, kk ≤ n ∧ n - kk ≤ gg ∧ s8 = .int .i64 kk ∧ Hid (Below w.heap.size w wr) ∧ Hid (∀ j, j < n → wr.cell? ⟨w.heap.size, j, none⟩ = some (.int .u8 (bs.getD j 0))) ∧ Hid ((bs.drop kk).any badC = bs.any badC))
  case atStart => exact ⟨0, Nat.zero_le _, by omega, rfl, HB, HC, hid rfl⟩
  case round =>
    clear HB HC
    obtain ⟨kk, hkk, hg, rfl, HB, HC, HA⟩ := hrel
    by_cases hlt : kk < n
    · have hltz : (kk : Int) < (n : Int) := by omega
      have hd : bs.drop kk = bs.getD kk 0 :: bs.drop (kk + 1) := by
        rw [List.drop_eq_getElem_cons (by omega), List.getD_eq_getElem?_getD, List.getElem?_eq_getElem (by omega)]; rfl
      have hcell := HC.out kk hlt
      have HA1 := HA.out
      clear HA
      rw [hd, List.any_cons] at HA1
      clear hd
      generalize bs.getD kk 0 = y at hcell HA1
      by_cases h1 : y < 33
      · have hbad : badC y = true := by unfold badC; rw [decide_eq_true h1]; rfl
        have HR := hid (show wn = false from by rw [HW.out, ← HA1, hbad]; rfl)
        clear HA1 hbad
        go_wp2
        go_ret
        exact ⟨by rw [HR.out]; rfl, HB.out⟩
      · by_cases h2 : 126 < y
        · have hbad : badC y = true := by unfold badC; rw [decide_eq_true h2, Bool.or_true]
          have HR := hid (show wn = false from by rw [HW.out, ← HA1, hbad]; rfl)
          clear HA1 hbad
          go_wp2
          go_ret
          exact ⟨by rw [HR.out]; rfl, HB.out⟩
        · have hbad : badC y = false := by unfold badC; rw [decide_eq_false h1, decide_eq_false h2]; rfl
          rw [hbad, Bool.false_or] at HA1
          have HA2 := hid HA1
          clear HA1 hbad
          go_wp2
          go_roundg (n - (kk + 1))
          case measure => omega
          case rel => exact ⟨kk + 1, by omega, by omega, by go_num, HB, HC, HA2⟩
    · have hltz : ¬ (kk : Int) < (n : Int) := by omega
      have hany : bs.any badC = false := by
        have := HA.out
        rw [List.drop_of_length_le (by omega)] at this
        exact this.symm
      have HR := hid (show wn = (decide (1 ≤ n) && decide (n ≤ 70)) from by rw [HW.out, hany]; rfl)
      clear hany HA
      by_cases h1 : 1 ≤ n
      · have h1z : (1 : Int) ≤ (n : Int) := by omega
        by_cases h2 : n ≤ 70
        · have h2z : (n : Int) ≤ 70 := by omega
          have HR2 := hid (show wn = true from by rw [HR.out, decide_eq_true h1, decide_eq_true h2]; rfl)
          go_wp2
          go_ret
          exact ⟨by rw [HR2.out]; rfl, HB.out⟩
        · have h2z : ¬ (n : Int) ≤ 70 := by omega
          have HR2 := hid (show wn = false from by rw [HR.out, decide_eq_false h2, Bool.and_false])
          go_wp2
          go_ret
          exact ⟨by rw [HR2.out]; rfl, HB.out⟩
      · have h1z : ¬ (1 : Int) ≤ (n : Int) := by omega
        have HR2 := hid (show wn = false from by rw [HR.out, decide_eq_false h1]; rfl)
        go_wp2
        go_ret
        exact ⟨by rw [HR2.out]; rfl, HB.out⟩
def gCode (g : List ByteArray) : Int := if g.length ≤ 8192 ∧ sizes g ≤ 2097152 then 0 else 50
theorem gCode_ok {g : List ByteArray} (h : GOk g) : gCode g = 0 := if_pos h
set_option maxHeartbeats 4000000 in
set_option maxRecDepth 100000 in
theorem fails_calls (w : World) (k : Nat) (A : Option Addr) (c : Nat) (g : List ByteArray) (hC : Kd.C Kd.string w A g.length g) (hl : g.length < 4611686018427387904) (hs : sizes g < 4611686018427387904) :
    Calls Tryd.prog 33 #[P k, .slice A g.length c] w fun e w' => e = .returned (.int .i64 (gCode g)) ∧ w' = w := by
  have HC := hid hC
  have HG := hid (show gCode g = if g.length ≤ 8192 ∧ sizes g ≤ 2097152 then 0 else 50 from rfl)
  have HS := hid hs
  clear hC hs
  generalize gCode g = gc at *
  generalize hn : g.length = n at *
  go_enter Tryd.func33, Tryd.ntmps33
  go_wp2
  go_loopg [5, 7, 12] n (fun gg s5 _ s12 wr => ∃ kk sm : Nat, kk ≤ n ∧ n - kk ≤ gg ∧ s5 = .int .i64 sm ∧ s12 = .int .i64 kk ∧ w = wr ∧ sm = sizes (g.take kk))
  case atStart => exact ⟨0, 0, Nat.zero_le _, by omega, rfl, rfl, rfl, rfl⟩
  case round =>
    obtain ⟨kk, sm, hkk, hg, rfl, rfl, rfl, hsm⟩ := hrel
    by_cases hlt : kk < n
    · have hltz : (kk : Int) < (n : Int) := by omega
      obtain ⟨b, o, rfl, hbw, hcell⟩ := lies_S (by rw [hn]; exact HC.out) (by omega)
      have hcl := hcell kk (by omega)
      have hnext : sizes (g.take (kk + 1)) = sm + (g.getD kk ByteArray.empty).size := by
        rw [List.take_succ_eq_append_getElem (by omega), sizes_append, hsm, List.getD_eq_getElem?_getD, List.getElem?_eq_getElem (by omega)]
        simp [sizes]
      have hle : sizes (g.take (kk + 1)) ≤ sizes g := by
        have := sizes_append (g.take (kk + 1)) (g.drop (kk + 1))
        rw [List.take_append_drop] at this
        omega
      have := HS.out
      have hbd : (sm : Int) + ((g.getD kk ByteArray.empty).size : Int) < 4611686018427387904 := by omega
      have HX := hid hnext
      clear hnext hle hcell this hsm
      generalize g.getD kk ByteArray.empty = sx at *
      generalize hq : sx.size = q at *
      go_wp2
      go_roundg (n - (kk + 1))
      case measure => omega
      case rel => exact ⟨kk + 1, sm + q, by omega, by omega, by go_num, by go_num, rfl, HX.out.symm⟩
    · have hltz : ¬ (kk : Int) < (n : Int) := by omega
      have hsm2 : sm = sizes g := by rw [hsm, List.take_of_length_le (by omega)]
      have HG2 := hid (show gc = if n ≤ 8192 ∧ sm ≤ 2097152 then 0 else 50 from by rw [HG.out, hsm2])
      clear hsm hsm2 HG
      by_cases h1 : n ≤ 8192
      · have h1z : ¬ (8192 : Int) < (n : Int) := by omega
        by_cases h2 : sm ≤ 2097152
        · have h2z : ¬ (2097152 : Int) < (sm : Int) := by omega
          have HR := hid (show gc = 0 from by rw [HG2.out, if_pos ⟨h1, h2⟩])
          go_wp2
          go_ret
          exact ⟨by rw [HR.out]; rfl, rfl⟩
        · have h2z : (2097152 : Int) < (sm : Int) := by omega
          have HR := hid (show gc = 50 from by rw [HG2.out, if_neg (fun h => h2 h.2)])
          go_wp2
          go_ret
          exact ⟨by rw [HR.out]; rfl, rfl⟩
      · have h1z : (8192 : Int) < (n : Int) := by omega
        have HR := hid (show gc = 50 from by rw [HG2.out, if_neg (fun h => h1 h.1)])
        go_wp2
        go_ret
        exact ⟨by rw [HR.out]; rfl, rfl⟩
end Go.Proofs.YthlmbgaipbjbhaaDoor.L
end
