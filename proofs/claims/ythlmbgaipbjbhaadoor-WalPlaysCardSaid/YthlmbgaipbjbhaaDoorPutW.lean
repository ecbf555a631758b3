/- put, walked: bytes laid behind the file's, for good, or not. -/
import Derived.Test.YthlmbgaipbjbhaaDoorPut
import Derived.Deep.RegionHeld3
namespace Go.Proofs.YthlmbgaipbjbhaaDoor.L
open Go.RowKit Go.Lib Go.Maps Go.Proofs.YthlmbgaipbjbhaaDoor.P
open Go.Proofs.YthlmbgaipbjbhaaDoorW.PrintWords Go.Proofs.YthlmbgaipbjbhaaDoorW.PrintLast Go.Proofs.YthlmbgaipbjbhaaDoorW.PrintMore
set_option linter.unusedVariables false
def PutTo (R : Nat) (D D' : Dk) (name : ByteArray) (b l : List Int) (size size' : Int) (ready' : Bool) (c : Int) : Prop :=
  (c = 0 ∧ size' = size + l.length ∧ ready' = true ∧ Lies D' name (b ++ l) true) ∨ (c = 35 ∧ Gone D ∧ Cuts D' name (fun o => ∃ n, n ≤ l.length ∧ o.getD [] = b ++ l.take n)) ∨ (Why D D' c R ∧ size' = size ∧ Lies D' name b ready')
section
variable {w : World} {k : Nat} {N B : Nat} {D D1 D2 : Dk} {name : ByteArray} {size : Int} {ready torn : Bool} {b l : List Int} {R : Nat}
theorem cuts_first {D' : Dk} {r : Bool} {N B : Nat} (h : Lies D' name b r) (g : Good N B D') : Cuts D' name (fun o => ∃ n, n ≤ l.length ∧ o.getD [] = b ++ l.take n) :=
  h.cuts (Q := fun x => ∃ n, n ≤ l.length ∧ x = b ++ l.take n) g ⟨0, Nat.zero_le _, by simp⟩
theorem why_io {c : Int} (h : D1.fails = D.fails) (h1 : D.ops ≤ D1.ops) (h2 : D1.ops + 1 ≤ D2.ops) (hf : 0 < D1.fails D1.ops) (hc : c = 34) : Why D D2 c R := .inr ⟨hc, D1.ops, h1, by omega, by rw [← h]; exact hf⟩
theorem bad1 {r : Bool} {ns : List ByteArray} {M : Nat} {c : Int} (hl : Lies D name b r) (hc : AppC ns M B D D1 name [] c) (hz : c ≠ 0) (g1 : Good N B D1) : PutTo R D D1 name b l size size r c := by
  rcases hc with ⟨e, hd, rfl⟩ | ⟨e, _, h, _⟩ | ⟨e, h, rfl⟩ | ⟨e, _⟩
  · exact .inr (.inl ⟨e, gone_of hd, cuts_first (hl.same (fun _ f => f.off)) g1⟩)
  · exact absurd rfl h
  · exact .inr (.inr ⟨why_io rfl (Int.le_refl _) (Int.le_refl _) h e, rfl, hl.same (fun _ f => f.count)⟩)
  · exact absurd e hz
def Half (D1 : Dk) (name : ByteArray) (b : List Int) : Prop := Firm D1 name (some b) ∨ (b = [] ∧ Fresh D1 name ∧ Cuts D1 name (fun o => o.getD [] = []))
theorem mid1 {r : Bool} {ns : List ByteArray} {M : Nat} (hl : Lies D name b r) (g : Good N B D) (hc : AppC ns M B D D1 name [] 0) {K : Nat} (g1 : Good K B D1) : Half D1 name b := by
  rcases hc with ⟨e, _⟩ | ⟨e, _⟩ | ⟨e, _⟩ | ⟨_, D3, f, hm, g3, ⟨_, rfl⟩ | ⟨e, _⟩⟩
  · cases e
  · cases e
  · cases e
  · obtain ⟨o, k1, k2, k3⟩ := hl
    cases o with
    | none =>
      obtain rfl : [] = b := k2
      have := k1.created (Q := fun o => o.getD [] = []) hm g3 rfl rfl
      exact .inr ⟨rfl, this.1, this.2⟩
    | some b1 =>
      obtain rfl : b1 = b := k2
      rcases hm with ⟨_, _, rfl⟩ | ⟨h1, _⟩
      · exact .inl k1.count
      · obtain ⟨x, _, h2, _⟩ := k1.yes b1 rfl
        rw [h2] at h1; cases h1
  · exact absurd rfl e
theorem good2 (h : Half D1 name b) (g1 : Good N B D1) (hc : SdC D1 D2 0) : Firm D2 name (some b) := by
  rcases hc with ⟨e, _⟩ | ⟨lv, m, rfl, ⟨e, _⟩ | ⟨_, hf⟩⟩
  · cases e
  · cases e
  · rcases h with h | ⟨rfl, h, _⟩
    · exact h.step (T := fun _ => False) (L := 0) g1 (.synced lv m) (fun _ hx => hx.elim)
    · exact (h.synced lv m).2 hf
theorem bad2 {c : Int} {M K : Nat} {T : ByteArray → Prop} (h : Half D1 name b) (g1 : Good N B D1) (d1 : Did T K D D1) (g2 : Good M B D2) (hc : SdC D1 D2 c) (hz : c ≠ 0) : PutTo R D D2 name b l size size false c := by
  rcases hc with ⟨e, hd, rfl⟩ | ⟨lv, m, rfl, ⟨e, hf⟩ | ⟨e, hf⟩⟩
  · refine .inr (.inl ⟨e, gone_did d1 hd, ?_⟩)
    rcases h with h | ⟨rfl, h, hq⟩
    · exact cuts_first (r := false) ⟨some b, h.off, rfl, fun _ => by simp⟩ g2
    · exact hq.off.mono (fun o ho => ⟨0, Nat.zero_le _, by simpa using ho⟩)
  · refine .inr (.inr ⟨why_io d1.fails d1.lo (by rw [(synced_same lv m).1]; exact Int.le_refl _) hf e, rfl, ?_⟩)
    rcases h with h | ⟨rfl, h, _⟩
    · exact ⟨some b, h.step (T := fun _ => False) (L := 0) g1 (.synced lv m) (fun _ hx => hx.elim), rfl, fun _ => by simp⟩
    · exact ⟨none, (h.synced lv m).1 hf, rfl, fun e => by cases e⟩
  · exact absurd e hz
theorem wet2 {ns : List ByteArray} {M : Nat} (h : Firm D1 name (some b)) (g1 : Good N B D1) (hc : AppC ns M B D1 D2 name l 0) (hne : l ≠ []) : Wet D2 name b l := by
  rcases hc with ⟨e, _⟩ | ⟨e, _⟩ | ⟨e, _⟩ | ⟨_, D3, f, hm, _, ⟨e, _⟩ | ⟨_, row, lv, rfl⟩⟩
  · cases e
  · cases e
  · cases e
  · exact absurd e hne
  · exact h.wet hm row lv g1
theorem badA {ns : List ByteArray} {M K : Nat} {T : ByteArray → Prop} {c : Int} (h : Firm D1 name (some b)) (d1 : Did T K D D1) (g2 : Good N B D2) (hc : AppC ns M B D1 D2 name l c) (hz : c ≠ 0) (hR : R = (ns.length + 1) * B) : PutTo R D D2 name b l size size true c := by
  rcases hc with ⟨e, hd, rfl⟩ | ⟨e, h1, _, rfl⟩ | ⟨e, hf, rfl⟩ | ⟨e, _⟩
  · exact .inr (.inl ⟨e, gone_did d1 hd, cuts_first (r := false) ⟨some b, h.off, rfl, fun _ => by simp⟩ g2⟩)
  · exact .inr (.inr ⟨.inl ⟨e, by rw [hR, ← d1.room]; exact h1⟩, rfl, some b, h.count, rfl, fun _ => by simp⟩)
  · exact .inr (.inr ⟨why_io d1.fails d1.lo (Int.le_refl _) hf e, rfl, some b, h.count, rfl, fun _ => by simp⟩)
  · exact absurd e hz
theorem good3 (h : Wet D1 name b l) (hs : nameOk name = true) (g1 : Good N B D1) (hc : SyC D1 name D2 0) : Lies D2 name (b ++ l) true := by
  rcases hc with ⟨e, _⟩ | hc
  · cases e
  · rcases h.synced hs g1 hc with ⟨e, _⟩ | ⟨_, hf⟩
    · cases e
    · exact ⟨_, hf, rfl, fun _ => by simp⟩
theorem bad3 {M K : Nat} {T : ByteArray → Prop} {c : Int} (h : Wet D1 name b l) (hs : nameOk name = true) (g1 : Good N B D1) (d1 : Did T K D D1) (g2 : Good M B D2) (hc : SyC D1 name D2 c) (hz : c ≠ 0) : PutTo R D D2 name b l size size true c := by
  rcases hc with ⟨e, hd, rfl⟩ | hc
  · exact .inr (.inl ⟨e, gone_did d1 hd, (h.cuts (Q := fun o => ∃ n, n ≤ l.length ∧ o.getD [] = b ++ l.take n) g1 (fun n hn => ⟨n, hn, rfl⟩)).off⟩)
  · rcases h.synced hs g1 hc with ⟨e, hf, k⟩ | ⟨e, _⟩
    · exact .inr (.inr ⟨why_io d1.fails d1.lo (by rw [hc.same.1]; exact Int.le_refl _) hf e, rfl, _, k, rfl, fun _ => by simp⟩)
    · exact absurd e hz
set_option maxHeartbeats 16000000 in
set_option maxRecDepth 100000 in
theorem put_calls (h : LG w w k D D name size ready torn) (g : Good N B D) (hN : N + 8 < 1048576) (hB : B < 1099511627776) (hs : nameOk name = true) (ns : List ByteArray) (o : Only (fun x => x ∈ ns) D) (hin : name ∈ ns) (A : Option Addr) (c : Nat) (hC : ∀ W, Fr (k :: D.own) w W → Kd.C kB W A l.length l) (hne : l ≠ []) (hl : Lies D name b ready) (hbl : b.length + l.length ≤ B) (hsz : 0 ≤ size ∧ size < 1099511627776) (hR : R = (ns.length + 1) * B) :
    Calls Tryd.prog 34 #[P k, .slice A l.length c] w fun e w' => ∃ (c' : Int) (D' : Dk) (size' : Int) (ready' : Bool), e = .returned (.int .i64 c') ∧ LG w w' k D D' name size' ready' torn ∧ Good (N + 8) B D' ∧ Did (fun x => x = name) 4 D D' ∧ PutTo R D D' name b l size size' ready' c' := by
  have h3 := h.c3
  have h0 := h.c0
  have h1 := h.c1
  have f3 := h.free 3
  have HG := hid h
  have HC := hid hC
  have HL := hid hl
  have HO := hid o
  have hlB : l.length ≤ B := by omega
  have HAP1 := hid (fun (W : World) (hW : Fr [] w W) => append_any (h.at_.new hW) g (by omega) hB hs none [] 0 (fun _ _ => C_nilB _) (fun f hf _ => by rw [List.length_nil, Nat.add_zero]; exact g.big f hf) (Nat.zero_le _) ns o)
  have HGd := hid g
  clear h hC hl o g
  generalize hln : l.length = ln at *
  go_enter Tryd.func34, Tryd.ntmps34
  go_upto_if 13 with fail
  go_cut [13] (fun _ wc => ∃ D1 : Dk, Hid (LG w wc k D D1 name size true torn) ∧ Hid (Good (N + 4) B D1) ∧ Hid (Did (fun x => x = name) 2 D D1) ∧ Hid (Firm D1 name (some b)))
  case first =>
    cases ready with
    | true =>
      go_wp2
      go_meet
      case rel =>
        obtain ⟨o1, k1, k2, k3⟩ := HL.out
        refine ⟨D, HG, hid (HGd.out.mono (by omega) (Nat.le_refl _)), hid ((Did.refl _ D).wider (fun _ hx => hx) (by omega)), ?_⟩
        cases o1 with
        | none => exact absurd rfl (k3 rfl)
        | some b1 => obtain rfl : b1 = b := k2; exact hid k1
    | false =>
      go_upto_region 2 with fail
      go_region_held3 (fun w_ => w_.cell? ⟨k, 0, none⟩ = some (P D.d) ∧ w_.cell? ⟨k, 1, none⟩ = some (.string name)) (first | exact ⟨h0, h1⟩ | exact ⟨m0, m1⟩ | go_keep) (first | (go_at_call 49; refine (HAP1.out _ (Fr.refl [] w).drew).mono ?_; rintro e w1 ⟨c1, D1, rfl, gg, g1, d1, hc1⟩; have G1 := hid ((HG.out.new (Fr.refl [] w).drew).step gg d1.d); have HC1 := hid hc1; have m0 : w1.cell? ⟨k, 0, none⟩ = some (P D.d) := (G1.out.c0).trans (by rw [d1.d]); have m1 := G1.out.c1; clear gg hc1))
      by_cases hz : c1 = 0
      · subst hz
        have HM1 := hid (mid1 HL.out HGd.out HC1.out g1)
        have HSD := hid (fun (W : World) (hW : Fr [] w1 W) => syncdir_any (G1.out.at_.new hW) g1 (by omega))
        clear HC1 HAP1
        have k0 := G1.out.c0
        have D1d := d1.d
        rw [D1d] at k0
        rw [D1d] at HSD
        have Hd1 := hid d1
        have Hg1 := hid g1
        clear d1 g1 D1d
        go_upto_region 6 with (go_at_call 50; refine (HSD.out _ (Fr.refl [] w1)).mono ?_; rintro e w2 ⟨c2, D2, rfl, gg, g2, d2, hc2⟩; have G2 := hid (G1.out.step gg d2.d); have HC2 := hid hc2; have Hd2 := hid d2; have Hg2 := hid g2; have f3 := G2.out.free 3; have q3 := G2.out.c3; clear gg d2 g2 hc2)
        by_cases hz : c2 = 0
        · subst hz
          go_wp2
          go_meet
          case rel => exact ⟨D2, hid (G2.out.ready_ true), hid (Hg2.out.mono (by omega) (Nat.le_refl _)), hid ((Hd1.out.trans (Hd2.out.wider (fun _ hx => hx.elim) (Nat.le_refl 1))).wider (fun _ hx => hx) (by omega)), hid (good2 HM1.out Hg1.out HC2.out)⟩
        · go_wp2
          go_ret
          exact ⟨c2, D2, size, false, rfl, G2.out, Hg2.out.mono (by omega) (Nat.le_refl _), (Hd1.out.trans (Hd2.out.wider (fun _ hx => hx.elim) (Nat.le_refl 1))).wider (fun _ hx => hx) (by omega), bad2 HM1.out Hg1.out Hd1.out Hg2.out HC2.out hz⟩
      · have HB1 := hid (bad1 HL.out HC1.out hz g1 (l := l) (size := size) (R := R))
        have Hd1 := hid d1
        have Hg1 := hid g1
        clear HC1 HAP1 d1 g1
        go_wp2
        go_ret
        exact ⟨c1, D1, size, false, rfl, G1.out, Hg1.out.mono (by omega) (Nat.le_refl _), Hd1.out.wider (fun _ hx => hx) (by omega), HB1.out⟩
  case rest =>
    obtain ⟨D1, G1, Hg1, Hd1, HF1⟩ := hcut
    clear h0 h1 HAP1 f3
    have h0 := G1.out.c0
    have h1 := G1.out.c1
    have HAP2 := hid (fun (W : World) (hW : Fr [] wc W) => append_any (G1.out.at_.new hW) Hg1.out (by omega) hB hs A l c (fun W2 hW2 => by
      rw [hln]
      refine HC.out W2 (G1.out.fr.trans ((hW.none.trans hW2 (fun _ hk => .inl hk)).wider (fun j hj => .inl (List.mem_cons_of_mem _ hj)) : Fr (k :: D1.own) wc W2) (fun j hj => ?_))
      rcases List.mem_cons.1 hj with e | hj
      · exact .inl (by rw [e]; exact List.mem_cons_self)
      · exact (G1.out.own j hj).imp (List.mem_cons_of_mem _) id) (fun f hf hdf => by
      obtain ⟨y, hy, e1, e2, _⟩ := HF1.out.yes b rfl
      rw [e1] at hdf; injection hdf with hdf
      obtain rfl := Hg1.out.uniq y hy f hf hdf
      rw [e2, hln]; omega) (by omega) ns (Hd1.out.only _ (fun x hx => by rw [hx]; exact hin) HO.out))
    rw [hln] at HAP2
    go_upto_region 9 with fail
    go_region_held3 (fun w_ => w_.cell? ⟨k, 0, none⟩ = some (P D1.d) ∧ w_.cell? ⟨k, 1, none⟩ = some (.string name)) (first | exact ⟨h0, h1⟩ | exact ⟨m0, m1⟩ | go_keep) (first | (go_at_call 49; refine (HAP2.out _ (Fr.refl [] wc).drew).mono ?_; rintro e w2 ⟨c2, D2, rfl, gg, g2, d2, hc2⟩; have G2 := hid ((G1.out.new (Fr.refl [] wc).drew).step gg d2.d); have HC2 := hid hc2; have m0 : w2.cell? ⟨k, 0, none⟩ = some (P D1.d) := (G2.out.c0).trans (by rw [d2.d]); have m1 := G2.out.c1; clear gg hc2))
    have Hd2 := hid d2
    have Hg2 := hid g2
    clear d2 g2 HAP2
    by_cases hz : c2 = 0
    · subst hz
      have HW := hid (wet2 HF1.out Hg1.out HC2.out hne)
      have HSY := hid (fun (W : World) (hW : Fr [] w2 W) => sync_any (G2.out.at_.new hW) Hg2.out (by omega) name)
      have D2d : D2.d = D1.d := Hd2.out.d
      rw [D2d] at HSY
      clear h0 h1 m0 m1 HC2
      have h0 := G2.out.c0
      have h1 := G2.out.c1
      rw [D2d] at h0
      go_upto_region 12 with fail
      go_region_held3 (fun w_ => w_.cell? ⟨k, 0, none⟩ = some (P D1.d) ∧ w_.cell? ⟨k, 1, none⟩ = some (.string name)) (first | exact ⟨h0, h1⟩ | exact ⟨m0, m1⟩ | go_keep) (first | (go_at_call 51; refine (HSY.out _ (Fr.refl [] w2).drew).mono ?_; rintro e w3 ⟨c3, D3, rfl, gg, g3, d3, hc3⟩; have G3 := hid ((G2.out.new (Fr.refl [] w2).drew).step gg d3.d); have HC3 := hid hc3; have m0 : w3.cell? ⟨k, 0, none⟩ = some (P D1.d) := (G3.out.c0).trans (by rw [d3.d, D2d]); have m1 := G3.out.c1; clear gg hc3))
      have Hd3 := hid d3
      have Hg3 := hid g3
      clear d3 g3 HSY
      by_cases hz : c3 = 0
      · subst hz
        have q2 := G3.out.c2
        have f2 := G3.out.free 2
        have hw64 : wrap64 (size + (ln : Int)) = size + (ln : Int) := by unfold wrap64; omega
        go_wp2
        go_ret
        refine ⟨0, D3, size + ln, true, rfl, G3.out.size_ _, Hg3.out.mono (by omega) (Nat.le_refl _), ((Hd1.out.trans Hd2.out).trans Hd3.out).wider (fun _ hx => hx) (by omega), .inl ⟨rfl, by rw [hln], rfl, ?_⟩⟩
        exact good3 HW.out hs Hg2.out HC3.out
      · have HB3 := hid (bad3 HW.out hs Hg2.out (Hd1.out.trans Hd2.out) Hg3.out HC3.out hz (R := R) (size := size))
        clear HC3
        go_wp2
        go_ret
        exact ⟨c3, D3, size, true, rfl, G3.out, Hg3.out.mono (by omega) (Nat.le_refl _), ((Hd1.out.trans Hd2.out).trans Hd3.out).wider (fun _ hx => hx) (by omega), HB3.out⟩
    · have HB2 := hid (badA HF1.out Hd1.out Hg2.out HC2.out hz hR (size := size))
      clear HC2
      go_wp2
      go_ret
      exact ⟨c2, D2, size, true, rfl, G2.out, Hg2.out.mono (by omega) (Nat.le_refl _), (Hd1.out.trans Hd2.out).wider (fun _ hx => hx) (by omega), HB2.out⟩
end
end Go.Proofs.YthlmbgaipbjbhaaDoor.L
