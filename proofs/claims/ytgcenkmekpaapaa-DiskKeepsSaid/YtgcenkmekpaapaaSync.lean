/- Sync. -/
import Derived.Test.YtgcenkmekpaapaaSyncD
namespace Go.Proofs.Ytgcenkmekpaapaa.L
open Go.RowKit Go.Lib Go.Maps
open Go.Proofs.YtgcenkmekpaapaaW.PrintWords Go.Proofs.YtgcenkmekpaapaaW.PrintLast Go.Proofs.YtgcenkmekpaapaaW.PrintMore
section
variable {w : World} {D : Dk}
set_option maxHeartbeats 4000000 in
set_option maxRecDepth 100000 in
theorem sync_no (h : DkAt w D) (hd : D.dead = false) (h0 : 0 ≤ D.ops) (h1 : D.ops < 4611686018427387904) (s : ByteArray) (hne : (startE D true [s]).2 ≠ 0) :
    Calls Try.prog 10 #[P D.d, .string s] w fun e w' => e = .returned (.int .i64 (startE D true [s]).2) ∧ Goes w w' D D.count := by
  have HS := hid (starts1 h hd h0 h1 true s)
  clear h
  cases hE : startE D true [s] with
  | mk fl e2 =>
    rw [hE] at HS hne
    have hez : ¬ e2 = 0 := hne
    clear hE
    go_enter Try.func10, Try.ntmps10
    go_wp2_with (go_at_call 26; refine HS.out.mono ?_; rintro e w1 ⟨rfl, g1⟩; have G1 := hid g1; clear g1)
    go_ret
    exact ⟨rfl, G1.out⟩
theorem Goes.mark (h : DkAt w D) {f : Fl} (hf : f ∈ D.fs) (n : Nat) : Goes w (w.setCell ⟨f.blk, 1, none⟩ (.int .i64 n)) D (D.setF ⟨f.blk, f.row, f.b, n⟩) := by
  have hfa := h.files f hf
  have hne := fl_row_ne h hf
  refine Goes.file h hf rfl ⟨by rw [heap_set hfa.cell]; rfl, Kd.R_step hfa.bytes (fun k hk _ => Below.heap_setCell w _ _ k (fun e => hne (by rw [hk, e])))⟩ ?_ (.inl rfl)
  exact (Fr.set w ⟨f.blk, 1, none⟩ _ (List.mem_singleton.2 rfl) : Fr [f.blk] _ _).wider (fun k hk => .inl (by rw [List.mem_singleton.1 hk]; exact List.mem_cons_self))
def Dk.struckF (D : Dk) (lv : Value) (f : Nat) : Dk := { D with ops := D.ops + 1, lv := lv, loose := D.loose.filter (fun a => !isOf f a) }
theorem own_of_lv {D : Dk} {k : Nat} (h : k ∈ D.lv.ownBlock.toList) : k ∈ D.own := by
  simp only [Dk.own, List.mem_cons, List.mem_append]
  exact .inr (.inr (.inr (.inr (.inl h))))
theorem box_keep {w w2 : World} {own : List Nat} {o : Obj} {bx d : Nat} {v : Value} (hf : Fr own w w2) (hb : w.heap[bx]? = some o) (ho : bx ∉ own) (hd : bx ≠ d) : (w2.setCell ⟨d, 2, none⟩ v).heap[bx]? = some o := by
  rw [Below.heap_setCell w2 _ _ _ hd]
  exact (hf.keep _ (lt_of hb) ho).trans hb
theorem B_slice {w : World} {v : Value} {l : List Int} {ok : Nat → Prop} {base : Nat} (h : Kd.R kB 5 w base ok v l) : ∃ A c, v = .slice A l.length c := by
  obtain ⟨A, c, e, _⟩ := Kd.R_reads h
  exact ⟨A, c, e⟩
theorem info_byte : ∃ j, Try.prog.info? 5 = some j ∧ j.size = 1 := by
  have h : (Try.prog.info? 5).map (·.size) = some 1 := by kernel_rfl
  exact Option.map_eq_some_iff.1 h
set_option maxHeartbeats 8000000 in
set_option maxRecDepth 100000 in
theorem sync_fail (h : DkAt w D) (hd : D.dead = false) (h0 : 0 ≤ D.ops) (h1 : D.ops < 4611686018427387904) (s : ByteArray) (hE : startE D true [s] = (true, 0)) (hs : s.size ≤ 80) (f : Fl) (hf : f ∈ D.fs) (hdir : D.dir s = some f.blk) (hsure : f.sure ≤ f.b.length)
    (hgr : ∀ g n, Ac.grow g n ∈ D.loose → ∃ x ∈ D.fs, x.blk = g) :
    Calls Try.prog 10 #[P D.d, .string s] w fun e w' => e = .returned (.int .i64 34) ∧ ∃ lv row, Goes w w' D ((D.struckF lv f.blk).setF ⟨f.blk, row, f.b.take f.sure, f.sure⟩) := by
  have HS := hid (starts1 h hd h0 h1 true s)
  rw [hE] at HS
  obtain ⟨A, c, hlv⟩ := R_slice h.row
  have HLV := hid hlv
  have hsz : s.size ≤ maxLen := by unfold maxLen; omega
  have HM := hid (And.intro hf hdir)
  have HD := hid (fun (W : World) (g : Goes w W D D.count) (bx : Nat) (hbx : W.heap[bx]? = some (.cells #[P f.blk] 61 (0, 0))) (hbr : bx ∉ D.lv.ownBlock.toList) => (show Calls Try.prog 30 #[.slice A D.loose.length c, .func (.func 31) #[] #[P bx]] W fun e w' => ∃ v2, e = .returned v2 ∧ Kd.R kAc 67 w' 0 (fun _ => True) v2 (D.loose.filter (fun a => !isOf f.blk a)) ∧ Fr D.lv.ownBlock.toList W w' ∧ v2.ownBlock = D.lv.ownBlock from
    del_of f.blk bx A c (R_true g.at_.row) hlv (says_of _ _ _ _ _ hbx hbr ⟨_, _, (g.at_.files f hf).cell⟩ (fun hm => ((Dk.ne g.at_).2.2.1 f hf f.blk List.mem_cons_self).2.2.2.2 (by simpa [Dk.count] using hm)) (fun g2 n hg2 => by
      obtain ⟨x, hx, rfl⟩ := hgr g2 n hg2
      exact ⟨fun hm => ((Dk.ne g.at_).2.2.1 x hx x.blk List.mem_cons_self).2.2.2.2 (by simpa [Dk.count] using hm), _, _, (g.at_.files x hx).cell⟩))))
  clear h hE hlv hf hdir hgr
  go_enter Try.func10, Try.ntmps10
  go_upto_region 5 with (go_at_call 26; refine HS.out.mono ?_; rintro e w1 ⟨rfl, g1⟩; have G1 := hid g1; have c0 : w1.cell? ⟨D.d, 0, none⟩ = some (.map (some D.dm)) := g1.at_.c0; have el : (Instr.lookup 54 (.map (some D.dm)) (.string s) false).run Try.prog w1 = .ok (P f.blk) w1 := (by have := g1.at_.dirM.look hsz; rw [show (D.count).dir s = some f.blk from HM.out.2] at this; exact this); clear g1)
  obtain ⟨wx, hwx⟩ : ∃ x, x = w1.alloc (.cells #[.pointer (some ⟨f.blk, 0, none⟩)] 61) := ⟨_, rfl⟩
  have GX := hid (show Goes w wx D D.count by rw [hwx]; exact G1.out.on (Fr.alloc [] w1 _))
  have BXX := hid (show wx.heap[w1.heap.size]? = some (.cells #[P f.blk] 61 (0, 0)) by rw [hwx]; exact (MapKept.heap_alloc w1 _).1)
  have hbn := hid (show w1.heap.size ∉ D.own from fun hm => Nat.lt_irrefl _ (G1.out.at_.lt _ hm))
  rw [← hwx]
  clear hwx G1 c0 el HS
  obtain ⟨bx, hbx⟩ : ∃ x, x = w1.heap.size := ⟨_, rfl⟩
  rw [← hbx] at BXX hbn ⊢
  clear hbx
  have c2 : wx.cell? ⟨D.d, 2, none⟩ = some (.slice A D.loose.length c) := by have := GX.out.at_.c2; rw [show D.count.lv = .slice A D.loose.length c from HLV.out] at this; exact this
  go_upto_region 6 with (go_at_call 30; refine (HD.out wx GX.out bx BXX.out (fun hm => hbn.out (own_of_lv hm))).mono ?_; rintro e w2 ⟨v2, rfl, hr2, hf2, hv2⟩; obtain ⟨A2, c3, rfl⟩ := R_slice hr2; have G2 := hid (GX.out.trans (Goes.struck GX.out.at_ hf2 hr2 hv2)); have z2 : w2.cell? ⟨D.d, 2, none⟩ = some D.lv := (cell_of (head_far GX.out.at_ hf2) 2).trans rfl; have zf : w2.frozen? ⟨D.d, 2, none⟩ = false := free_of (head_far GX.out.at_ hf2) 2; have B2 := hid (box_keep (d := D.d) (v := .slice A2 (D.loose.filter (fun a => !isOf f.blk a)).length c3) hf2 BXX.out (fun hm => hbn.out (own_of_lv hm)) (fun e => hbn.out (by rw [e]; exact List.mem_cons_self))); clear hr2 hf2 hv2 c2)
  obtain ⟨w3, hw3⟩ : ∃ x, x = w2.setCell ⟨D.d, 2, none⟩ (.slice A2 (D.loose.filter (fun a => !isOf f.blk a)).length c3) := ⟨_, rfl⟩
  have G3 := hid (show Goes w w3 D (D.struckF (.slice A2 (D.loose.filter (fun a => !isOf f.blk a)).length c3) f.blk) from by rw [hw3]; exact G2.out)
  rw [← hw3] at B2 ⊢
  clear hw3 G2 GX HD BXX
  have FA := hid (G3.out.at_.files f HM.out.1)
  have k7 : w3.cell? ⟨bx, 0, none⟩ = some (P f.blk) := (cell_of B2.out 0).trans rfl
  obtain ⟨A5, c5, hrow⟩ := B_slice FA.out.bytes
  have HROW := hid hrow
  have k0 : w3.cell? ⟨f.blk, 0, none⟩ = some (.slice A5 f.b.length c5) := by rw [← hrow]; exact (cell_of FA.out.cell 0).trans rfl
  have k1 : w3.cell? ⟨f.blk, 1, none⟩ = some (.int .i64 f.sure) := (cell_of FA.out.cell 1).trans rfl
  have kf : w3.frozen? ⟨f.blk, 0, none⟩ = false := free_of FA.out.cell 0
  have hcap := (Kd.R_reads' (show Kd.R kB 5 w3 0 _ (.slice A5 f.b.length c5) f.b by rw [← hrow]; exact FA.out.bytes)).2.1
  clear hrow
  obtain ⟨ji, hji, _⟩ := info_byte
  have e2 := cut_to (P := Try.prog) 22 5 .i64 (Try.underlying22) hji A5 f.b.length c5 (f.sure : Int) (by omega) (by omega) hcap
  rw [Int.toNat_natCast] at e2
  have G3d := hid (G3.out.on (Fr.refl [] w3).drew)
  have HR := hid (Goes.row (w5 := w3.drew) (v5 := .slice A5 f.sure c5) (b5 := f.b.take f.sure) G3d.out.at_ HM.out.1 (Kd.R_take (show Kd.R kB 5 w3.drew 0 (fun _ => True) (.slice A5 f.b.length c5) f.b by rw [← HROW.out]; exact Kd.R_mono (G3d.out.at_.files f HM.out.1).bytes (fun _ _ => trivial)) hsure) (Fr.refl _ _) (.inl (by rw [HROW.out]; cases A5 <;> rfl)))
  go_wp2
  go_still_tail 12, (by kernel_rfl)
  change wpList _ _ _ _ _ w3.drew
  go_wp2
  go_ret
  exact ⟨rfl, _, _, G3d.out.trans HR.out⟩
set_option maxHeartbeats 8000000 in
set_option maxRecDepth 100000 in
theorem sync_ok (h : DkAt w D) (hd : D.dead = false) (h0 : 0 ≤ D.ops) (h1 : D.ops < 4611686018427387904) (s : ByteArray) (hE : startE D true [s] = (false, 0)) (hs : s.size ≤ 80) (f : Fl) (hf : f ∈ D.fs) (hdir : D.dir s = some f.blk) 
    (hgr : ∀ g n, Ac.grow g n ∈ D.loose → ∃ x ∈ D.fs, x.blk = g) :
    Calls Try.prog 10 #[P D.d, .string s] w fun e w' => e = .returned (.int .i64 0) ∧ ∃ lv, Goes w w' D ((D.struckF lv f.blk).setF ⟨f.blk, f.row, f.b, f.b.length⟩) := by
  have HS := hid (starts1 h hd h0 h1 true s)
  rw [hE] at HS
  obtain ⟨A, c, hlv⟩ := R_slice h.row
  have HLV := hid hlv
  have hsz : s.size ≤ maxLen := by unfold maxLen; omega
  have HM := hid (And.intro hf hdir)
  have HD := hid (fun (W : World) (g : Goes w W D D.count) (bx : Nat) (hbx : W.heap[bx]? = some (.cells #[P f.blk] 61 (0, 0))) (hbr : bx ∉ D.lv.ownBlock.toList) => (show Calls Try.prog 30 #[.slice A D.loose.length c, .func (.func 31) #[] #[P bx]] W fun e w' => ∃ v2, e = .returned v2 ∧ Kd.R kAc 67 w' 0 (fun _ => True) v2 (D.loose.filter (fun a => !isOf f.blk a)) ∧ Fr D.lv.ownBlock.toList W w' ∧ v2.ownBlock = D.lv.ownBlock from
    del_of f.blk bx A c (R_true g.at_.row) hlv (says_of _ _ _ _ _ hbx hbr ⟨_, _, (g.at_.files f hf).cell⟩ (fun hm => ((Dk.ne g.at_).2.2.1 f hf f.blk List.mem_cons_self).2.2.2.2 (by simpa [Dk.count] using hm)) (fun g2 n hg2 => by
      obtain ⟨x, hx, rfl⟩ := hgr g2 n hg2
      exact ⟨fun hm => ((Dk.ne g.at_).2.2.1 x hx x.blk List.mem_cons_self).2.2.2.2 (by simpa [Dk.count] using hm), _, _, (g.at_.files x hx).cell⟩))))
  clear h hE hlv hf hdir hgr
  go_enter Try.func10, Try.ntmps10
  go_upto_region 5 with (go_at_call 26; refine HS.out.mono ?_; rintro e w1 ⟨rfl, g1⟩; have G1 := hid g1; have c0 : w1.cell? ⟨D.d, 0, none⟩ = some (.map (some D.dm)) := g1.at_.c0; have el : (Instr.lookup 54 (.map (some D.dm)) (.string s) false).run Try.prog w1 = .ok (P f.blk) w1 := (by have := g1.at_.dirM.look hsz; rw [show (D.count).dir s = some f.blk from HM.out.2] at this; exact this); clear g1)
  obtain ⟨wx, hwx⟩ : ∃ x, x = w1.alloc (.cells #[.pointer (some ⟨f.blk, 0, none⟩)] 61) := ⟨_, rfl⟩
  have GX := hid (show Goes w wx D D.count by rw [hwx]; exact G1.out.on (Fr.alloc [] w1 _))
  have BXX := hid (show wx.heap[w1.heap.size]? = some (.cells #[P f.blk] 61 (0, 0)) by rw [hwx]; exact (MapKept.heap_alloc w1 _).1)
  have hbn := hid (show w1.heap.size ∉ D.own from fun hm => Nat.lt_irrefl _ (G1.out.at_.lt _ hm))
  rw [← hwx]
  clear hwx G1 c0 el HS
  obtain ⟨bx, hbx⟩ : ∃ x, x = w1.heap.size := ⟨_, rfl⟩
  rw [← hbx] at BXX hbn ⊢
  clear hbx
  have c2 : wx.cell? ⟨D.d, 2, none⟩ = some (.slice A D.loose.length c) := by have := GX.out.at_.c2; rw [show D.count.lv = .slice A D.loose.length c from HLV.out] at this; exact this
  go_upto_region 6 with (go_at_call 30; refine (HD.out wx GX.out bx BXX.out (fun hm => hbn.out (own_of_lv hm))).mono ?_; rintro e w2 ⟨v2, rfl, hr2, hf2, hv2⟩; obtain ⟨A2, c3, rfl⟩ := R_slice hr2; have G2 := hid (GX.out.trans (Goes.struck GX.out.at_ hf2 hr2 hv2)); have z2 : w2.cell? ⟨D.d, 2, none⟩ = some D.lv := (cell_of (head_far GX.out.at_ hf2) 2).trans rfl; have zf : w2.frozen? ⟨D.d, 2, none⟩ = false := free_of (head_far GX.out.at_ hf2) 2; have B2 := hid (box_keep (d := D.d) (v := .slice A2 (D.loose.filter (fun a => !isOf f.blk a)).length c3) hf2 BXX.out (fun hm => hbn.out (own_of_lv hm)) (fun e => hbn.out (by rw [e]; exact List.mem_cons_self))); clear hr2 hf2 hv2 c2)
  obtain ⟨w3, hw3⟩ : ∃ x, x = w2.setCell ⟨D.d, 2, none⟩ (.slice A2 (D.loose.filter (fun a => !isOf f.blk a)).length c3) := ⟨_, rfl⟩
  have G3 := hid (show Goes w w3 D (D.struckF (.slice A2 (D.loose.filter (fun a => !isOf f.blk a)).length c3) f.blk) from by rw [hw3]; exact G2.out)
  rw [← hw3] at B2 ⊢
  clear hw3 G2 GX HD BXX
  have FA := hid (G3.out.at_.files f HM.out.1)
  have k7 : w3.cell? ⟨bx, 0, none⟩ = some (P f.blk) := (cell_of B2.out 0).trans rfl
  obtain ⟨A5, c5, hrow⟩ := B_slice FA.out.bytes
  have HROW := hid hrow
  have k0 : w3.cell? ⟨f.blk, 0, none⟩ = some (.slice A5 f.b.length c5) := by rw [← hrow]; exact (cell_of FA.out.cell 0).trans rfl
  have k1 : w3.cell? ⟨f.blk, 1, none⟩ = some (.int .i64 f.sure) := (cell_of FA.out.cell 1).trans rfl
  have kf : w3.frozen? ⟨f.blk, 1, none⟩ = false := free_of FA.out.cell 1
  clear hrow
  have G3d := hid (G3.out.on (Fr.refl [] w3).drew)
  have HR := hid (Goes.mark G3d.out.at_ HM.out.1 f.b.length)
  go_wp2
  go_still_tail 8, (by kernel_rfl)
  change wpList _ _ _ _ _ w3.drew
  go_wp2
  go_ret
  exact ⟨rfl, _, G3d.out.trans HR.out⟩
end
end Go.Proofs.Ytgcenkmekpaapaa.L
