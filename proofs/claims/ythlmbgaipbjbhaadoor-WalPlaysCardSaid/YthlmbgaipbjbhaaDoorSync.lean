/- SyncDir. Sync. -/
import Derived.Test.YthlmbgaipbjbhaaDoorDel3
section
namespace Go.Proofs.YthlmbgaipbjbhaaDoor.L
open Go.RowKit Go.Lib Go.Maps
open Go.Proofs.YthlmbgaipbjbhaaDoorW.PrintWords Go.Proofs.YthlmbgaipbjbhaaDoorW.PrintLast Go.Proofs.YthlmbgaipbjbhaaDoorW.PrintMore
section
variable {w w1 : World} {D : Dk}
theorem head_far (h : DkAt w D) (f : Fr D.lv.ownBlock.toList w w1) : w1.heap[D.d]? = some (headObj D) :=
  (f.keep _ h.d_lt (fun hm => ((Dk.ne h).2.1 _ (by simpa using hm)).1 rfl)).trans h.cell
theorem Goes.struck (h : DkAt w D) {v1 : Value} {p : Ac → Bool} (g : Fr D.lv.ownBlock.toList w w1) (hr : Kd.R kAc 89 w1 0 (fun _ => True) v1 (D.loose.filter p)) (hv : v1.ownBlock = D.lv.ownBlock) :
    Goes w (w1.setCell ⟨D.d, 2, none⟩ v1) D { D with lv := v1, loose := D.loose.filter p } := by
  obtain ⟨_, _, _, hbx⟩ := Dk.ne h
  have hin : ∀ a ∈ D.loose.filter p, a ∈ D.loose := fun a ha => (List.mem_filter.1 ha).1
  have hbox : ∀ a ∈ D.loose.filter p, ∀ k ∈ bxs a, k ∈ D.boxes := fun a ha k hk => List.mem_flatMap.2 ⟨a, hin a ha, hk⟩
  have h3 := Goes.turn_loose h g hr (.inl hv) (fun a ha => (h.boxed a (hin a ha)).keep (fun k hk hlt => g.keep k hlt (fun hm => (hbx k (hbox a ha k hk)).2.2.2.2.1 (by simpa using hm)))) (fun a ha k hk => .inl (hbox a ha k hk)) (fun a ha k hk _ => by rw [hv]; exact (hbx k (hbox a ha k hk)).2.2.2.2.1)
  exact ⟨h3.1, h3.2.1, h3.2.2, fun k hk => by
    obtain ⟨a, ha, hka⟩ := List.mem_flatMap.1 hk
    exact .inl (hbox a ha k hka)⟩
theorem swap_dm_nodup {D : Dk} {m1 : Nat} (h : D.own.Nodup) (hn : m1 ∉ D.own) : ({ D with dm := m1 } : Dk).own.Nodup := by
  have hs : (D.d :: D.sm :: D.fm :: (D.lv.ownBlock.toList ++ D.fs.flatMap Fl.own)).Sublist D.own := List.Sublist.cons_cons _ (List.sublist_cons_self _ _)
  show (D.d :: m1 :: D.sm :: D.fm :: (D.lv.ownBlock.toList ++ D.fs.flatMap Fl.own)).Nodup
  have hp : (D.d :: m1 :: D.sm :: D.fm :: (D.lv.ownBlock.toList ++ D.fs.flatMap Fl.own)).Perm (m1 :: D.d :: D.sm :: D.fm :: (D.lv.ownBlock.toList ++ D.fs.flatMap Fl.own)) := List.Perm.swap _ _ _
  rw [hp.nodup_iff, List.nodup_cons]
  exact ⟨fun hm => hn (hs.subset hm), h.sublist hs⟩
theorem swap_sm_nodup {D : Dk} {m1 : Nat} (h : D.own.Nodup) (hn : m1 ∉ D.own) : ({ D with sm := m1 } : Dk).own.Nodup := by
  have hs : (D.d :: D.dm :: D.fm :: (D.lv.ownBlock.toList ++ D.fs.flatMap Fl.own)).Sublist D.own := List.Sublist.cons_cons _ (List.Sublist.cons_cons _ (List.sublist_cons_self _ _))
  show ([D.d, D.dm] ++ m1 :: D.fm :: (D.lv.ownBlock.toList ++ D.fs.flatMap Fl.own)).Nodup
  rw [List.perm_middle.nodup_iff, List.nodup_cons]
  exact ⟨fun hm => hn (hs.subset hm), h.sublist hs⟩
theorem Goes.new_dir (h : DkAt w D) (hb : Below w.heap.size w w1) (hm : DirAt w1 w.heap.size D.n D.sure) :
    Goes w (w1.setCell ⟨D.d, 0, none⟩ (.map (some w.heap.size))) D { D with dm := w.heap.size, dir := D.sure } := by
  obtain ⟨⟨n1, n2, n3, n4, n5, n6⟩, hl, hf, hbx⟩ := Dk.ne h
  have hlt := h.lt
  have hnin : w.heap.size ∉ D.own := fun hm2 => by have := hlt _ hm2; omega
  have hc : w1.heap[D.d]? = some (headObj D) := (hb.block _ h.d_lt).trans h.cell
  have hset : ∀ k, k ≠ D.d → (w1.setCell ⟨D.d, 0, none⟩ (.map (some w.heap.size))).heap[k]? = w1.heap[k]? := fun k hne => Below.heap_setCell w1 _ _ k hne
  have hkeep : ∀ k, k < w.heap.size → k ≠ D.d → (w1.setCell ⟨D.d, 0, none⟩ (.map (some w.heap.size))).heap[k]? = w.heap[k]? := fun k hk hne => (hset k hne).trans (hb.block k hk)
  have hsub : ∀ k ∈ ({ D with dm := w.heap.size, dir := D.sure } : Dk).own, k ∈ D.own ∨ w.heap.size ≤ k := fun k hk => by
    simp only [Dk.own, List.mem_cons] at hk ⊢
    rcases hk with e | e | e
    · exact .inl (.inl e)
    · exact .inr (by rw [e]; exact Nat.le_refl _)
    · exact .inl (.inr (.inr e))
  refine ⟨⟨by rw [heap_set hc]; rfl, hm.keep (hset _ (fun e => by have := h.d_lt; omega)), h.sureM.keep (hkeep _ h.sureM.lt n2.symm), h.failM.keep (hkeep _ h.failM.lt n3.symm), Kd.R_step h.row (fun k hk hlt => hkeep k hlt (hl k hk).1),
    fun f hff => (h.files f hff).keep (fun k hk hlt => hkeep k hlt (hf f hff k hk).1), fun a ha => (h.boxed a ha).keep (fun k hk hlt => hkeep k hlt (hbx k (List.mem_flatMap.2 ⟨a, ha, hk⟩)).1), swap_dm_nodup h.nodup hnin, fun k hk hm2 => ?_⟩, ?_, hsub, fun _ hk => .inl hk⟩
  · rcases hsub k hm2 with e | e
    · exact h.boff k hk e
    · have := h.blt k hk
      omega
  · exact ((Fr.of_below hb [D.d]).trans (Fr.set w1 ⟨D.d, 0, none⟩ _ (List.mem_singleton.2 rfl)) (fun _ hk => .inl hk)).wider (fun k hk => .inl (by rw [List.mem_singleton.1 hk]; exact List.mem_cons_self))
theorem Goes.new_sure (h : DkAt w D) (hb : Below w.heap.size w w1) (hm : DirAt w1 w.heap.size D.n D.dir) :
    Goes w (w1.setCell ⟨D.d, 1, none⟩ (.map (some w.heap.size))) D { D with sm := w.heap.size, sure := D.dir } := by
  obtain ⟨⟨n1, n2, n3, n4, n5, n6⟩, hl, hf, hbx⟩ := Dk.ne h
  have hlt := h.lt
  have hnin : w.heap.size ∉ D.own := fun hm2 => by have := hlt _ hm2; omega
  have hc : w1.heap[D.d]? = some (headObj D) := (hb.block _ h.d_lt).trans h.cell
  have hset : ∀ k, k ≠ D.d → (w1.setCell ⟨D.d, 1, none⟩ (.map (some w.heap.size))).heap[k]? = w1.heap[k]? := fun k hne => Below.heap_setCell w1 _ _ k hne
  have hkeep : ∀ k, k < w.heap.size → k ≠ D.d → (w1.setCell ⟨D.d, 1, none⟩ (.map (some w.heap.size))).heap[k]? = w.heap[k]? := fun k hk hne => (hset k hne).trans (hb.block k hk)
  have hsub : ∀ k ∈ ({ D with sm := w.heap.size, sure := D.dir } : Dk).own, k ∈ D.own ∨ w.heap.size ≤ k := fun k hk => by
    simp only [Dk.own, List.mem_cons] at hk ⊢
    rcases hk with e | e | e | e
    · exact .inl (.inl e)
    · exact .inl (.inr (.inl e))
    · exact .inr (by rw [e]; exact Nat.le_refl _)
    · exact .inl (.inr (.inr (.inr e)))
  refine ⟨⟨by rw [heap_set hc]; rfl, h.dirM.keep (hkeep _ h.dirM.lt n1.symm), hm.keep (hset _ (fun e => by have := h.d_lt; omega)), h.failM.keep (hkeep _ h.failM.lt n3.symm), Kd.R_step h.row (fun k hk hlt => hkeep k hlt (hl k hk).1),
    fun f hff => (h.files f hff).keep (fun k hk hlt => hkeep k hlt (hf f hff k hk).1), fun a ha => (h.boxed a ha).keep (fun k hk hlt => hkeep k hlt (hbx k (List.mem_flatMap.2 ⟨a, ha, hk⟩)).1), swap_sm_nodup h.nodup hnin, fun k hk hm2 => ?_⟩, ?_, hsub, fun _ hk => .inl hk⟩
  · rcases hsub k hm2 with e | e
    · exact h.boff k hk e
    · have := h.blt k hk
      omega
  · exact ((Fr.of_below hb [D.d]).trans (Fr.set w1 ⟨D.d, 1, none⟩ _ (List.mem_singleton.2 rfl)) (fun _ hk => .inl hk)).wider (fun k hk => .inl (by rw [List.mem_singleton.1 hk]; exact List.mem_cons_self))
set_option maxHeartbeats 4000000 in
set_option maxRecDepth 100000 in
theorem syncdir_dead (h : DkAt w D) (hd : D.dead = true) :
    Calls Tryd.prog 50 #[P D.d] w fun e w' => e = .returned (.int .i64 35) ∧ Goes w w' D { D with off := true } := by
  have HS := hid (starts_dead h hd false none 0 0)
  clear h
  go_enter Tryd.func50, Tryd.ntmps50
  go_wp2_with (go_at_call 44; refine HS.out.mono ?_; rintro e w1 ⟨rfl, h1, f1⟩; have G1 := hid (Goes.dead h1 f1); clear h1 f1)
  go_ret
  exact ⟨rfl, G1.out⟩
def Dk.synced (D : Dk) (lv : Value) (m : Nat) : Dk :=
  if 0 < D.fails D.ops then { D with ops := D.ops + 1, lv := lv, loose := D.loose.filter (fun a => !isDir a), dm := m, dir := D.sure }
  else { D with ops := D.ops + 1, lv := lv, loose := D.loose.filter (fun a => !isDir a), sm := m, sure := D.dir }
theorem R_true {w : World} {v : Value} {l : List Ac} {ok : Nat → Prop} (h : Kd.R kAc 89 w 0 ok v l) : Kd.R kAc 89 w 0 (fun _ => True) v l := Kd.R_mono h (fun _ _ => trivial)
theorem R_slice {w : World} {v : Value} {l : List Ac} {ok : Nat → Prop} (h : Kd.R kAc 89 w 0 ok v l) : ∃ A c, v = .slice A l.length c := by
  obtain ⟨A, c, e, _⟩ := Kd.R_reads h
  exact ⟨A, c, e⟩
set_option maxHeartbeats 8000000 in
set_option maxRecDepth 100000 in
theorem syncdir_fail (h : DkAt w D) (hd : D.dead = false) (h0 : 0 ≤ D.ops) (h1 : D.ops < 4611686018427387904) (hf : 0 < D.fails D.ops) :
    Calls Tryd.prog 50 #[P D.d] w fun e w' => e = .returned (.int .i64 34) ∧ ∃ lv m, Goes w w' D { D with ops := D.ops + 1, lv := lv, loose := D.loose.filter (fun a => !isDir a), dm := m, dir := D.sure } := by
  have hE : startE D false [] = (decide (0 < D.fails D.ops), 0) := rfl
  have HS := hid (starts_live h hd h0 h1 false [] none 0 (by simp) (fun e => absurd rfl e) (fun e => by cases e))
  rw [hE] at HS
  obtain ⟨A, c, hlv⟩ := R_slice h.row
  have HLV := hid hlv
  have HD := hid (fun (W : World) (g : Goes w W D D.count) => (show Calls Tryd.prog 67 #[.slice A D.loose.length c, .func (.func 68) #[] #[]] W fun e w' => ∃ v2, e = .returned v2 ∧ Kd.R kAc 89 w' 0 (fun _ => True) v2 (D.loose.filter (fun a => !isDir a)) ∧ Fr D.lv.ownBlock.toList W w' ∧ v2.ownBlock = D.lv.ownBlock from del_dir A c (R_true g.at_.row) hlv (says_dir _ _ _)))
  clear h hE hlv
  rw [decide_eq_true hf] at HS
  clear hf
  go_enter Tryd.func50, Tryd.ntmps50
  go_upto_region 4 with (go_at_call 44; refine HS.out.mono ?_; rintro e w1 ⟨rfl, h1, f1⟩; have G1 := hid (Goes.count h1 f1); have c2 : w1.cell? ⟨D.d, 2, none⟩ = some (.slice A D.loose.length c) := (by have := G1.out.at_.c2; rw [show D.count.lv = .slice A D.loose.length c from HLV.out] at this; exact this); clear h1 f1)
  go_upto_region 5 with (go_at_call 67; refine (HD.out w1 G1.out).mono ?_; rintro e w2 ⟨v2, rfl, hr2, hf2, hv2⟩; obtain ⟨A2, c3, rfl⟩ := R_slice hr2; have G2 := hid (G1.out.trans (Goes.struck G1.out.at_ hf2 hr2 hv2)); have z2 : w2.cell? ⟨D.d, 2, none⟩ = some D.lv := (cell_of (head_far G1.out.at_ hf2) 2).trans rfl; have zf : w2.frozen? ⟨D.d, 2, none⟩ = false := free_of (head_far G1.out.at_ hf2) 2; clear hr2 hf2 hv2 c2)
  obtain ⟨w3, hw3⟩ : ∃ x, x = w2.setCell ⟨D.d, 2, none⟩ (.slice A2 (D.loose.filter (fun a => !isDir a)).length c3) := ⟨_, rfl⟩
  have G3 := hid (show Goes w w3 D _ from by rw [hw3]; exact G2.out)
  rw [← hw3]
  clear hw3 G2 G1 HD HS
  have k1 : w3.cell? ⟨D.d, 1, none⟩ = some (.map (some D.sm)) := G3.out.at_.c1
  have HC := hid (dir_clone (G3.out.at_.sureM))
  go_wp2_with (go_at_call 38; refine HC.out.mono ?_; rintro e w4 ⟨rfl, hm4, hb4⟩; have G4 := hid (G3.out.trans (Goes.new_dir G3.out.at_ hb4 hm4)); have y2 : w4.cell? ⟨D.d, 0, none⟩ = _ := (cell_of ((hb4.block _ G3.out.at_.d_lt).trans G3.out.at_.cell) 0).trans rfl; have yf : w4.frozen? ⟨D.d, 0, none⟩ = false := free_of ((hb4.block _ G3.out.at_.d_lt).trans G3.out.at_.cell) 0; clear hm4 hb4)
  go_ret
  exact ⟨rfl, _, w3.heap.size, G4.out⟩
set_option maxHeartbeats 8000000 in
set_option maxRecDepth 100000 in
theorem syncdir_ok (h : DkAt w D) (hd : D.dead = false) (h0 : 0 ≤ D.ops) (h1 : D.ops < 4611686018427387904) (hf : ¬ 0 < D.fails D.ops) :
    Calls Tryd.prog 50 #[P D.d] w fun e w' => e = .returned (.int .i64 0) ∧ ∃ lv m, Goes w w' D { D with ops := D.ops + 1, lv := lv, loose := D.loose.filter (fun a => !isDir a), sm := m, sure := D.dir } := by
  have hE : startE D false [] = (decide (0 < D.fails D.ops), 0) := rfl
  have HS := hid (starts_live h hd h0 h1 false [] none 0 (by simp) (fun e => absurd rfl e) (fun e => by cases e))
  rw [hE] at HS
  obtain ⟨A, c, hlv⟩ := R_slice h.row
  have HLV := hid hlv
  have HD := hid (fun (W : World) (g : Goes w W D D.count) => (show Calls Tryd.prog 67 #[.slice A D.loose.length c, .func (.func 68) #[] #[]] W fun e w' => ∃ v2, e = .returned v2 ∧ Kd.R kAc 89 w' 0 (fun _ => True) v2 (D.loose.filter (fun a => !isDir a)) ∧ Fr D.lv.ownBlock.toList W w' ∧ v2.ownBlock = D.lv.ownBlock from del_dir A c (R_true g.at_.row) hlv (says_dir _ _ _)))
  clear h hE hlv
  rw [decide_eq_false hf] at HS
  clear hf
  go_enter Tryd.func50, Tryd.ntmps50
  go_upto_region 4 with (go_at_call 44; refine HS.out.mono ?_; rintro e w1 ⟨rfl, h1, f1⟩; have G1 := hid (Goes.count h1 f1); have c2 : w1.cell? ⟨D.d, 2, none⟩ = some (.slice A D.loose.length c) := (by have := G1.out.at_.c2; rw [show D.count.lv = .slice A D.loose.length c from HLV.out] at this; exact this); clear h1 f1)
  go_upto_region 5 with (go_at_call 67; refine (HD.out w1 G1.out).mono ?_; rintro e w2 ⟨v2, rfl, hr2, hf2, hv2⟩; obtain ⟨A2, c3, rfl⟩ := R_slice hr2; have G2 := hid (G1.out.trans (Goes.struck G1.out.at_ hf2 hr2 hv2)); have z2 : w2.cell? ⟨D.d, 2, none⟩ = some D.lv := (cell_of (head_far G1.out.at_ hf2) 2).trans rfl; have zf : w2.frozen? ⟨D.d, 2, none⟩ = false := free_of (head_far G1.out.at_ hf2) 2; clear hr2 hf2 hv2 c2)
  obtain ⟨w3, hw3⟩ : ∃ x, x = w2.setCell ⟨D.d, 2, none⟩ (.slice A2 (D.loose.filter (fun a => !isDir a)).length c3) := ⟨_, rfl⟩
  have G3 := hid (show Goes w w3 D _ from by rw [hw3]; exact G2.out)
  rw [← hw3]
  clear hw3 G2 G1 HD HS
  have k1 : w3.cell? ⟨D.d, 0, none⟩ = some (.map (some D.dm)) := G3.out.at_.c0
  have HC := hid (dir_clone (G3.out.at_.dirM))
  go_wp2_with (go_at_call 38; refine HC.out.mono ?_; rintro e w4 ⟨rfl, hm4, hb4⟩; have G4 := hid (G3.out.trans (Goes.new_sure G3.out.at_ hb4 hm4)); have y2 : w4.cell? ⟨D.d, 1, none⟩ = _ := (cell_of ((hb4.block _ G3.out.at_.d_lt).trans G3.out.at_.cell) 1).trans rfl; have yf : w4.frozen? ⟨D.d, 1, none⟩ = false := free_of ((hb4.block _ G3.out.at_.d_lt).trans G3.out.at_.cell) 1; clear hm4 hb4)
  go_ret
  exact ⟨rfl, _, w3.heap.size, G4.out⟩
theorem syncdir_live (h : DkAt w D) (hd : D.dead = false) (h0 : 0 ≤ D.ops) (h1 : D.ops < 4611686018427387904) :
    Calls Tryd.prog 50 #[P D.d] w fun e w' => e = .returned (.int .i64 (if 0 < D.fails D.ops then 34 else 0)) ∧ ∃ lv m, Goes w w' D (D.synced lv m) := by
  by_cases hf : 0 < D.fails D.ops
  · refine (syncdir_fail h hd h0 h1 hf).mono ?_
    rintro e w' ⟨rfl, lv, m, g⟩
    exact ⟨by rw [if_pos hf], lv, m, by unfold Dk.synced; rw [if_pos hf]; exact g⟩
  · refine (syncdir_ok h hd h0 h1 hf).mono ?_
    rintro e w' ⟨rfl, lv, m, g⟩
    exact ⟨by rw [if_neg hf], lv, m, by unfold Dk.synced; rw [if_neg hf]; exact g⟩
end
end Go.Proofs.YthlmbgaipbjbhaaDoor.L
end
section
namespace Go.Proofs.YthlmbgaipbjbhaaDoor.L
open Go.RowKit Go.Lib Go.Maps
open Go.Proofs.YthlmbgaipbjbhaaDoorW.PrintWords Go.Proofs.YthlmbgaipbjbhaaDoorW.PrintLast Go.Proofs.YthlmbgaipbjbhaaDoorW.PrintMore
section
variable {w : World} {D : Dk}
set_option maxHeartbeats 4000000 in
set_option maxRecDepth 100000 in
theorem sync_dead (h : DkAt w D) (hd : D.dead = true) (s : ByteArray) :
    Calls Tryd.prog 51 #[P D.d, .string s] w fun e w' => e = .returned (.int .i64 35) ∧ Goes w w' D { D with off := true } := by
  have HS := hid (fun (W : World) (f : Fr [] w W) (A : Option Addr) (n c : Nat) => starts_dead (h.new f) hd true A n c)
  have HF := hid (fun (o1 : Obj) => (Fr.alloc [] w o1 : Fr [] w _))
  clear h
  go_enter Tryd.func51, Tryd.ntmps51
  go_wp2_with (go_at_call 44; refine (HS.out _ (HF.out _) _ _ _).mono ?_; rintro e w1 ⟨rfl, h1, f1⟩; have G1 := hid (Goes.dead h1 ((HF.out _).none.trans f1 (fun _ hk => .inl hk))); clear h1 f1)
  go_ret
  exact ⟨rfl, G1.out⟩
set_option maxHeartbeats 4000000 in
set_option maxRecDepth 100000 in
theorem sync_no (h : DkAt w D) (hd : D.dead = false) (h0 : 0 ≤ D.ops) (h1 : D.ops < 4611686018427387904) (s : ByteArray) (hne : (startE D true [s]).2 ≠ 0) :
    Calls Tryd.prog 51 #[P D.d, .string s] w fun e w' => e = .returned (.int .i64 (startE D true [s]).2) ∧ Goes w w' D D.count := by
  have HS := hid (starts1 h hd h0 h1 true s)
  clear h
  cases hE : startE D true [s] with
  | mk fl e2 =>
    rw [hE] at HS hne
    have hez : ¬ e2 = 0 := hne
    clear hE
    go_enter Tryd.func51, Tryd.ntmps51
    go_wp2_with (go_at_call 44; refine HS.out.mono ?_; rintro e w1 ⟨rfl, g1⟩; have G1 := hid g1; clear g1)
    go_ret
    exact ⟨rfl, G1.out⟩
theorem Goes.mark (h : DkAt w D) {f : Fl} (hf : f ∈ D.fs) (n : Nat) : Goes w (w.setCell ⟨f.blk, 1, none⟩ (.int .i64 n)) D (D.setF ⟨f.blk, f.row, f.b, n⟩) := by
  have hfa := h.files f hf
  have hne := fl_row_ne h hf
  refine Goes.file h hf rfl ⟨by rw [heap_set hfa.cell]; rfl, Kd.R_step hfa.bytes (fun k hk _ => Below.heap_setCell w _ _ k (fun e => hne (by rw [hk, e])))⟩ ?_ (.inl rfl)
  exact (Fr.set w ⟨f.blk, 1, none⟩ _ (List.mem_singleton.2 rfl) : Fr [f.blk] _ _).wider (fun k hk => .inl (by rw [List.mem_singleton.1 hk]; exact List.mem_cons_self))
def Dk.struckF (D : Dk) (lv : Value) (f : Nat) : Dk := { D with ops := D.ops + 1, lv := lv, loose := D.loose.filter (fun a => !isOf f a) }
theorem own_of_lv {D : Dk} {k : Nat} (h : k ∈ D.lv.ownBlock.toList) : k ∈ D.own := by
  simp only [Dk.own, List.mem_cons, List.mem_append]
  exact .inr (.inr (.inr (.inr (.inl h))))
theorem box_keep {w w2 : World} {own : List Nat} {o : Obj} {bx d : Nat} {v : Value} (hf : Fr own w w2) (hb : w.heap[bx]? = some o) (ho : bx ∉ own) (hd : bx ≠ d) : (w2.setCell ⟨d, 2, none⟩ v).heap[bx]? = some o := by
  rw [Below.heap_setCell w2 _ _ _ hd]
  exact (hf.keep _ (lt_of hb) ho).trans hb
theorem B_slice {w : World} {v : Value} {l : List Int} {ok : Nat → Prop} {base : Nat} (h : Kd.R kB 5 w base ok v l) : ∃ A c, v = .slice A l.length c := by
  obtain ⟨A, c, e, _⟩ := Kd.R_reads h
  exact ⟨A, c, e⟩
theorem info_byte : ∃ j, Tryd.prog.info? 5 = some j ∧ j.size = 1 := by
  have h : (Tryd.prog.info? 5).map (·.size) = some 1 := by kernel_rfl
  exact Option.map_eq_some_iff.1 h
set_option maxHeartbeats 8000000 in
set_option maxRecDepth 100000 in
theorem sync_fail (h : DkAt w D) (hd : D.dead = false) (h0 : 0 ≤ D.ops) (h1 : D.ops < 4611686018427387904) (s : ByteArray) (hE : startE D true [s] = (true, 0)) (hs : s.size ≤ 80) (f : Fl) (hf : f ∈ D.fs) (hdir : D.dir s = some f.blk) (hsure : f.sure ≤ f.b.length)
    (hgr : ∀ g n, Ac.grow g n ∈ D.loose → ∃ x ∈ D.fs, x.blk = g) :
    Calls Tryd.prog 51 #[P D.d, .string s] w fun e w' => e = .returned (.int .i64 34) ∧ ∃ lv row, Goes w w' D ((D.struckF lv f.blk).setF ⟨f.blk, row, f.b.take f.sure, f.sure⟩) := by
  have HS := hid (starts1 h hd h0 h1 true s)
  rw [hE] at HS
  obtain ⟨A, c, hlv⟩ := R_slice h.row
  have HLV := hid hlv
  have hsz : s.size ≤ maxLen := by unfold maxLen; omega
  have HM := hid (And.intro hf hdir)
  have HD := hid (fun (W : World) (g : Goes w W D D.count) (bx : Nat) (hbx : W.heap[bx]? = some (.cells #[P f.blk] 86 (0, 0))) (hbr : bx ∉ D.lv.ownBlock.toList) => (show Calls Tryd.prog 67 #[.slice A D.loose.length c, .func (.func 69) #[] #[P bx]] W fun e w' => ∃ v2, e = .returned v2 ∧ Kd.R kAc 89 w' 0 (fun _ => True) v2 (D.loose.filter (fun a => !isOf f.blk a)) ∧ Fr D.lv.ownBlock.toList W w' ∧ v2.ownBlock = D.lv.ownBlock from
    del_of f.blk bx A c (R_true g.at_.row) hlv (says_of _ _ _ _ _ hbx hbr ⟨_, _, (g.at_.files f hf).cell⟩ (fun hm => ((Dk.ne g.at_).2.2.1 f hf f.blk List.mem_cons_self).2.2.2.2 (by simpa [Dk.count] using hm)) (fun g2 n hg2 => by
      obtain ⟨x, hx, rfl⟩ := hgr g2 n hg2
      exact ⟨fun hm => ((Dk.ne g.at_).2.2.1 x hx x.blk List.mem_cons_self).2.2.2.2 (by simpa [Dk.count] using hm), _, _, (g.at_.files x hx).cell⟩))))
  clear h hE hlv hf hdir hgr
  go_enter Tryd.func51, Tryd.ntmps51
  go_upto_region 5 with (go_at_call 44; refine HS.out.mono ?_; rintro e w1 ⟨rfl, g1⟩; have G1 := hid g1; have c0 : w1.cell? ⟨D.d, 0, none⟩ = some (.map (some D.dm)) := g1.at_.c0; have el : (Instr.lookup 66 (.map (some D.dm)) (.string s) false).run Tryd.prog w1 = .ok (P f.blk) w1 := (by have := g1.at_.dirM.look hsz; rw [show (D.count).dir s = some f.blk from HM.out.2] at this; exact this); clear g1)
  obtain ⟨wx, hwx⟩ : ∃ x, x = w1.alloc (.cells #[.pointer (some ⟨f.blk, 0, none⟩)] 86) := ⟨_, rfl⟩
  have GX := hid (show Goes w wx D D.count by rw [hwx]; exact G1.out.on (Fr.alloc [] w1 _))
  have BXX := hid (show wx.heap[w1.heap.size]? = some (.cells #[P f.blk] 86 (0, 0)) by rw [hwx]; exact (MapKept.heap_alloc w1 _).1)
  have hbn := hid (show w1.heap.size ∉ D.own from fun hm => Nat.lt_irrefl _ (G1.out.at_.lt _ hm))
  rw [← hwx]
  clear hwx G1 c0 el HS
  obtain ⟨bx, hbx⟩ : ∃ x, x = w1.heap.size := ⟨_, rfl⟩
  rw [← hbx] at BXX hbn ⊢
  clear hbx
  have c2 : wx.cell? ⟨D.d, 2, none⟩ = some (.slice A D.loose.length c) := by have := GX.out.at_.c2; rw [show D.count.lv = .slice A D.loose.length c from HLV.out] at this; exact this
  go_upto_region 6 with (go_at_call 67; refine (HD.out wx GX.out bx BXX.out (fun hm => hbn.out (own_of_lv hm))).mono ?_; rintro e w2 ⟨v2, rfl, hr2, hf2, hv2⟩; obtain ⟨A2, c3, rfl⟩ := R_slice hr2; have G2 := hid (GX.out.trans (Goes.struck GX.out.at_ hf2 hr2 hv2)); have z2 : w2.cell? ⟨D.d, 2, none⟩ = some D.lv := (cell_of (head_far GX.out.at_ hf2) 2).trans rfl; have zf : w2.frozen? ⟨D.d, 2, none⟩ = false := free_of (head_far GX.out.at_ hf2) 2; have B2 := hid (box_keep (d := D.d) (v := .slice A2 (D.loose.filter (fun a => !isOf f.blk a)).length c3) hf2 BXX.out (fun hm => hbn.out (own_of_lv hm)) (fun e => hbn.out (by rw [e]; exact List.mem_cons_self))); clear hr2 hf2 hv2 c2)
  obtain ⟨w3, hw3⟩ : ∃ x, x = w2.setCell ⟨D.d, 2, none⟩ (.slice A2 (D.loose.filter (fun a => !isOf f.blk a)).length c3) := ⟨_, rfl⟩
  have G3 := hid (show Goes w w3 D (D.struckF (.slice A2 (D.loose.filter (fun a => !isOf f.blk a)).length c3) f.blk) from by rw [hw3]; exact G2.out)
  rw [← hw3] at B2 ⊢
  clear hw3 G2 GX HD BXX
  have FA := hid (G3.out.at_.files f HM.out.1)
  have k7 : w3.cell? ⟨bx, 0, none⟩ = some (P f.blk) := (cell_of B2.out 0).trans rfl
  obtain ⟨A5, c5, hrow⟩ := B_slice FA.out.bytes
  have HROW := hid hrow
  have k0 : w3.cell? ⟨f.blk, 0, none⟩ = some (.slice A5 f.b.length c5) := by rw [← hrow]; exact (cell_of FA.out.cell 0).trans rfl
  have k1 : w3.cell? ⟨f.blk, 1, none⟩ = some (.int .i64 f.sure) := (cell_of FA.out.cell 1).trans rfl
  have kf : w3.frozen? ⟨f.blk, 0, none⟩ = false := free_of FA.out.cell 0
  have hcap := (Kd.R_reads' (show Kd.R kB 5 w3 0 _ (.slice A5 f.b.length c5) f.b by rw [← hrow]; exact FA.out.bytes)).2.1
  clear hrow
  obtain ⟨ji, hji, _⟩ := info_byte
  have e2 := cut_to (P := Tryd.prog) 33 5 .i64 (Tryd.underlying33) hji A5 f.b.length c5 (f.sure : Int) (by omega) (by omega) hcap
  rw [Int.toNat_natCast] at e2
  have G3d := hid (G3.out.on (Fr.refl [] w3).drew)
  have HR := hid (Goes.row (w5 := w3.drew) (v5 := .slice A5 f.sure c5) (b5 := f.b.take f.sure) G3d.out.at_ HM.out.1 (Kd.R_take (show Kd.R kB 5 w3.drew 0 (fun _ => True) (.slice A5 f.b.length c5) f.b by rw [← HROW.out]; exact Kd.R_mono (G3d.out.at_.files f HM.out.1).bytes (fun _ _ => trivial)) hsure) (Fr.refl _ _) (.inl (by rw [HROW.out]; cases A5 <;> rfl)))
  go_wp2
  go_still_tail 12, (by kernel_rfl)
  change wpList _ _ _ _ _ w3.drew
  go_wp2
  go_ret
  exact ⟨rfl, _, _, G3d.out.trans HR.out⟩
set_option maxHeartbeats 8000000 in
set_option maxRecDepth 100000 in
theorem sync_ok (h : DkAt w D) (hd : D.dead = false) (h0 : 0 ≤ D.ops) (h1 : D.ops < 4611686018427387904) (s : ByteArray) (hE : startE D true [s] = (false, 0)) (hs : s.size ≤ 80) (f : Fl) (hf : f ∈ D.fs) (hdir : D.dir s = some f.blk) 
    (hgr : ∀ g n, Ac.grow g n ∈ D.loose → ∃ x ∈ D.fs, x.blk = g) :
    Calls Tryd.prog 51 #[P D.d, .string s] w fun e w' => e = .returned (.int .i64 0) ∧ ∃ lv, Goes w w' D ((D.struckF lv f.blk).setF ⟨f.blk, f.row, f.b, f.b.length⟩) := by
  have HS := hid (starts1 h hd h0 h1 true s)
  rw [hE] at HS
  obtain ⟨A, c, hlv⟩ := R_slice h.row
  have HLV := hid hlv
  have hsz : s.size ≤ maxLen := by unfold maxLen; omega
  have HM := hid (And.intro hf hdir)
  have HD := hid (fun (W : World) (g : Goes w W D D.count) (bx : Nat) (hbx : W.heap[bx]? = some (.cells #[P f.blk] 86 (0, 0))) (hbr : bx ∉ D.lv.ownBlock.toList) => (show Calls Tryd.prog 67 #[.slice A D.loose.length c, .func (.func 69) #[] #[P bx]] W fun e w' => ∃ v2, e = .returned v2 ∧ Kd.R kAc 89 w' 0 (fun _ => True) v2 (D.loose.filter (fun a => !isOf f.blk a)) ∧ Fr D.lv.ownBlock.toList W w' ∧ v2.ownBlock = D.lv.ownBlock from
    del_of f.blk bx A c (R_true g.at_.row) hlv (says_of _ _ _ _ _ hbx hbr ⟨_, _, (g.at_.files f hf).cell⟩ (fun hm => ((Dk.ne g.at_).2.2.1 f hf f.blk List.mem_cons_self).2.2.2.2 (by simpa [Dk.count] using hm)) (fun g2 n hg2 => by
      obtain ⟨x, hx, rfl⟩ := hgr g2 n hg2
      exact ⟨fun hm => ((Dk.ne g.at_).2.2.1 x hx x.blk List.mem_cons_self).2.2.2.2 (by simpa [Dk.count] using hm), _, _, (g.at_.files x hx).cell⟩))))
  clear h hE hlv hf hdir hgr
  go_enter Tryd.func51, Tryd.ntmps51
  go_upto_region 5 with (go_at_call 44; refine HS.out.mono ?_; rintro e w1 ⟨rfl, g1⟩; have G1 := hid g1; have c0 : w1.cell? ⟨D.d, 0, none⟩ = some (.map (some D.dm)) := g1.at_.c0; have el : (Instr.lookup 66 (.map (some D.dm)) (.string s) false).run Tryd.prog w1 = .ok (P f.blk) w1 := (by have := g1.at_.dirM.look hsz; rw [show (D.count).dir s = some f.blk from HM.out.2] at this; exact this); clear g1)
  obtain ⟨wx, hwx⟩ : ∃ x, x = w1.alloc (.cells #[.pointer (some ⟨f.blk, 0, none⟩)] 86) := ⟨_, rfl⟩
  have GX := hid (show Goes w wx D D.count by rw [hwx]; exact G1.out.on (Fr.alloc [] w1 _))
  have BXX := hid (show wx.heap[w1.heap.size]? = some (.cells #[P f.blk] 86 (0, 0)) by rw [hwx]; exact (MapKept.heap_alloc w1 _).1)
  have hbn := hid (show w1.heap.size ∉ D.own from fun hm => Nat.lt_irrefl _ (G1.out.at_.lt _ hm))
  rw [← hwx]
  clear hwx G1 c0 el HS
  obtain ⟨bx, hbx⟩ : ∃ x, x = w1.heap.size := ⟨_, rfl⟩
  rw [← hbx] at BXX hbn ⊢
  clear hbx
  have c2 : wx.cell? ⟨D.d, 2, none⟩ = some (.slice A D.loose.length c) := by have := GX.out.at_.c2; rw [show D.count.lv = .slice A D.loose.length c from HLV.out] at this; exact this
  go_upto_region 6 with (go_at_call 67; refine (HD.out wx GX.out bx BXX.out (fun hm => hbn.out (own_of_lv hm))).mono ?_; rintro e w2 ⟨v2, rfl, hr2, hf2, hv2⟩; obtain ⟨A2, c3, rfl⟩ := R_slice hr2; have G2 := hid (GX.out.trans (Goes.struck GX.out.at_ hf2 hr2 hv2)); have z2 : w2.cell? ⟨D.d, 2, none⟩ = some D.lv := (cell_of (head_far GX.out.at_ hf2) 2).trans rfl; have zf : w2.frozen? ⟨D.d, 2, none⟩ = false := free_of (head_far GX.out.at_ hf2) 2; have B2 := hid (box_keep (d := D.d) (v := .slice A2 (D.loose.filter (fun a => !isOf f.blk a)).length c3) hf2 BXX.out (fun hm => hbn.out (own_of_lv hm)) (fun e => hbn.out (by rw [e]; exact List.mem_cons_self))); clear hr2 hf2 hv2 c2)
  obtain ⟨w3, hw3⟩ : ∃ x, x = w2.setCell ⟨D.d, 2, none⟩ (.slice A2 (D.loose.filter (fun a => !isOf f.blk a)).length c3) := ⟨_, rfl⟩
  have G3 := hid (show Goes w w3 D (D.struckF (.slice A2 (D.loose.filter (fun a => !isOf f.blk a)).length c3) f.blk) from by rw [hw3]; exact G2.out)
  rw [← hw3] at B2 ⊢
  clear hw3 G2 GX HD BXX
  have FA := hid (G3.out.at_.files f HM.out.1)
  have k7 : w3.cell? ⟨bx, 0, none⟩ = some (P f.blk) := (cell_of B2.out 0).trans rfl
  obtain ⟨A5, c5, hrow⟩ := B_slice FA.out.bytes
  have HROW := hid hrow
  have k0 : w3.cell? ⟨f.blk, 0, none⟩ = some (.slice A5 f.b.length c5) := by rw [← hrow]; exact (cell_of FA.out.cell 0).trans rfl
  have k1 : w3.cell? ⟨f.blk, 1, none⟩ = some (.int .i64 f.sure) := (cell_of FA.out.cell 1).trans rfl
  have kf : w3.frozen? ⟨f.blk, 1, none⟩ = false := free_of FA.out.cell 1
  clear hrow
  have G3d := hid (G3.out.on (Fr.refl [] w3).drew)
  have HR := hid (Goes.mark G3d.out.at_ HM.out.1 f.b.length)
  go_wp2
  go_still_tail 8, (by kernel_rfl)
  change wpList _ _ _ _ _ w3.drew
  go_wp2
  go_ret
  exact ⟨rfl, _, G3d.out.trans HR.out⟩
end
end Go.Proofs.YthlmbgaipbjbhaaDoor.L
end
