/- New, Size, Ops, Loose, CutAt, FailAt. What is done to a directory, and that it is an act. -/
import Derived.Test.YthlmbgaipbjbhaaDoorStarts
import Derived.LaidEqlPtr
section
namespace Go.Proofs.YthlmbgaipbjbhaaDoor.L
open Go.RowKit Go.Lib Go.Maps
open Go.Proofs.YthlmbgaipbjbhaaDoorW.PrintWords Go.Proofs.YthlmbgaipbjbhaaDoorW.PrintLast Go.Proofs.YthlmbgaipbjbhaaDoorW.PrintMore
section
variable {w : World} {D : Dk}
def newD (k : Nat) (room : Int) : Dk := { d := k + 3, dm := k, sm := k + 1, fm := k + 2, n := 0, dir := fun _ => none, sure := fun _ => none, fs := [], lv := .slice none 0 0, loose := [], room := room, ops := 0, cut := -1, off := false, fails := fun _ => 0 }
theorem new_at (w : World) (room : Int) : DkAt ((((w.alloc (.map #[] 0)).alloc (.map #[] 0)).alloc (.map #[] 0)).alloc (headObj (newD w.heap.size room))) (newD w.heap.size room) := by
  have b0 : ∀ (W : World) (o : Obj) (k : Nat), k < W.heap.size → (W.alloc o).heap[k]? = W.heap[k]? := fun W o k hk => Below.heap_alloc W o k hk
  refine ⟨?_, ?_, ?_, ?_, Kd.R_nil _ _ _ _ _, by simp [newD], by simp [newD], by simp [newD, Dk.own, Value.ownBlock], by simp [newD, Dk.boxes]⟩
  · have := (MapKept.heap_alloc (((w.alloc (.map #[] 0)).alloc (.map #[] 0)).alloc (.map #[] 0)) (headObj (newD w.heap.size room))).1
    simpa [newD] using this
  · refine (((DirAt.made w).keep (b0 _ _ _ (by simp))).keep (b0 _ _ _ ?_)).keep (b0 _ _ _ ?_) <;> simp <;> omega
  · have h := DirAt.made (w.alloc (.map #[] 0))
    have e : (w.alloc (.map #[] 0)).heap.size = w.heap.size + 1 := by simp
    rw [e] at h
    refine (h.keep (b0 _ _ _ ?_)).keep (b0 _ _ _ ?_) <;> simp
  · have h := FailAtM.made ((w.alloc (.map #[] 0)).alloc (.map #[] 0))
    have e : ((w.alloc (.map #[] 0)).alloc (.map #[] 0)).heap.size = w.heap.size + 2 := by simp
    rw [e] at h
    refine h.keep (b0 _ _ _ ?_)
    simp
set_option maxRecDepth 100000 in
theorem new_calls (room : Int) (hr : 0 ≤ room) (w : World) :
    Calls Tryd.prog 9 #[.int .i64 room] w fun e w' => e = .returned (.tuple #[P (w.heap.size + 3), .int .i64 0]) ∧ DkAt w' (newD w.heap.size room) ∧ Below w.heap.size w w' := by
  have hmm := @run_makeMap Tryd.prog
  have HN := hid (new_at w room)
  have HB := hid (fun o => ((((Below.refl _ w).alloc (Nat.le_refl _) (.map #[] 0)).alloc (by simp) (.map #[] 0)).alloc (by simp; omega) (.map #[] 0)).alloc (by simp; omega) o)
  go_enter Tryd.func9, Tryd.ntmps9
  go_wp2
  go_ret2
  exact ⟨rfl, HN.out, HB.out _⟩
set_option maxRecDepth 100000 in
theorem size_none (h : DkAt w D) (s : ByteArray) (hs : s.size ≤ maxLen) (hn : D.dir s = none) :
    Calls Tryd.prog 21 #[P D.d, .string s] w fun e w' => e = .returned (.int .i64 (-1)) ∧ w' = w := by
  have c0 := h.c0
  have hl := h.dirM.look hs
  rw [hn] at hl
  have hl2 : (Instr.lookup 66 (.map (some D.dm)) (.string s) false).run Tryd.prog w = .ok (.pointer none) w := hl
  clear h hl hn
  go_enter Tryd.func21, Tryd.ntmps21
  go_wp2
  go_ret
  exact ⟨rfl, rfl⟩
theorem FlAt.c0 {f : Fl} (h : FlAt w f) : w.cell? ⟨f.blk, 0, none⟩ = some f.row := (cell_of h.cell 0).trans rfl
theorem FlAt.c1 {f : Fl} (h : FlAt w f) : w.cell? ⟨f.blk, 1, none⟩ = some (.int .i64 f.sure) := (cell_of h.cell 1).trans rfl
theorem FlAt.free {f : Fl} (h : FlAt w f) (i : Nat) : w.frozen? ⟨f.blk, i, none⟩ = false := free_of h.cell i
set_option maxRecDepth 100000 in
theorem size_some (h : DkAt w D) (s : ByteArray) (hs : s.size ≤ maxLen) (f : Fl) (hf : f ∈ D.fs) (hn : D.dir s = some f.blk) :
    Calls Tryd.prog 21 #[P D.d, .string s] w fun e w' => e = .returned (.int .i64 f.b.length) ∧ w' = w := by
  have c0 := h.c0
  have hl := h.dirM.look hs
  rw [hn] at hl
  have hl2 : (Instr.lookup 66 (.map (some D.dm)) (.string s) false).run Tryd.prog w = .ok (P f.blk) w := hl
  have k0 := (h.files f hf).c0
  obtain ⟨A, c, hv⟩ := Kd.R_slice (h.files f hf).bytes
  rw [hv] at k0
  clear h hl hn hv
  go_enter Tryd.func21, Tryd.ntmps21
  go_wp2
  go_ret
  exact ⟨rfl, rfl⟩
set_option maxRecDepth 100000 in
theorem ops_calls (h : DkAt w D) : Calls Tryd.prog 17 #[P D.d] w fun e w' => e = .returned (.int .i64 D.ops) ∧ w' = w := by
  have c4 := h.c4
  clear h
  go_enter Tryd.func17, Tryd.ntmps17
  go_wp2
  go_ret
  exact ⟨rfl, rfl⟩
theorem DkAt.turn_fails {w' : World} {f' : Int → Int} (h : DkAt w D) (hm : FailAtM w' D.fm (D.n + 1) f') (g : Fr [D.fm] w w') : DkAt w' { D with n := D.n + 1, fails := f' } := by
  have hnd := h.nodup
  have hne : ∀ k ∈ D.own, k ≠ D.fm → k ∉ [D.fm] := fun k _ hk hm => hk (List.mem_singleton.1 hm)
  simp only [Dk.own, List.nodup_cons, List.mem_cons, List.mem_append, List.mem_flatMap, not_or] at hnd
  obtain ⟨⟨n1, n2, n3, n4, n5⟩, ⟨n6, n7, n8, n9⟩, ⟨n10, n11, n12⟩, ⟨n13, n14⟩, n15⟩ := hnd
  have hb : ∀ k ∈ D.boxes, k ≠ D.fm := fun k hk e => h.boff k hk (by rw [e]; simp [Dk.own])
  refine ⟨(g.keep _ h.d_lt (by simpa using n3)).trans h.cell, (h.dirM.keep (g.keep _ h.dirM.lt (by simpa using n7))).mono (Nat.le_succ _), (h.sureM.keep (g.keep _ h.sureM.lt (by simpa using n10))).mono (Nat.le_succ _), hm,
    Kd.R_step h.row (fun k hk hlt => g.keep k hlt (fun hm => n13 (by rw [← List.mem_singleton.1 hm]; simpa using hk))), fun f hf => (h.files f hf).keep (fun k hk hlt => g.keep k hlt (fun hm => n14 ⟨f, hf, by rw [← List.mem_singleton.1 hm]; exact hk⟩)),
    fun a ha => (h.boxed a ha).keep (fun k hk hlt => g.keep k hlt (fun hm => hb k (List.mem_flatMap.2 ⟨a, ha, hk⟩) (List.mem_singleton.1 hm))), h.nodup, h.boff⟩
set_option maxHeartbeats 4000000 in
set_option maxRecDepth 100000 in
theorem fail_calls (h : DkAt w D) (x : Int) (A : Addr) (c : Nat) (hx : (Lit.int .i64 x).wf = true) (hf : 0 ≤ D.fails x) (hf2 : D.fails x < 4611686018427387904) (hn : D.n < maxLen) (hA : w.cell? A = some (.int .i64 x)) (hA0 : A.spot = none) :
    Calls Tryd.prog 25 #[P D.d, .slice (some A) 1 c] w fun e w' => e = .returned (.tuple #[]) ∧ DkAt w' { D with n := D.n + 1, fails := fun t => if t = x then D.fails x + 1 else D.fails t } ∧ Fr [D.fm] w w' := by
  have c7 := h.c7
  have hl := h.failM.look hx
  have HH := hid h
  have hz : wrap64 (D.fails x + 1) = D.fails x + 1 := by unfold wrap64; omega
  obtain ⟨b, o, sp⟩ := A
  obtain rfl : sp = none := hA0
  clear h
  go_enter Tryd.func25, Tryd.ntmps25
  go_wp2
  refine wp_loop_rounds 2 ?_
  rw [rounds_succ]
  go_wp2_with (at_mapUpdate; refine wpList_fail _ rfl _ _ _ rfl rfl HH.out.failM hn x (D.fails x + 1) rfl rfl hx (WalkArith.wf_i64 (by omega)) ?_; intro w2 hm2 ht2; have H2 := hid (HH.out.turn_fails hm2 (Fr.turned ht2 (List.mem_singleton.2 rfl))); have F2 := hid (Fr.turned ht2 (List.mem_singleton.2 rfl) : Fr [D.fm] w w2); clear hm2 ht2)
  rw [rounds_succ]
  go_wp2
  go_end0
  exact ⟨rfl, H2.out, F2.out⟩
end
end Go.Proofs.YthlmbgaipbjbhaaDoor.L
end
section
namespace Go.Proofs.YthlmbgaipbjbhaaDoor.L
open Go.RowKit Go.Lib Go.Maps
open Go.Proofs.YthlmbgaipbjbhaaDoorW.PrintWords Go.Proofs.YthlmbgaipbjbhaaDoorW.PrintLast Go.Proofs.YthlmbgaipbjbhaaDoorW.PrintMore
theorem info89 : (Tryd.prog.info? 89).map (fun i => (i.zero, i.size, i.bytes)) = some (some (.agg #[.pointer none, .int .i64 0, .nilFunc]), 3, 24) := by kernel_rfl
abbrev Names := ByteArray → Option Nat
def Ac.app : Ac → Names → Names
  | .grow _ _, dir => dir
  | .make s f _ _, dir => fun t => if t = s then some f else dir t
  | .move s t _ _, dir => fun x => if x = s then none else if x = t then dir s else dir x
  | .gone s _, dir => fun x => if x = s then none else dir x
section
variable {w : World} {m n : Nat} {dir : Names}
set_option maxRecDepth 100000 in
theorem do_make (s : ByteArray) (f b1 b2 : Nat) (hb : BoxIs w (.make s f b1 b2)) (hm : DirAt w m n dir) (hn : n < maxLen) :
    Calls Tryd.prog 66 #[.map (some m), P b1, P b2] w fun e w' => e = .returned (.tuple #[]) ∧ DirAt w' m (n + 1) ((Ac.make s f b1 b2).app dir) ∧ Fr [m] w w' := by
  have k1 : w.cell? ⟨b1, 0, none⟩ = some (P f) := (cell_of hb.1 0).trans rfl
  have k2 : w.cell? ⟨b2, 0, none⟩ = some (.string s) := (cell_of hb.2.1 0).trans rfl
  have HM := hid hm
  have hs : s.size ≤ maxLen := by have := hb.2.2; unfold maxLen; omega
  clear hb hm
  go_enter Tryd.func66, Tryd.ntmps66
  go_wp2_with (at_mapUpdate; refine wpList_lay _ rfl _ _ _ rfl rfl HM.out hn s f rfl rfl hs ?_; intro w2 hm2 ht2; have H2 := hid hm2; have F2 := hid (Fr.turned ht2 (List.mem_singleton.2 rfl) : Fr [m] w w2); clear hm2 ht2)
  go_end0
  exact ⟨rfl, H2.out, F2.out⟩
set_option maxRecDepth 100000 in
theorem do_gone (s : ByteArray) (b1 : Nat) (hb : BoxIs w (.gone s b1)) (hm : DirAt w m n dir) :
    Calls Tryd.prog 70 #[.map (some m), P b1] w fun e w' => e = .returned (.tuple #[]) ∧ DirAt w' m (n + 1) ((Ac.gone s b1).app dir) ∧ Fr [m] w w' := by
  have k1 : w.cell? ⟨b1, 0, none⟩ = some (.string s) := (cell_of hb.1 0).trans rfl
  have HM := hid hm
  have hs : s.size ≤ maxLen := by have := hb.2; unfold maxLen; omega
  clear hb hm
  go_enter Tryd.func70, Tryd.ntmps70
  go_wp2_with (at_delete; refine wpList_drop _ rfl _ _ rfl rfl HM.out s rfl hs ?_; intro w2 hm2 ht2; have H2 := hid (hm2.mono (Nat.le_succ _)); have F2 := hid (Fr.turned ht2 (List.mem_singleton.2 rfl) : Fr [m] w w2); clear hm2 ht2)
  go_end0
  exact ⟨rfl, H2.out, F2.out⟩
set_option maxHeartbeats 1000000 in
set_option maxRecDepth 100000 in
theorem do_move (s t : ByteArray) (b1 b2 : Nat) (hb : BoxIs w (.move s t b1 b2)) (hm : DirAt w m n dir) (hn : n < maxLen) (fb : Nat) (hf : dir s = some fb) (hbm : b1 ≠ m) :
    Calls Tryd.prog 71 #[.map (some m), P b1, P b2] w fun e w' => e = .returned (.tuple #[]) ∧ DirAt w' m (n + 1) ((Ac.move s t b1 b2).app dir) ∧ Fr [m] w w' := by
  have k1 : w.cell? ⟨b1, 0, none⟩ = some (.string s) := (cell_of hb.1 0).trans rfl
  have k2 : w.cell? ⟨b2, 0, none⟩ = some (.string t) := (cell_of hb.2.1 0).trans rfl
  have HM := hid hm
  have hs : s.size ≤ maxLen := by have := hb.2.2.1; unfold maxLen; omega
  have ht : t.size ≤ maxLen := by have := hb.2.2.2; unfold maxLen; omega
  have hl : (Instr.lookup 66 (.map (some m)) (.string s) false).run Tryd.prog w = .ok (P fb) w := by
    have := hm.look hs
    rw [hf] at this
    exact this
  have HK := hid (fun (W : World) (hW : Fr [m] w W) => (show W.cell? ⟨b1, 0, none⟩ = some (.string s) from (cell_of ((hW.keep b1 (lt_of hb.1) (by simpa using hbm)).trans hb.1) 0).trans rfl))
  have HF := hid hf
  clear hb hm hf
  go_enter Tryd.func71, Tryd.ntmps71
  go_wp2_with (first | (at_mapUpdate; refine wpList_lay _ rfl _ _ _ rfl rfl HM.out hn t fb rfl rfl ht ?_; intro w2 hm2 ht2; have H2 := hid hm2; have F2 := hid (Fr.turned ht2 (List.mem_singleton.2 rfl) : Fr [m] w w2); have e1 := HK.out _ F2.out; clear hm2 ht2) | (at_delete; refine wpList_drop _ rfl _ _ rfl rfl H2.out s rfl hs ?_; intro w3 hm3 ht3; have H3 := hid hm3; have F3 := hid (F2.out.trans (Fr.turned ht3 (List.mem_singleton.2 rfl) : Fr [m] w2 w3) (fun _ hk => .inl hk)); clear hm3 ht3))
  go_end0
  refine ⟨rfl, ?_, F3.out⟩
  have h := H3.out
  have e : (Ac.move s t b1 b2).app dir = fun x => if x = s then none else if x = t then some fb else dir x := by
    funext x
    show (if x = s then none else if x = t then dir s else dir x) = _
    rw [HF.out]
  rw [e]
  exact h
end
structure Goes (w w' : World) (D D' : Dk) : Prop where
  at_ : DkAt w' D'
  fr : Fr D.own w w'
  own : ∀ k ∈ D'.own, k ∈ D.own ∨ w.heap.size ≤ k
  box : ∀ k ∈ D'.boxes, k ∈ D.boxes ∨ w.heap.size ≤ k
section
variable {w w' w'' : World} {D D' D'' : Dk}
theorem Goes.refl (h : DkAt w D) : Goes w w D D := ⟨h, Fr.refl _ _, fun _ hk => .inl hk, fun _ hk => .inl hk⟩
theorem Goes.trans (h : Goes w w' D D') (h' : Goes w' w'' D' D'') : Goes w w'' D D'' :=
  ⟨h'.at_, h.fr.trans h'.fr h.own, fun k hk => by
    rcases h'.own k hk with e | e
    · exact h.own k e
    · exact .inr (Nat.le_trans h.fr.size e), fun k hk => by
    rcases h'.box k hk with e | e
    · exact h.box k e
    · exact .inr (Nat.le_trans h.fr.size e)⟩
theorem Goes.new (h : DkAt w D) (f : Fr [] w w') : Goes w w' D D := ⟨h.new f, f.none, fun _ hk => .inl hk, fun _ hk => .inl hk⟩
theorem Goes.on (h : Goes w w' D D') (f : Fr [] w' w'') : Goes w w'' D D' := h.trans (Goes.new h.at_ f)
theorem Goes.head (h' : DkAt w' D') (f : Fr [D.d] w w') (e1 : D'.own = D.own) (e2 : D'.boxes = D.boxes) : Goes w w' D D' :=
  ⟨h', f.wider (fun k hk => .inl (by rw [List.mem_singleton.1 hk]; exact List.mem_cons_self)), fun k hk => .inl (by rw [← e1]; exact hk), fun k hk => .inl (by rw [← e2]; exact hk)⟩
theorem Dk.ne (h : DkAt w D) : (D.d ≠ D.dm ∧ D.d ≠ D.sm ∧ D.d ≠ D.fm ∧ D.dm ≠ D.sm ∧ D.dm ≠ D.fm ∧ D.sm ≠ D.fm) ∧
    (∀ k, D.lv.ownBlock = some k → k ≠ D.d ∧ k ≠ D.dm ∧ k ≠ D.sm ∧ k ≠ D.fm) ∧ (∀ f ∈ D.fs, ∀ k ∈ f.own, k ≠ D.d ∧ k ≠ D.dm ∧ k ≠ D.sm ∧ k ≠ D.fm ∧ D.lv.ownBlock ≠ some k) ∧ (∀ k ∈ D.boxes, k ≠ D.d ∧ k ≠ D.dm ∧ k ≠ D.sm ∧ k ≠ D.fm ∧ D.lv.ownBlock ≠ some k ∧ ∀ f ∈ D.fs, k ∉ f.own) := by
  have hnd := h.nodup
  simp only [Dk.own, List.nodup_cons, List.mem_cons, List.mem_append, List.mem_flatMap, not_or] at hnd
  obtain ⟨⟨n1, n2, n3, n4, n5⟩, ⟨n6, n7, n8, n9⟩, ⟨n10, n11, n12⟩, ⟨n13, n14⟩, n15⟩ := hnd
  have n16 := (List.nodup_append.1 n15).2.2
  refine ⟨⟨n1, n2, n3, n6, n7, n10⟩, fun k hk => ⟨fun e => n4 (by rw [← e, hk]; simp), fun e => n8 (by rw [← e, hk]; simp), fun e => n11 (by rw [← e, hk]; simp), fun e => n13 (by rw [← e, hk]; simp)⟩,
    fun f hf k hk => ⟨fun e => n5 ⟨f, hf, by rw [← e]; exact hk⟩, fun e => n9 ⟨f, hf, by rw [← e]; exact hk⟩, fun e => n12 ⟨f, hf, by rw [← e]; exact hk⟩, fun e => n14 ⟨f, hf, by rw [← e]; exact hk⟩, fun e => n16 k (by rw [e]; simp) k (List.mem_flatMap.2 ⟨f, hf, hk⟩) rfl⟩,
    fun k hk => ?_⟩
  have hb := h.boff k hk
  simp only [Dk.own, List.mem_cons, List.mem_append, List.mem_flatMap, not_or, not_exists, not_and] at hb
  obtain ⟨m1, m2, m3, m4, m5, m6⟩ := hb
  exact ⟨m1, m2, m3, m4, fun e => m5 (by rw [e]; simp), fun f hf => m6 f hf⟩
theorem Goes.turn_dir {dir' : Names} (h : DkAt w D) (hm : DirAt w' D.dm (D.n + 1) dir') (g : Fr [D.dm] w w') : Goes w w' D { D with n := D.n + 1, dir := dir' } := by
  obtain ⟨⟨n1, n2, n3, n4, n5, n6⟩, hl, hf, hb⟩ := Dk.ne h
  refine ⟨⟨(g.keep _ h.d_lt (by simpa using n1)).trans h.cell, hm, (h.sureM.keep (g.keep _ h.sureM.lt (by simpa using fun e : D.sm = D.dm => n4 e.symm))).mono (Nat.le_succ _), (h.failM.keep (g.keep _ h.failM.lt (by simpa using fun e : D.fm = D.dm => n5 e.symm))).mono (Nat.le_succ _),
    Kd.R_step h.row (fun k hk hlt => g.keep k hlt (by simpa using (hl k hk).2.1)), fun f hff => (h.files f hff).keep (fun k hk hlt => g.keep k hlt (by simpa using (hf f hff k hk).2.1)),
    fun a ha => (h.boxed a ha).keep (fun k hk hlt => g.keep k hlt (by simpa using (hb k (List.mem_flatMap.2 ⟨a, ha, hk⟩)).2.1)), h.nodup, h.boff⟩,
    g.wider (fun k hk => .inl (by rw [List.mem_singleton.1 hk]; simp [Dk.own])), fun _ hk => .inl hk, fun _ hk => .inl hk⟩
theorem own_lv {D : Dk} {S : Nat} {v1 : Value} (hnd : D.own.Nodup) (hlt : ∀ k ∈ D.own, k < S) (hv : v1.ownBlock = D.lv.ownBlock ∨ v1.ownBlock = none ∨ ∃ b, v1.ownBlock = some b ∧ S ≤ b) : ({ D with lv := v1 } : Dk).own.Nodup := by
  have hs : ([D.d, D.dm, D.sm, D.fm] ++ D.fs.flatMap Fl.own).Sublist D.own := by
    show ([D.d, D.dm, D.sm, D.fm] ++ D.fs.flatMap Fl.own).Sublist ([D.d, D.dm, D.sm, D.fm] ++ (D.lv.ownBlock.toList ++ D.fs.flatMap Fl.own))
    exact List.Sublist.append (List.Sublist.refl _) (List.sublist_append_right _ _)
  show ([D.d, D.dm, D.sm, D.fm] ++ (v1.ownBlock.toList ++ D.fs.flatMap Fl.own)).Nodup
  rcases hv with e | e | ⟨b, e, hb⟩
  · rw [e]; exact hnd
  · rw [e]; exact hnd.sublist hs
  · rw [e]
    show ([D.d, D.dm, D.sm, D.fm] ++ b :: D.fs.flatMap Fl.own).Nodup
    rw [List.perm_middle.nodup_iff, List.nodup_cons]
    refine ⟨fun hm => ?_, hnd.sublist hs⟩
    have := hlt b (hs.subset hm)
    omega
theorem Goes.turn_loose {w1 : World} {v1 : Value} {l1 : List Ac} (h : DkAt w D) (g : Fr (D.lv.ownBlock.toList) w w1) (hr : Kd.R kAc 89 w1 0 (fun _ => True) v1 l1)
    (hv : v1.ownBlock = D.lv.ownBlock ∨ v1.ownBlock = none ∨ ∃ b, v1.ownBlock = some b ∧ w.heap.size ≤ b) (hb : ∀ a ∈ l1, BoxIs w1 a) (hbo : ∀ a ∈ l1, ∀ k ∈ bxs a, k ∈ D.boxes ∨ (k ∉ D.own ∧ v1.ownBlock ≠ some k))
    (hbn : ∀ a ∈ l1, ∀ k ∈ bxs a, k ∈ D.boxes → v1.ownBlock ≠ some k) :
    DkAt (w1.setCell ⟨D.d, 2, none⟩ v1) { D with lv := v1, loose := l1 } ∧ Fr D.own w (w1.setCell ⟨D.d, 2, none⟩ v1) ∧ ∀ k ∈ ({ D with lv := v1, loose := l1 } : Dk).own, k ∈ D.own ∨ w.heap.size ≤ k := by
  obtain ⟨⟨n1, n2, n3, n4, n5, n6⟩, hl, hf, hbx⟩ := Dk.ne h
  have hlv : ∀ k, k ∈ D.lv.ownBlock.toList ↔ D.lv.ownBlock = some k := fun k => by simp
  have hsub : ∀ k ∈ ({ D with lv := v1, loose := l1 } : Dk).own, k ∈ D.own ∨ w.heap.size ≤ k := fun k hk => by
    simp only [Dk.own, List.mem_cons, List.mem_append] at hk ⊢
    rcases hk with e | e | e | e | e | e
    · exact .inl (.inl e)
    · exact .inl (.inr (.inl e))
    · exact .inl (.inr (.inr (.inl e)))
    · exact .inl (.inr (.inr (.inr (.inl e))))
    · rcases hv with hv | hv | ⟨b, hv, hbb⟩
      · rw [hv] at e; exact .inl (.inr (.inr (.inr (.inr (.inl e)))))
      · rw [hv] at e; simp at e
      · rw [hv] at e; simp at e; rw [e]; exact .inr hbb
    · exact .inl (.inr (.inr (.inr (.inr (.inr e)))))
  have hc : w1.heap[D.d]? = some (headObj D) := (g.keep _ h.d_lt (fun hm => (hl D.d ((hlv _).1 hm)).1 rfl)).trans h.cell
  have hset : ∀ k, k ≠ D.d → (w1.setCell ⟨D.d, 2, none⟩ v1).heap[k]? = w1.heap[k]? := fun k hne => Below.heap_setCell w1 _ _ k hne
  have hkeep : ∀ k, k < w.heap.size → k ≠ D.d → D.lv.ownBlock ≠ some k → (w1.setCell ⟨D.d, 2, none⟩ v1).heap[k]? = w.heap[k]? := fun k hk hne hn => (hset k hne).trans (g.keep k hk (fun hm => hn ((hlv k).1 hm)))
  have hv1d : ∀ k, v1.ownBlock = some k → k ≠ D.d := fun k hk => by
    rcases hv with hv | hv | ⟨b, hv, hbb⟩
    · exact (hl k (hv ▸ hk)).1
    · rw [hv] at hk; cases hk
    · rw [hv] at hk
      injection hk with hk
      have := h.d_lt
      omega
  have hmd : ∀ k ∈ [D.d, D.dm, D.sm, D.fm], D.lv.ownBlock ≠ some k := fun k hk e => by
    have := hl k e
    simp only [List.mem_cons, List.not_mem_nil, or_false] at hk
    rcases hk with rfl | rfl | rfl | rfl
    · exact this.1 rfl
    · exact this.2.1 rfl
    · exact this.2.2.1 rfl
    · exact this.2.2.2 rfl
  refine ⟨⟨by rw [heap_set hc]; rfl, h.dirM.keep (hkeep _ h.dirM.lt n1.symm (hmd _ (by simp))), h.sureM.keep (hkeep _ h.sureM.lt n2.symm (hmd _ (by simp))), h.failM.keep (hkeep _ h.failM.lt n3.symm (hmd _ (by simp))), ?_,
    fun f hff => (h.files f hff).keep (fun k hk hlt => hkeep k hlt (hf f hff k hk).1 (hf f hff k hk).2.2.2.2), fun a ha => (hb a ha).keep (fun k hk _ => hset k ?_), own_lv h.nodup h.lt hv, fun k hk => ?_⟩, ?_, hsub⟩
  · obtain ⟨_, inner, ho, hrr⟩ := hr
    have h0 : Kd.R kAc 89 w1 0 (fun k => v1.ownBlock = some k) v1 l1 := ⟨fun k hk => hk, inner, ho, hrr.imp_ (fun _ _ hp => hp)⟩
    exact Kd.R_step h0 (fun k hk _ => hset k (hv1d k hk))
  · rcases hbo a ha k hk with e | e
    · exact (hbx k e).1
    · exact fun e2 => e.1 (by rw [e2]; exact List.mem_cons_self)
  · obtain ⟨a, ha, hka⟩ := List.mem_flatMap.1 hk
    intro hm
    simp only [Dk.own, List.mem_cons, List.mem_append, List.mem_flatMap] at hm
    rcases hbo a ha k hka with e | e
    · obtain ⟨m1, m2, m3, m4, m5, m6⟩ := hbx k e
      rcases hm with hm | hm | hm | hm | hm | ⟨f, hff, hm⟩
      · exact m1 hm
      · exact m2 hm
      · exact m3 hm
      · exact m4 hm
      · exact hbn a ha k hka e (by simpa using hm)
      · exact m6 f hff hm
    · have he := e.1
      simp only [Dk.own, List.mem_cons, List.mem_append, List.mem_flatMap, not_or] at he
      rcases hm with hm | hm | hm | hm | hm | hm
      · exact he.1 hm
      · exact he.2.1 hm
      · exact he.2.2.1 hm
      · exact he.2.2.2.1 hm
      · exact e.2 (by simpa using hm)
      · exact he.2.2.2.2.2 hm
  · exact (g.wider (fun k hk => .inl (by simp only [Dk.own, List.mem_cons, List.mem_append]; exact .inr (.inr (.inr (.inr (.inl hk))))))).trans (Fr.set w1 ⟨D.d, 2, none⟩ v1 (List.mem_singleton.2 rfl) : Fr [D.d] _ _) (fun k hk => .inl (by rw [List.mem_singleton.1 hk]; exact List.mem_cons_self))
end
end Go.Proofs.YthlmbgaipbjbhaaDoor.L
end
