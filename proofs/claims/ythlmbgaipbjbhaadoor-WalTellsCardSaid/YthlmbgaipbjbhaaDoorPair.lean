/- The laws' world, call by call: what is known of it between calls. One byte of a file is turned: Turn of the disk. Two worlds of the laws' over one disk: what is known of them between calls. -/
import Derived.Test.YthlmbgaipbjbhaaDoorLay
import Derived.Test.YthlmbgaipbjbhaaDoorOpenT
section
namespace Go.Proofs.YthlmbgaipbjbhaaDoor.L
open Go.RowKit Go.Lib Go.Maps Go.Proofs.YthlmbgaipbjbhaaDoor.P
open Go.Proofs.YthlmbgaipbjbhaaDoorW.PrintWords Go.Proofs.YthlmbgaipbjbhaaDoorW.PrintLast Go.Proofs.YthlmbgaipbjbhaaDoorW.PrintMore
set_option linter.unusedVariables false
theorem DkAt.nobox {w : World} {D : Dk} (h : DkAt w D) {x : Nat} {cells : Array Value} {t : TypeId} (hx : w.heap[x]? = some (.cells cells t (0, 0))) (h2 : cells.size ≠ 1) : x ∉ D.boxes := fun hm => by
  obtain ⟨a, ha, hk⟩ := List.mem_flatMap.1 hm
  have hb := h.boxed a ha
  have key : ∀ (v : Value) (t' : TypeId), w.heap[x]? = some (.cells #[v] t' (0, 0)) → False := fun v t' e => by
    rw [hx] at e
    injection e with e
    injection e with e _ _
    rw [e] at h2
    exact h2 rfl
  cases a with
  | grow f n => simp [bxs] at hk
  | make s f b1 b2 =>
    simp [bxs] at hk
    rcases hk with rfl | rfl
    · exact key _ _ hb.1
    · exact key _ _ hb.2.1
  | move s t b1 b2 =>
    simp [bxs] at hk
    rcases hk with rfl | rfl
    · exact key _ _ hb.1
    · exact key _ _ hb.2.1
  | gone s b1 =>
    simp [bxs] at hk
    subst hk
    exact key _ _ hb.1
section
variable {w0 w w' : World} {N k kc x : Nat} {D : Dk} {vg v vt : Value} {G H T : List (List ByteArray)} {own own2 own' : List Nat} {q : Op} {name : ByteArray}
def Wr (w : World) (own : List Nat) (v : Value) (G : List (List ByteArray)) : Prop := Kd.R kG 34 w 0 (fun j => j ∉ own) v G ∧ (∀ g ∈ G, GOk g) ∧ (encs G).length ≤ G.length * 7277
theorem Wr.to (h : Wr w own v G) (f : Fr own2 w w') (hs : ∀ j ∈ own2, j ∈ own) (hn : ∀ j ∈ own', j ∈ own ∨ w.heap.size ≤ j) : Wr w' own' v G :=
  ⟨Kd.R_mono (Kd.R_step (Kd.R_bound h.1) (fun j hj hlt => f.keep j hlt (fun hm => hj.1 (hs j hm)))) (fun j hj hm => (hn j hm).elim hj.1 (fun e => by have := hj.2.2.1; omega)), h.2⟩
theorem Wr.nil (w : World) (own : List Nat) : Wr w own (.slice none 0 0) [] := ⟨Kd.R_nil _ _ _ _ _, (fun _ h => by cases h), by simp [encs]⟩
theorem nxt_ok (h : ∀ g ∈ G, GOk g) : ∀ g ∈ nxt q G, GOk g := fun g hg => by
  unfold nxt at hg
  split at hg
  · rw [List.mem_singleton.1 hg]; exact (fewL_ok q.l).1
  · rcases List.mem_append.1 hg with hg | hg
    · exact h g hg
    · rw [List.mem_singleton.1 hg]; exact (fewL_ok q.l).1
theorem nxt_len : (nxt q G).length ≤ G.length + 1 := by
  unfold nxt
  split <;> simp
theorem nxt_enc (h : (encs G).length ≤ G.length * 7277) : (encs (nxt q G)).length ≤ (nxt q G).length * 7277 := by
  have := fewL_bytes q.l
  unfold nxt
  split
  · rw [encs_one]; simp; omega
  · rw [encs_append, encs_one, List.length_append, List.length_append]; simp; omega
theorem Wr.nxt (h : Wr w own vg G) (h2 : Kd.R kG 34 w' 0 (fun j => j ∉ own) v (nxt q G)) : Wr w' own v (nxt q G) := ⟨h2, nxt_ok h.2.1, nxt_enc h.2.2⟩
theorem Lw.fr (h : Lw w0 w D k name G) (f : Fr own w w') (hk : k ∉ own) : Lw w0 w' D k name G := by
  obtain ⟨s, r, t, h1, h2⟩ := h.lw
  exact ⟨⟨s, r, t, (f.keep k (lt_of h1) hk).trans h1, h2⟩, h.ge, h.off⟩
theorem Lw.lt (h : Lw w0 w D k name G) : k < w.heap.size := by
  obtain ⟨s, r, t, h1, h2⟩ := h.lw
  exact lt_of h1
theorem Lw.power (h : Lw w0 w D k name G) (f : Fr [D.d] w w') (c : Int) (b : Bool) : Lw w0 w' { D with cut := c, off := b } k name G := by
  obtain ⟨s, r, t, h1, u, h2, ⟨o, h3, h4, h5⟩, h6⟩ := h.lw
  refine ⟨⟨s, r, t, (f.keep k (lt_of h1) (fun hm => h.off.1 ?_)).trans h1, u, h2, ⟨o, h3.cut c b, h4, h5⟩, h6⟩, h.ge, h.off⟩
  rw [List.mem_singleton.1 hm]
  exact List.mem_cons_self
structure Wx (w0 w : World) (N : Nat) (D : Dk) (kc k x : Nat) (vg : Value) (G : List (List ByteArray)) : Prop where
  dw : Dw w0 w N 4194304 D
  obj : w.heap[x]? = some (wsObj D.d kc vg (.slice none 0 0) false)
  xge : w0.heap.size ≤ x
  xoff : x ∉ k :: D.own
  klt : k < w.heap.size
  kge : w0.heap.size ≤ k
  only : Only (fun y => y ∈ [nLog, nLog2]) D
  fails : ∀ t, D.fails t = 0
  room : ((12582912 : Nat) : Int) ≤ D.room
  row : Wr w (x :: k :: D.own) vg G
theorem Wx.xlt (h : Wx w0 w N D kc k x vg G) : x < w.heap.size := lt_of h.obj
theorem Wx.olt (h : Wx w0 w N D kc k x vg G) : ∀ j ∈ x :: k :: D.own, j < w.heap.size := fun j hj => by
  rcases List.mem_cons.1 hj with e | hj
  · rw [e]; exact h.xlt
  · rcases List.mem_cons.1 hj with e | hj
    · rw [e]; exact h.klt
    · exact h.dw.at_.lt j hj
theorem Wx.new (h : Wx w0 w N D kc k x vg G) (f : Fr [] w w') : Wx w0 w' N D kc k x vg G :=
  ⟨h.dw.new f, (f.keep x h.xlt (by simp)).trans h.obj, h.xge, h.xoff, Nat.lt_of_lt_of_le h.klt f.size, h.kge, h.only, h.fails, h.room, h.row.to f (fun j hj => by simp at hj) (fun j hj => .inl hj)⟩
theorem Wx.mono {M : Nat} (h : Wx w0 w N D kc k x vg G) (hN : N ≤ M) : Wx w0 w M D kc k x vg G := ⟨h.dw.mono hN, h.obj, h.xge, h.xoff, h.klt, h.kge, h.only, h.fails, h.room, h.row⟩
theorem Wx.set (h : Wx w0 w N D kc k x vg G) (i : Nat) (u : Value) {kc' : Nat} (ho : (w.setCell ⟨x, i, none⟩ u).heap[x]? = some (wsObj D.d kc' vt (.slice none 0 0) false)) (r : Wr w (x :: k :: D.own) vt T) :
    Wx w0 (w.setCell ⟨x, i, none⟩ u) N D kc' k x vt T ∧ Fr [x] w (w.setCell ⟨x, i, none⟩ u) := by
  have f : Fr [x] w (w.setCell ⟨x, i, none⟩ u) := Fr.set w _ _ (by simp)
  refine ⟨⟨⟨h.dw.at_.fr f (fun j hj hm => ?_), h.dw.bel.trans (f.below h.dw.bel.size (fun j hj => by rw [List.mem_singleton.1 hj]; exact h.xge)), h.dw.own, h.dw.good⟩, ho, h.xge, h.xoff, Nat.lt_of_lt_of_le h.klt f.size, h.kge, h.only, h.fails, h.room, r.to f (fun j hj => by rw [List.mem_singleton.1 hj]; exact List.mem_cons_self) (fun j hj => .inl hj)⟩, f⟩
  rw [List.mem_singleton.1 hm] at hj
  exact hj.elim (fun e => h.xoff (List.mem_cons_of_mem _ e)) (h.dw.at_.nobox h.obj (show (5 : Nat) ≠ 1 by decide))
theorem Wx.setg (h : Wx w0 w N D kc k x vg G) (r : Wr w (x :: k :: D.own) vt T) : Wx w0 (w.setCell ⟨x, 2, none⟩ vt) N D kc k x vt T ∧ Fr [x] w (w.setCell ⟨x, 2, none⟩ vt) := h.set 2 vt (by rw [heap_set h.obj]; rfl) r
theorem Wx.free (h : Wx w0 w N D kc k x vg G) (i : Nat) : w.frozen? ⟨x, i, none⟩ = false := free_of h.obj i
theorem Wx.c0 (h : Wx w0 w N D kc k x vg G) : w.cell? ⟨x, 0, none⟩ = some (P D.d) := (cell_of h.obj 0).trans rfl
theorem Wx.c1 (h : Wx w0 w N D kc k x vg G) : w.cell? ⟨x, 1, none⟩ = some (P kc) := (cell_of h.obj 1).trans rfl
theorem Wx.c2 (h : Wx w0 w N D kc k x vg G) : w.cell? ⟨x, 2, none⟩ = some vg := (cell_of h.obj 2).trans rfl
theorem Wx.power (h : Wx w0 w N D kc k x vg G) (f : Fr [D.d] w w') {c : Int} {b : Bool} (a : DkAt w' { D with cut := c, off := b }) : Wx w0 w' N { D with cut := c, off := b } kc k x vg G :=
  have hd : D.d ∈ D.own := List.mem_cons_self
  ⟨⟨a, h.dw.bel.trans (f.below h.dw.bel.size (fun j hj => by rw [List.mem_singleton.1 hj]; exact h.dw.own _ (.inl hd))), h.dw.own, h.dw.good.power c b⟩, (f.keep x h.xlt (fun hm => h.xoff (by rw [List.mem_singleton.1 hm]; exact List.mem_cons_of_mem _ hd))).trans h.obj, h.xge, h.xoff, Nat.lt_of_lt_of_le h.klt f.size, h.kge, ⟨h.only.dir, h.only.sure, h.only.acts⟩, h.fails, h.room, h.row.to f (fun j hj => by rw [List.mem_singleton.1 hj]; exact List.mem_cons_of_mem _ (List.mem_cons_of_mem _ hd)) (fun j hj => .inl hj)⟩
theorem Wx.crash {D2 : Dk} {keep torn : Int} (h : Wx w0 w N D kc k x vg G) (hb : Below w.heap.size w w') (d2 : Dw w0 w' (N + N) 4194304 D2) (c : Crashed keep torn D D2) (hlow : ∀ j, j ∈ D2.own ∨ j ∈ D2.boxes → w.heap.size ≤ j) :
    Wx w0 (w'.setCell ⟨x, 0, none⟩ (P D2.d)) (N + N) D2 kc k x vg G ∧ Calm 12582912 D2 ∧ ∀ {vt : Value} {T : List (List ByteArray)}, Wr w (x :: k :: D.own) vt T → Wr (w'.setCell ⟨x, 0, none⟩ (P D2.d)) (x :: k :: D2.own) vt T := by
  have fb : Fr [] w w' := Fr.of_below hb []
  have f : Fr [x] w' (w'.setCell ⟨x, 0, none⟩ (P D2.d)) := Fr.set w' _ _ (by simp)
  have hx' := h.new fb
  have hn : ∀ j ∈ x :: k :: D2.own, j ∈ x :: k :: D.own ∨ w.heap.size ≤ j := fun j hj => by
    rcases List.mem_cons.1 hj with e | hj
    · exact .inl (by rw [e]; exact List.mem_cons_self)
    · rcases List.mem_cons.1 hj with e | hj
      · exact .inl (by rw [e]; simp)
      · exact .inr (hlow j (.inl hj))
  have hx2 : x ∉ k :: D2.own := fun hm => by
    rcases List.mem_cons.1 hm with e | hm
    · exact h.xoff (by rw [e]; exact List.mem_cons_self)
    · have := hlow x (.inl hm); have := h.xlt; omega
  have hr : ∀ {vt : Value} {T : List (List ByteArray)}, Wr w (x :: k :: D.own) vt T → Wr (w'.setCell ⟨x, 0, none⟩ (P D2.d)) (x :: k :: D2.own) vt T := fun r =>
    (r.to fb (fun j hj => by simp at hj) hn).to f (fun j hj => by rw [List.mem_singleton.1 hj]; exact List.mem_cons_self) (fun j hj => .inl hj)
  have calm : Calm 12582912 D2 := Calm.crash h.room c
  refine ⟨⟨⟨d2.at_.fr f (fun j hj hm => ?_), d2.bel.trans (f.below d2.bel.size (fun j hj => by rw [List.mem_singleton.1 hj]; exact h.xge)), d2.own, d2.good⟩, by rw [heap_set hx'.obj]; rfl, h.xge, hx2, Nat.lt_of_lt_of_le hx'.klt f.size, h.kge, h.only.crash c, calm.fails, calm.room, hr h.row⟩, calm, hr⟩
  rw [List.mem_singleton.1 hm] at hj
  have := hlow x hj
  have := h.xlt
  omega
theorem Wx.start {D : Dk} (dw : Dw w0 w 0 4194304 D) (lw : Lw w0 w D k nLog []) (hx : w.heap[x]? = some (wsObj D.d k (.slice none 0 0) (.slice none 0 0) false)) (hg : w0.heap.size ≤ x) (ho : x ∉ k :: D.own) (hon : ∀ P : ByteArray → Prop, Only P D) (c : Calm 12582912 D) : Wx w0 w 0 D k k x (.slice none 0 0) [] :=
  ⟨dw, hx, hg, ho, lw.lt, lw.ge, hon _, c.fails, c.room, Wr.nil _ _⟩
end
end Go.Proofs.YthlmbgaipbjbhaaDoor.L
end
section
namespace Go.Proofs.YthlmbgaipbjbhaaDoor.L
open Go.RowKit Go.Lib Go.Maps Go.Proofs.YthlmbgaipbjbhaaDoor.P
open Go.Proofs.YthlmbgaipbjbhaaDoorW.PrintWords Go.Proofs.YthlmbgaipbjbhaaDoorW.PrintLast Go.Proofs.YthlmbgaipbjbhaaDoorW.PrintMore
set_option linter.unusedVariables false
section
variable {w w' : World} {N B : Nat} {D : Dk} {s : ByteArray}
abbrev xor8 (a b : Int) : Int := bits BinOp.xor IntKind.u8 a b
def turnF (f : Fl) (p : Nat) (v : Int) : Fl := ⟨f.blk, f.row, f.b.set p v, f.sure⟩
set_option maxHeartbeats 8000000 in
set_option maxRecDepth 100000 in
theorem turn_calls (h : DkAt w D) (hs : s.size ≤ maxLen) (f : Fl) (hf : f ∈ D.fs) (hd : D.dir s = some f.blk) (p : Nat) (hp : p < f.b.length) (hl : f.b.length < 4611686018427387904) (y : Int) (hy : 0 ≤ y ∧ y < 256) :
    Calls Tryd.prog 22 #[P D.d, .string s, .int .i64 p, .int .u8 y] w fun e w' => e = .returned (.int .i64 0) ∧ Goes w w' D (D.setF (turnF f p (xor8 (f.b.getD p 0) y))) := by
  have HSZ := hid (size_some h s hs f hf hd)
  have hfa := h.files f hf
  obtain ⟨inner, ho⟩ := Kd.R_own hfa.bytes
  obtain ⟨g, cap, hrow⟩ : ∃ g cap, f.row = .slice (some ⟨g, 0, none⟩) f.b.length cap := by
    rcases ho.2 with ⟨e, _⟩ | ⟨g, cap, cur, e, _⟩
    · rw [e] at ho
      have := hfa.bytes
      obtain ⟨A, c, e2, _, _⟩ := Kd.R_reads this
      rw [e] at e2
      injection e2 with _ e3 _
      omega
    · exact ⟨g, cap, e⟩
  have hR := hfa.bytes
  rw [hrow] at hR
  obtain ⟨c, hcl, hM, hcc, hfz⟩ := Kd.R_elem hR (0 : Int) (p : Int) (by omega) (by omega)
  have hz : (p : Int).toNat * (Kd.int .u8).sz + 0 = p := by show p * 1 + 0 = p; omega
  have hcv : c = [.int .u8 (f.b.getD p 0)] := hM
  subst hcv
  have q0 := hcc 0 _ rfl
  have qf := hfz 0
  have hseg := Kd.R_seg hR (p : Int) (by omega) (by omega) hcl hcc (j := 0) (seg := [.int .u8 (xor8 (f.b.getD p 0) y)]) (show 0 + 1 ≤ 1 by decide) (x' := xor8 (f.b.getD p 0) y) (okp := fun _ => False) (show [Value.int .u8 (xor8 (f.b.getD p 0) y)] = [Value.int .u8 (xor8 (f.b.getD p 0) y)] from rfl) (fun _ hk => hk.elim)
  rw [hz] at q0 qf hseg
  have hne : g ≠ f.blk := fun e => Kd.R_ne hfa.bytes hfa.cell (by decide) (by rw [hrow, ← e]; simp [Value.ownBlock])
  have c0 := h.c0
  have hlk := h.dirM.look hs
  rw [hd] at hlk
  have hl2 : (Instr.lookup 66 (.map (some D.dm)) (.string s) false).run Tryd.prog w = .ok (P f.blk) w := hlk
  have k0 := hfa.c0
  rw [hrow] at k0
  have HGO := hid (fun (W : World) (r : Kd.R kB 5 W 0 (fun k => f.row.ownBlock = some k) f.row (f.b.set p (xor8 (f.b.getD p 0) y))) (gr : Fr [g] w W) => Goes.file h hf (f' := turnF f p (xor8 (f.b.getD p 0) y)) rfl ⟨(gr.keep f.blk (lt_of hfa.cell) (fun hm => hne (List.mem_singleton.1 hm).symm)).trans hfa.cell, r⟩ (gr.wider (fun j hj => .inl (by rw [List.mem_singleton.1 hj]; simp [Fl.own, hrow, Value.ownBlock]))) (.inl rfl))
  have HSG := hid hseg
  have HRW := hid hrow
  clear hcl hM hcc hfz hseg hR ho hfa hlk h hd hf hz
  have hpz : (p : Int) < (f.b.length : Int) := by omega
  have hpn : ¬ (p : Int) < 0 := by omega
  have hpg : ¬ (f.b.length : Int) ≤ (p : Int) := by omega
  go_enter Tryd.func22, Tryd.ntmps22
  go_wp2_with (go_at_call 21; refine HSZ.out.mono ?_; rintro e w_ ⟨rfl, hww⟩; have hww2 := hww.symm; subst hww2)
  have hgd : f.b.getD p 0 = f.b[p] := by rw [List.getD_eq_getElem?_getD, List.getElem?_eq_getElem hp]; rfl
  go_ret
  refine ⟨rfl, ?_⟩
  have h1 := HSG.out.1
  rw [← HRW.out] at h1
  rw [← hgd]
  exact HGO.out _ h1 (Fr.set w _ _ (List.mem_singleton.2 rfl))
theorem setF_mem {f f' : Fl} (e : f'.blk = f.blk) : ∀ x ∈ D.fs, x.blk ≠ f.blk → x ∈ (D.setF f').fs := fun x hx hne => by
  show x ∈ D.fs.map fun g => if g.blk = f'.blk then f' else g
  exact List.mem_map.2 ⟨x, hx, by rw [if_neg (by rw [e]; exact hne)]⟩
theorem setF_self {f f' : Fl} (hf : f ∈ D.fs) (e : f'.blk = f.blk) : f' ∈ (D.setF f').fs := by
  show f' ∈ D.fs.map fun g => if g.blk = f'.blk then f' else g
  exact List.mem_map.2 ⟨f, hf, by rw [if_pos e.symm]⟩
theorem Good.turn (g : Good N B D) {f f' : Fl} (hf : f ∈ D.fs) (e : f'.blk = f.blk) (hs : f'.sure = f.sure) (hb : f'.b.length = f.b.length) : Good N B (D.setF f') := by
  have hm : ∀ x ∈ (D.setF f').fs, x = f' ∨ (x ∈ D.fs ∧ x.blk ≠ f.blk) := fun x hx => by
    obtain ⟨z, hz, rfl⟩ := List.mem_map.1 (show x ∈ D.fs.map fun g => if g.blk = f'.blk then f' else g from hx)
    split
    · exact .inl rfl
    · rename_i h; exact .inr ⟨hz, by rw [← e]; exact h⟩
  have hblk : ∀ b, (∃ x ∈ D.fs, x.blk = b) → ∃ x ∈ (D.setF f').fs, x.blk = b := fun b ⟨x, hx, hb⟩ => by
    by_cases h : x.blk = f.blk
    · exact ⟨f', setF_self hf e, by rw [e, ← h, hb]⟩
    · exact ⟨x, setF_mem e x hx h, hb⟩
  refine ⟨g.ops0, g.opsN, g.nN, g.lN, g.fls, g.room, fun s b h => ⟨(g.dirI s b h).1, hblk b (g.dirI s b h).2⟩, fun s b h => ⟨(g.sureI s b h).1, hblk b (g.sureI s b h).2⟩, g.dinj, g.sinj, fun x n h => hblk x (g.growI x n h), fun s x b1 b2 h => ⟨(g.makeI s x b1 b2 h).1, hblk x (g.makeI s x b1 b2 h).2⟩, g.moveI, fun x hx => ?_, fun x hx => ?_, g.play, g.may, fun x hx y hy hxy => ?_⟩
  · rcases hm x hx with rfl | ⟨h, _⟩
    · rw [hs, hb, e]; exact g.sum f hf
    · exact g.sum x h
  · rcases hm x hx with rfl | ⟨h, _⟩
    · rw [hb]; exact g.big f hf
    · exact g.big x h
  · rcases hm x hx with rfl | ⟨h, hn⟩ <;> rcases hm y hy with rfl | ⟨h2, hn2⟩
    · rfl
    · exact absurd (hxy.symm.trans e) hn2
    · exact absurd (hxy.trans e) hn
    · exact g.uniq x h y h2 hxy
theorem xor8_nat (n m : Nat) (hn : n < 256) (hm : m < 256) : xor8 (n : Int) (m : Int) = ((n ^^^ m : Nat) : Int) := by
  have hx : n ^^^ m < 256 := Nat.xor_lt_two_pow (n := 8) (by omega) (by omega)
  show IntKind.u8.wrap ((BitVec.ofInt 8 (n : Int) ^^^ BitVec.ofInt 8 (m : Int)).toNat : Int) = _
  rw [BitVec.ofInt_natCast, BitVec.ofInt_natCast, BitVec.toNat_xor, BitVec.toNat_ofNat, BitVec.toNat_ofNat, Nat.mod_eq_of_lt (by omega), Nat.mod_eq_of_lt (by omega)]
  simp [IntKind.wrap, IntKind.bits, IntKind.signed]
  omega
theorem xor8_is {a b : Int} (ha : 0 ≤ a ∧ a < 256) (hb : 0 ≤ b ∧ b < 256) : (0 ≤ xor8 a b ∧ xor8 a b < 256) ∧ (xor8 a b = a ↔ b = 0) := by
  obtain ⟨n, rfl⟩ := Int.eq_ofNat_of_zero_le ha.1
  obtain ⟨m, rfl⟩ := Int.eq_ofNat_of_zero_le hb.1
  have hx : n ^^^ m < 256 := Nat.xor_lt_two_pow (n := 8) (by omega) (by omega)
  rw [xor8_nat n m (by omega) (by omega)]
  refine ⟨⟨by omega, by omega⟩, fun e => ?_, fun e => ?_⟩
  · have h1 : n ^^^ m = n ^^^ 0 := by rw [Nat.xor_zero]; omega
    have := xor_r h1
    omega
  · have : m = 0 := by omega
    rw [this, Nat.xor_zero]
end
end Go.Proofs.YthlmbgaipbjbhaaDoor.L
end
section
namespace Go.Proofs.YthlmbgaipbjbhaaDoor.L
open Go.RowKit Go.Lib Go.Maps Go.Proofs.YthlmbgaipbjbhaaDoor.P
open Go.Proofs.YthlmbgaipbjbhaaDoorW.PrintWords Go.Proofs.YthlmbgaipbjbhaaDoorW.PrintLast Go.Proofs.YthlmbgaipbjbhaaDoorW.PrintMore
set_option linter.unusedVariables false
abbrev nA : ByteArray := ⟨#[97]⟩
abbrev nA2 : ByteArray := ⟨#[97, 126]⟩
abbrev nB : ByteArray := ⟨#[98]⟩
abbrev nB2 : ByteArray := ⟨#[98, 126]⟩
abbrev nAB : List ByteArray := [nA, nA2, nB, nB2]
section
variable {w0 w w' : World} {N k ka kb x y : Nat} {D D' : Dk} {va vb v vt : Value} {G H T Ga Gb : List (List ByteArray)} {own own2 own' : List Nat} {q : Op} {name na na2 nb : ByteArray}
structure Bx (w0 w : World) (N : Nat) (D : Dk) (ka kb x y : Nat) (va vb : Value) (Ga Gb : List (List ByteArray)) : Prop where
  dw : Dw w0 w N 1048576 D
  ox : w.heap[x]? = some (wsObj D.d ka va (.slice none 0 0) false)
  oy : w.heap[y]? = some (wsObj D.d kb vb (.slice none 0 0) false)
  xge : w0.heap.size ≤ x
  yge : w0.heap.size ≤ y
  xoff : x ∉ ka :: kb :: D.own
  yoff : y ∉ ka :: kb :: D.own
  ne : x ≠ y
  kne : ka ≠ kb
  alt : ka < w.heap.size
  blt : kb < w.heap.size
  age : w0.heap.size ≤ ka
  bge : w0.heap.size ≤ kb
  only : Only (fun z => z ∈ nAB) D
  fails : ∀ t, D.fails t = 0
  room : ((5242880 : Nat) : Int) ≤ D.room
  ra : Wr w (x :: y :: ka :: kb :: D.own) va Ga
  rb : Wr w (x :: y :: ka :: kb :: D.own) vb Gb
theorem mem4 {a b c d : Nat} {l : List Nat} : ∀ j ∈ a :: b :: c :: d :: l, j ∈ b :: a :: d :: c :: l := fun j hj => by
  simp only [List.mem_cons] at hj ⊢
  rcases hj with h | h | h | h | h
  · exact .inr (.inl h)
  · exact .inl h
  · exact .inr (.inr (.inr (.inl h)))
  · exact .inr (.inr (.inl h))
  · exact .inr (.inr (.inr (.inr h)))
theorem mem2 {a b j : Nat} {l : List Nat} (hj : j ∈ a :: b :: l) : j ∈ b :: a :: l := by
  simp only [List.mem_cons] at hj ⊢
  rcases hj with h | h | h
  · exact .inr (.inl h)
  · exact .inl h
  · exact .inr (.inr h)
theorem Wr.sub (h : Wr w own v G) (hs : ∀ j ∈ own', j ∈ own) : Wr w own' v G := h.to (Fr.refl [] w) (fun j hj => by simp at hj) (fun j hj => .inl (hs j hj))
theorem Wr.new (h : Wr w own v G) (f : Fr [] w w') : Wr w' own v G := h.to f (fun j hj => by simp at hj) (fun j hj => .inl hj)
theorem Bx.swap (h : Bx w0 w N D ka kb x y va vb Ga Gb) : Bx w0 w N D kb ka y x vb va Gb Ga :=
  ⟨h.dw, h.oy, h.ox, h.yge, h.xge, fun hm => h.yoff (mem2 hm), fun hm => h.xoff (mem2 hm), fun e => h.ne e.symm, fun e => h.kne e.symm, h.blt, h.alt, h.bge, h.age, h.only, h.fails, h.room, h.rb.sub mem4, h.ra.sub mem4⟩
theorem Bx.xlt (h : Bx w0 w N D ka kb x y va vb Ga Gb) : x < w.heap.size := lt_of h.ox
theorem Bx.olt (h : Bx w0 w N D ka kb x y va vb Ga Gb) : ∀ j ∈ x :: y :: ka :: kb :: D.own, j < w.heap.size := fun j hj => by
  simp only [List.mem_cons] at hj
  rcases hj with e | e | e | e | e
  · rw [e]; exact h.xlt
  · rw [e]; exact lt_of h.oy
  · rw [e]; exact h.alt
  · rw [e]; exact h.blt
  · exact h.dw.at_.lt j e
theorem Bx.new (h : Bx w0 w N D ka kb x y va vb Ga Gb) (f : Fr [] w w') : Bx w0 w' N D ka kb x y va vb Ga Gb :=
  ⟨h.dw.new f, (f.keep x h.xlt (by simp)).trans h.ox, (f.keep y (lt_of h.oy) (by simp)).trans h.oy, h.xge, h.yge, h.xoff, h.yoff, h.ne, h.kne, Nat.lt_of_lt_of_le h.alt f.size, Nat.lt_of_lt_of_le h.blt f.size, h.age, h.bge, h.only, h.fails, h.room, h.ra.new f, h.rb.new f⟩
theorem Bx.mono {M : Nat} (h : Bx w0 w N D ka kb x y va vb Ga Gb) (hN : N ≤ M) : Bx w0 w M D ka kb x y va vb Ga Gb := { h with dw := h.dw.mono hN }
theorem Bx.setg (h : Bx w0 w N D ka kb x y va vb Ga Gb) (r : Wr w (x :: y :: ka :: kb :: D.own) vt T) : Bx w0 (w.setCell ⟨x, 2, none⟩ vt) N D ka kb x y vt vb T Gb ∧ Fr [x] w (w.setCell ⟨x, 2, none⟩ vt) := by
  have f : Fr [x] w (w.setCell ⟨x, 2, none⟩ vt) := Fr.set w _ _ (by simp)
  have hs : ∀ j ∈ [x], j ∈ x :: y :: ka :: kb :: D.own := fun j hj => by rw [List.mem_singleton.1 hj]; exact List.mem_cons_self
  refine ⟨⟨⟨h.dw.at_.fr f (fun j hj hm => ?_), h.dw.bel.trans (f.below h.dw.bel.size (fun j hj => by rw [List.mem_singleton.1 hj]; exact h.xge)), h.dw.own, h.dw.good⟩, by rw [heap_set h.ox]; rfl, (f.keep y (lt_of h.oy) (fun hm => h.ne (List.mem_singleton.1 hm).symm)).trans h.oy, h.xge, h.yge, h.xoff, h.yoff, h.ne, h.kne, Nat.lt_of_lt_of_le h.alt f.size, Nat.lt_of_lt_of_le h.blt f.size, h.age, h.bge, h.only, h.fails, h.room, r.to f hs (fun j hj => .inl hj), h.rb.to f hs (fun j hj => .inl hj)⟩, f⟩
  rw [List.mem_singleton.1 hm] at hj
  exact hj.elim (fun e => h.xoff (List.mem_cons_of_mem _ (List.mem_cons_of_mem _ e))) (h.dw.at_.nobox h.ox (show (5 : Nat) ≠ 1 by decide))
theorem Bx.free (h : Bx w0 w N D ka kb x y va vb Ga Gb) (i : Nat) : w.frozen? ⟨x, i, none⟩ = false := free_of h.ox i
theorem Bx.c2 (h : Bx w0 w N D ka kb x y va vb Ga Gb) : w.cell? ⟨x, 2, none⟩ = some va := (cell_of h.ox 2).trans rfl
theorem Bx.power (h : Bx w0 w N D ka kb x y va vb Ga Gb) (f : Fr [D.d] w w') {c : Int} {b : Bool} (a : DkAt w' { D with cut := c, off := b }) : Bx w0 w' N { D with cut := c, off := b } ka kb x y va vb Ga Gb :=
  have hd : D.d ∈ D.own := List.mem_cons_self
  have hs : ∀ j ∈ [D.d], j ∈ x :: y :: ka :: kb :: D.own := fun j hj => by rw [List.mem_singleton.1 hj]; exact List.mem_cons_of_mem _ (List.mem_cons_of_mem _ (List.mem_cons_of_mem _ (List.mem_cons_of_mem _ hd)))
  have hs2 : ∀ j ∈ [D.d], j ∈ ka :: kb :: D.own := fun j hj => by rw [List.mem_singleton.1 hj]; exact List.mem_cons_of_mem _ (List.mem_cons_of_mem _ hd)
  ⟨⟨a, h.dw.bel.trans (f.below h.dw.bel.size (fun j hj => by rw [List.mem_singleton.1 hj]; exact h.dw.own _ (.inl hd))), h.dw.own, h.dw.good.power c b⟩, (f.keep x h.xlt (fun hm => h.xoff (hs2 x hm))).trans h.ox, (f.keep y (lt_of h.oy) (fun hm => h.yoff (hs2 y hm))).trans h.oy, h.xge, h.yge, h.xoff, h.yoff, h.ne, h.kne, Nat.lt_of_lt_of_le h.alt f.size, Nat.lt_of_lt_of_le h.blt f.size, h.age, h.bge, ⟨h.only.dir, h.only.sure, h.only.acts⟩, h.fails, h.room, h.ra.to f hs (fun j hj => .inl hj), h.rb.to f hs (fun j hj => .inl hj)⟩
structure Above (w0 w w' : World) (N : Nat) (D : Dk) : Prop where
  dw : Dw w0 w' N 1048576 D
  bel : Below w.heap.size w w'
  low : ∀ j, j ∈ D.own ∨ j ∈ D.boxes → w.heap.size ≤ j
  calm : Calm 5242880 D
theorem Wr.keep (h : Wr w own v G) (hb : Below w.heap.size w w') : Wr w' own v G := h.new (Fr.of_below hb [])
end
end Go.Proofs.YthlmbgaipbjbhaaDoor.L
end
