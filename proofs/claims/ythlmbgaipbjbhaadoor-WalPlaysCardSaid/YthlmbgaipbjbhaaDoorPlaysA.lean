/- The laws' world, call by call: what is known of it between calls. Two worlds of the laws' over one disk: what is known of them between calls. What WalPlays wants: a nil log; a log that is told; the disk's room; a log's bytes. -/
import Derived.Test.YthlmbgaipbjbhaaDoorLay
section
namespace Go.Proofs.YthlmbgaipbjbhaaDoor.L
open Go.RowKit Go.Lib Go.Maps Go.Proofs.YthlmbgaipbjbhaaDoor.P
open Go.Proofs.YthlmbgaipbjbhaaDoorW.PrintWords Go.Proofs.YthlmbgaipbjbhaaDoorW.PrintLast Go.Proofs.YthlmbgaipbjbhaaDoorW.PrintMore
set_option linter.unusedVariables false
theorem DkAt.nobox {w : World} {D : Dk} (h : DkAt w D) {x : Nat} {cells : Array Value} {t : TypeId} (hx : w.heap[x]? = some (.cells cells t (0, 0))) (h2 : cells.size ≠ 1) : x ∉ D.boxes := fun hm => by
  obtain ⟨a, ha, hk⟩ := List.mem_flatMap.1 hm
  have hb := h.boxed a ha
  have key : ∀ (v : Value) (t' : TypeId), w.heap[x]? = some (.cells #[v] t' (0, 0)) → False := fun v t' e => by
    rw [hx] at e
    injection e with e
    injection e with e _ _
    rw [e] at h2
    exact h2 rfl
  cases a with
  | grow f n => simp [bxs] at hk
  | make s f b1 b2 =>
    simp [bxs] at hk
    rcases hk with rfl | rfl
    · exact key _ _ hb.1
    · exact key _ _ hb.2.1
  | move s t b1 b2 =>
    simp [bxs] at hk
    rcases hk with rfl | rfl
    · exact key _ _ hb.1
    · exact key _ _ hb.2.1
  | gone s b1 =>
    simp [bxs] at hk
    subst hk
    exact key _ _ hb.1
section
variable {w0 w w' : World} {N k kc x : Nat} {D : Dk} {vg v vt : Value} {G H T : List (List ByteArray)} {own own2 own' : List Nat} {q : Op} {name : ByteArray}
def Wr (w : World) (own : List Nat) (v : Value) (G : List (List ByteArray)) : Prop := Kd.R kG 34 w 0 (fun j => j ∉ own) v G ∧ (∀ g ∈ G, GOk g) ∧ (encs G).length ≤ G.length * 7277
theorem Wr.to (h : Wr w own v G) (f : Fr own2 w w') (hs : ∀ j ∈ own2, j ∈ own) (hn : ∀ j ∈ own', j ∈ own ∨ w.heap.size ≤ j) : Wr w' own' v G :=
  ⟨Kd.R_mono (Kd.R_step (Kd.R_bound h.1) (fun j hj hlt => f.keep j hlt (fun hm => hj.1 (hs j hm)))) (fun j hj hm => (hn j hm).elim hj.1 (fun e => by have := hj.2.2.1; omega)), h.2⟩
theorem Wr.nil (w : World) (own : List Nat) : Wr w own (.slice none 0 0) [] := ⟨Kd.R_nil _ _ _ _ _, (fun _ h => by cases h), by simp [encs]⟩
theorem nxt_ok (h : ∀ g ∈ G, GOk g) : ∀ g ∈ nxt q G, GOk g := fun g hg => by
  unfold nxt at hg
  split at hg
  · rw [List.mem_singleton.1 hg]; exact (fewL_ok q.l).1
  · rcases List.mem_append.1 hg with hg | hg
    · exact h g hg
    · rw [List.mem_singleton.1 hg]; exact (fewL_ok q.l).1
theorem nxt_len : (nxt q G).length ≤ G.length + 1 := by
  unfold nxt
  split <;> simp
theorem nxt_enc (h : (encs G).length ≤ G.length * 7277) : (encs (nxt q G)).length ≤ (nxt q G).length * 7277 := by
  have := fewL_bytes q.l
  unfold nxt
  split
  · rw [encs_one]; simp; omega
  · rw [encs_append, encs_one, List.length_append, List.length_append]; simp; omega
theorem Wr.nxt (h : Wr w own vg G) (h2 : Kd.R kG 34 w' 0 (fun j => j ∉ own) v (nxt q G)) : Wr w' own v (nxt q G) := ⟨h2, nxt_ok h.2.1, nxt_enc h.2.2⟩
theorem same_rows (h : Wr w own v G) (h2 : Wr w own' vt T) (hl : G.length < 4294967296) :
    Calls Tryd.prog 14 #[v, vt] w fun e w' => e = .returned (.bool (decide (G = T))) ∧ Drawn0 w w' := by
  obtain ⟨K, hK⟩ := (same_ev G T hl (fun g hg => by have := (h.2.1 g hg).1; omega)).rounds
  obtain ⟨A, c, rfl, h3, h4⟩ := R_c h.1
  obtain ⟨A2, c2, rfl, h5, h6⟩ := R_c h2.1
  exact tussocklaw05_same.calls K A c G A2 c2 T (decide (G = T)) _ h4 h3 h6 h5 hK
theorem Lw.fr (h : Lw w0 w D k name G) (f : Fr own w w') (hk : k ∉ own) : Lw w0 w' D k name G := by
  obtain ⟨s, r, t, h1, h2⟩ := h.lw
  exact ⟨⟨s, r, t, (f.keep k (lt_of h1) hk).trans h1, h2⟩, h.ge, h.off⟩
theorem Lw.lt (h : Lw w0 w D k name G) : k < w.heap.size := by
  obtain ⟨s, r, t, h1, h2⟩ := h.lw
  exact lt_of h1
theorem Lw.power (h : Lw w0 w D k name G) (f : Fr [D.d] w w') (c : Int) (b : Bool) : Lw w0 w' { D with cut := c, off := b } k name G := by
  obtain ⟨s, r, t, h1, u, h2, ⟨o, h3, h4, h5⟩, h6⟩ := h.lw
  refine ⟨⟨s, r, t, (f.keep k (lt_of h1) (fun hm => h.off.1 ?_)).trans h1, u, h2, ⟨o, h3.cut c b, h4, h5⟩, h6⟩, h.ge, h.off⟩
  rw [List.mem_singleton.1 hm]
  exact List.mem_cons_self
structure Wx (w0 w : World) (N : Nat) (D : Dk) (kc k x : Nat) (vg : Value) (G : List (List ByteArray)) : Prop where
  dw : Dw w0 w N 4194304 D
  obj : w.heap[x]? = some (wsObj D.d kc vg (.slice none 0 0) false)
  xge : w0.heap.size ≤ x
  xoff : x ∉ k :: D.own
  klt : k < w.heap.size
  kge : w0.heap.size ≤ k
  only : Only (fun y => y ∈ [nLog, nLog2]) D
  fails : ∀ t, D.fails t = 0
  room : ((12582912 : Nat) : Int) ≤ D.room
  row : Wr w (x :: k :: D.own) vg G
theorem Wx.xlt (h : Wx w0 w N D kc k x vg G) : x < w.heap.size := lt_of h.obj
theorem Wx.olt (h : Wx w0 w N D kc k x vg G) : ∀ j ∈ x :: k :: D.own, j < w.heap.size := fun j hj => by
  rcases List.mem_cons.1 hj with e | hj
  · rw [e]; exact h.xlt
  · rcases List.mem_cons.1 hj with e | hj
    · rw [e]; exact h.klt
    · exact h.dw.at_.lt j hj
theorem Wx.new (h : Wx w0 w N D kc k x vg G) (f : Fr [] w w') : Wx w0 w' N D kc k x vg G :=
  ⟨h.dw.new f, (f.keep x h.xlt (by simp)).trans h.obj, h.xge, h.xoff, Nat.lt_of_lt_of_le h.klt f.size, h.kge, h.only, h.fails, h.room, h.row.to f (fun j hj => by simp at hj) (fun j hj => .inl hj)⟩
theorem Wx.mono {M : Nat} (h : Wx w0 w N D kc k x vg G) (hN : N ≤ M) : Wx w0 w M D kc k x vg G := ⟨h.dw.mono hN, h.obj, h.xge, h.xoff, h.klt, h.kge, h.only, h.fails, h.room, h.row⟩
theorem Wx.of_lay {e : Ending} (h : Wx w0 w N D kc k x vg G) (hl : DidLay w0 w 12582912 N 4194304 k D nLog nLog2 G H [] false e w') :
    ∃ (c : Int) (D' : Dk), e = .returned (.tuple #[.int .i64 c, .bool true]) ∧ Wx w0 w' (N + 16) D' kc k x vg G ∧ D'.d = D.d ∧ Fr (k :: D.own) w w' ∧ (∀ j ∈ D'.own, j ∈ D.own ∨ w.heap.size ≤ j) ∧ ((c = 0 ∧ Lw w0 w' D' k nLog H) ∨ (c = 35 ∧ Cuts D' nLog (fun o => Reads (o.getD []) G ∨ Reads (o.getD []) H))) := by
  obtain ⟨c, D', rfl, dw, d, f, ho, way⟩ := hl
  have hx : Wx w0 w' (N + 16) D' kc k x vg G := by
    refine ⟨dw, by rw [d.d]; exact (f.keep x h.xlt h.xoff).trans h.obj, h.xge, fun hm => ?_, Nat.lt_of_lt_of_le h.klt f.size, h.kge, d.only _ (fun y hy => by rcases hy with hy | hy <;> simp [hy]) h.only, by rw [d.fails]; exact h.fails, by rw [d.room]; exact h.room, h.row.to f (fun j hj => List.mem_cons_of_mem _ hj) (fun j hj => ?_)⟩
    · rcases List.mem_cons.1 hm with e | hm
      · exact h.xoff (by rw [e]; exact List.mem_cons_self)
      · exact (ho x hm).elim (fun e => h.xoff (List.mem_cons_of_mem _ e)) (fun e => by have := h.xlt; omega)
    · rcases List.mem_cons.1 hj with e | hj
      · exact .inl (by rw [e]; exact List.mem_cons_self)
      · rcases List.mem_cons.1 hj with e | hj
        · exact .inl (by rw [e]; simp)
        · exact (ho j hj).elim (fun e => .inl (List.mem_cons_of_mem _ (List.mem_cons_of_mem _ e))) .inr
  rcases way with ⟨e, l⟩ | ⟨e, _, l⟩ | ⟨y, _⟩
  · refine ⟨c, D', ?_, hx, d.d, f, ho, .inl ⟨e, l⟩⟩
    rw [e, mayL_nil _ _ _ _ (fun h => absurd h (by decide))]; rfl
  · refine ⟨c, D', ?_, hx, d.d, f, ho, .inr ⟨e, l⟩⟩
    rw [e]; simp
  · rcases y with ⟨_, hr⟩ | ⟨_, t, _, _, hf⟩
    · have := h.room; omega
    · rw [h.fails t] at hf; exact absurd hf (by decide)
theorem Wx.set (h : Wx w0 w N D kc k x vg G) (i : Nat) (u : Value) {kc' : Nat} (ho : (w.setCell ⟨x, i, none⟩ u).heap[x]? = some (wsObj D.d kc' vt (.slice none 0 0) false)) (r : Wr w (x :: k :: D.own) vt T) :
    Wx w0 (w.setCell ⟨x, i, none⟩ u) N D kc' k x vt T ∧ Fr [x] w (w.setCell ⟨x, i, none⟩ u) := by
  have f : Fr [x] w (w.setCell ⟨x, i, none⟩ u) := Fr.set w _ _ (by simp)
  refine ⟨⟨⟨h.dw.at_.fr f (fun j hj hm => ?_), h.dw.bel.trans (f.below h.dw.bel.size (fun j hj => by rw [List.mem_singleton.1 hj]; exact h.xge)), h.dw.own, h.dw.good⟩, ho, h.xge, h.xoff, Nat.lt_of_lt_of_le h.klt f.size, h.kge, h.only, h.fails, h.room, r.to f (fun j hj => by rw [List.mem_singleton.1 hj]; exact List.mem_cons_self) (fun j hj => .inl hj)⟩, f⟩
  rw [List.mem_singleton.1 hm] at hj
  exact hj.elim (fun e => h.xoff (List.mem_cons_of_mem _ e)) (h.dw.at_.nobox h.obj (show (5 : Nat) ≠ 1 by decide))
theorem Wx.setg (h : Wx w0 w N D kc k x vg G) (r : Wr w (x :: k :: D.own) vt T) : Wx w0 (w.setCell ⟨x, 2, none⟩ vt) N D kc k x vt T ∧ Fr [x] w (w.setCell ⟨x, 2, none⟩ vt) := h.set 2 vt (by rw [heap_set h.obj]; rfl) r
theorem Wx.setl (h : Wx w0 w N D kc k x vg G) : Wx w0 (w.setCell ⟨x, 1, none⟩ (P k)) N D k k x vg G ∧ Fr [x] w (w.setCell ⟨x, 1, none⟩ (P k)) := h.set 1 (P k) (by rw [heap_set h.obj]; rfl) h.row
theorem Wx.free (h : Wx w0 w N D kc k x vg G) (i : Nat) : w.frozen? ⟨x, i, none⟩ = false := free_of h.obj i
theorem Wx.c0 (h : Wx w0 w N D kc k x vg G) : w.cell? ⟨x, 0, none⟩ = some (P D.d) := (cell_of h.obj 0).trans rfl
theorem Wx.c1 (h : Wx w0 w N D kc k x vg G) : w.cell? ⟨x, 1, none⟩ = some (P kc) := (cell_of h.obj 1).trans rfl
theorem Wx.c2 (h : Wx w0 w N D kc k x vg G) : w.cell? ⟨x, 2, none⟩ = some vg := (cell_of h.obj 2).trans rfl
theorem Wx.power (h : Wx w0 w N D kc k x vg G) (f : Fr [D.d] w w') {c : Int} {b : Bool} (a : DkAt w' { D with cut := c, off := b }) : Wx w0 w' N { D with cut := c, off := b } kc k x vg G :=
  have hd : D.d ∈ D.own := List.mem_cons_self
  ⟨⟨a, h.dw.bel.trans (f.below h.dw.bel.size (fun j hj => by rw [List.mem_singleton.1 hj]; exact h.dw.own _ (.inl hd))), h.dw.own, h.dw.good.power c b⟩, (f.keep x h.xlt (fun hm => h.xoff (by rw [List.mem_singleton.1 hm]; exact List.mem_cons_of_mem _ hd))).trans h.obj, h.xge, h.xoff, Nat.lt_of_lt_of_le h.klt f.size, h.kge, ⟨h.only.dir, h.only.sure, h.only.acts⟩, h.fails, h.room, h.row.to f (fun j hj => by rw [List.mem_singleton.1 hj]; exact List.mem_cons_of_mem _ (List.mem_cons_of_mem _ hd)) (fun j hj => .inl hj)⟩
theorem Wx.crash {D2 : Dk} {keep torn : Int} (h : Wx w0 w N D kc k x vg G) (hb : Below w.heap.size w w') (d2 : Dw w0 w' (N + N) 4194304 D2) (c : Crashed keep torn D D2) (hlow : ∀ j, j ∈ D2.own ∨ j ∈ D2.boxes → w.heap.size ≤ j) :
    Wx w0 (w'.setCell ⟨x, 0, none⟩ (P D2.d)) (N + N) D2 kc k x vg G ∧ Calm 12582912 D2 ∧ ∀ {vt : Value} {T : List (List ByteArray)}, Wr w (x :: k :: D.own) vt T → Wr (w'.setCell ⟨x, 0, none⟩ (P D2.d)) (x :: k :: D2.own) vt T := by
  have fb : Fr [] w w' := Fr.of_below hb []
  have f : Fr [x] w' (w'.setCell ⟨x, 0, none⟩ (P D2.d)) := Fr.set w' _ _ (by simp)
  have hx' := h.new fb
  have hn : ∀ j ∈ x :: k :: D2.own, j ∈ x :: k :: D.own ∨ w.heap.size ≤ j := fun j hj => by
    rcases List.mem_cons.1 hj with e | hj
    · exact .inl (by rw [e]; exact List.mem_cons_self)
    · rcases List.mem_cons.1 hj with e | hj
      · exact .inl (by rw [e]; simp)
      · exact .inr (hlow j (.inl hj))
  have hx2 : x ∉ k :: D2.own := fun hm => by
    rcases List.mem_cons.1 hm with e | hm
    · exact h.xoff (by rw [e]; exact List.mem_cons_self)
    · have := hlow x (.inl hm); have := h.xlt; omega
  have hr : ∀ {vt : Value} {T : List (List ByteArray)}, Wr w (x :: k :: D.own) vt T → Wr (w'.setCell ⟨x, 0, none⟩ (P D2.d)) (x :: k :: D2.own) vt T := fun r =>
    (r.to fb (fun j hj => by simp at hj) hn).to f (fun j hj => by rw [List.mem_singleton.1 hj]; exact List.mem_cons_self) (fun j hj => .inl hj)
  have calm : Calm 12582912 D2 := Calm.crash h.room c
  refine ⟨⟨⟨d2.at_.fr f (fun j hj hm => ?_), d2.bel.trans (f.below d2.bel.size (fun j hj => by rw [List.mem_singleton.1 hj]; exact h.xge)), d2.own, d2.good⟩, by rw [heap_set hx'.obj]; rfl, h.xge, hx2, Nat.lt_of_lt_of_le hx'.klt f.size, h.kge, h.only.crash c, calm.fails, calm.room, hr h.row⟩, calm, hr⟩
  rw [List.mem_singleton.1 hm] at hj
  have := hlow x hj
  have := h.xlt
  omega
theorem Wx.start {D : Dk} (dw : Dw w0 w 0 4194304 D) (lw : Lw w0 w D k nLog []) (hx : w.heap[x]? = some (wsObj D.d k (.slice none 0 0) (.slice none 0 0) false)) (hg : w0.heap.size ≤ x) (ho : x ∉ k :: D.own) (hon : ∀ P : ByteArray → Prop, Only P D) (c : Calm 12582912 D) : Wx w0 w 0 D k k x (.slice none 0 0) [] :=
  ⟨dw, hx, hg, ho, lw.lt, lw.ge, hon _, c.fails, c.room, Wr.nil _ _⟩
end
end Go.Proofs.YthlmbgaipbjbhaaDoor.L
end
section
namespace Go.Proofs.YthlmbgaipbjbhaaDoor.L
open Go.RowKit Go.Lib Go.Maps Go.Proofs.YthlmbgaipbjbhaaDoor.P
open Go.Proofs.YthlmbgaipbjbhaaDoorW.PrintWords Go.Proofs.YthlmbgaipbjbhaaDoorW.PrintLast Go.Proofs.YthlmbgaipbjbhaaDoorW.PrintMore
set_option linter.unusedVariables false
abbrev nA : ByteArray := ⟨#[97]⟩
abbrev nA2 : ByteArray := ⟨#[97, 126]⟩
abbrev nB : ByteArray := ⟨#[98]⟩
abbrev nB2 : ByteArray := ⟨#[98, 126]⟩
abbrev nAB : List ByteArray := [nA, nA2, nB, nB2]
section
variable {w0 w w' : World} {N k ka kb x y : Nat} {D D' : Dk} {va vb v vt : Value} {G H T Ga Gb : List (List ByteArray)} {own own2 own' : List Nat} {q : Op} {name na na2 nb : ByteArray}
theorem Lw.beside {P' : ByteArray → Prop} {j : Nat} (h : Lw w0 w D k name G) (f : Fr own w w') (hk : k ∉ own) (d : Did P' j D D') (hT : ∀ x, P' x → x ≠ name) (a' : DkAt w' D') (ho : ∀ j ∈ D'.own, j ∈ D.own ∨ w.heap.size ≤ j) : Lw w0 w' D' k name G := by
  have hlt := h.lt
  obtain ⟨s, r, t, h1, h2⟩ := h.lw
  have h3 : w'.heap[k]? = some (logObj D'.d name s r t) := by rw [d.d]; exact (f.keep k hlt hk).trans h1
  exact ⟨⟨s, r, t, h3, h2.did d hT⟩, h.ge, fun hm => (ho k hm).elim h.off.1 (fun e => by omega), a'.nobox h3 (show (5 : Nat) ≠ 1 by decide)⟩
structure Bx (w0 w : World) (N : Nat) (D : Dk) (ka kb x y : Nat) (va vb : Value) (Ga Gb : List (List ByteArray)) : Prop where
  dw : Dw w0 w N 1048576 D
  ox : w.heap[x]? = some (wsObj D.d ka va (.slice none 0 0) false)
  oy : w.heap[y]? = some (wsObj D.d kb vb (.slice none 0 0) false)
  xge : w0.heap.size ≤ x
  yge : w0.heap.size ≤ y
  xoff : x ∉ ka :: kb :: D.own
  yoff : y ∉ ka :: kb :: D.own
  ne : x ≠ y
  kne : ka ≠ kb
  alt : ka < w.heap.size
  blt : kb < w.heap.size
  age : w0.heap.size ≤ ka
  bge : w0.heap.size ≤ kb
  only : Only (fun z => z ∈ nAB) D
  fails : ∀ t, D.fails t = 0
  room : ((5242880 : Nat) : Int) ≤ D.room
  ra : Wr w (x :: y :: ka :: kb :: D.own) va Ga
  rb : Wr w (x :: y :: ka :: kb :: D.own) vb Gb
theorem mem4 {a b c d : Nat} {l : List Nat} : ∀ j ∈ a :: b :: c :: d :: l, j ∈ b :: a :: d :: c :: l := fun j hj => by
  simp only [List.mem_cons] at hj ⊢
  rcases hj with h | h | h | h | h
  · exact .inr (.inl h)
  · exact .inl h
  · exact .inr (.inr (.inr (.inl h)))
  · exact .inr (.inr (.inl h))
  · exact .inr (.inr (.inr (.inr h)))
theorem mem2 {a b j : Nat} {l : List Nat} (hj : j ∈ a :: b :: l) : j ∈ b :: a :: l := by
  simp only [List.mem_cons] at hj ⊢
  rcases hj with h | h | h
  · exact .inr (.inl h)
  · exact .inl h
  · exact .inr (.inr h)
theorem Wr.sub (h : Wr w own v G) (hs : ∀ j ∈ own', j ∈ own) : Wr w own' v G := h.to (Fr.refl [] w) (fun j hj => by simp at hj) (fun j hj => .inl (hs j hj))
theorem Wr.new (h : Wr w own v G) (f : Fr [] w w') : Wr w' own v G := h.to f (fun j hj => by simp at hj) (fun j hj => .inl hj)
theorem Bx.swap (h : Bx w0 w N D ka kb x y va vb Ga Gb) : Bx w0 w N D kb ka y x vb va Gb Ga :=
  ⟨h.dw, h.oy, h.ox, h.yge, h.xge, fun hm => h.yoff (mem2 hm), fun hm => h.xoff (mem2 hm), fun e => h.ne e.symm, fun e => h.kne e.symm, h.blt, h.alt, h.bge, h.age, h.only, h.fails, h.room, h.rb.sub mem4, h.ra.sub mem4⟩
theorem Bx.xlt (h : Bx w0 w N D ka kb x y va vb Ga Gb) : x < w.heap.size := lt_of h.ox
theorem Bx.olt (h : Bx w0 w N D ka kb x y va vb Ga Gb) : ∀ j ∈ x :: y :: ka :: kb :: D.own, j < w.heap.size := fun j hj => by
  simp only [List.mem_cons] at hj
  rcases hj with e | e | e | e | e
  · rw [e]; exact h.xlt
  · rw [e]; exact lt_of h.oy
  · rw [e]; exact h.alt
  · rw [e]; exact h.blt
  · exact h.dw.at_.lt j e
theorem Bx.new (h : Bx w0 w N D ka kb x y va vb Ga Gb) (f : Fr [] w w') : Bx w0 w' N D ka kb x y va vb Ga Gb :=
  ⟨h.dw.new f, (f.keep x h.xlt (by simp)).trans h.ox, (f.keep y (lt_of h.oy) (by simp)).trans h.oy, h.xge, h.yge, h.xoff, h.yoff, h.ne, h.kne, Nat.lt_of_lt_of_le h.alt f.size, Nat.lt_of_lt_of_le h.blt f.size, h.age, h.bge, h.only, h.fails, h.room, h.ra.new f, h.rb.new f⟩
theorem Bx.mono {M : Nat} (h : Bx w0 w N D ka kb x y va vb Ga Gb) (hN : N ≤ M) : Bx w0 w M D ka kb x y va vb Ga Gb := { h with dw := h.dw.mono hN }
theorem Bx.of_lay {e : Ending} (h : Bx w0 w N D ka kb x y va vb Ga Gb) (lb : Lw w0 w D kb nb Gb) (hl : DidLay w0 w 5242880 N 1048576 ka D na na2 Ga H [] false e w') (hna : na ∈ nAB) (hna2 : na2 ∈ nAB) (h1 : na ≠ nb) (h2 : na2 ≠ nb) :
    ∃ (c : Int) (D' : Dk), e = .returned (.tuple #[.int .i64 c, .bool true]) ∧ Bx w0 w' (N + 16) D' ka kb x y va vb Ga Gb ∧ D'.d = D.d ∧ Fr (ka :: D.own) w w' ∧ (∀ j ∈ D'.own, j ∈ D.own ∨ w.heap.size ≤ j) ∧ Lw w0 w' D' kb nb Gb ∧ ((c = 0 ∧ Lw w0 w' D' ka na H) ∨ (c = 35 ∧ Cuts D' na (fun o => Reads (o.getD []) Ga ∨ Reads (o.getD []) H))) := by
  obtain ⟨c, D', rfl, dw, d, f, ho, way⟩ := hl
  have hn : ∀ j ∈ ka :: kb :: D'.own, j ∈ ka :: kb :: D.own ∨ w.heap.size ≤ j := fun j hj => by
    rcases List.mem_cons.1 hj with e | hj
    · exact .inl (by rw [e]; exact List.mem_cons_self)
    · rcases List.mem_cons.1 hj with e | hj
      · exact .inl (by rw [e]; simp)
      · exact (ho j hj).elim (fun e => .inl (List.mem_cons_of_mem _ (List.mem_cons_of_mem _ e))) .inr
  have hn2 : ∀ j ∈ x :: y :: ka :: kb :: D'.own, j ∈ x :: y :: ka :: kb :: D.own ∨ w.heap.size ≤ j := fun j hj => by
    rcases List.mem_cons.1 hj with e | hj
    · exact .inl (by rw [e]; exact List.mem_cons_self)
    · rcases List.mem_cons.1 hj with e | hj
      · exact .inl (by rw [e]; simp)
      · exact (hn j hj).elim (fun e => .inl (List.mem_cons_of_mem _ (List.mem_cons_of_mem _ e))) .inr
  have hs : ∀ j ∈ ka :: D.own, j ∈ ka :: kb :: D.own := fun j hj => by
    rcases List.mem_cons.1 hj with e | hj
    · rw [e]; exact List.mem_cons_self
    · exact List.mem_cons_of_mem _ (List.mem_cons_of_mem _ hj)
  have hs2 : ∀ j ∈ ka :: D.own, j ∈ x :: y :: ka :: kb :: D.own := fun j hj => List.mem_cons_of_mem _ (List.mem_cons_of_mem _ (hs j hj))
  have hx : Bx w0 w' (N + 16) D' ka kb x y va vb Ga Gb :=
    ⟨dw, by rw [d.d]; exact (f.keep x h.xlt (fun hm => h.xoff (hs x hm))).trans h.ox, by rw [d.d]; exact (f.keep y (lt_of h.oy) (fun hm => h.yoff (hs y hm))).trans h.oy, h.xge, h.yge, fun hm => (hn x hm).elim h.xoff (fun e => by have := h.xlt; omega), fun hm => (hn y hm).elim h.yoff (fun e => by have := lt_of h.oy; omega), h.ne, h.kne, Nat.lt_of_lt_of_le h.alt f.size, Nat.lt_of_lt_of_le h.blt f.size, h.age, h.bge,
      d.only _ (fun z hz => by rcases hz with hz | hz <;> rw [hz] <;> assumption) h.only, by rw [d.fails]; exact h.fails, by rw [d.room]; exact h.room, h.ra.to f hs2 hn2, h.rb.to f hs2 hn2⟩
  have hb : Lw w0 w' D' kb nb Gb := lb.beside f (fun hm => by
    rcases List.mem_cons.1 hm with e | hm
    · exact h.kne e.symm
    · exact lb.off.1 hm) d (fun z hz => by rcases hz with hz | hz <;> rw [hz] <;> assumption) dw.at_ ho
  rcases way with ⟨e, l⟩ | ⟨e, _, l⟩ | ⟨y, _⟩
  · refine ⟨c, D', ?_, hx, d.d, f, ho, hb, .inl ⟨e, l⟩⟩
    rw [e, mayL_nil _ _ _ _ (fun h => absurd h (by decide))]; rfl
  · refine ⟨c, D', ?_, hx, d.d, f, ho, hb, .inr ⟨e, l⟩⟩
    rw [e]; simp
  · rcases y with ⟨_, hr⟩ | ⟨_, t, _, _, hf⟩
    · have := h.room; omega
    · rw [h.fails t] at hf; exact absurd hf (by decide)
theorem Bx.setg (h : Bx w0 w N D ka kb x y va vb Ga Gb) (r : Wr w (x :: y :: ka :: kb :: D.own) vt T) : Bx w0 (w.setCell ⟨x, 2, none⟩ vt) N D ka kb x y vt vb T Gb ∧ Fr [x] w (w.setCell ⟨x, 2, none⟩ vt) := by
  have f : Fr [x] w (w.setCell ⟨x, 2, none⟩ vt) := Fr.set w _ _ (by simp)
  have hs : ∀ j ∈ [x], j ∈ x :: y :: ka :: kb :: D.own := fun j hj => by rw [List.mem_singleton.1 hj]; exact List.mem_cons_self
  refine ⟨⟨⟨h.dw.at_.fr f (fun j hj hm => ?_), h.dw.bel.trans (f.below h.dw.bel.size (fun j hj => by rw [List.mem_singleton.1 hj]; exact h.xge)), h.dw.own, h.dw.good⟩, by rw [heap_set h.ox]; rfl, (f.keep y (lt_of h.oy) (fun hm => h.ne (List.mem_singleton.1 hm).symm)).trans h.oy, h.xge, h.yge, h.xoff, h.yoff, h.ne, h.kne, Nat.lt_of_lt_of_le h.alt f.size, Nat.lt_of_lt_of_le h.blt f.size, h.age, h.bge, h.only, h.fails, h.room, r.to f hs (fun j hj => .inl hj), h.rb.to f hs (fun j hj => .inl hj)⟩, f⟩
  rw [List.mem_singleton.1 hm] at hj
  exact hj.elim (fun e => h.xoff (List.mem_cons_of_mem _ (List.mem_cons_of_mem _ e))) (h.dw.at_.nobox h.ox (show (5 : Nat) ≠ 1 by decide))
theorem Bx.free (h : Bx w0 w N D ka kb x y va vb Ga Gb) (i : Nat) : w.frozen? ⟨x, i, none⟩ = false := free_of h.ox i
theorem Bx.c2 (h : Bx w0 w N D ka kb x y va vb Ga Gb) : w.cell? ⟨x, 2, none⟩ = some va := (cell_of h.ox 2).trans rfl
theorem Bx.power (h : Bx w0 w N D ka kb x y va vb Ga Gb) (f : Fr [D.d] w w') {c : Int} {b : Bool} (a : DkAt w' { D with cut := c, off := b }) : Bx w0 w' N { D with cut := c, off := b } ka kb x y va vb Ga Gb :=
  have hd : D.d ∈ D.own := List.mem_cons_self
  have hs : ∀ j ∈ [D.d], j ∈ x :: y :: ka :: kb :: D.own := fun j hj => by rw [List.mem_singleton.1 hj]; exact List.mem_cons_of_mem _ (List.mem_cons_of_mem _ (List.mem_cons_of_mem _ (List.mem_cons_of_mem _ hd)))
  have hs2 : ∀ j ∈ [D.d], j ∈ ka :: kb :: D.own := fun j hj => by rw [List.mem_singleton.1 hj]; exact List.mem_cons_of_mem _ (List.mem_cons_of_mem _ hd)
  ⟨⟨a, h.dw.bel.trans (f.below h.dw.bel.size (fun j hj => by rw [List.mem_singleton.1 hj]; exact h.dw.own _ (.inl hd))), h.dw.own, h.dw.good.power c b⟩, (f.keep x h.xlt (fun hm => h.xoff (hs2 x hm))).trans h.ox, (f.keep y (lt_of h.oy) (fun hm => h.yoff (hs2 y hm))).trans h.oy, h.xge, h.yge, h.xoff, h.yoff, h.ne, h.kne, Nat.lt_of_lt_of_le h.alt f.size, Nat.lt_of_lt_of_le h.blt f.size, h.age, h.bge, ⟨h.only.dir, h.only.sure, h.only.acts⟩, h.fails, h.room, h.ra.to f hs (fun j hj => .inl hj), h.rb.to f hs (fun j hj => .inl hj)⟩
structure Above (w0 w w' : World) (N : Nat) (D : Dk) : Prop where
  dw : Dw w0 w' N 1048576 D
  bel : Below w.heap.size w w'
  low : ∀ j, j ∈ D.own ∨ j ∈ D.boxes → w.heap.size ≤ j
  calm : Calm 5242880 D
theorem Wr.keep (h : Wr w own v G) (hb : Below w.heap.size w w') : Wr w' own v G := h.new (Fr.of_below hb [])
end
end Go.Proofs.YthlmbgaipbjbhaaDoor.L
end
section
namespace Go.Proofs.YthlmbgaipbjbhaaDoor.L
open Go.RowKit Go.Lib Go.Maps Go.Proofs.YthlmbgaipbjbhaaDoor.P
open Go.Proofs.YthlmbgaipbjbhaaDoorW.PrintWords Go.Proofs.YthlmbgaipbjbhaaDoorW.PrintLast Go.Proofs.YthlmbgaipbjbhaaDoorW.PrintMore
set_option linter.unusedVariables false
section
variable {w0 w w' : World} {N B k kc x : Nat} {D D' : Dk} {vg : Value} {G H : List (List ByteArray)} {s : ByteArray} {own : List Nat}
set_option maxHeartbeats 4000000 in
set_option maxRecDepth 100000 in
theorem fails_nil (w : World) (A : Option Addr) (n c : Nat) : Calls Tryd.prog 33 #[.pointer none, .slice A n c] w fun e w' => e = .returned (.int .i64 1) ∧ w' = w := by
  go_enter Tryd.func33, Tryd.ntmps33
  go_wp2
  go_ret
  exact ⟨rfl, rfl⟩
set_option maxHeartbeats 4000000 in
set_option maxRecDepth 100000 in
theorem append_nil (w : World) (A : Option Addr) (n c : Nat) : Calls Tryd.prog 11 #[.pointer none, .slice A n c] w fun e w' => e = .returned (.int .i64 1) ∧ w' = w := by
  have HF := hid (fun W => fails_nil W A n c)
  go_enter Tryd.func11, Tryd.ntmps11
  go_wp2_with (go_at_call 33; refine (HF.out _).mono ?_; rintro e w_ ⟨rfl, hww⟩; have hww2 := hww.symm; subst hww2)
  go_ret
  exact ⟨rfl, rfl⟩
set_option maxHeartbeats 4000000 in
set_option maxRecDepth 100000 in
theorem reset_nil (w : World) (A : Option Addr) (n c : Nat) : Calls Tryd.prog 29 #[.pointer none, .slice A n c] w fun e w' => e = .returned (.int .i64 1) ∧ w' = w := by
  have HF := hid (fun W => fails_nil W A n c)
  go_enter Tryd.func29, Tryd.ntmps29
  go_wp2_with (go_at_call 33; refine (HF.out _).mono ?_; rintro e w_ ⟨rfl, hww⟩; have hww2 := hww.symm; subst hww2)
  go_ret
  exact ⟨rfl, rfl⟩
set_option maxHeartbeats 4000000 in
set_option maxRecDepth 100000 in
theorem open_nil (w : World) (s : ByteArray) : Calls Tryd.prog 10 #[.pointer none, .string s] w fun e w' => e = .returned (.tuple #[.pointer none, .slice none 0 0, .int .i64 1]) ∧ w' = w := by
  go_enter Tryd.func10, Tryd.ntmps10
  go_wp2
  go_ret3
  exact ⟨rfl, rfl⟩
set_option maxHeartbeats 4000000 in
set_option maxRecDepth 100000 in
theorem bytes_nil (w : World) : Calls Tryd.prog 28 #[.pointer none] w fun e w' => e = .returned (.int .i64 0) ∧ w' = w := by
  go_enter Tryd.func28, Tryd.ntmps28
  go_wp2
  go_ret
  exact ⟨rfl, rfl⟩
set_option maxHeartbeats 4000000 in
set_option maxRecDepth 100000 in
theorem none_calls (w : World) : Calls Tryd.prog 23 #[] w fun e w' => e = .returned (.bool true) ∧ Below w.heap.size w w' := by
  have HA := hid (fun W A n c => append_nil W A n c)
  have HR := hid (fun W A n c => reset_nil W A n c)
  have HO := hid (fun W => open_nil W ⟨#[108]⟩)
  have HB := hid (fun W => bytes_nil W)
  go_enter Tryd.func23, Tryd.ntmps23
  go_wp2_with (first
    | (go_at_call 11; refine (HA.out _ _ _ _).mono ?_; rintro e w_ ⟨rfl, hww⟩; have hww2 := hww.symm; subst hww2)
    | (go_at_call 29; refine (HR.out _ _ _ _).mono ?_; rintro e w_ ⟨rfl, hww⟩; have hww2 := hww.symm; subst hww2)
    | (go_at_call 10; refine (HO.out _).mono ?_; rintro e w_ ⟨rfl, hww⟩; have hww2 := hww.symm; subst hww2)
    | (go_at_call 28; refine (HB.out _).mono ?_; rintro e w_ ⟨rfl, hww⟩; have hww2 := hww.symm; subst hww2))
  go_ret
  exact ⟨rfl, al_below w _⟩
set_option maxHeartbeats 4000000 in
set_option maxRecDepth 100000 in
theorem bytes_calls (h : Lw w0 w D k s G) : Calls Tryd.prog 28 #[P k] w fun e w' => e = .returned (.int .i64 (encs G).length) ∧ w' = w := by
  obtain ⟨size, r, t, h1, u, _, _, h2, _⟩ := h.lw
  have c2 : w.cell? ⟨k, 2, none⟩ = some (.int .i64 size) := (cell_of h1 2).trans rfl
  have HS := hid h2
  clear h h1 h2
  go_enter Tryd.func28, Tryd.ntmps28
  go_wp2
  go_ret
  rw [HS.out]
  exact ⟨rfl, rfl⟩
theorem DkAt.set_room (h : DkAt w D) (x : Int) : DkAt (w.setCell ⟨D.d, 3, none⟩ (.int .i64 x)) { D with room := x } :=
  h.head (by rw [heap_set h.cell]; rfl) (fun k hne _ => Below.heap_setCell w _ _ k hne) rfl rfl rfl rfl rfl rfl rfl rfl rfl rfl rfl
set_option maxHeartbeats 4000000 in
set_option maxRecDepth 100000 in
theorem setroom_calls (h : DkAt w D) (r : Int) : Calls Tryd.prog 26 #[P D.d, .int .i64 r] w fun e w' => e = .returned (.tuple #[]) ∧ DkAt w' { D with room := max r 0 } ∧ Fr [D.d] w w' := by
  have c3 := h.c3
  have f3 := h.free 3
  have HS := hid (h.set_room (max r 0))
  have HF := hid (Fr.set w ⟨D.d, 3, none⟩ (.int .i64 (max r 0)) (List.mem_singleton.2 rfl) : Fr [D.d] _ _)
  clear h
  go_enter Tryd.func26, Tryd.ntmps26
  go_wp2
  go_end0
  exact ⟨rfl, HS.out, HF.out⟩
theorem told_w {D2 : Dk} {o : Option (List Int)} {A : Option Addr} {c : Nat} (hL : Laid w0) (dw : Dw w0 w N B D2) (calm : Calm 0 D2) (hN : N + 8 < 1048576) (hB : B < 1099511627776) (f : Firm D2 nLog o) (hr : Reads (o.getD []) G) (hg : Wr w own vg G) (hgo : ∀ j ∈ D2.own, j ∈ own) (hl : G.length < 1048576) :
    Calls Tryd.prog 27 #[P D2.d, vg] w fun e w' => e = .returned (.bool true) ∧ Fr D2.own w w' := by
  have HO := hid (open_w dw hL hN hB wNameLog o f hr hg.2.1 hl)
  have HG := hid hg
  have HC := hid calm
  have HL := hid hl
  have HGO := hid hgo
  have HDL := hid dw.at_.lt
  clear hL dw calm f hr hg hl hgo
  go_enter Tryd.func27, Tryd.ntmps27
  go_upto_region 2 with (go_at_call 10; refine HO.out.mono ?_; intro e w9 h9; obtain ⟨D9, k9, v9, rfl, dw9, d9, fr9, own9, box9, r9, hk9, lw9⟩ := h9.calm HC.out; obtain ⟨A9, c9, rfl⟩ := Kd.R_slice r9; have HR9 := hid (show Wr w9 [] (.slice A9 G.length c9) G from ⟨Kd.R_lower (Kd.R_mono r9 (fun _ _ h => by simp at h)) (Nat.zero_le _), HG.out.2⟩); have HF9 := hid fr9; have HGG := hid (HG.out.to (own' := []) fr9 HGO.out (fun j hj => by simp at hj)); clear h9 dw9 d9 fr9 own9 box9 r9 hk9 lw9)
  have HS := hid (same_rows HR9.out HGG.out (Nat.lt_trans HL.out (by decide)))
  rw [decide_eq_true (rfl : G = G)] at HS
  go_wp2_with (go_at_call 14; refine HS.out.mono ?_; rintro e wF ⟨rfl, hdF⟩; have HDF := hid hdF; clear hdF)
  go_ret
  exact ⟨rfl, HF9.out.trans (Fr.of_drawn (own := []) HDF.out) (fun j hj => by simp at hj)⟩
end
end Go.Proofs.YthlmbgaipbjbhaaDoor.L
end
