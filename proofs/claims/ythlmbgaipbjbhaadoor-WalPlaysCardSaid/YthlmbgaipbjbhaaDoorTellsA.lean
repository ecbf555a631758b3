/- The law WalPlays' world between calls: operations may fail, room may be tight. One byte of a file is turned: Turn of the disk. What WalTells wants: names, live calls, a log that is opened behind a turn. -/
import Derived.Test.YthlmbgaipbjbhaaDoorPlaysA
import Derived.Test.YthlmbgaipbjbhaaDoorBun
section
namespace Go.Proofs.YthlmbgaipbjbhaaDoor.L
open Go.RowKit Go.Lib Go.Maps Go.Proofs.YthlmbgaipbjbhaaDoor.P
open Go.Proofs.YthlmbgaipbjbhaaDoorW.PrintWords Go.Proofs.YthlmbgaipbjbhaaDoorW.PrintLast Go.Proofs.YthlmbgaipbjbhaaDoorW.PrintMore
set_option linter.unusedVariables false
abbrev kI : Kd Int := Kd.int .i64
section
variable {w0 w w' : World} {N k k2 x : Nat} {B : Nat} {D D' : Dk} {vg vf v vt : Value} {G H T : List (List ByteArray)} {F E : List Int} {own own2 own' : List Nat} {t : Bool}
theorem I_to {bs : Nat} {l : List Int} (h : Kd.R kI 3 w bs (fun j => j ∉ own) v l) (f : Fr own2 w w') (hs : ∀ j ∈ own2, j ∈ own) (hn : ∀ j ∈ own', j ∈ own ∨ w.heap.size ≤ j) : Kd.R kI 3 w' bs (fun j => j ∉ own') v l :=
  Kd.R_mono (Kd.R_step (Kd.R_bound h) (fun j hj hlt => f.keep j hlt (fun hm => hj.1 (hs j hm)))) (fun j hj hm => (hn j hm).elim hj.1 (fun e => by have := hj.2.2.1; omega))
structure Px (w0 w : World) (N : Nat) (D : Dk) (k x : Nat) (vg vf : Value) (t : Bool) (G : List (List ByteArray)) (F E : List Int) : Prop where
  dw : Dw w0 w N 4194304 D
  obj : w.heap[x]? = some (wsObj D.d k vg vf t)
  xge : w0.heap.size ≤ x
  xoff : x ∉ k :: D.own
  klt : k < w.heap.size
  kge : w0.heap.size ≤ k
  only : Only (fun y => y ∈ [nLog, nLog2]) D
  fails : ∀ j, 0 < D.fails j → j ∈ E
  room : t = false → ((12582912 : Nat) : Int) ≤ D.room
  cut : D.cut < 0
  off : D.off = false
  row : Wr w (x :: k :: D.own) vg G
  frow : Kd.R kI 3 w w0.heap.size (fun j => j ∉ x :: k :: D.own) vf F
theorem Px.xlt (h : Px w0 w N D k x vg vf t G F E) : x < w.heap.size := lt_of h.obj
theorem Px.olt (h : Px w0 w N D k x vg vf t G F E) : ∀ j ∈ x :: k :: D.own, j < w.heap.size := fun j hj => by
  rcases List.mem_cons.1 hj with e | hj
  · rw [e]; exact h.xlt
  · rcases List.mem_cons.1 hj with e | hj
    · rw [e]; exact h.klt
    · exact h.dw.at_.lt j hj
theorem own3 {l l' : List Nat} {a b : Nat} (h : ∀ j ∈ l', j ∈ l ∨ w.heap.size ≤ j) : ∀ j ∈ a :: b :: l', j ∈ a :: b :: l ∨ w.heap.size ≤ j := fun j hj => by
  rcases List.mem_cons.1 hj with e | hj
  · exact .inl (by rw [e]; exact List.mem_cons_self)
  · rcases List.mem_cons.1 hj with e | hj
    · exact .inl (by rw [e]; simp)
    · exact (h j hj).elim (fun e => .inl (List.mem_cons_of_mem _ (List.mem_cons_of_mem _ e))) .inr
theorem Px.new (h : Px w0 w N D k x vg vf t G F E) (f : Fr [] w w') : Px w0 w' N D k x vg vf t G F E :=
  ⟨h.dw.new f, (f.keep x h.xlt (by simp)).trans h.obj, h.xge, h.xoff, Nat.lt_of_lt_of_le h.klt f.size, h.kge, h.only, h.fails, h.room, h.cut, h.off, h.row.new f, I_to h.frow f (fun j hj => by simp at hj) (fun j hj => .inl hj)⟩
theorem Px.mono {M : Nat} (h : Px w0 w N D k x vg vf t G F E) (hN : N ≤ M) : Px w0 w M D k x vg vf t G F E := { h with dw := h.dw.mono hN }
theorem Px.free (h : Px w0 w N D k x vg vf t G F E) (i : Nat) : w.frozen? ⟨x, i, none⟩ = false := free_of h.obj i
theorem Px.c0 (h : Px w0 w N D k x vg vf t G F E) : w.cell? ⟨x, 0, none⟩ = some (P D.d) := (cell_of h.obj 0).trans rfl
theorem Px.c1 (h : Px w0 w N D k x vg vf t G F E) : w.cell? ⟨x, 1, none⟩ = some (P k) := (cell_of h.obj 1).trans rfl
theorem Px.c2 (h : Px w0 w N D k x vg vf t G F E) : w.cell? ⟨x, 2, none⟩ = some vg := (cell_of h.obj 2).trans rfl
theorem Px.c3 (h : Px w0 w N D k x vg vf t G F E) : w.cell? ⟨x, 3, none⟩ = some vf := (cell_of h.obj 3).trans rfl
theorem Px.c4 (h : Px w0 w N D k x vg vf t G F E) : w.cell? ⟨x, 4, none⟩ = some (.bool t) := (cell_of h.obj 4).trans rfl
theorem Px.live (h : Px w0 w N D k x vg vf t G F E) : D.dead = false := live_of h.cut h.off
theorem Px.step {M : Nat} {own : List Nat} (h : Px w0 w N D k x vg vf t G F E) (dw : Dw w0 w' M 4194304 D') (f : Fr own w w') (hown : ∀ j ∈ own, j ∈ k :: D.own) (ho : ∀ j ∈ D'.own, j ∈ D.own ∨ w.heap.size ≤ j) (hd : D'.d = D.d) (hon : Only (fun y => y ∈ [nLog, nLog2]) D') {E' : List Int} (hfl : ∀ j, 0 < D'.fails j → j ∈ E') (hr : D'.room = D.room) (hc : D'.cut = D.cut) (hof : D'.off = false) : Px w0 w' M D' k x vg vf t G F E' :=
  have hs : ∀ j ∈ own, j ∈ x :: k :: D.own := fun j hj => List.mem_cons_of_mem _ (hown j hj)
  ⟨dw, by rw [hd]; exact (f.keep x h.xlt (fun hm => h.xoff (hown x hm))).trans h.obj, h.xge, fun hm => by
    rcases List.mem_cons.1 hm with e | hm
    · exact h.xoff (by rw [e]; exact List.mem_cons_self)
    · exact (ho x hm).elim (fun e => h.xoff (List.mem_cons_of_mem _ e)) (fun e => by have := h.xlt; omega), Nat.lt_of_lt_of_le h.klt f.size, h.kge, hon, hfl, by rw [hr]; exact h.room, by rw [hc]; exact h.cut, hof, h.row.to f hs (own3 ho), I_to h.frow f hs (own3 ho)⟩
theorem may_fail {a b u : Int} (h1 : a ≤ u) (h2 : u < b) (h3 : u ∈ F) : mayL t F 34 a b = true := by
  unfold mayL
  rw [if_neg (by decide)]
  have : F.any (fun f => decide (a ≤ f) && decide (f < b)) = true := List.any_eq_true.2 ⟨u, h3, by simp [h1, h2]⟩
  rw [this]; rfl
theorem may_zero (a b : Int) : mayL t F 0 a b = true := by
  unfold mayL
  rw [if_neg (by decide)]; simp
theorem Px.of_lay {e : Ending} (h : Px w0 w N D k x vg vf t G F F) (hl : DidLay w0 w 12582912 N 4194304 k D nLog nLog2 G H F t e w') :
    ∃ (c : Int) (D' : Dk), e = .returned (.tuple #[.int .i64 c, .bool true]) ∧ Px w0 w' (N + 16) D' k x vg vf t G F F ∧ D'.d = D.d ∧ Fr (k :: D.own) w w' ∧ (∀ j ∈ D'.own, j ∈ D.own ∨ w.heap.size ≤ j) ∧ c ≠ 35 ∧ ((c = 0 ∧ Lw w0 w' D' k nLog H) ∨ (c ≠ 0 ∧ Lw w0 w' D' k nLog G)) := by
  obtain ⟨c, D', rfl, dw, d, f, ho, way⟩ := hl
  have hx : Px w0 w' (N + 16) D' k x vg vf t G F F := h.step dw f (fun j hj => hj) ho d.d (d.only _ (fun y hy => by rcases hy with hy | hy <;> simp [hy]) h.only) (by rw [d.fails]; exact h.fails) d.room d.cut (d.off h.cut h.off)
  rcases way with ⟨e, l⟩ | ⟨e, hg, l⟩ | ⟨y, l⟩
  · exact ⟨c, D', by rw [e, may_zero]; rfl, hx, d.d, f, ho, by omega, .inl ⟨e, l⟩⟩
  · exact absurd ⟨h.cut, h.off⟩ hg
  · rcases y with ⟨e, hr⟩ | ⟨e, u, h1, h2, hf⟩
    · have ht : t = true := by
        cases t with
        | true => rfl
        | false => have := h.room rfl; omega
      exact ⟨c, D', by rw [e]; unfold mayL; rw [if_pos rfl, ht]; rfl, hx, d.d, f, ho, by omega, .inr ⟨by omega, l⟩⟩
    · exact ⟨c, D', by rw [e, may_fail h1 h2 (h.fails u hf)]; rfl, hx, d.d, f, ho, by omega, .inr ⟨by omega, l⟩⟩
theorem Px.of_open {e : Ending} (h : Px w0 w N D k x vg vf t G F F) (lw : Lw w0 w D k nLog G) (hl : DidOpen w0 w N 4194304 D nLog G e w') :
    ∃ D', Px w0 w' (N + 2) D' k x vg vf t G F F ∧ D'.d = D.d ∧ Fr D.own w w' ∧ (∀ j ∈ D'.own, j ∈ D.own) ∧ D.ops ≤ D'.ops ∧ D'.ops ≤ D.ops + 1 ∧ Lw w0 w' D' k nLog G ∧
      ((∃ k2 A c, e = .returned (.tuple #[P k2, .slice A G.length c, .int .i64 0]) ∧ mayL t F 0 D.ops D'.ops = true ∧ Wr w' (x :: k2 :: D'.own) (.slice A G.length c) G ∧ Lw w0 w' D' k2 nLog G ∧ w.heap.size ≤ k2) ∨
       (e = .returned (.tuple #[.pointer none, .slice none 0 0, .int .i64 34]) ∧ mayL t F 34 D.ops D'.ops = true)) := by
  obtain ⟨D', dw, d, f, ho, hb, way⟩ := hl
  have ho' : ∀ j ∈ D'.own, j ∈ D.own ∨ w.heap.size ≤ j := fun j hj => .inl (ho j hj)
  have hx : Px w0 w' (N + 2) D' k x vg vf t G F F := h.step dw f (fun j hj => List.mem_cons_of_mem _ hj) ho' d.d (d.only _ (fun y hy => hy.elim) h.only) (by rw [d.fails]; exact h.fails) d.room d.cut (d.off h.cut h.off)
  refine ⟨D', hx, d.d, f, ho, d.lo, by have := d.hi; omega, lw.after f d ho hb, ?_⟩
  rcases way with ⟨k2, v2, he, r2, hk2, l2⟩ | ⟨c, he, ⟨_, hc⟩ | ⟨hc, hf, hops⟩⟩
  · obtain ⟨A, c, rfl⟩ := Kd.R_slice r2
    refine .inl ⟨k2, A, c, he, may_zero _ _, ⟨Kd.R_lower (Kd.R_mono (Kd.R_bound r2) (fun j hj hm => ?_)) (Nat.zero_le _), h.row.2⟩, l2, hk2⟩
    have h1 := hj.2.1
    rcases List.mem_cons.1 hm with e | hm
    · have := h.xlt; omega
    · rcases List.mem_cons.1 hm with e | hm
      · exact hj.1 e
      · have := h.dw.at_.lt j (ho j hm); omega
  · rw [h.live] at hc; cases hc
  · subst hc
    exact .inr ⟨he, may_fail (Int.le_refl _) (by omega) (h.fails _ hf)⟩
theorem Px.put {k' : Nat} {vg' vf' : Value} {t' : Bool} {G' : List (List ByteArray)} {F' E' : List Int} (h : Px w0 w N D k x vg vf t G F E) (i : Nat) (u : Value) (ho : (w.setCell ⟨x, i, none⟩ u).heap[x]? = some (wsObj D.d k' vg' vf' t')) (hk : x ∉ k' :: D.own) (hkl : k' < w.heap.size) (hkg : w0.heap.size ≤ k') (hf : ∀ j, 0 < D.fails j → j ∈ E') (hr : t' = false → ((12582912 : Nat) : Int) ≤ D.room) (r : Wr w (x :: k' :: D.own) vg' G') (rf : Kd.R kI 3 w w0.heap.size (fun j => j ∉ x :: k' :: D.own) vf' F') :
    Px w0 (w.setCell ⟨x, i, none⟩ u) N D k' x vg' vf' t' G' F' E' ∧ Fr [x] w (w.setCell ⟨x, i, none⟩ u) := by
  have f : Fr [x] w (w.setCell ⟨x, i, none⟩ u) := Fr.set w _ _ (by simp)
  have hs : ∀ j ∈ [x], j ∈ x :: k' :: D.own := fun j hj => by rw [List.mem_singleton.1 hj]; exact List.mem_cons_self
  refine ⟨⟨⟨h.dw.at_.fr f (fun j hj hm => ?_), h.dw.bel.trans (f.below h.dw.bel.size (fun j hj => by rw [List.mem_singleton.1 hj]; exact h.xge)), h.dw.own, h.dw.good⟩, ho, h.xge, hk, Nat.lt_of_lt_of_le hkl f.size, hkg, h.only, hf, hr, h.cut, h.off, r.to f hs (fun j hj => .inl hj), I_to rf f hs (fun j hj => .inl hj)⟩, f⟩
  rw [List.mem_singleton.1 hm] at hj
  exact hj.elim (fun e => h.xoff (List.mem_cons_of_mem _ e)) (h.dw.at_.nobox h.obj (show (5 : Nat) ≠ 1 by decide))
theorem Px.setg (h : Px w0 w N D k x vg vf t G F E) (r : Wr w (x :: k :: D.own) vt T) : Px w0 (w.setCell ⟨x, 2, none⟩ vt) N D k x vt vf t T F E ∧ Fr [x] w (w.setCell ⟨x, 2, none⟩ vt) := h.put 2 vt (by rw [heap_set h.obj]; rfl) h.xoff h.klt h.kge h.fails h.room r h.frow
theorem Px.setl (h : Px w0 w N D k x vg vf t G F E) (l : Lw w0 w D k2 nLog G) (hne : x ≠ k2) (r : Wr w (x :: k2 :: D.own) vg G) (rf : Kd.R kI 3 w w0.heap.size (fun j => j ∉ x :: k2 :: D.own) vf F) : Px w0 (w.setCell ⟨x, 1, none⟩ (P k2)) N D k2 x vg vf t G F E ∧ Fr [x] w (w.setCell ⟨x, 1, none⟩ (P k2)) :=
  h.put 1 (P k2) (by rw [heap_set h.obj]; rfl) (fun hm => by
    rcases List.mem_cons.1 hm with e | hm
    · exact hne e
    · exact h.xoff (List.mem_cons_of_mem _ hm)) l.lt l.ge h.fails h.room r rf
theorem Px.setRoom (h : Px w0 w N D k x vg vf t G F E) (f : Fr [D.d] w w') {r : Int} (a : DkAt w' { D with room := max r 0 }) (b : Bool) (ht : t = b) (hb : b = false → ((12582912 : Nat) : Int) ≤ max r 0) : Px w0 w' N { D with room := max r 0 } k x vg vf t G F E :=
  have hd : D.d ∈ D.own := List.mem_cons_self
  have g := h.dw.good
  have hs : ∀ j ∈ [D.d], j ∈ x :: k :: D.own := fun j hj => by rw [List.mem_singleton.1 hj]; exact List.mem_cons_of_mem _ (List.mem_cons_of_mem _ hd)
  ⟨⟨a, h.dw.bel.trans (f.below h.dw.bel.size (fun j hj => by rw [List.mem_singleton.1 hj]; exact h.dw.own _ (.inl hd))), h.dw.own, ⟨g.ops0, g.opsN, g.nN, g.lN, g.fls, Int.le_max_right _ _, g.dirI, g.sureI, g.dinj, g.sinj, g.growI, g.makeI, g.moveI, g.sum, g.big, g.play, g.may, g.uniq⟩⟩, (f.keep x h.xlt (fun hm => h.xoff (by rw [List.mem_singleton.1 hm]; exact List.mem_cons_of_mem _ hd))).trans h.obj, h.xge, h.xoff, Nat.lt_of_lt_of_le h.klt f.size, h.kge, ⟨h.only.dir, h.only.sure, h.only.acts⟩, h.fails, fun e => hb (ht.symm.trans e), h.cut, h.off, h.row.to f hs (fun j hj => .inl hj), I_to h.frow f hs (fun j hj => .inl hj)⟩
theorem Lw.room_ (h : Lw w0 w D k nLog G) (f : Fr [D.d] w w') (r : Int) : Lw w0 w' { D with room := r } k nLog G := by
  obtain ⟨s, rr, t, h1, u, h2, ⟨o, h3, h4, h5⟩, h6⟩ := h.lw
  refine ⟨⟨s, rr, t, (f.keep k (lt_of h1) (fun hm => h.off.1 ?_)).trans h1, u, h2, ⟨o, ⟨h3.eq, h3.no, h3.yes, h3.acts⟩, h4, h5⟩, h6⟩, h.ge, h.off⟩
  rw [List.mem_singleton.1 hm]
  exact List.mem_cons_self
theorem Lw.fail_ (h : Lw w0 w D k nLog G) {n : Nat} {fl : Int → Int} {own : List Nat} (f : Fr own w w') (hk : k ∉ own) : Lw w0 w' { D with n := n, fails := fl } k nLog G := by
  obtain ⟨s, rr, t, h1, u, h2, ⟨o, h3, h4, h5⟩, h6⟩ := h.lw
  exact ⟨⟨s, rr, t, (f.keep k (lt_of h1) hk).trans h1, u, h2, ⟨o, ⟨h3.eq, h3.no, h3.yes, h3.acts⟩, h4, h5⟩, h6⟩, h.ge, h.off⟩
theorem Px.fail (h : Px w0 w N D k x vg vf t G F E) (y : Int) (g : Goes w w' D { D with n := D.n + 1, fails := fun u => if u = y then D.fails y + 1 else D.fails u }) : Px w0 w' (N + 1) { D with n := D.n + 1, fails := fun u => if u = y then D.fails y + 1 else D.fails u } k x vg vf t G F (E ++ [y]) :=
  h.step (h.dw.step g (h.dw.good.failing y)) g.fr (fun j hj => List.mem_cons_of_mem _ hj) g.own rfl ⟨h.only.dir, h.only.sure, h.only.acts⟩ (fun j hj => by
    by_cases e : j = y
    · rw [e]; simp
    · exact List.mem_append_left _ (h.fails j (by have h2 := hj; simp only [if_neg e] at h2; exact h2))) rfl rfl h.off
theorem Wr.rows {A : Option Addr} {c : Nat} (h : Wr w own (.slice A G.length c) G) (hp : 0 < G.length) :
    ∃ b o, A = some ⟨b, o, none⟩ ∧ b < w.heap.size ∧ ∀ i (hi : i < G.length), ∃ A' c', w.cell? ⟨b, o + i, none⟩ = some (.slice A' (G[i]).length c') ∧ Kd.C Kd.string w A' (G[i]).length (G[i]) := by
  obtain ⟨A1, c1, he, _, hr⟩ := R_c h.1
  injection he with he _ _
  subst he
  obtain ⟨ad, hA, hc⟩ := hr.2.2 hp
  have one : ∀ i (hi : i < G.length), ∃ A' c', w.cell? (ad.add (i * 1 + 0)) = some (.slice A' (G[i]).length c') ∧ Kd.C Kd.string w A' (G[i]).length (G[i]) := fun i hi => by
    obtain ⟨cs, _, ⟨A', c', hcs, hle, hC⟩, hcc⟩ := hc i _ (List.getElem?_eq_getElem hi)
    subst hcs
    exact ⟨A', c', hcc 0 _ rfl, hC⟩
  obtain ⟨A0, c0, h0, _⟩ := one 0 hp
  have e0 : ad.add (0 * 1 + 0) = ad := by simp [Addr.add]
  rw [e0] at h0
  obtain ⟨b, o, rfl, hb⟩ := spot_of h0
  refine ⟨b, o, hA, hb, fun i hi => ?_⟩
  obtain ⟨A', c', h1, h2⟩ := one i hi
  rw [add_is, show o + (i * 1 + 0) = o + i by omega] at h1
  exact ⟨A', c', h1, h2⟩
theorem C_text {l : List ByteArray} {A : Option Addr} (h : Kd.C Kd.string w A l.length l) (hp : 0 < l.length) : ∃ b o, A = some ⟨b, o, none⟩ ∧ ∀ i (hi : i < l.length), w.cell? ⟨b, o + i, none⟩ = some (.string (l[i])) := by
  obtain ⟨ad, hA, hcell⟩ := (Kd.reads_of_C (d := ByteArray.empty) h).2.2 (by omega)
  have h0 := hcell 0 (by omega)
  have e0 : ad.add 0 = ad := by simp [Addr.add]
  rw [e0] at h0
  obtain ⟨b, o, rfl, _⟩ := spot_of h0
  refine ⟨b, o, hA, fun i hi => ?_⟩
  have h1 := hcell i (by omega)
  rw [add_is, List.getD_eq_getElem?_getD, List.getElem?_eq_getElem hi] at h1
  exact h1
def mostG (G : List (List ByteArray)) : Nat := (G.map fun g => (g.map fun s => 10 + s.size).sum).sum
theorem mostG_take {i : Nat} (hi : i < G.length) : mostG (G.take (i + 1)) = mostG (G.take i) + ((G[i]).map fun s => 10 + s.size).sum := by
  unfold mostG
  rw [List.take_succ_eq_append_getElem hi, List.map_append, List.sum_append]; simp
theorem most_take {g : List ByteArray} {i : Nat} (hi : i < g.length) : ((g.take (i + 1)).map fun s => 10 + s.size).sum = ((g.take i).map fun s => 10 + s.size).sum + (10 + (g[i]).size) := by
  rw [List.take_succ_eq_append_getElem hi, List.map_append, List.sum_append]; simp
theorem most_one : ∀ g : List ByteArray, (g.map fun s => 10 + s.size).sum = 10 * g.length + sizes g
  | [] => rfl
  | s :: g => by
    have := most_one g
    unfold sizes at *
    simp only [List.map_cons, List.sum_cons, List.length_cons]
    omega
theorem encs_most : ∀ G : List (List ByteArray), (∀ g ∈ G, GOk g) → (encs G).length ≤ 30 * G.length + mostG G
  | [], _ => by simp [encs]
  | g :: G, h => by
    have h1 := encs_most G (fun x hx => h x (List.mem_cons_of_mem _ hx))
    have h2 := (h g List.mem_cons_self).enc
    have h3 := most_one g
    have h4 : mostG (g :: G) = (g.map fun s => 10 + s.size).sum + mostG G := rfl
    rw [encs_cons, List.length_append, List.length_cons, h4]
    omega
theorem most_le {g : List ByteArray} (h : GOk g) (i : Nat) : ((g.take i).map fun s => 10 + s.size).sum ≤ 2200000 := by
  have h1 : ((g.take i).map fun s => 10 + s.size).sum + ((g.drop i).map fun s => 10 + s.size).sum = (g.map fun s => 10 + s.size).sum := by
    rw [← List.sum_append, ← List.map_append, List.take_append_drop]
  have h2 := most_one g
  have h3 := h.1
  have h4 := h.2
  omega
theorem mostG_le : ∀ G : List (List ByteArray), (∀ g ∈ G, GOk g) → mostG G ≤ G.length * 2200000
  | [], _ => by simp [mostG]
  | g :: G, h => by
    have h1 := mostG_le G (fun x hx => h x (List.mem_cons_of_mem _ hx))
    have h3 := most_le (h g List.mem_cons_self) g.length
    rw [List.take_length] at h3
    have h4 : mostG (g :: G) = (g.map fun s => 10 + s.size).sum + mostG G := rfl
    rw [h4, List.length_cons]
    omega
theorem Wr.ints {own3 : List Nat} {e : Nat} (h : Wr w own v G) {cells : Array Value} (hg : w.grownBy w' (some e)) (he : w.heap[e]? = some (.cells cells 3 (0, 0))) : Wr w' own v G :=
  ⟨Kd.R_mono (Kd.R_grown (Kd.R_bound h.1) hg (fun j hj hje => by
    obtain ⟨_, _, _, q, hq, cs, hc⟩ := hj
    injection hje with hje
    subst hje
    rw [he] at hc
    injection hc with hc
    injection hc with _ hc
    subst hc
    exact absurd hq (by decide))) (fun j hj => hj.1), h.2⟩
theorem DkAt.noint (h : DkAt w D) {y : Nat} {cells : Array Value} (hx : w.heap[y]? = some (.cells cells 3 (0, 0))) : y ∉ D.boxes := fun hm => by
  obtain ⟨a, ha, hk⟩ := List.mem_flatMap.1 hm
  have hb := h.boxed a ha
  have key : ∀ (v : Value) (t' : TypeId), t' ≠ 3 → w.heap[y]? = some (.cells #[v] t' (0, 0)) → False := fun v t' ne e => by
    rw [hx] at e
    injection e with e
    injection e with _ e _
    exact ne e.symm
  cases a with
  | grow f n => simp [bxs] at hk
  | make s f b1 b2 =>
    simp [bxs] at hk
    rcases hk with rfl | rfl
    · exact key _ _ (by decide) hb.1
    · exact key _ _ (by decide) hb.2.1
  | move s t b1 b2 =>
    simp [bxs] at hk
    rcases hk with rfl | rfl
    · exact key _ _ (by decide) hb.1
    · exact key _ _ (by decide) hb.2.1
  | gone s b1 =>
    simp [bxs] at hk
    subst hk
    exact key _ _ (by decide) hb.1
theorem Px.append {v' : Value} {F' : List Int} (h : Px w0 w N D k x vg vf t G F E) (hg : w.grownBy w' vf.ownBlock) (ho : Kd.R kI 3 w' w0.heap.size (fun j => j ∉ x :: k :: D.own) v' F') (hE : ∀ j ∈ E, j ∈ F') :
    w'.heap[x]? = w.heap[x]? ∧ Px w0 (w'.setCell ⟨x, 3, none⟩ v') N D k x vg v' t G F' F' ∧ ∃ own, Fr own w (w'.setCell ⟨x, 3, none⟩ v') ∧ ∀ j ∈ own, j = x ∨ (j ∉ x :: k :: D.own ∧ ∃ cells, w.heap[j]? = some (.cells cells 3 (0, 0))) := by
  have hown : ∀ j, vf.ownBlock = some j → j ∉ x :: k :: D.own ∧ w0.heap.size ≤ j ∧ ∃ cells, w.heap[j]? = some (.cells cells 3 (0, 0)) := fun j hj => by
    obtain ⟨h1, h2, _, q, hq, cs, hc⟩ := (Kd.R_bound h.frow).1 j hj
    have : q = 3 := by
      rcases List.mem_cons.1 hq with e | e
      · exact e
      · cases e
    subst this
    exact ⟨h1, h2, cs, hc⟩
  have f1 := Fr.grown hg
  have hx1 : w'.heap[x]? = w.heap[x]? := f1.keep x h.xlt (fun hm => (hown x (by simpa using hm)).1 List.mem_cons_self)
  have f2 : Fr [x] w' (w'.setCell ⟨x, 3, none⟩ v') := Fr.set w' _ _ (by simp)
  have f : Fr (x :: vf.ownBlock.toList) w (w'.setCell ⟨x, 3, none⟩ v') := (f1.wider (fun j hj => .inl (List.mem_cons_of_mem _ hj))).trans f2 (fun j hj => .inl (by rw [List.mem_singleton.1 hj]; exact List.mem_cons_self))
  have row1 : Wr w' (x :: k :: D.own) vg G := by
    cases hb : vf.ownBlock with
    | none =>
      rw [hb] at f1
      exact h.row.new f1
    | some e =>
      obtain ⟨_, _, cs, hc⟩ := hown e hb
      rw [hb] at hg
      exact h.row.ints (own3 := []) hg hc
  have hs2 : ∀ j ∈ [x], j ∈ x :: k :: D.own := fun j hj => by rw [List.mem_singleton.1 hj]; exact List.mem_cons_self
  have hlow : ∀ j ∈ x :: vf.ownBlock.toList, w0.heap.size ≤ j := fun j hj => by
    rcases List.mem_cons.1 hj with e | e
    · rw [e]; exact h.xge
    · exact (hown j (by simpa using e)).2.1
  refine ⟨hx1, ⟨⟨h.dw.at_.fr f (fun j hj hm => ?_), h.dw.bel.trans (f.below h.dw.bel.size hlow), h.dw.own, h.dw.good⟩, (by rw [heap_set (hx1.trans h.obj)]; rfl), h.xge, h.xoff, Nat.lt_of_lt_of_le h.klt f.size, h.kge, h.only, fun j hj => hE j (h.fails j hj), h.room, h.cut, h.off, row1.to f2 hs2 (fun j hj => .inl hj), I_to ho f2 hs2 (fun j hj => .inl hj)⟩, _, f, fun j hj => ?_⟩
  · rcases List.mem_cons.1 hm with e | e
    · rw [e] at hj
      exact hj.elim (fun e => h.xoff (List.mem_cons_of_mem _ e)) (h.dw.at_.nobox h.obj (show (5 : Nat) ≠ 1 by decide))
    · obtain ⟨h1, _, cs, hc⟩ := hown j (by simpa using e)
      exact hj.elim (fun e => h1 (List.mem_cons_of_mem _ (List.mem_cons_of_mem _ e))) (h.dw.at_.noint hc)
  · rcases List.mem_cons.1 hj with e | e
    · exact .inl e
    · obtain ⟨h1, _, hc⟩ := hown j (by simpa using e)
      exact .inr ⟨h1, hc⟩
theorem Px.dk4 (h : Px w0 w N D k x vg vf t G F E) (u : Value) : DkAt (w.setCell ⟨x, 4, none⟩ u) D :=
  h.dw.at_.fr (Fr.set w _ _ (by simp) : Fr [x] w _) (fun j hj hm => by
    rw [List.mem_singleton.1 hm] at hj
    exact hj.elim (fun e => h.xoff (List.mem_cons_of_mem _ e)) (h.dw.at_.nobox h.obj (show (5 : Nat) ≠ 1 by decide)))
theorem Px.tight (h : Px w0 w N D k x vg vf t G F E) (b : Bool) (f : Fr [D.d] (w.setCell ⟨x, 4, none⟩ (.bool b)) w') {r : Int} (a : DkAt w' { D with room := max r 0 }) (hb : b = false → ((12582912 : Nat) : Int) ≤ max r 0) :
    Px w0 w' N { D with room := max r 0 } k x vg vf b G F E ∧ Fr [x, D.d] w w' := by
  have hd : D.d ∈ D.own := List.mem_cons_self
  have hxd : x ∉ [D.d] := fun hm => h.xoff (by rw [List.mem_singleton.1 hm]; exact List.mem_cons_of_mem _ hd)
  have ob : (w.setCell ⟨x, 4, none⟩ (.bool b)).heap[x]? = some (wsObj D.d k vg vf b) := by rw [heap_set h.obj]; rfl
  have f0 : Fr [x] w (w.setCell ⟨x, 4, none⟩ (.bool b)) := Fr.set w _ _ (by simp)
  have ff : Fr [x, D.d] w w' := (f0.wider (fun j hj => .inl (by rw [List.mem_singleton.1 hj]; simp))).trans f (fun j hj => .inl (by rw [List.mem_singleton.1 hj]; simp))
  have hs : ∀ j ∈ [x, D.d], j ∈ x :: k :: D.own := fun j hj => by
    simp only [List.mem_cons, List.not_mem_nil, or_false] at hj
    rcases hj with e | e
    · rw [e]; exact List.mem_cons_self
    · rw [e]; exact List.mem_cons_of_mem _ (List.mem_cons_of_mem _ hd)
  have hlow : ∀ j ∈ [x, D.d], w0.heap.size ≤ j := fun j hj => by
    simp only [List.mem_cons, List.not_mem_nil, or_false] at hj
    rcases hj with e | e
    · rw [e]; exact h.xge
    · rw [e]; exact h.dw.own _ (.inl hd)
  have g := h.dw.good
  exact ⟨⟨⟨a, h.dw.bel.trans (ff.below h.dw.bel.size hlow), h.dw.own, ⟨g.ops0, g.opsN, g.nN, g.lN, g.fls, Int.le_max_right _ _, g.dirI, g.sureI, g.dinj, g.sinj, g.growI, g.makeI, g.moveI, g.sum, g.big, g.play, g.may, g.uniq⟩⟩, (f.keep x (lt_of ob) hxd).trans ob, h.xge, h.xoff, Nat.lt_of_lt_of_le h.klt ff.size, h.kge, ⟨h.only.dir, h.only.sure, h.only.acts⟩, h.fails, hb, h.cut, h.off, h.row.to ff hs (fun j hj => .inl hj), I_to h.frow ff hs (fun j hj => .inl hj)⟩, ff⟩
theorem size_in (h : DkAt w D) (g : Good N B D) {s : ByteArray} (hd : ∃ b, D.dir s = some b) : Calls Tryd.prog 21 #[P D.d, .string s] w fun e w' => ∃ u : Int, e = .returned (.int .i64 u) ∧ w' = w := by
  obtain ⟨b, hd⟩ := hd
  exact (size_any h g s (name_max (g.dirI s _ hd).1)).mono (by rintro e w' ⟨u, rfl, rfl, _⟩; exact ⟨u, rfl, rfl⟩)
theorem R_texts {bs : Nat} {ok : Nat → Prop} {A : Option Addr} {l : List ByteArray} {c : Nat} (h : Kd.R Kd.string 9 w bs ok (.slice A l.length c) l) (hp : 0 < l.length) : ∃ b o, A = some ⟨b, o, none⟩ ∧ ∀ i (hi : i < l.length), w.cell? ⟨b, o + i, none⟩ = some (.string (l[i])) := by
  obtain ⟨a, b, he, _, hc⟩ := Kd.R_reads h
  injection he with he _ _
  subst he
  exact C_text hc hp
end
end Go.Proofs.YthlmbgaipbjbhaaDoor.L
end
section
namespace Go.Proofs.YthlmbgaipbjbhaaDoor.L
open Go.RowKit Go.Lib Go.Maps Go.Proofs.YthlmbgaipbjbhaaDoor.P
open Go.Proofs.YthlmbgaipbjbhaaDoorW.PrintWords Go.Proofs.YthlmbgaipbjbhaaDoorW.PrintLast Go.Proofs.YthlmbgaipbjbhaaDoorW.PrintMore
set_option linter.unusedVariables false
section
variable {w w' : World} {N B : Nat} {D : Dk} {s : ByteArray}
theorem setF_mem {f f' : Fl} (e : f'.blk = f.blk) : ∀ x ∈ D.fs, x.blk ≠ f.blk → x ∈ (D.setF f').fs := fun x hx hne => by
  show x ∈ D.fs.map fun g => if g.blk = f'.blk then f' else g
  exact List.mem_map.2 ⟨x, hx, by rw [if_neg (by rw [e]; exact hne)]⟩
theorem setF_self {f f' : Fl} (hf : f ∈ D.fs) (e : f'.blk = f.blk) : f' ∈ (D.setF f').fs := by
  show f' ∈ D.fs.map fun g => if g.blk = f'.blk then f' else g
  exact List.mem_map.2 ⟨f, hf, by rw [if_pos e.symm]⟩
theorem Good.turn (g : Good N B D) {f f' : Fl} (hf : f ∈ D.fs) (e : f'.blk = f.blk) (hs : f'.sure = f.sure) (hb : f'.b.length = f.b.length) : Good N B (D.setF f') := by
  have hm : ∀ x ∈ (D.setF f').fs, x = f' ∨ (x ∈ D.fs ∧ x.blk ≠ f.blk) := fun x hx => by
    obtain ⟨z, hz, rfl⟩ := List.mem_map.1 (show x ∈ D.fs.map fun g => if g.blk = f'.blk then f' else g from hx)
    split
    · exact .inl rfl
    · rename_i h; exact .inr ⟨hz, by rw [← e]; exact h⟩
  have hblk : ∀ b, (∃ x ∈ D.fs, x.blk = b) → ∃ x ∈ (D.setF f').fs, x.blk = b := fun b ⟨x, hx, hb⟩ => by
    by_cases h : x.blk = f.blk
    · exact ⟨f', setF_self hf e, by rw [e, ← h, hb]⟩
    · exact ⟨x, setF_mem e x hx h, hb⟩
  refine ⟨g.ops0, g.opsN, g.nN, g.lN, g.fls, g.room, fun s b h => ⟨(g.dirI s b h).1, hblk b (g.dirI s b h).2⟩, fun s b h => ⟨(g.sureI s b h).1, hblk b (g.sureI s b h).2⟩, g.dinj, g.sinj, fun x n h => hblk x (g.growI x n h), fun s x b1 b2 h => ⟨(g.makeI s x b1 b2 h).1, hblk x (g.makeI s x b1 b2 h).2⟩, g.moveI, fun x hx => ?_, fun x hx => ?_, g.play, g.may, fun x hx y hy hxy => ?_⟩
  · rcases hm x hx with rfl | ⟨h, _⟩
    · rw [hs, hb, e]; exact g.sum f hf
    · exact g.sum x h
  · rcases hm x hx with rfl | ⟨h, _⟩
    · rw [hb]; exact g.big f hf
    · exact g.big x h
  · rcases hm x hx with rfl | ⟨h, hn⟩ <;> rcases hm y hy with rfl | ⟨h2, hn2⟩
    · rfl
    · exact absurd (hxy.symm.trans e) hn2
    · exact absurd (hxy.trans e) hn
    · exact g.uniq x h y h2 hxy
end
end Go.Proofs.YthlmbgaipbjbhaaDoor.L
end
section
namespace Go.Proofs.YthlmbgaipbjbhaaDoor.L
open Go.RowKit Go.Lib Go.Maps Go.Proofs.YthlmbgaipbjbhaaDoor.P
open Go.Proofs.YthlmbgaipbjbhaaDoorW.PrintWords Go.Proofs.YthlmbgaipbjbhaaDoorW.PrintLast Go.Proofs.YthlmbgaipbjbhaaDoorW.PrintMore
set_option linter.unusedVariables false
section
variable {w0 w w' : World} {N B k kc x : Nat} {D D' : Dk} {vg : Value} {G H : List (List ByteArray)} {s : ByteArray}
theorem names_mem {d : Names} {es : List (ByteArray × Nat)} (h : Lists d es) {s : ByteArray} (hs : s ∈ (namesOf es).map (fun b => (⟨b.toArray⟩ : ByteArray))) : ∃ b, d s = some b := by
  obtain ⟨x, hx, rfl⟩ := List.mem_map.1 hs
  have h2 : x ∈ es.map fun p => p.1.data.toList := List.mem_mergeSort.1 hx
  obtain ⟨p, hp, rfl⟩ := List.mem_map.1 h2
  exact ⟨p.2, (h.is p.1 p.2 (h.short p hp)).2 hp⟩
theorem names_w (h : DkAt w D) (g : Good N B D) (hN : N ≤ 4294967296) :
    Calls Tryd.prog 20 #[P D.d] w fun e w' => ∃ v l, e = .returned v ∧ Kd.R Kd.string 9 w' w.heap.size (fun _ => True) v l ∧ Below w.heap.size w w' ∧ l.length ≤ N ∧ ∀ s ∈ l, ∃ b, D.dir s = some b := by
  obtain ⟨es, hes, _, hel⟩ := h.dirM.list
  have hl := Nat.le_trans hel g.nN
  refine (names_calls h es hes (by omega)).mono ?_
  rintro e w' ⟨v, rfl, hr, hb⟩
  exact ⟨v, _, rfl, hr, hb, by simp [namesOf]; exact hl, fun s hs => names_mem hes hs⟩
end
end Go.Proofs.YthlmbgaipbjbhaaDoor.L
end
