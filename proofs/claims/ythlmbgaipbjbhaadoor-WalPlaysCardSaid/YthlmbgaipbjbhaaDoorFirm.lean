/- What a log's file is on a disk: for good, or half done (names and lists alone). -/
import Derived.Test.YthlmbgaipbjbhaaDoorSteps
namespace Go.Proofs.YthlmbgaipbjbhaaDoor.L
open Go.RowKit Go.Lib Go.Maps
open Go.Proofs.YthlmbgaipbjbhaaDoorW.PrintWords Go.Proofs.YthlmbgaipbjbhaaDoorW.PrintLast Go.Proofs.YthlmbgaipbjbhaaDoorW.PrintMore
set_option linter.unusedVariables false
def offN (s : ByteArray) : Ac → Prop
  | .grow _ _ => True
  | .make x _ _ _ => x ≠ s
  | .move x t _ _ => x ≠ s ∧ t ≠ s
  | .gone x _ => x ≠ s
theorem app_offN {s : ByteArray} {a : Ac} (h : offN s a) (d : Names) : a.app d s = d s := by
  cases a with
  | grow f n => rfl
  | make x f b1 b2 => exact if_neg (fun e => h e.symm)
  | move x t b1 b2 => exact (if_neg (fun e => h.1 e.symm)).trans (if_neg (fun e => h.2 e.symm))
  | gone x b1 => exact if_neg (fun e => h e.symm)
theorem replay_offN {s : ByteArray} : ∀ (l : List Ac) (d : Names), (∀ a ∈ l, offN s a) → replay l d s = d s
  | [], _, _ => rfl
  | a :: l, d, h => (replay_offN l (a.app d) (fun x hx => h x (List.mem_cons_of_mem _ hx))).trans (app_offN (h a List.mem_cons_self) d)
structure Firm (D : Dk) (s : ByteArray) (o : Option (List Int)) : Prop where
  eq : D.sure s = D.dir s
  no : o = none → D.dir s = none
  yes : ∀ b, o = some b → ∃ f ∈ D.fs, D.dir s = some f.blk ∧ f.b = b ∧ f.sure = b.length
  acts : ∀ a ∈ D.loose, offN s a
def Cuts (D : Dk) (s : ByteArray) (Q : Option (List Int) → Prop) : Prop :=
  ∀ keep torn : Int, (dirU keep D.loose D.sure D.loose.length s = none → Q none) ∧ ∀ f ∈ D.fs, dirU keep D.loose D.sure D.loose.length s = some f.blk → Q (some (f.b.take (crashN keep torn D f)))
section
variable {w w' : World} {T : ByteArray → Prop} {N M B L : Nat} {D D' : Dk} {s : ByteArray} {o : Option (List Int)} {Q Q' : Option (List Int) → Prop}
theorem Cuts.mono (h : Cuts D s Q) (hq : ∀ o, Q o → Q' o) : Cuts D s Q' := fun k t => ⟨fun e => hq _ ((h k t).1 e), fun f hf e => hq _ ((h k t).2 f hf e)⟩
theorem dirU_off (h : ∀ a ∈ D.loose, offN s a) (keep : Int) : dirU keep D.loose D.sure D.loose.length s = D.sure s := by
  rw [dirU_take _ _ _ _ (Nat.le_refl _)]
  exact replay_offN _ _ (fun a ha => h a (List.mem_of_mem_take ha))
theorem crash_full (g : Good N B D) {f : Fl} (hf : f ∈ D.fs) (hs : f.sure = f.b.length) (keep torn : Int) : f.b.take (crashN keep torn D f) = f.b := by
  have := g.growth hf keep torn
  exact List.take_of_length_le (by omega)
theorem Firm.cuts (h : Firm D s o) (g : Good N B D) (hq : Q o) : Cuts D s Q := fun keep torn => by
  rw [dirU_off h.acts, h.eq]
  cases o with
  | none =>
    have hn := h.no rfl
    exact ⟨fun _ => hq, (fun f hf e => by rw [hn] at e; cases e)⟩
  | some b =>
    obtain ⟨f, hf, hd, hb, hs⟩ := h.yes b rfl
    refine ⟨(fun e => by rw [hd] at e; cases e), fun x hx e => ?_⟩
    rw [hd] at e
    injection e with e
    obtain rfl := g.uniq x hx f hf e.symm
    rw [crash_full g hx (by rw [hs, hb]), hb]
    exact hq
theorem Cuts.crash {keep torn : Int} (h : Cuts D s Q) (g : Good N B D) (g' : Good M B D') (c : Crashed keep torn D D') : ∃ o, Q o ∧ Firm D' s o := by
  obtain ⟨h1, h2⟩ := h keep torn
  have he : D'.sure s = D'.dir s := by rw [c.sure]
  have ha : ∀ a ∈ D'.loose, offN s a := by rw [c.loose]; exact fun a ha => by cases ha
  cases hd : dirU keep D.loose D.sure D.loose.length s with
  | none => exact ⟨none, h1 hd, he, fun _ => c.gone s hd, (fun b e => by cases e), ha⟩
  | some b =>
    obtain ⟨f, hf, rfl⟩ := (g.behind keep s b hd).2
    obtain ⟨f', hf', e1, e2⟩ := c.there s f hf hd
    refine ⟨_, h2 f hf hd, he, (fun e => by cases e), fun b e => ⟨f', hf', e1, ?_, ?_⟩, ha⟩
    · injection e with e; rw [e2, e]
    · injection e with e
      have := g'.sum f' hf'
      rw [c.loose] at this
      simp only [growT, List.map_nil, List.sum_nil, Nat.add_zero] at this
      rw [this, e2, e]
theorem Mid.at_ {f : Fl} {D3 : Dk} (hm : Mid D s D3 f) : f ∈ D3.fs ∧ D3.dir s = some f.blk := by
  rcases hm with ⟨h1, h2, rfl⟩ | ⟨h1, h2, h3, b1, b2, v1, rfl⟩
  · exact ⟨h2, h1⟩
  · refine ⟨by show f ∈ D.fs ++ [f]; simp, ?_⟩
    show (Ac.make s f.blk b1 b2).app D.dir s = _
    simp [Ac.app]
theorem Firm.count (k : Firm D s o) : Firm D.count s o := ⟨k.eq, k.no, k.yes, k.acts⟩
theorem Firm.off (k : Firm D s o) : Firm { D with off := true } s o := ⟨k.eq, k.no, k.yes, k.acts⟩
theorem Firm.cut (k : Firm D s o) (c : Int) (b : Bool) : Firm { D with cut := c, off := b } s o := ⟨k.eq, k.no, k.yes, k.acts⟩
theorem snoc_off {l : List Ac} {a : Ac} (h : ∀ x ∈ l, offN s x) (ha : offN s a) : ∀ x ∈ l ++ [a], offN s x := fun x hx => by
  rcases List.mem_append.1 hx with hx | hx
  · exact h x hx
  · rw [List.mem_singleton.1 hx]; exact ha
theorem Firm.mid (k : Firm D s o) (g : Good N B D) {x : ByteArray} {D3 : Dk} {f : Fl} (hm : Mid D x D3 f) (hs : x ≠ s) : Firm D3 s o ∧ ∀ y ∈ D3.fs, D3.dir s = some y.blk → y.blk ≠ f.blk := by
  rcases hm with ⟨h1, h2, rfl⟩ | ⟨h1, h2, h3, b1, b2, v1, rfl⟩
  · exact ⟨k.count, fun y hy e e2 => hs (g.dinj x s _ h1 (by rw [← e2]; exact e))⟩
  · have hd : (Ac.make x f.blk b1 b2).app D.dir s = D.dir s := app_offN (a := .make x f.blk b1 b2) hs D.dir
    refine ⟨⟨?_, fun e => ?_, fun b e => ?_, snoc_off k.acts hs⟩, fun y hy e e2 => ?_⟩
    · show D.sure s = (Ac.make x f.blk b1 b2).app D.dir s
      rw [hd]; exact k.eq
    · show (Ac.make x f.blk b1 b2).app D.dir s = none
      rw [hd]; exact k.no e
    · obtain ⟨y, hy, e1, e2, e3⟩ := k.yes b e
      exact ⟨y, by show y ∈ D.fs ++ [f]; exact List.mem_append_left _ hy, by show (Ac.make x f.blk b1 b2).app D.dir s = _; rw [hd]; exact e1, e2, e3⟩
    · have e' : D.dir s = some y.blk := by rw [← hd]; exact e
      obtain ⟨_, z, hz, e3⟩ := g.dirI s _ e'
      exact h3 z hz (e3.trans e2)
theorem setF_other {x y f' : Fl} (hx : x ∈ D.fs) (hne : x.blk ≠ f'.blk) : x ∈ (D.setF f').fs := List.mem_map.2 ⟨x, hx, if_neg hne⟩
theorem Firm.step (k : Firm D s o) (g : Good N B D) (h : Stp T L D D') (hT : ∀ x, T x → x ≠ s) : Firm D' s o := by
  cases h with
  | count => exact k.count
  | gone x b1 v1 hs hd =>
    have e : (Ac.gone x b1).app D.dir s = D.dir s := app_offN (a := .gone x b1) (hT x hs) D.dir
    exact ⟨k.eq.trans e.symm, fun h => e.trans (k.no h), fun b hb => by
      obtain ⟨y, hy, e1, e2⟩ := k.yes b hb
      exact ⟨y, hy, e.trans e1, e2⟩, snoc_off k.acts (hT x hs)⟩
  | move x t b1 b2 v1 hs ht hd hn hne =>
    have e : (Ac.move x t b1 b2).app D.dir s = D.dir s := app_offN (a := .move x t b1 b2) ⟨hT x hs, hT t ht⟩ D.dir
    exact ⟨k.eq.trans e.symm, fun h => e.trans (k.no h), fun b hb => by
      obtain ⟨y, hy, e1, e2⟩ := k.yes b hb
      exact ⟨y, hy, e.trans e1, e2⟩, snoc_off k.acts ⟨hT x hs, hT t ht⟩⟩
  | mid x D3 f hs hn hm => exact (k.mid g hm (hT x hs)).1
  | grown x D3 f row lv l hs hn hm hl =>
    obtain ⟨k3, hne⟩ := k.mid g hm (hT x hs)
    exact ⟨k3.eq, k3.no, fun b hb => by
      obtain ⟨y, hy, e1, e2, e3⟩ := k3.yes b hb
      exact ⟨y, setF_other (y := y) hy (hne y hy e1), e1, e2, e3⟩, snoc_off k3.acts trivial⟩
  | strike x f row lv l n hs hf hd hn hl =>
    exact ⟨k.eq, k.no, fun b hb => by
      obtain ⟨y, hy, e1, e2, e3⟩ := k.yes b hb
      exact ⟨y, setF_other (D := D.struckF lv f.blk) (y := y) hy (fun e => hT x hs (g.dinj x s _ hd (by rw [← e]; exact e1))), e1, e2, e3⟩, fun a ha => k.acts a (List.mem_filter.1 ha).1⟩
  | synced lv m =>
    unfold Dk.synced
    split
    · exact ⟨rfl, fun h => k.eq.trans (k.no h), fun b hb => by
        obtain ⟨y, hy, e1, e2⟩ := k.yes b hb
        exact ⟨y, hy, k.eq.trans e1, e2⟩, fun a ha => k.acts a (List.mem_filter.1 ha).1⟩
    · exact ⟨rfl, k.no, k.yes, fun a ha => k.acts a (List.mem_filter.1 ha).1⟩
  | failing x => exact ⟨k.eq, k.no, k.yes, k.acts⟩
theorem grows_off {l : List Ac} : ∀ a ∈ l.filter (fun a => !isDir a), offN s a := fun a ha => by
  obtain ⟨g, n, rfl⟩ := of_not_dir (filter_grows _ a ha)
  trivial
structure Fresh (D : Dk) (s : ByteArray) : Prop where
  sure : D.sure s = none
  dir : ∃ f ∈ D.fs, D.dir s = some f.blk ∧ f.b = [] ∧ f.sure = 0
theorem Firm.created (k : Firm D s none) {D3 : Dk} {f : Fl} (hm : Mid D s D3 f) (g3 : Good M B D3) (hq : Q none) (hq2 : Q (some [])) : Fresh D3 s ∧ Cuts D3 s Q := by
  have hn := k.no rfl
  rcases hm with ⟨h1, _⟩ | ⟨h1, h2, h3, b1, b2, v1, rfl⟩
  · rw [hn] at h1; cases h1
  · have hf : f ∈ D.fs ++ [f] := by simp
    have hfb : f.b = [] := by rw [h2]
    refine ⟨⟨k.eq.trans hn, f, hf, ?_, hfb, by rw [h2]⟩, fun keep torn => ?_⟩
    · show (Ac.make s f.blk b1 b2).app D.dir s = _
      simp [Ac.app]
    · refine ⟨fun _ => hq, fun x hx e => ?_⟩
      have hxb : x.b = [] := by
        rcases List.mem_append.1 (show x ∈ D.fs ++ [f] from hx) with hx' | hx'
        · exfalso
          have e2 : replay ((D.loose ++ [Ac.make s f.blk b1 b2]).take (min (D.loose ++ [Ac.make s f.blk b1 b2]).length keep.toNat)) D.sure s = some x.blk := by
            rw [← dirU_take keep (D.loose ++ [Ac.make s f.blk b1 b2]) D.sure _ (Nat.le_refl _)]; exact e
          rcases Nat.lt_or_ge D.loose.length (min (D.loose ++ [Ac.make s f.blk b1 b2]).length keep.toNat) with hlt | hge
          · rw [List.take_of_length_le (by have := hlt; simp only [List.length_append, List.length_cons, List.length_nil] at this ⊢; omega), replay_append] at e2
            have e3 : (Ac.make s f.blk b1 b2).app (replay D.loose D.sure) s = some x.blk := e2
            have e4 : (Ac.make s f.blk b1 b2).app (replay D.loose D.sure) s = some f.blk := by simp [Ac.app]
            rw [e4] at e3
            injection e3 with e3
            exact h3 x hx' e3.symm
          · rw [List.take_append_of_le_length hge, replay_offN _ _ (fun a ha => k.acts a (List.mem_of_mem_take ha)), k.eq, hn] at e2
            cases e2
        · rw [List.mem_singleton.1 hx']; exact hfb
      rw [hxb]
      simpa using hq2
theorem Fresh.synced (k : Fresh D s) (lv : Value) (m : Nat) : (0 < D.fails D.ops → Firm (D.synced lv m) s none) ∧ (¬ 0 < D.fails D.ops → Firm (D.synced lv m) s (some [])) := by
  obtain ⟨f, hf, h1, h2, h3⟩ := k.dir
  refine ⟨fun h => ?_, fun h => ?_⟩
  · unfold Dk.synced
    rw [if_pos h]
    exact ⟨rfl, fun _ => k.sure, (fun b e => by cases e), grows_off⟩
  · unfold Dk.synced
    rw [if_neg h]
    exact ⟨rfl, (fun e => by cases e), fun b e => by injection e with e; exact ⟨f, hf, h1, by rw [← e]; exact h2, by rw [← e]; exact h3⟩, grows_off⟩
structure Wet (D : Dk) (s : ByteArray) (b l : List Int) : Prop where
  eq : D.sure s = D.dir s
  dir : ∃ f ∈ D.fs, D.dir s = some f.blk ∧ f.b = b ++ l ∧ f.sure = b.length
  acts : ∀ a ∈ D.loose, offN s a
theorem Wet.cuts {b l : List Int} (k : Wet D s b l) (g : Good N B D) (hq : ∀ n, n ≤ l.length → Q (some (b ++ l.take n))) : Cuts D s Q := fun keep torn => by
  obtain ⟨f, hf, h1, h2, h3⟩ := k.dir
  rw [dirU_off k.acts, k.eq, h1]
  refine ⟨(fun e => by cases e), fun x hx e => ?_⟩
  injection e with e
  obtain rfl := g.uniq x hx f hf e.symm
  have h4 := g.growth hx keep torn
  rw [h2, List.length_append] at h4
  rw [h2, show crashN keep torn D x = b.length + (crashN keep torn D x - b.length) by omega, List.take_length_add_append]
  exact hq _ (by omega)
theorem Firm.wet {b l : List Int} (k : Firm D s (some b)) {D3 : Dk} {f : Fl} (hm : Mid D s D3 f) (row lv : Value) (g : Good N B D) : Wet (D3.grown f row lv l) s b l := by
  obtain ⟨x, hx, h1, h2, h3⟩ := k.yes b rfl
  rcases hm with ⟨e1, e2, rfl⟩ | ⟨e1, _⟩
  · rw [h1] at e1
    injection e1 with e1
    obtain rfl := g.uniq x hx f e2 e1
    exact ⟨k.eq, ⟨⟨x.blk, row, x.b ++ l, x.sure⟩, (mem_setF (D := D.count) hx ⟨x.blk, row, x.b ++ l, x.sure⟩ rfl _).2 (.inl rfl), h1, by rw [← h2], h3⟩, snoc_off k.acts trivial⟩
  · rw [h1] at e1; cases e1
theorem Wet.synced {b l : List Int} (k : Wet D s b l) (hn : nameOk s = true) (g : Good N B D) {c : Int} (h : SynTo D s c D') : (c = 34 ∧ 0 < D.fails D.ops ∧ Firm D' s (some b)) ∨ (c = 0 ∧ Firm D' s (some (b ++ l))) := by
  obtain ⟨f, hf, h1, h2, h3⟩ := k.dir
  have hs : startE D true [s] = (decide (0 < D.fails D.ops), 0) := by unfold startE; simp [hn, h1]
  rcases h with ⟨e, e2, _⟩ | ⟨e, e2, x, hx, hxd, lv, row, rfl⟩ | ⟨e, e2, x, hx, hxd, lv, rfl⟩
  · rw [hs] at e
    have e3 : c = 0 := e
    rw [e3] at e2
    rcases e2 with e2 | e2 <;> exact absurd e2 (by decide)
  · refine .inl ⟨e2, ?_, ?_⟩
    · rw [hs] at e; injection e with e _; exact of_decide_eq_true e
    · rw [h1] at hxd
      injection hxd with hxd
      obtain rfl := g.uniq f hf x hx hxd
      refine ⟨k.eq, (fun e => by cases e), fun b' e => ⟨⟨f.blk, row, f.b.take f.sure, f.sure⟩, (mem_setF (D := D.struckF lv f.blk) hx ⟨f.blk, row, f.b.take f.sure, f.sure⟩ rfl _).2 (.inl rfl), h1, ?_, ?_⟩, fun a ha => k.acts a (List.mem_filter.1 ha).1⟩
      · injection e with e
        show f.b.take f.sure = _
        rw [h2, h3, List.take_left, e]
      · injection e with e
        show f.sure = _
        rw [h3, e]
  · refine .inr ⟨e2, ?_⟩
    rw [h1] at hxd
    injection hxd with hxd
    obtain rfl := g.uniq f hf x hx hxd
    refine ⟨k.eq, (fun e => by cases e), fun b' e => ⟨⟨f.blk, f.row, f.b, f.b.length⟩, (mem_setF (D := D.struckF lv f.blk) hx ⟨f.blk, f.row, f.b, f.b.length⟩ rfl _).2 (.inl rfl), h1, ?_, ?_⟩, fun a ha => k.acts a (List.mem_filter.1 ha).1⟩
    · injection e with e
      rw [← e]; exact h2
    · injection e with e
      show f.b.length = _
      rw [← e, h2]
structure Moved (D : Dk) (s : ByteArray) (o : Option (List Int)) (b : List Int) : Prop where
  old : ∀ D1 : Dk, D1.sure = D.sure → D1.dir = D.sure → D1.fs = D.fs → (∀ a ∈ D1.loose, offN s a) → Firm D1 s o
  dir : ∃ f ∈ D.fs, D.dir s = some f.blk ∧ f.b = b ∧ f.sure = b.length
theorem Firm.moved {t : ByteArray} (k : Firm D s o) (hne : t ≠ s) {f : Fl} (hf : f ∈ D.fs) (hd : D.dir t = some f.blk) (hs : f.sure = f.b.length) (g : Good N B D) (b1 b2 : Nat) (v1 : Value)
    (hD : D' = { D with ops := D.ops + 1, n := D.n + 1, dir := (Ac.move t s b1 b2).app D.dir, lv := v1, loose := D.loose ++ [.move t s b1 b2] }) (g' : Good M B D') (hq : Q o) (hq2 : Q (some f.b)) : Moved D' s o f.b ∧ Cuts D' s Q := by
  have hds : (Ac.move t s b1 b2).app D.dir s = some f.blk := by
    show (if s = t then none else if s = s then D.dir t else D.dir s) = _
    rw [if_neg (fun e => hne e.symm), if_pos rfl, hd]
  refine ⟨⟨fun D1 e1 e2 e3 e4 => ?_, ?_⟩, fun keep torn => ?_⟩
  · subst hD
    have e1' : D1.sure = D.sure := e1
    have e2' : D1.dir = D.sure := e2
    have e3' : D1.fs = D.fs := e3
    refine ⟨by rw [e1', e2'], fun e => ?_, fun b e => ?_, e4⟩
    · rw [e2', k.eq]; exact k.no e
    · obtain ⟨x, hx, h1, h2, h3⟩ := k.yes b e
      exact ⟨x, by rw [e3']; exact hx, by rw [e2', k.eq]; exact h1, h2, h3⟩
  · subst hD
    exact ⟨f, hf, hds, rfl, hs⟩
  · subst hD
    have hdu : dirU keep (D.loose ++ [.move t s b1 b2]) D.sure (D.loose ++ [Ac.move t s b1 b2]).length s = D.dir s ∨ dirU keep (D.loose ++ [.move t s b1 b2]) D.sure (D.loose ++ [Ac.move t s b1 b2]).length s = some f.blk := by
      rw [dirU_take keep (D.loose ++ [Ac.move t s b1 b2]) D.sure _ (Nat.le_refl _)]
      rcases Nat.lt_or_ge D.loose.length (min (D.loose ++ [Ac.move t s b1 b2]).length keep.toNat) with hlt | hge
      · right
        rw [List.take_of_length_le (by have := hlt; simp only [List.length_append, List.length_cons, List.length_nil] at this ⊢; omega), replay_append, g.play]
        exact hds
      · left
        rw [List.take_append_of_le_length hge, replay_offN _ _ (fun a ha => k.acts a (List.mem_of_mem_take ha)), k.eq]
    have hnew : ∀ x ∈ D.fs, dirU keep (D.loose ++ [.move t s b1 b2]) D.sure (D.loose ++ [Ac.move t s b1 b2]).length s = some x.blk → x.blk = f.blk → Q (some (x.b.take (crashN keep torn { D with ops := D.ops + 1, n := D.n + 1, dir := (Ac.move t s b1 b2).app D.dir, lv := v1, loose := D.loose ++ [.move t s b1 b2] } x))) := fun x hx _ e => by
      obtain rfl := g.uniq x hx f hf e
      rw [crash_full g' hx hs]; exact hq2
    rcases hdu with hdu | hdu
    · cases ho : o with
      | none =>
        have hn := k.no ho
        refine ⟨fun _ => by rw [← ho]; exact hq, fun x hx e => ?_⟩
        have e' := hdu.symm.trans e
        rw [hn] at e'; cases e'
      | some b =>
        obtain ⟨y, hy, h1, h2, h3⟩ := k.yes b ho
        refine ⟨fun e => ?_, fun x hx e => ?_⟩
        · have e' := hdu.symm.trans e
          rw [h1] at e'; cases e'
        · have e' := hdu.symm.trans e
          rw [h1] at e'
          injection e' with e'
          obtain rfl := g.uniq x hx y hy e'.symm
          rw [crash_full g' hx (by rw [h3, h2]), h2, ← ho]; exact hq
    · refine ⟨fun e => ?_, fun x hx e => ?_⟩
      · have e' := hdu.symm.trans e
        cases e'
      · have e' := hdu.symm.trans e
        injection e' with e'
        exact hnew x hx e e'.symm
theorem Moved.synced {b : List Int} (k : Moved D s o b) (lv : Value) (m : Nat) : (0 < D.fails D.ops → Firm (D.synced lv m) s o) ∧ (¬ 0 < D.fails D.ops → Firm (D.synced lv m) s (some b)) := by
  obtain ⟨f, hf, h1, h2, h3⟩ := k.dir
  refine ⟨fun h => ?_, fun h => ?_⟩
  · unfold Dk.synced
    rw [if_pos h]
    exact k.old _ rfl rfl rfl grows_off
  · unfold Dk.synced
    rw [if_neg h]
    exact ⟨rfl, (fun e => by cases e), fun b' e => by injection e with e; exact ⟨f, hf, h1, by rw [← e]; exact h2, by rw [← e]; exact h3⟩, grows_off⟩
end
end Go.Proofs.YthlmbgaipbjbhaaDoor.L
