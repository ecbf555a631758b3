/- Crash, of a disk of which what holds between calls is known. Each call on a live disk: a step. -/
import Derived.Test.YthlmbgaipbjbhaaDoorGood
section
namespace Go.Proofs.YthlmbgaipbjbhaaDoor.L
open Go.RowKit Go.Lib Go.Maps
open Go.Proofs.YthlmbgaipbjbhaaDoorW.PrintWords Go.Proofs.YthlmbgaipbjbhaaDoorW.PrintLast Go.Proofs.YthlmbgaipbjbhaaDoorW.PrintMore
theorem growT_take_succ {l : List Ac} {k : Nat} (hk : k < l.length) (b : Nat) : growT (l.take (k + 1)) b = growT (l.take k) b + gw b l[k] := by
  rw [List.take_succ_eq_append_getElem hk, growT_append, growT_cons]; rfl
theorem growT_take_le (l : List Ac) (k b : Nat) : growT (l.take k) b ≤ growT l b := by
  have h := growT_append (l.take k) (l.drop k) b
  rw [List.take_append_drop] at h
  omega
theorem growU_bd (keep torn : Int) (l : List Ac) (b : Nat) : ∀ k, k ≤ l.length → 0 ≤ growU keep torn l k b ∧ growU keep torn l k b ≤ growT (l.take k) b
  | 0, _ => ⟨Int.le_refl _, by simp [growU, growT]⟩
  | k + 1, hk => by
    have ih := growU_bd keep torn l b k (by omega)
    rw [growU_step (by omega), growT_take_succ (by omega)]
    have hh : ∀ a : Ac, 0 ≤ acG keep torn k a (growU keep torn l k) b ∧ acG keep torn k a (growU keep torn l k) b ≤ (growT (l.take k) b : Int) + gw b a := fun a => by
      cases a with
      | grow f n =>
        simp only [acG, gw]
        by_cases e : f = b
        · subst e
          rw [if_pos rfl]
          split
          · simp only [addG, if_true]; omega
          · split
            · simp only [addG, if_true]; omega
            · omega
        · rw [if_neg e]
          have e2 : ¬ b = f := fun h => e h.symm
          split
          · simp only [addG, if_neg e2]; omega
          · split
            · simp only [addG, if_neg e2]; omega
            · omega
      | _ => simp only [acG, gw]; omega
    have := hh (l[k]'(by omega))
    omega
theorem dirU_take (keep : Int) (l : List Ac) (d0 : Names) : ∀ k, k ≤ l.length → dirU keep l d0 k = replay (l.take (min k keep.toNat)) d0
  | 0, _ => by simp [dirU, replay]
  | k + 1, hk => by
    rw [dirU_step (by omega), dirU_take keep l d0 k (by omega)]
    by_cases h : (k : Int) < keep
    · rw [if_pos h, show min (k + 1) keep.toNat = k + 1 by omega, show min k keep.toNat = k by omega, List.take_succ_eq_append_getElem (by omega), replay_append]
      rfl
    · rw [if_neg h, show min (k + 1) keep.toNat = min k keep.toNat by omega]
theorem plays_at : ∀ (l : List Ac) (d0 : Names), plays l d0 → ∀ k (hk : k < l.length), l[k].may (replay (l.take k) d0)
  | a :: l, d0, h, 0, _ => h.1
  | a :: l, d0, h, k + 1, hk => plays_at l (a.app d0) h.2 k (by simpa using hk)
theorem replay_in (S : Nat → Prop) : ∀ (l : List Ac) (d0 : Names), (∀ s b, d0 s = some b → nameOk s = true ∧ S b) → (∀ s f b1 b2, Ac.make s f b1 b2 ∈ l → nameOk s = true ∧ S f) → (∀ s t b1 b2, Ac.move s t b1 b2 ∈ l → nameOk t = true) → ∀ s b, replay l d0 s = some b → nameOk s = true ∧ S b
  | [], d0, h0, _, _ => h0
  | a :: l, d0, h0, hm, hv => by
    refine replay_in S l (a.app d0) (fun s b hs => ?_) (fun s f b1 b2 h => hm s f b1 b2 (List.mem_cons_of_mem _ h)) (fun s t b1 b2 h => hv s t b1 b2 (List.mem_cons_of_mem _ h))
    cases a with
    | grow => exact h0 s b hs
    | make s' f b1 b2 =>
      simp only [Ac.app] at hs
      split at hs
      · rename_i e
        injection hs with hs
        subst hs; subst e
        exact hm _ _ b1 b2 List.mem_cons_self
      · exact h0 s b hs
    | move x t b1 b2 =>
      simp only [Ac.app] at hs
      split at hs
      · cases hs
      · split at hs
        · rename_i e
          subst e
          exact ⟨hv _ _ b1 b2 List.mem_cons_self, (h0 _ b hs).2⟩
        · exact h0 s b hs
    | gone x b1 =>
      simp only [Ac.app] at hs
      split at hs
      · cases hs
      · exact h0 s b hs
section
variable {w : World} {N B : Nat} {D : Dk}
theorem Good.behind (h : Good N B D) (keep : Int) : ∀ s b, dirU keep D.loose D.sure D.loose.length s = some b → nameOk s = true ∧ ∃ f ∈ D.fs, f.blk = b := by
  rw [dirU_take _ _ _ _ (Nat.le_refl _)]
  exact replay_in (fun b => ∃ f ∈ D.fs, f.blk = b) _ _ h.sureI (fun s f b1 b2 hm => h.makeI s f b1 b2 (List.mem_of_mem_take hm)) (fun s t b1 b2 hm => h.moveI s t b1 b2 (List.mem_of_mem_take hm))
theorem Good.growth (h : Good N B D) {f : Fl} (hf : f ∈ D.fs) (keep torn : Int) : f.sure ≤ crashN keep torn D f ∧ crashN keep torn D f ≤ f.b.length := by
  have h1 := growU_bd keep torn D.loose f.blk D.loose.length (Nat.le_refl _)
  rw [List.take_length] at h1
  have h2 := h.sum f hf
  unfold crashN
  omega
theorem growT_zero_of {l : List Ac} {b : Nat} (h : ∀ g n, Ac.grow g n ∈ l → g ≠ b) : growT l b = 0 :=
  growT_zero b l (fun a ha => by
    cases a with
    | grow g n => exact if_neg (h g n ha)
    | _ => rfl)
structure Crashed (keep torn : Int) (D D' : Dk) : Prop where
  gone : ∀ s, dirU keep D.loose D.sure D.loose.length s = none → D'.dir s = none
  there : ∀ s, ∀ f ∈ D.fs, dirU keep D.loose D.sure D.loose.length s = some f.blk → ∃ f' ∈ D'.fs, D'.dir s = some f'.blk ∧ f'.b = f.b.take (crashN keep torn D f)
  loose : D'.loose = []
  ops : D'.ops = 0
  cut : D'.cut = -1
  off : D'.off = false
  fails : ∀ k, D'.fails k = 0
  room : D'.room = D.room
  sure : D'.sure = D'.dir
theorem name_max {s : ByteArray} (h : nameOk s = true) : s.size ≤ maxLen := by
  have := name_short h
  unfold maxLen; omega
theorem fs_blks (h : DkAt w D) : D.fs.Pairwise (fun a b => a.blk ≠ b.blk) := by
  have hnd := h.nodup
  simp only [Dk.own, List.nodup_cons] at hnd
  have h2 := (List.nodup_append.1 hnd.2.2.2.2).2.1
  exact (flat_apart h2).imp (fun {a b} hab e => hab a.blk List.mem_cons_self (by rw [e]; exact List.mem_cons_self))
theorem find_named : ∀ {ps : List (ByteArray × Fl)}, (ps.map (·.1)).Nodup → ∀ p ∈ ps, ps.find? (fun q => decide (q.1 = p.1)) = some p
  | q :: ps, hn, p, hp => by
    rw [List.map_cons, List.nodup_cons] at hn
    by_cases e : q.1 = p.1
    · rw [List.find?_cons_of_pos (by simpa using e)]
      rcases List.mem_cons.1 hp with rfl | hp
      · rfl
      · exact absurd (by rw [e]; exact List.mem_map_of_mem hp) hn.1
    · rw [List.find?_cons_of_neg (by simpa using e)]
      rcases List.mem_cons.1 hp with rfl | hp
      · exact absurd rfl e
      · exact find_named hn.2 p hp
theorem dirOf_mem {ps : List (ByteArray × Fl)} (hn : (ps.map (·.1)).Nodup) {p : ByteArray × Fl} (hp : p ∈ ps) : dirOf ps p.1 = some p.2.blk := by
  unfold dirOf
  rw [find_named hn p hp]; rfl
theorem dirOf_some {ps : List (ByteArray × Fl)} {s : ByteArray} {b : Nat} (h : dirOf ps s = some b) : ∃ p ∈ ps, p.1 = s ∧ p.2.blk = b := by
  unfold dirOf at h
  cases hf : ps.find? (fun q => decide (q.1 = s)) with
  | none => rw [hf] at h; cases h
  | some p =>
    rw [hf] at h
    injection h with h
    exact ⟨p, List.mem_of_find?_eq_some hf, by simpa using List.find?_some hf, h⟩
theorem pair_inj {α : Type} {ps : List α} {g : α → Nat} (h : ps.Pairwise (fun a b => g a ≠ g b)) {p q : α} (hp : p ∈ ps) (hq : q ∈ ps) (e : g p = g q) : p = q := by
  obtain ⟨i, hi, rfl⟩ := List.mem_iff_getElem.1 hp
  obtain ⟨j, hj, rfl⟩ := List.mem_iff_getElem.1 hq
  rcases Nat.lt_trichotomy i j with h1 | h1 | h1
  · exact absurd e (List.pairwise_iff_getElem.1 h i j hi hj h1)
  · subst h1; rfl
  · exact absurd e.symm (List.pairwise_iff_getElem.1 h j i hj hi h1)
theorem crash_good (h : DkAt w D) (g : Good N B D) (hN : N < 1152921504606846976) (hB : B ≤ 140737488355327) (keep torn : Int) :
    Calls Tryd.prog 13 #[P D.d, .int .i64 keep, .int .i64 torn] w fun e w' => ∃ D', e = .returned (P D'.d) ∧ DkAt w' D' ∧ Good (N + N) B D' ∧ Crashed keep torn D D' ∧ Below w.heap.size w w' ∧ (∀ j ∈ D'.own, w.heap.size ≤ j) ∧ w.heap.size ≤ D'.d := by
  have hgr := fun f => growU_bd keep torn D.loose f
  have hbd : ∀ f ∈ D.fs, growT D.loose f.blk ≤ B := fun f hf => by have := g.sum f hf; have := g.big f hf; omega
  refine (crash_calls h keep torn (by have := g.nN; have := g.lN; unfold maxLen; omega) (fun k hk hlt => ?_) (fun k hk b => ?_) g.growI g.room (fun s b hs => (g.behind keep s b hs).2) (fun f hf => ⟨(g.growth hf keep torn).2, Nat.le_trans (g.big f hf) hB⟩)).mono ?_
  · have hp := plays_at D.loose D.sure g.may k hk
    rw [dirU_take _ _ _ _ (by omega), show min k keep.toNat = k by omega]
    exact hp
  · refine ⟨(hgr b k hk).1, ?_⟩
    have h1 := (hgr b k hk).2
    have h2 := growT_take_le D.loose k b
    have h3 : growT D.loose b ≤ B := by
      by_cases hx : ∃ f ∈ D.fs, f.blk = b
      · obtain ⟨f, hf, rfl⟩ := hx
        exact hbd f hf
      · rw [growT_zero_of (fun x n hm e => hx (by obtain ⟨f, hf, e2⟩ := g.growI x n hm; exact ⟨f, hf, e2.trans e⟩))]
        exact Nat.zero_le _
    omega
  · rintro e w' ⟨k, es, ps, m, rfl, hk, hes, hin, hcp, hnd, hlen, hel, hat, hb, hown⟩
    have hpair : ps.Pairwise (fun a b => a.2.blk ≠ b.2.blk) := by
      have := fs_blks hat
      have h2 : (ps.map (·.2)).Pairwise (fun a b => a.blk ≠ b.blk) := this
      rw [List.pairwise_map] at h2
      exact h2
    have hlen2 : ∀ p ∈ ps, p.2.sure = p.2.b.length := fun p hp => by
      obtain ⟨f, hf, _, hb2, hs2⟩ := hcp p hp
      rw [hb2, hs2, List.length_take]
      have := (g.growth hf keep torn).2
      omega
    have hdi : ∀ s b, dirOf ps s = some b → nameOk s = true ∧ ∃ f ∈ ps.map (·.2), f.blk = b := fun s b hs => by
      obtain ⟨p, hp, rfl, rfl⟩ := dirOf_some hs
      obtain ⟨f, hf, hd, _⟩ := hcp p hp
      exact ⟨(g.behind keep _ _ hd).1, p.2, List.mem_map_of_mem hp, rfl⟩
    have hij : ∀ s t b, dirOf ps s = some b → dirOf ps t = some b → s = t := fun s t b hs ht => by
      obtain ⟨p, hp, rfl, rfl⟩ := dirOf_some hs
      obtain ⟨q, hq, rfl, hqb⟩ := dirOf_some ht
      rw [pair_inj hpair hp hq hqb.symm]
    refine ⟨_, rfl, hat, ⟨Int.le_refl _, Int.natCast_nonneg _, ?_, Nat.zero_le _, fun _ => ⟨Int.le_refl _, Int.natCast_nonneg _⟩, g.room, hdi, hdi, hij, hij, (fun _ _ h => by cases h), (fun _ _ _ _ h => by cases h), (fun _ _ _ _ h => by cases h), fun f hf => ?_, fun f hf => ?_, rfl, trivial, fun f hf x hx e => ?_⟩, ⟨fun s hs => ?_, fun s f hf hs => ?_, rfl, rfl, rfl, rfl, fun _ => rfl, rfl, rfl⟩, hb, hown, ?_⟩
    · show ps.length ≤ _
      have := g.nN; have := g.lN
      omega
    · obtain ⟨p, hp, rfl⟩ := List.mem_map.1 (show f ∈ ps.map (·.2) from hf)
      exact hlen2 p hp
    · obtain ⟨p, hp, rfl⟩ := List.mem_map.1 (show f ∈ ps.map (·.2) from hf)
      obtain ⟨x, hx, _, hb2, _⟩ := hcp p hp
      rw [hb2, List.length_take]
      have := g.big x hx
      omega
    · obtain ⟨p, hp, rfl⟩ := List.mem_map.1 (show f ∈ ps.map (·.2) from hf)
      obtain ⟨q, hq, rfl⟩ := List.mem_map.1 (show x ∈ ps.map (·.2) from hx)
      rw [pair_inj hpair hp hq e]
    · show dirOf ps s = none
      cases hd : dirOf ps s with
      | none => rfl
      | some b =>
        obtain ⟨p, hp, rfl, _⟩ := dirOf_some hd
        obtain ⟨f, _, h2, _⟩ := hcp p hp
        rw [hs] at h2; cases h2
    · have hok := (g.behind keep s _ hs).1
      have hme := (hes.is s f.blk (name_max hok)).1 hs
      obtain ⟨p, hp, e⟩ := List.mem_map.1 (hin _ hme)
      obtain ⟨x, hx, hd, hb2, _⟩ := hcp p hp
      have hs2 : p.1 = s := e
      rw [hs2, hs] at hd
      injection hd with hd
      have hfx := g.uniq f hf x hx hd
      refine ⟨p.2, List.mem_map_of_mem hp, ?_, by rw [hfx]; exact hb2⟩
      show dirOf ps s = _
      rw [← hs2]; exact dirOf_mem hnd hp
    · show _ ≤ k + 3
      omega
end
end Go.Proofs.YthlmbgaipbjbhaaDoor.L
end
section
namespace Go.Proofs.YthlmbgaipbjbhaaDoor.L
open Go.RowKit Go.Lib Go.Maps
open Go.Proofs.YthlmbgaipbjbhaaDoorW.PrintWords Go.Proofs.YthlmbgaipbjbhaaDoorW.PrintLast Go.Proofs.YthlmbgaipbjbhaaDoorW.PrintMore
inductive Stp (T : ByteArray → Prop) (L : Nat) (D : Dk) : Dk → Prop where
  | count : Stp T L D D.count
  | gone (s : ByteArray) (b1 : Nat) (v1 : Value) (hs : T s) (hd : (D.dir s).isSome = true) : Stp T L D { D with ops := D.ops + 1, n := D.n + 1, dir := (Ac.gone s b1).app D.dir, lv := v1, loose := D.loose ++ [.gone s b1] }
  | move (s t : ByteArray) (b1 b2 : Nat) (v1 : Value) (hs : T s) (ht : T t) (hd : (D.dir s).isSome = true) (hn : nameOk t = true) (hne : s ≠ t) : Stp T L D { D with ops := D.ops + 1, n := D.n + 1, dir := (Ac.move s t b1 b2).app D.dir, lv := v1, loose := D.loose ++ [.move s t b1 b2] }
  | mid (s : ByteArray) (D3 : Dk) (f : Fl) (hs : T s) (hn : nameOk s = true) (hm : Mid D s D3 f) : Stp T L D D3
  | grown (s : ByteArray) (D3 : Dk) (f : Fl) (row lv : Value) (l : List Int) (hs : T s) (hn : nameOk s = true) (hm : Mid D s D3 f) (hl : l.length ≤ L) : Stp T L D (D3.grown f row lv l)
  | strike (s : ByteArray) (f : Fl) (row lv : Value) (l : List Int) (n : Nat) (hs : T s) (hf : f ∈ D.fs) (hd : D.dir s = some f.blk) (hn : n = l.length) (hl : l.length ≤ f.b.length) : Stp T L D ((D.struckF lv f.blk).setF ⟨f.blk, row, l, n⟩)
  | synced (lv : Value) (m : Nat) : Stp T L D (D.synced lv m)
  | failing (x : Int) : Stp T L D { D with n := D.n + 1, fails := fun t => if t = x then D.fails x + 1 else D.fails t }
section
variable {T : ByteArray → Prop} {N B L : Nat} {D D' : Dk}
theorem Mid.same {s : ByteArray} {f : Fl} (h : Mid D s D' f) : D'.cut = D.cut ∧ D'.off = D.off ∧ D'.d = D.d ∧ D'.room = D.room ∧ D'.fails = D.fails ∧ D'.ops = D.ops + 1 ∧ D'.sure = D.sure := by
  rcases h with ⟨_, _, rfl⟩ | ⟨_, _, _, b1, b2, v1, rfl⟩
  · exact ⟨rfl, rfl, rfl, rfl, rfl, rfl, rfl⟩
  · exact ⟨rfl, rfl, rfl, rfl, rfl, rfl, rfl⟩
theorem Stp.same (h : Stp T L D D') : D'.cut = D.cut ∧ D'.off = D.off ∧ D'.d = D.d ∧ D'.room = D.room := by
  cases h with
  | mid s _ f hs hn hm => exact ⟨hm.same.1, hm.same.2.1, hm.same.2.2.1, hm.same.2.2.2.1⟩
  | grown s D3 f row lv l hs hn hm hl => exact ⟨hm.same.1, hm.same.2.1, hm.same.2.2.1, hm.same.2.2.2.1⟩
  | synced lv m => unfold Dk.synced; split <;> exact ⟨rfl, rfl, rfl, rfl⟩
  | _ => exact ⟨rfl, rfl, rfl, rfl⟩
theorem Stp.good (h : Stp T L D D') (g : Good N B D) : Good (N + 2) (B + L) D' := by
  have up : ∀ {D2 : Dk}, Good (N + 1) B D2 → Good (N + 2) (B + L) D2 := fun hg => hg.mono (by omega) (by omega)
  cases h with
  | count => exact up g.count
  | gone s b1 v1 hs hd => exact up (g.gone v1)
  | move s t b1 b2 v1 hs ht hd hn hne => exact up (g.move v1 hd hn)
  | mid s D3 f hs hn hm => exact up (g.mid hm hn).1
  | grown s D3 f row lv l hs hn hm hl =>
    obtain ⟨h1, h2, _⟩ := g.mid hm hn
    exact h1.grown h2 row lv l (by omega) (by have := h1.big f h2; omega)
  | strike s f row lv l n hs hf hd hn hl => exact up (g.strike hf row lv l n hn (Nat.le_trans hl (g.big f hf)))
  | synced lv m => exact up (g.synced lv m)
  | failing x => exact up (g.failing x)
theorem Stp.live (h : Stp T L D D') (hc : D.cut < 0) (ho : D.off = false) : D'.cut < 0 ∧ D'.off = false := by
  have := h.same
  rw [this.1, this.2.1]; exact ⟨hc, ho⟩
theorem live_of (hc : D.cut < 0) (ho : D.off = false) : D.dead = false := by
  unfold Dk.dead
  rw [ho, decide_eq_false (by omega : ¬ 0 ≤ D.cut)]; rfl
theorem Stp.wider {T' : ByteArray → Prop} {L' : Nat} (h : Stp T L D D') (hT : ∀ s, T s → T' s) (hL : L ≤ L') : Stp T' L' D D' := by
  cases h with
  | count => exact .count
  | gone s b1 v1 hs hd => exact .gone s b1 v1 (hT s hs) hd
  | move s t b1 b2 v1 hs ht hd hn hne => exact .move s t b1 b2 v1 (hT s hs) (hT t ht) hd hn hne
  | mid s D3 f hs hn hm => exact .mid s _ f (hT s hs) hn hm
  | grown s D3 f row lv l hs hn hm hl => exact .grown s D3 f row lv l (hT s hs) hn hm (Nat.le_trans hl hL)
  | strike s f row lv l n hs hf hd hn hl => exact .strike s f row lv l n (hT s hs) hf hd hn hl
  | synced lv m => exact .synced lv m
  | failing x => exact .failing x
end
def AppTo (D : Dk) (s : ByteArray) (l : List Int) (c : Int) (D' : Dk) : Prop :=
  (c ≠ 0 ∧ D' = D.count) ∨ (c = 0 ∧ nameOk s = true ∧ ∃ D3 f, Mid D s D3 f ∧ ((l = [] ∧ D' = D3) ∨ (l ≠ [] ∧ ∃ row lv, D' = D3.grown f row lv l)))
def SynTo (D : Dk) (s : ByteArray) (c : Int) (D' : Dk) : Prop :=
  (c = (startE D true [s]).2 ∧ (c = 30 ∨ c = 32) ∧ D' = D.count) ∨ (startE D true [s] = (true, 0) ∧ c = 34 ∧ ∃ f ∈ D.fs, D.dir s = some f.blk ∧ ∃ lv row, D' = (D.struckF lv f.blk).setF ⟨f.blk, row, f.b.take f.sure, f.sure⟩) ∨
    (startE D true [s] = (false, 0) ∧ c = 0 ∧ ∃ f ∈ D.fs, D.dir s = some f.blk ∧ ∃ lv, D' = (D.struckF lv f.blk).setF ⟨f.blk, f.row, f.b, f.b.length⟩)
def RenTo (D : Dk) (s t : ByteArray) (c : Int) (D' : Dk) : Prop :=
  ((c ≠ 0 ∨ s = t) ∧ D' = D.count) ∨ (c = 0 ∧ s ≠ t ∧ (D.dir s).isSome = true ∧ nameOk t = true ∧ ∃ b1 b2 v1, D' = { D with ops := D.ops + 1, n := D.n + 1, dir := (Ac.move s t b1 b2).app D.dir, lv := v1, loose := D.loose ++ [.move s t b1 b2] })
def RemTo (D : Dk) (s : ByteArray) (c : Int) (D' : Dk) : Prop :=
  (c ≠ 0 ∧ D' = D.count) ∨ (c = 0 ∧ (D.dir s).isSome = true ∧ ∃ b1 v1, D' = { D with ops := D.ops + 1, n := D.n + 1, dir := (Ac.gone s b1).app D.dir, lv := v1, loose := D.loose ++ [.gone s b1] })
section
variable {w : World} {N B L : Nat} {D D' : Dk}
theorem AppTo.stp {s : ByteArray} {l : List Int} {c : Int} (h : AppTo D s l c D') : Stp (fun x => x = s) l.length D D' := by
  rcases h with ⟨_, rfl⟩ | ⟨_, hn, D3, f, hm, ⟨_, rfl⟩ | ⟨_, row, lv, rfl⟩⟩
  · exact .count
  · exact .mid s _ f rfl hn hm
  · exact .grown s D3 f row lv l rfl hn hm (Nat.le_refl _)
theorem SynTo.stp {s : ByteArray} {c : Int} (h : SynTo D s c D') (g : Good N B D) : Stp (fun x => x = s) 0 D D' := by
  rcases h with ⟨_, _, rfl⟩ | ⟨_, _, f, hf, hd, lv, row, rfl⟩ | ⟨_, _, f, hf, hd, lv, rfl⟩
  · exact .count
  · have := g.sum f hf
    exact .strike s f row lv _ _ rfl hf hd (by rw [List.length_take]; omega) (by rw [List.length_take]; omega)
  · exact .strike s f f.row lv _ _ rfl hf hd rfl (Nat.le_refl _)
theorem RenTo.stp {s t : ByteArray} {c : Int} (h : RenTo D s t c D') : Stp (fun x => x = s ∨ x = t) 0 D D' := by
  rcases h with ⟨_, rfl⟩ | ⟨_, hne, hs, ht, b1, b2, v1, rfl⟩
  · exact .count
  · exact .move s t b1 b2 v1 (.inl rfl) (.inr rfl) hs ht hne
theorem RemTo.stp {s : ByteArray} {c : Int} (h : RemTo D s c D') : Stp (fun x => x = s) 0 D D' := by
  rcases h with ⟨_, rfl⟩ | ⟨_, hs, b1, v1, rfl⟩
  · exact .count
  · exact .gone s b1 v1 rfl hs
theorem Good.lims (g : Good N B D) (hN : N < 4294967200) : 0 ≤ D.ops ∧ D.ops < 4611686018427387904 ∧ D.n < maxLen ∧ D.loose.length < 4294967290 ∧ D.loose.length < 4294967296 := by
  have := g.ops0; have := g.opsN; have := g.nN; have := g.lN
  unfold maxLen
  omega
theorem startE_two (D : Dk) (must : Bool) (l : List ByteArray) : startE D must l = (false, 30) ∨ startE D must l = (false, 32) ∨ startE D must l = (true, 0) ∨ startE D must l = (false, 0) := by
  unfold startE
  split
  · split
    · exact .inr (.inl rfl)
    · by_cases h : 0 < D.fails D.ops
      · rw [decide_eq_true h]; exact .inr (.inr (.inl rfl))
      · rw [decide_eq_false h]; exact .inr (.inr (.inr rfl))
  · exact .inl rfl
theorem startE_there {s : ByteArray} {fl : Bool} (h : startE D true [s] = (fl, 0)) : nameOk s = true ∧ (D.dir s).isSome = true := by
  unfold startE at h
  by_cases h1 : [s].all nameOk = true
  · rw [if_pos h1] at h
    by_cases h2 : (true && (D.dir ([s].headD ByteArray.empty)).isNone) = true
    · rw [if_pos h2] at h
      injection h with _ h; cases h
    · refine ⟨by simpa using h1, ?_⟩
      simp only [Bool.true_and, List.headD] at h2
      cases hd : D.dir s with
      | none => rw [hd] at h2; exact absurd rfl h2
      | some _ => rfl
  · rw [if_neg h1] at h
    injection h with _ h; cases h
theorem total_le (g : Good N B D) (h : DkAt w D) {es : List (ByteArray × Nat)} (hes : Lists D.dir es) : total D.len es ≤ es.length * B := by
  have hall : ∀ p ∈ es, D.len p.2 ≤ B := fun p hp => by
    obtain ⟨f, hf, e⟩ := (g.dirI p.1 p.2 ((hes.is p.1 p.2 (hes.short p hp)).2 hp)).2
    rw [← e, len_is h hf]; exact g.big f hf
  clear hes
  unfold total
  induction es with
  | nil => simp
  | cons p es ih =>
    rw [List.map_cons, List.sum_cons, List.length_cons, Nat.add_mul]
    have h1 := hall p List.mem_cons_self
    have h2 := ih (fun q hq => hall q (List.mem_cons_of_mem _ hq))
    omega
theorem append_st (h : DkAt w D) (g : Good N B D) (hd : D.dead = false) (hN : N < 1048576) (hB : B < 1099511627776) (s : ByteArray) (A : Option Addr) (l : List Int) (c : Nat) (hl : l.length < 1099511627776) (hC : ∀ W, Fr D.own w W → Kd.C kB W A l.length l) :
    Calls Tryd.prog 49 #[P D.d, .string s, .slice A l.length c] w fun e w' => ∃ es D', Lists D.dir es ∧ es.length ≤ N ∧ e = .returned (.int .i64 (appE D s (total D.len es) l.length)) ∧ Goes w w' D D' ∧ AppTo D s l (appE D s (total D.len es) l.length) D' := by
  obtain ⟨es, hes, _, hel⟩ := h.dirM.list
  obtain ⟨h0, h1, h2, h3, h4⟩ := g.lims (by omega)
  have hin : ∀ p ∈ es, ∃ f ∈ D.fs, f.blk = p.2 := fun p hp => (g.dirI p.1 p.2 ((hes.is p.1 p.2 (hes.short p hp)).2 hp)).2
  have hen : es.length ≤ N := Nat.le_trans hel g.nN
  have ht := total_le g h hes
  have hsum : total D.len es < 4611686018427387904 := by
    have h5 : es.length * B ≤ 1048576 * 1099511627776 := Nat.mul_le_mul (by omega) (by omega)
    omega
  by_cases hc : appE D s (total D.len es) l.length = 0
  · refine (append_ok h hd h0 h1 h2 h3 s A l c (by omega) hC es hes hin hsum hc (fun f hf => by have := g.big f hf; omega) (fun fb hfb => (g.dirI s fb hfb).2)).mono ?_
    rintro e w' ⟨rfl, D3, f, hm, k1, k2⟩
    have hn : nameOk s = true := by
      unfold appE at hc
      rcases startE_two D false [s] with e | e | e | e
      · rw [e] at hc; simp at hc
      · rw [e] at hc; simp at hc
      · exact (by unfold startE at e; by_cases hx : [s].all nameOk = true
                  · simpa using hx
                  · rw [if_neg hx] at e; injection e with _ e; cases e)
      · exact (startE_name e).1
    by_cases hnil : l = []
    · exact ⟨es, D3, hes, hen, by rw [hc], k1 hnil, .inr ⟨hc, hn, D3, f, hm, .inl ⟨hnil, rfl⟩⟩⟩
    · obtain ⟨row, lv, gg⟩ := k2 hnil
      exact ⟨es, _, hes, hen, by rw [hc], gg, .inr ⟨hc, hn, D3, f, hm, .inr ⟨hnil, row, lv, rfl⟩⟩⟩
  · refine (append_no h hd h0 h1 s A l.length c (by omega) es hes hin hsum hc).mono ?_
    rintro e w' ⟨rfl, gg⟩
    exact ⟨es, _, hes, hen, rfl, gg, .inl ⟨hc, rfl⟩⟩
theorem sync_st (h : DkAt w D) (g : Good N B D) (hd : D.dead = false) (hN : N < 1048576) (s : ByteArray) :
    Calls Tryd.prog 51 #[P D.d, .string s] w fun e w' => ∃ (c : Int) (D' : Dk), e = .returned (.int .i64 c) ∧ Goes w w' D D' ∧ SynTo D s c D' := by
  obtain ⟨h0, h1, h2, h3, h4⟩ := g.lims (by omega)
  have file : ∀ {fl : Bool}, startE D true [s] = (fl, 0) → s.size ≤ 80 ∧ ∃ f ∈ D.fs, D.dir s = some f.blk := fun he => by
    obtain ⟨hn, hi⟩ := startE_there he
    obtain ⟨b, hb⟩ := Option.isSome_iff_exists.1 hi
    obtain ⟨f, hf, e⟩ := (g.dirI s b hb).2
    exact ⟨name_short hn, f, hf, by rw [hb, e]⟩
  rcases startE_two D true [s] with e | e | e | e
  · refine (sync_no h hd h0 h1 s (by rw [e]; decide)).mono ?_
    rintro x w' ⟨rfl, gg⟩
    exact ⟨_, _, rfl, gg, .inl ⟨rfl, by rw [e]; exact .inl rfl, rfl⟩⟩
  · refine (sync_no h hd h0 h1 s (by rw [e]; decide)).mono ?_
    rintro x w' ⟨rfl, gg⟩
    exact ⟨_, _, rfl, gg, .inl ⟨rfl, by rw [e]; exact .inr rfl, rfl⟩⟩
  · obtain ⟨hs, f, hf, hdf⟩ := file e
    refine (sync_fail h hd h0 h1 s e hs f hf hdf (by have := g.sum f hf; omega) g.growI).mono ?_
    rintro x w' ⟨rfl, lv, row, gg⟩
    exact ⟨34, _, rfl, gg, .inr (.inl ⟨e, rfl, f, hf, hdf, lv, row, rfl⟩)⟩
  · obtain ⟨hs, f, hf, hdf⟩ := file e
    refine (sync_ok h hd h0 h1 s e hs f hf hdf g.growI).mono ?_
    rintro x w' ⟨rfl, lv, gg⟩
    exact ⟨0, _, rfl, gg, .inr (.inr ⟨e, rfl, f, hf, hdf, lv, rfl⟩)⟩
theorem syncdir_st (h : DkAt w D) (g : Good N B D) (hd : D.dead = false) (hN : N < 1048576) :
    Calls Tryd.prog 50 #[P D.d] w fun e w' => ∃ lv m, e = .returned (.int .i64 (if 0 < D.fails D.ops then 34 else 0)) ∧ Goes w w' D (D.synced lv m) := by
  obtain ⟨h0, h1, h2, h3, h4⟩ := g.lims (by omega)
  refine (syncdir_live h hd h0 h1).mono ?_
  rintro x w' ⟨rfl, lv, m, gg⟩
  exact ⟨lv, m, rfl, gg⟩
theorem rename_st (h : DkAt w D) (g : Good N B D) (hd : D.dead = false) (hN : N < 1048576) (s t : ByteArray) :
    Calls Tryd.prog 57 #[P D.d, .string s, .string t] w fun e w' => ∃ D', e = .returned (.int .i64 (codeE D true [s, t])) ∧ Goes w w' D D' ∧ RenTo D s t (codeE D true [s, t]) D' := by
  obtain ⟨h0, h1, h2, h3, h4⟩ := g.lims (by omega)
  refine (rename_live h hd h0 h1 h2 h4 s t).mono ?_
  rintro x w' ⟨rfl, k1, k2⟩
  by_cases hc : codeE D true [s, t] ≠ 0 ∨ s = t
  · exact ⟨_, rfl, k1 hc, .inl ⟨hc, rfl⟩⟩
  · have hc1 : codeE D true [s, t] = 0 := by
      by_cases e : codeE D true [s, t] = 0
      · exact e
      · exact absurd (.inl e) hc
    have hc2 : s ≠ t := fun e => hc (.inr e)
    obtain ⟨b1, b2, v1, gg⟩ := k2 hc1 hc2
    obtain ⟨hn, hi, _⟩ := startE_ok (codeE_zero hc1)
    have hn2 : nameOk t = true := by
      simp only [List.all_cons, List.all_nil, Bool.and_true, Bool.and_eq_true] at hn
      exact hn.2
    exact ⟨_, rfl, gg, .inr ⟨hc1, hc2, hi rfl, hn2, b1, b2, v1, rfl⟩⟩
theorem remove_st (h : DkAt w D) (g : Good N B D) (hd : D.dead = false) (hN : N < 1048576) (s : ByteArray) :
    Calls Tryd.prog 56 #[P D.d, .string s] w fun e w' => ∃ D', e = .returned (.int .i64 (codeE D true [s])) ∧ Goes w w' D D' ∧ RemTo D s (codeE D true [s]) D' := by
  obtain ⟨h0, h1, h2, h3, h4⟩ := g.lims (by omega)
  refine (remove_live h hd h0 h1 h4 s).mono ?_
  rintro x w' ⟨rfl, k1, k2⟩
  by_cases hc : codeE D true [s] = 0
  · obtain ⟨b1, v1, gg⟩ := k2 hc
    obtain ⟨hn, hi, _⟩ := startE_name (codeE_zero hc)
    exact ⟨_, rfl, gg, .inr ⟨hc, hi rfl, b1, v1, rfl⟩⟩
  · exact ⟨_, rfl, k1 hc, .inl ⟨hc, rfl⟩⟩
theorem read_st (h : DkAt w D) (g : Good N B D) (hd : D.dead = false) (hN : N < 1048576) (hB : B ≤ 140737488355327) (s : ByteArray) :
    Calls Tryd.prog 31 #[P D.d, .string s] w fun e w' => ∃ (v : Value) (l : List Int), e = .returned (.tuple #[v, .int .i64 (codeE D true [s])]) ∧ Kd.R kB 5 w' w.heap.size (fun _ => True) v l ∧ Goes w w' D D.count ∧ (codeE D true [s] ≠ 0 → l = []) ∧ (codeE D true [s] = 0 → ∃ f ∈ D.fs, D.dir s = some f.blk ∧ l = f.b) := by
  obtain ⟨h0, h1, h2, h3, h4⟩ := g.lims (by omega)
  refine (read_live h hd h0 h1 s (fun fb hfb => by obtain ⟨f, hf, e⟩ := (g.dirI s fb hfb).2; exact ⟨f, hf, e, Nat.le_trans (g.big f hf) hB⟩)).mono ?_
  rintro x w' ⟨k1, k2⟩
  by_cases hc : codeE D true [s] = 0
  · obtain ⟨f, hf, hdf, v, rfl, hr, gg⟩ := k2 hc
    exact ⟨v, f.b, by rw [hc], hr, gg, fun h => absurd hc h, fun _ => ⟨f, hf, hdf, rfl⟩⟩
  · obtain ⟨rfl, gg⟩ := k1 hc
    exact ⟨_, [], rfl, Kd.R_nil _ _ _ _ _, gg, fun _ => rfl, fun h => absurd h hc⟩
theorem fail_st (h : DkAt w D) (g : Good N B D) (hN : N < 1048576) (x : Int) (A : Addr) (c : Nat) (hx : (Lit.int .i64 x).wf = true) (hA : w.cell? A = some (.int .i64 x)) (hA0 : A.spot = none) :
    Calls Tryd.prog 25 #[P D.d, .slice (some A) 1 c] w fun e w' => e = .returned (.tuple #[]) ∧ Goes w w' D { D with n := D.n + 1, fails := fun t => if t = x then D.fails x + 1 else D.fails t } := by
  obtain ⟨h0, h1, h2, h3, h4⟩ := g.lims (by omega)
  refine (fail_calls h x A c hx (g.fls x).1 (by have := (g.fls x).2; omega) h2 hA hA0).mono ?_
  rintro e w' ⟨rfl, k1, k2⟩
  exact ⟨rfl, k1, k2.wider (fun k hk => .inl (by rw [List.mem_singleton.1 hk]; simp [Dk.own])), fun _ hk => .inl hk, fun _ hk => .inl hk⟩
end
end Go.Proofs.YthlmbgaipbjbhaaDoor.L
end
