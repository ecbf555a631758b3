/- Crash, of a disk of which what holds between calls is known. -/
import Derived.Test.YtgcenkmekpaapaaGood
namespace Go.Proofs.Ytgcenkmekpaapaa.L
open Go.RowKit Go.Lib Go.Maps
open Go.Proofs.YtgcenkmekpaapaaW.PrintWords Go.Proofs.YtgcenkmekpaapaaW.PrintLast Go.Proofs.YtgcenkmekpaapaaW.PrintMore
theorem growT_take_succ {l : List Ac} {k : Nat} (hk : k < l.length) (b : Nat) : growT (l.take (k + 1)) b = growT (l.take k) b + gw b l[k] := by
  rw [List.take_succ_eq_append_getElem hk, growT_append, growT_cons]; rfl
theorem growT_take_le (l : List Ac) (k b : Nat) : growT (l.take k) b ≤ growT l b := by
  have h := growT_append (l.take k) (l.drop k) b
  rw [List.take_append_drop] at h
  omega
theorem growU_bd (keep torn : Int) (l : List Ac) (b : Nat) : ∀ k, k ≤ l.length → 0 ≤ growU keep torn l k b ∧ growU keep torn l k b ≤ growT (l.take k) b
  | 0, _ => ⟨Int.le_refl _, by simp [growU, growT]⟩
  | k + 1, hk => by
    have ih := growU_bd keep torn l b k (by omega)
    rw [growU_step (by omega), growT_take_succ (by omega)]
    have hh : ∀ a : Ac, 0 ≤ acG keep torn k a (growU keep torn l k) b ∧ acG keep torn k a (growU keep torn l k) b ≤ (growT (l.take k) b : Int) + gw b a := fun a => by
      cases a with
      | grow f n =>
        simp only [acG, gw]
        by_cases e : f = b
        · subst e
          rw [if_pos rfl]
          split
          · simp only [addG, if_true]; omega
          · split
            · simp only [addG, if_true]; omega
            · omega
        · rw [if_neg e]
          have e2 : ¬ b = f := fun h => e h.symm
          split
          · simp only [addG, if_neg e2]; omega
          · split
            · simp only [addG, if_neg e2]; omega
            · omega
      | _ => simp only [acG, gw]; omega
    have := hh (l[k]'(by omega))
    omega
theorem dirU_take (keep : Int) (l : List Ac) (d0 : Names) : ∀ k, k ≤ l.length → dirU keep l d0 k = replay (l.take (min k keep.toNat)) d0
  | 0, _ => by simp [dirU, replay]
  | k + 1, hk => by
    rw [dirU_step (by omega), dirU_take keep l d0 k (by omega)]
    by_cases h : (k : Int) < keep
    · rw [if_pos h, show min (k + 1) keep.toNat = k + 1 by omega, show min k keep.toNat = k by omega, List.take_succ_eq_append_getElem (by omega), replay_append]
      rfl
    · rw [if_neg h, show min (k + 1) keep.toNat = min k keep.toNat by omega]
theorem plays_at : ∀ (l : List Ac) (d0 : Names), plays l d0 → ∀ k (hk : k < l.length), l[k].may (replay (l.take k) d0)
  | a :: l, d0, h, 0, _ => h.1
  | a :: l, d0, h, k + 1, hk => plays_at l (a.app d0) h.2 k (by simpa using hk)
theorem replay_in (S : Nat → Prop) : ∀ (l : List Ac) (d0 : Names), (∀ s b, d0 s = some b → nameOk s = true ∧ S b) → (∀ s f b1 b2, Ac.make s f b1 b2 ∈ l → nameOk s = true ∧ S f) → (∀ s t b1 b2, Ac.move s t b1 b2 ∈ l → nameOk t = true) → ∀ s b, replay l d0 s = some b → nameOk s = true ∧ S b
  | [], d0, h0, _, _ => h0
  | a :: l, d0, h0, hm, hv => by
    refine replay_in S l (a.app d0) (fun s b hs => ?_) (fun s f b1 b2 h => hm s f b1 b2 (List.mem_cons_of_mem _ h)) (fun s t b1 b2 h => hv s t b1 b2 (List.mem_cons_of_mem _ h))
    cases a with
    | grow => exact h0 s b hs
    | make s' f b1 b2 =>
      simp only [Ac.app] at hs
      split at hs
      · rename_i e
        injection hs with hs
        subst hs; subst e
        exact hm _ _ b1 b2 List.mem_cons_self
      · exact h0 s b hs
    | move x t b1 b2 =>
      simp only [Ac.app] at hs
      split at hs
      · cases hs
      · split at hs
        · rename_i e
          subst e
          exact ⟨hv _ _ b1 b2 List.mem_cons_self, (h0 _ b hs).2⟩
        · exact h0 s b hs
    | gone x b1 =>
      simp only [Ac.app] at hs
      split at hs
      · cases hs
      · exact h0 s b hs
section
variable {w : World} {N B : Nat} {D : Dk}
theorem Good.behind (h : Good N B D) (keep : Int) : ∀ s b, dirU keep D.loose D.sure D.loose.length s = some b → nameOk s = true ∧ ∃ f ∈ D.fs, f.blk = b := by
  rw [dirU_take _ _ _ _ (Nat.le_refl _)]
  exact replay_in (fun b => ∃ f ∈ D.fs, f.blk = b) _ _ h.sureI (fun s f b1 b2 hm => h.makeI s f b1 b2 (List.mem_of_mem_take hm)) (fun s t b1 b2 hm => h.moveI s t b1 b2 (List.mem_of_mem_take hm))
theorem Good.growth (h : Good N B D) {f : Fl} (hf : f ∈ D.fs) (keep torn : Int) : f.sure ≤ crashN keep torn D f ∧ crashN keep torn D f ≤ f.b.length := by
  have h1 := growU_bd keep torn D.loose f.blk D.loose.length (Nat.le_refl _)
  rw [List.take_length] at h1
  have h2 := h.sum f hf
  unfold crashN
  omega
theorem growT_zero_of {l : List Ac} {b : Nat} (h : ∀ g n, Ac.grow g n ∈ l → g ≠ b) : growT l b = 0 :=
  growT_zero b l (fun a ha => by
    cases a with
    | grow g n => exact if_neg (h g n ha)
    | _ => rfl)
structure Crashed (keep torn : Int) (D D' : Dk) : Prop where
  gone : ∀ s, dirU keep D.loose D.sure D.loose.length s = none → D'.dir s = none
  there : ∀ s, ∀ f ∈ D.fs, dirU keep D.loose D.sure D.loose.length s = some f.blk → ∃ f' ∈ D'.fs, D'.dir s = some f'.blk ∧ f'.b = f.b.take (crashN keep torn D f)
  loose : D'.loose = []
  ops : D'.ops = 0
  cut : D'.cut = -1
  off : D'.off = false
  fails : ∀ k, D'.fails k = 0
  room : D'.room = D.room
  sure : D'.sure = D'.dir
theorem name_max {s : ByteArray} (h : nameOk s = true) : s.size ≤ maxLen := by
  have := name_short h
  unfold maxLen; omega
theorem fs_blks (h : DkAt w D) : D.fs.Pairwise (fun a b => a.blk ≠ b.blk) := by
  have hnd := h.nodup
  simp only [Dk.own, List.nodup_cons] at hnd
  have h2 := (List.nodup_append.1 hnd.2.2.2.2).2.1
  exact (flat_apart h2).imp (fun {a b} hab e => hab a.blk List.mem_cons_self (by rw [e]; exact List.mem_cons_self))
theorem find_named : ∀ {ps : List (ByteArray × Fl)}, (ps.map (·.1)).Nodup → ∀ p ∈ ps, ps.find? (fun q => decide (q.1 = p.1)) = some p
  | q :: ps, hn, p, hp => by
    rw [List.map_cons, List.nodup_cons] at hn
    by_cases e : q.1 = p.1
    · rw [List.find?_cons_of_pos (by simpa using e)]
      rcases List.mem_cons.1 hp with rfl | hp
      · rfl
      · exact absurd (by rw [e]; exact List.mem_map_of_mem hp) hn.1
    · rw [List.find?_cons_of_neg (by simpa using e)]
      rcases List.mem_cons.1 hp with rfl | hp
      · exact absurd rfl e
      · exact find_named hn.2 p hp
theorem dirOf_mem {ps : List (ByteArray × Fl)} (hn : (ps.map (·.1)).Nodup) {p : ByteArray × Fl} (hp : p ∈ ps) : dirOf ps p.1 = some p.2.blk := by
  unfold dirOf
  rw [find_named hn p hp]; rfl
theorem dirOf_some {ps : List (ByteArray × Fl)} {s : ByteArray} {b : Nat} (h : dirOf ps s = some b) : ∃ p ∈ ps, p.1 = s ∧ p.2.blk = b := by
  unfold dirOf at h
  cases hf : ps.find? (fun q => decide (q.1 = s)) with
  | none => rw [hf] at h; cases h
  | some p =>
    rw [hf] at h
    injection h with h
    exact ⟨p, List.mem_of_find?_eq_some hf, by simpa using List.find?_some hf, h⟩
theorem pair_inj {α : Type} {ps : List α} {g : α → Nat} (h : ps.Pairwise (fun a b => g a ≠ g b)) {p q : α} (hp : p ∈ ps) (hq : q ∈ ps) (e : g p = g q) : p = q := by
  obtain ⟨i, hi, rfl⟩ := List.mem_iff_getElem.1 hp
  obtain ⟨j, hj, rfl⟩ := List.mem_iff_getElem.1 hq
  rcases Nat.lt_trichotomy i j with h1 | h1 | h1
  · exact absurd e (List.pairwise_iff_getElem.1 h i j hi hj h1)
  · subst h1; rfl
  · exact absurd e.symm (List.pairwise_iff_getElem.1 h j i hj hi h1)
theorem crash_good (h : DkAt w D) (g : Good N B D) (hN : N < 1152921504606846976) (hB : B ≤ 140737488355327) (keep torn : Int) :
    Calls Try.prog 14 #[P D.d, .int .i64 keep, .int .i64 torn] w fun e w' => ∃ D', e = .returned (P D'.d) ∧ DkAt w' D' ∧ Good (N + N) B D' ∧ Crashed keep torn D D' ∧ Below w.heap.size w w' ∧ (∀ j ∈ D'.own, w.heap.size ≤ j) ∧ w.heap.size ≤ D'.d := by
  have hgr := fun f => growU_bd keep torn D.loose f
  have hbd : ∀ f ∈ D.fs, growT D.loose f.blk ≤ B := fun f hf => by have := g.sum f hf; have := g.big f hf; omega
  refine (crash_calls h keep torn (by have := g.nN; have := g.lN; unfold maxLen; omega) (fun k hk hlt => ?_) (fun k hk b => ?_) g.growI g.room (fun s b hs => (g.behind keep s b hs).2) (fun f hf => ⟨(g.growth hf keep torn).2, Nat.le_trans (g.big f hf) hB⟩)).mono ?_
  · have hp := plays_at D.loose D.sure g.may k hk
    rw [dirU_take _ _ _ _ (by omega), show min k keep.toNat = k by omega]
    exact hp
  · refine ⟨(hgr b k hk).1, ?_⟩
    have h1 := (hgr b k hk).2
    have h2 := growT_take_le D.loose k b
    have h3 : growT D.loose b ≤ B := by
      by_cases hx : ∃ f ∈ D.fs, f.blk = b
      · obtain ⟨f, hf, rfl⟩ := hx
        exact hbd f hf
      · rw [growT_zero_of (fun x n hm e => hx (by obtain ⟨f, hf, e2⟩ := g.growI x n hm; exact ⟨f, hf, e2.trans e⟩))]
        exact Nat.zero_le _
    omega
  · rintro e w' ⟨k, es, ps, m, rfl, hk, hes, hin, hcp, hnd, hlen, hel, hat, hb, hown⟩
    have hpair : ps.Pairwise (fun a b => a.2.blk ≠ b.2.blk) := by
      have := fs_blks hat
      have h2 : (ps.map (·.2)).Pairwise (fun a b => a.blk ≠ b.blk) := this
      rw [List.pairwise_map] at h2
      exact h2
    have hlen2 : ∀ p ∈ ps, p.2.sure = p.2.b.length := fun p hp => by
      obtain ⟨f, hf, _, hb2, hs2⟩ := hcp p hp
      rw [hb2, hs2, List.length_take]
      have := (g.growth hf keep torn).2
      omega
    have hdi : ∀ s b, dirOf ps s = some b → nameOk s = true ∧ ∃ f ∈ ps.map (·.2), f.blk = b := fun s b hs => by
      obtain ⟨p, hp, rfl, rfl⟩ := dirOf_some hs
      obtain ⟨f, hf, hd, _⟩ := hcp p hp
      exact ⟨(g.behind keep _ _ hd).1, p.2, List.mem_map_of_mem hp, rfl⟩
    have hij : ∀ s t b, dirOf ps s = some b → dirOf ps t = some b → s = t := fun s t b hs ht => by
      obtain ⟨p, hp, rfl, rfl⟩ := dirOf_some hs
      obtain ⟨q, hq, rfl, hqb⟩ := dirOf_some ht
      rw [pair_inj hpair hp hq hqb.symm]
    refine ⟨_, rfl, hat, ⟨Int.le_refl _, Int.natCast_nonneg _, ?_, Nat.zero_le _, fun _ => ⟨Int.le_refl _, Int.natCast_nonneg _⟩, g.room, hdi, hdi, hij, hij, (fun _ _ h => by cases h), (fun _ _ _ _ h => by cases h), (fun _ _ _ _ h => by cases h), fun f hf => ?_, fun f hf => ?_, rfl, trivial, fun f hf x hx e => ?_⟩, ⟨fun s hs => ?_, fun s f hf hs => ?_, rfl, rfl, rfl, rfl, fun _ => rfl, rfl, rfl⟩, hb, hown, ?_⟩
    · show ps.length ≤ _
      have := g.nN; have := g.lN
      omega
    · obtain ⟨p, hp, rfl⟩ := List.mem_map.1 (show f ∈ ps.map (·.2) from hf)
      exact hlen2 p hp
    · obtain ⟨p, hp, rfl⟩ := List.mem_map.1 (show f ∈ ps.map (·.2) from hf)
      obtain ⟨x, hx, _, hb2, _⟩ := hcp p hp
      rw [hb2, List.length_take]
      have := g.big x hx
      omega
    · obtain ⟨p, hp, rfl⟩ := List.mem_map.1 (show f ∈ ps.map (·.2) from hf)
      obtain ⟨q, hq, rfl⟩ := List.mem_map.1 (show x ∈ ps.map (·.2) from hx)
      rw [pair_inj hpair hp hq e]
    · show dirOf ps s = none
      cases hd : dirOf ps s with
      | none => rfl
      | some b =>
        obtain ⟨p, hp, rfl, _⟩ := dirOf_some hd
        obtain ⟨f, _, h2, _⟩ := hcp p hp
        rw [hs] at h2; cases h2
    · have hok := (g.behind keep s _ hs).1
      have hme := (hes.is s f.blk (name_max hok)).1 hs
      obtain ⟨p, hp, e⟩ := List.mem_map.1 (hin _ hme)
      obtain ⟨x, hx, hd, hb2, _⟩ := hcp p hp
      have hs2 : p.1 = s := e
      rw [hs2, hs] at hd
      injection hd with hd
      have hfx := g.uniq f hf x hx hd
      refine ⟨p.2, List.mem_map_of_mem hp, ?_, by rw [hfx]; exact hb2⟩
      show dirOf ps s = _
      rw [← hs2]; exact dirOf_mem hnd hp
    · show _ ≤ k + 3
      omega
end
end Go.Proofs.Ytgcenkmekpaapaa.L
