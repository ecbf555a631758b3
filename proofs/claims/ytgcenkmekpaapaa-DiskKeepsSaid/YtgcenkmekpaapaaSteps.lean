/- Each call on a live disk: a step. -/
import Derived.Test.YtgcenkmekpaapaaCrashE
namespace Go.Proofs.Ytgcenkmekpaapaa.L
open Go.RowKit Go.Lib Go.Maps
open Go.Proofs.YtgcenkmekpaapaaW.PrintWords Go.Proofs.YtgcenkmekpaapaaW.PrintLast Go.Proofs.YtgcenkmekpaapaaW.PrintMore
inductive Stp (T : ByteArray → Prop) (L : Nat) (D : Dk) : Dk → Prop where
  | count : Stp T L D D.count
  | gone (s : ByteArray) (b1 : Nat) (v1 : Value) (hs : T s) (hd : (D.dir s).isSome = true) : Stp T L D { D with ops := D.ops + 1, n := D.n + 1, dir := (Ac.gone s b1).app D.dir, lv := v1, loose := D.loose ++ [.gone s b1] }
  | move (s t : ByteArray) (b1 b2 : Nat) (v1 : Value) (hs : T s) (ht : T t) (hd : (D.dir s).isSome = true) (hn : nameOk t = true) (hne : s ≠ t) : Stp T L D { D with ops := D.ops + 1, n := D.n + 1, dir := (Ac.move s t b1 b2).app D.dir, lv := v1, loose := D.loose ++ [.move s t b1 b2] }
  | mid (s : ByteArray) (D3 : Dk) (f : Fl) (hs : T s) (hn : nameOk s = true) (hm : Mid D s D3 f) : Stp T L D D3
  | grown (s : ByteArray) (D3 : Dk) (f : Fl) (row lv : Value) (l : List Int) (hs : T s) (hn : nameOk s = true) (hm : Mid D s D3 f) (hl : l.length ≤ L) : Stp T L D (D3.grown f row lv l)
  | strike (s : ByteArray) (f : Fl) (row lv : Value) (l : List Int) (n : Nat) (hs : T s) (hf : f ∈ D.fs) (hd : D.dir s = some f.blk) (hn : n = l.length) (hl : l.length ≤ f.b.length) : Stp T L D ((D.struckF lv f.blk).setF ⟨f.blk, row, l, n⟩)
  | synced (lv : Value) (m : Nat) : Stp T L D (D.synced lv m)
  | failing (x : Int) : Stp T L D { D with n := D.n + 1, fails := fun t => if t = x then D.fails x + 1 else D.fails t }
section
variable {T : ByteArray → Prop} {N B L : Nat} {D D' : Dk}
theorem Mid.same {s : ByteArray} {f : Fl} (h : Mid D s D' f) : D'.cut = D.cut ∧ D'.off = D.off ∧ D'.d = D.d ∧ D'.room = D.room ∧ D'.fails = D.fails ∧ D'.ops = D.ops + 1 ∧ D'.sure = D.sure := by
  rcases h with ⟨_, _, rfl⟩ | ⟨_, _, _, b1, b2, v1, rfl⟩
  · exact ⟨rfl, rfl, rfl, rfl, rfl, rfl, rfl⟩
  · exact ⟨rfl, rfl, rfl, rfl, rfl, rfl, rfl⟩
theorem Stp.same (h : Stp T L D D') : D'.cut = D.cut ∧ D'.off = D.off ∧ D'.d = D.d ∧ D'.room = D.room := by
  cases h with
  | mid s _ f hs hn hm => exact ⟨hm.same.1, hm.same.2.1, hm.same.2.2.1, hm.same.2.2.2.1⟩
  | grown s D3 f row lv l hs hn hm hl => exact ⟨hm.same.1, hm.same.2.1, hm.same.2.2.1, hm.same.2.2.2.1⟩
  | synced lv m => unfold Dk.synced; split <;> exact ⟨rfl, rfl, rfl, rfl⟩
  | _ => exact ⟨rfl, rfl, rfl, rfl⟩
theorem Stp.good (h : Stp T L D D') (g : Good N B D) : Good (N + 2) (B + L) D' := by
  have up : ∀ {D2 : Dk}, Good (N + 1) B D2 → Good (N + 2) (B + L) D2 := fun hg => hg.mono (by omega) (by omega)
  cases h with
  | count => exact up g.count
  | gone s b1 v1 hs hd => exact up (g.gone v1)
  | move s t b1 b2 v1 hs ht hd hn hne => exact up (g.move v1 hd hn)
  | mid s D3 f hs hn hm => exact up (g.mid hm hn).1
  | grown s D3 f row lv l hs hn hm hl =>
    obtain ⟨h1, h2, _⟩ := g.mid hm hn
    exact h1.grown h2 row lv l (by omega) (by have := h1.big f h2; omega)
  | strike s f row lv l n hs hf hd hn hl => exact up (g.strike hf row lv l n hn (Nat.le_trans hl (g.big f hf)))
  | synced lv m => exact up (g.synced lv m)
  | failing x => exact up (g.failing x)
theorem Stp.live (h : Stp T L D D') (hc : D.cut < 0) (ho : D.off = false) : D'.cut < 0 ∧ D'.off = false := by
  have := h.same
  rw [this.1, this.2.1]; exact ⟨hc, ho⟩
theorem live_of (hc : D.cut < 0) (ho : D.off = false) : D.dead = false := by
  unfold Dk.dead
  rw [ho, decide_eq_false (by omega : ¬ 0 ≤ D.cut)]; rfl
theorem Stp.wider {T' : ByteArray → Prop} {L' : Nat} (h : Stp T L D D') (hT : ∀ s, T s → T' s) (hL : L ≤ L') : Stp T' L' D D' := by
  cases h with
  | count => exact .count
  | gone s b1 v1 hs hd => exact .gone s b1 v1 (hT s hs) hd
  | move s t b1 b2 v1 hs ht hd hn hne => exact .move s t b1 b2 v1 (hT s hs) (hT t ht) hd hn hne
  | mid s D3 f hs hn hm => exact .mid s _ f (hT s hs) hn hm
  | grown s D3 f row lv l hs hn hm hl => exact .grown s D3 f row lv l (hT s hs) hn hm (Nat.le_trans hl hL)
  | strike s f row lv l n hs hf hd hn hl => exact .strike s f row lv l n (hT s hs) hf hd hn hl
  | synced lv m => exact .synced lv m
  | failing x => exact .failing x
end
def AppTo (D : Dk) (s : ByteArray) (l : List Int) (c : Int) (D' : Dk) : Prop :=
  (c ≠ 0 ∧ D' = D.count) ∨ (c = 0 ∧ nameOk s = true ∧ ∃ D3 f, Mid D s D3 f ∧ ((l = [] ∧ D' = D3) ∨ (l ≠ [] ∧ ∃ row lv, D' = D3.grown f row lv l)))
def SynTo (D : Dk) (s : ByteArray) (c : Int) (D' : Dk) : Prop :=
  (c = (startE D true [s]).2 ∧ (c = 30 ∨ c = 32) ∧ D' = D.count) ∨ (startE D true [s] = (true, 0) ∧ c = 34 ∧ ∃ f ∈ D.fs, D.dir s = some f.blk ∧ ∃ lv row, D' = (D.struckF lv f.blk).setF ⟨f.blk, row, f.b.take f.sure, f.sure⟩) ∨
    (startE D true [s] = (false, 0) ∧ c = 0 ∧ ∃ f ∈ D.fs, D.dir s = some f.blk ∧ ∃ lv, D' = (D.struckF lv f.blk).setF ⟨f.blk, f.row, f.b, f.b.length⟩)
def RenTo (D : Dk) (s t : ByteArray) (c : Int) (D' : Dk) : Prop :=
  ((c ≠ 0 ∨ s = t) ∧ D' = D.count) ∨ (c = 0 ∧ s ≠ t ∧ (D.dir s).isSome = true ∧ nameOk t = true ∧ ∃ b1 b2 v1, D' = { D with ops := D.ops + 1, n := D.n + 1, dir := (Ac.move s t b1 b2).app D.dir, lv := v1, loose := D.loose ++ [.move s t b1 b2] })
def RemTo (D : Dk) (s : ByteArray) (c : Int) (D' : Dk) : Prop :=
  (c ≠ 0 ∧ D' = D.count) ∨ (c = 0 ∧ (D.dir s).isSome = true ∧ ∃ b1 v1, D' = { D with ops := D.ops + 1, n := D.n + 1, dir := (Ac.gone s b1).app D.dir, lv := v1, loose := D.loose ++ [.gone s b1] })
section
variable {w : World} {N B L : Nat} {D D' : Dk}
theorem AppTo.stp {s : ByteArray} {l : List Int} {c : Int} (h : AppTo D s l c D') : Stp (fun x => x = s) l.length D D' := by
  rcases h with ⟨_, rfl⟩ | ⟨_, hn, D3, f, hm, ⟨_, rfl⟩ | ⟨_, row, lv, rfl⟩⟩
  · exact .count
  · exact .mid s _ f rfl hn hm
  · exact .grown s D3 f row lv l rfl hn hm (Nat.le_refl _)
theorem SynTo.stp {s : ByteArray} {c : Int} (h : SynTo D s c D') (g : Good N B D) : Stp (fun x => x = s) 0 D D' := by
  rcases h with ⟨_, _, rfl⟩ | ⟨_, _, f, hf, hd, lv, row, rfl⟩ | ⟨_, _, f, hf, hd, lv, rfl⟩
  · exact .count
  · have := g.sum f hf
    exact .strike s f row lv _ _ rfl hf hd (by rw [List.length_take]; omega) (by rw [List.length_take]; omega)
  · exact .strike s f f.row lv _ _ rfl hf hd rfl (Nat.le_refl _)
theorem RenTo.stp {s t : ByteArray} {c : Int} (h : RenTo D s t c D') : Stp (fun x => x = s ∨ x = t) 0 D D' := by
  rcases h with ⟨_, rfl⟩ | ⟨_, hne, hs, ht, b1, b2, v1, rfl⟩
  · exact .count
  · exact .move s t b1 b2 v1 (.inl rfl) (.inr rfl) hs ht hne
theorem RemTo.stp {s : ByteArray} {c : Int} (h : RemTo D s c D') : Stp (fun x => x = s) 0 D D' := by
  rcases h with ⟨_, rfl⟩ | ⟨_, hs, b1, v1, rfl⟩
  · exact .count
  · exact .gone s b1 v1 rfl hs
theorem Good.lims (g : Good N B D) (hN : N < 4294967200) : 0 ≤ D.ops ∧ D.ops < 4611686018427387904 ∧ D.n < maxLen ∧ D.loose.length < 4294967290 ∧ D.loose.length < 4294967296 := by
  have := g.ops0; have := g.opsN; have := g.nN; have := g.lN
  unfold maxLen
  omega
theorem startE_two (D : Dk) (must : Bool) (l : List ByteArray) : startE D must l = (false, 30) ∨ startE D must l = (false, 32) ∨ startE D must l = (true, 0) ∨ startE D must l = (false, 0) := by
  unfold startE
  split
  · split
    · exact .inr (.inl rfl)
    · by_cases h : 0 < D.fails D.ops
      · rw [decide_eq_true h]; exact .inr (.inr (.inl rfl))
      · rw [decide_eq_false h]; exact .inr (.inr (.inr rfl))
  · exact .inl rfl
theorem startE_there {s : ByteArray} {fl : Bool} (h : startE D true [s] = (fl, 0)) : nameOk s = true ∧ (D.dir s).isSome = true := by
  unfold startE at h
  by_cases h1 : [s].all nameOk = true
  · rw [if_pos h1] at h
    by_cases h2 : (true && (D.dir ([s].headD ByteArray.empty)).isNone) = true
    · rw [if_pos h2] at h
      injection h with _ h; cases h
    · refine ⟨by simpa using h1, ?_⟩
      simp only [Bool.true_and, List.headD] at h2
      cases hd : D.dir s with
      | none => rw [hd] at h2; exact absurd rfl h2
      | some _ => rfl
  · rw [if_neg h1] at h
    injection h with _ h; cases h
theorem total_le (g : Good N B D) (h : DkAt w D) {es : List (ByteArray × Nat)} (hes : Lists D.dir es) : total D.len es ≤ es.length * B := by
  have hall : ∀ p ∈ es, D.len p.2 ≤ B := fun p hp => by
    obtain ⟨f, hf, e⟩ := (g.dirI p.1 p.2 ((hes.is p.1 p.2 (hes.short p hp)).2 hp)).2
    rw [← e, len_is h hf]; exact g.big f hf
  clear hes
  unfold total
  induction es with
  | nil => simp
  | cons p es ih =>
    rw [List.map_cons, List.sum_cons, List.length_cons, Nat.add_mul]
    have h1 := hall p List.mem_cons_self
    have h2 := ih (fun q hq => hall q (List.mem_cons_of_mem _ hq))
    omega
theorem append_st (h : DkAt w D) (g : Good N B D) (hd : D.dead = false) (hN : N < 1048576) (hB : B < 1099511627776) (s : ByteArray) (A : Option Addr) (l : List Int) (c : Nat) (hl : l.length < 1099511627776) (hC : ∀ W, Fr D.own w W → Kd.C kB W A l.length l) :
    Calls Try.prog 9 #[P D.d, .string s, .slice A l.length c] w fun e w' => ∃ es D', Lists D.dir es ∧ es.length ≤ N ∧ e = .returned (.int .i64 (appE D s (total D.len es) l.length)) ∧ Goes w w' D D' ∧ AppTo D s l (appE D s (total D.len es) l.length) D' := by
  obtain ⟨es, hes, _, hel⟩ := h.dirM.list
  obtain ⟨h0, h1, h2, h3, h4⟩ := g.lims (by omega)
  have hin : ∀ p ∈ es, ∃ f ∈ D.fs, f.blk = p.2 := fun p hp => (g.dirI p.1 p.2 ((hes.is p.1 p.2 (hes.short p hp)).2 hp)).2
  have hen : es.length ≤ N := Nat.le_trans hel g.nN
  have ht := total_le g h hes
  have hsum : total D.len es < 4611686018427387904 := by
    have h5 : es.length * B ≤ 1048576 * 1099511627776 := Nat.mul_le_mul (by omega) (by omega)
    omega
  by_cases hc : appE D s (total D.len es) l.length = 0
  · refine (append_ok h hd h0 h1 h2 h3 s A l c (by omega) hC es hes hin hsum hc (fun f hf => by have := g.big f hf; omega) (fun fb hfb => (g.dirI s fb hfb).2)).mono ?_
    rintro e w' ⟨rfl, D3, f, hm, k1, k2⟩
    have hn : nameOk s = true := by
      unfold appE at hc
      rcases startE_two D false [s] with e | e | e | e
      · rw [e] at hc; simp at hc
      · rw [e] at hc; simp at hc
      · exact (by unfold startE at e; by_cases hx : [s].all nameOk = true
                  · simpa using hx
                  · rw [if_neg hx] at e; injection e with _ e; cases e)
      · exact (startE_name e).1
    by_cases hnil : l = []
    · exact ⟨es, D3, hes, hen, by rw [hc], k1 hnil, .inr ⟨hc, hn, D3, f, hm, .inl ⟨hnil, rfl⟩⟩⟩
    · obtain ⟨row, lv, gg⟩ := k2 hnil
      exact ⟨es, _, hes, hen, by rw [hc], gg, .inr ⟨hc, hn, D3, f, hm, .inr ⟨hnil, row, lv, rfl⟩⟩⟩
  · refine (append_no h hd h0 h1 s A l.length c (by omega) es hes hin hsum hc).mono ?_
    rintro e w' ⟨rfl, gg⟩
    exact ⟨es, _, hes, hen, rfl, gg, .inl ⟨hc, rfl⟩⟩
theorem sync_st (h : DkAt w D) (g : Good N B D) (hd : D.dead = false) (hN : N < 1048576) (s : ByteArray) :
    Calls Try.prog 10 #[P D.d, .string s] w fun e w' => ∃ (c : Int) (D' : Dk), e = .returned (.int .i64 c) ∧ Goes w w' D D' ∧ SynTo D s c D' := by
  obtain ⟨h0, h1, h2, h3, h4⟩ := g.lims (by omega)
  have file : ∀ {fl : Bool}, startE D true [s] = (fl, 0) → s.size ≤ 80 ∧ ∃ f ∈ D.fs, D.dir s = some f.blk := fun he => by
    obtain ⟨hn, hi⟩ := startE_there he
    obtain ⟨b, hb⟩ := Option.isSome_iff_exists.1 hi
    obtain ⟨f, hf, e⟩ := (g.dirI s b hb).2
    exact ⟨name_short hn, f, hf, by rw [hb, e]⟩
  rcases startE_two D true [s] with e | e | e | e
  · refine (sync_no h hd h0 h1 s (by rw [e]; decide)).mono ?_
    rintro x w' ⟨rfl, gg⟩
    exact ⟨_, _, rfl, gg, .inl ⟨rfl, by rw [e]; exact .inl rfl, rfl⟩⟩
  · refine (sync_no h hd h0 h1 s (by rw [e]; decide)).mono ?_
    rintro x w' ⟨rfl, gg⟩
    exact ⟨_, _, rfl, gg, .inl ⟨rfl, by rw [e]; exact .inr rfl, rfl⟩⟩
  · obtain ⟨hs, f, hf, hdf⟩ := file e
    refine (sync_fail h hd h0 h1 s e hs f hf hdf (by have := g.sum f hf; omega) g.growI).mono ?_
    rintro x w' ⟨rfl, lv, row, gg⟩
    exact ⟨34, _, rfl, gg, .inr (.inl ⟨e, rfl, f, hf, hdf, lv, row, rfl⟩)⟩
  · obtain ⟨hs, f, hf, hdf⟩ := file e
    refine (sync_ok h hd h0 h1 s e hs f hf hdf g.growI).mono ?_
    rintro x w' ⟨rfl, lv, gg⟩
    exact ⟨0, _, rfl, gg, .inr (.inr ⟨e, rfl, f, hf, hdf, lv, rfl⟩)⟩
theorem syncdir_st (h : DkAt w D) (g : Good N B D) (hd : D.dead = false) (hN : N < 1048576) :
    Calls Try.prog 11 #[P D.d] w fun e w' => ∃ lv m, e = .returned (.int .i64 (if 0 < D.fails D.ops then 34 else 0)) ∧ Goes w w' D (D.synced lv m) := by
  obtain ⟨h0, h1, h2, h3, h4⟩ := g.lims (by omega)
  refine (syncdir_live h hd h0 h1).mono ?_
  rintro x w' ⟨rfl, lv, m, gg⟩
  exact ⟨lv, m, rfl, gg⟩
theorem rename_st (h : DkAt w D) (g : Good N B D) (hd : D.dead = false) (hN : N < 1048576) (s t : ByteArray) :
    Calls Try.prog 17 #[P D.d, .string s, .string t] w fun e w' => ∃ D', e = .returned (.int .i64 (codeE D true [s, t])) ∧ Goes w w' D D' ∧ RenTo D s t (codeE D true [s, t]) D' := by
  obtain ⟨h0, h1, h2, h3, h4⟩ := g.lims (by omega)
  refine (rename_live h hd h0 h1 h2 h4 s t).mono ?_
  rintro x w' ⟨rfl, k1, k2⟩
  by_cases hc : codeE D true [s, t] ≠ 0 ∨ s = t
  · exact ⟨_, rfl, k1 hc, .inl ⟨hc, rfl⟩⟩
  · have hc1 : codeE D true [s, t] = 0 := by
      by_cases e : codeE D true [s, t] = 0
      · exact e
      · exact absurd (.inl e) hc
    have hc2 : s ≠ t := fun e => hc (.inr e)
    obtain ⟨b1, b2, v1, gg⟩ := k2 hc1 hc2
    obtain ⟨hn, hi, _⟩ := startE_ok (codeE_zero hc1)
    have hn2 : nameOk t = true := by
      simp only [List.all_cons, List.all_nil, Bool.and_true, Bool.and_eq_true] at hn
      exact hn.2
    exact ⟨_, rfl, gg, .inr ⟨hc1, hc2, hi rfl, hn2, b1, b2, v1, rfl⟩⟩
theorem remove_st (h : DkAt w D) (g : Good N B D) (hd : D.dead = false) (hN : N < 1048576) (s : ByteArray) :
    Calls Try.prog 20 #[P D.d, .string s] w fun e w' => ∃ D', e = .returned (.int .i64 (codeE D true [s])) ∧ Goes w w' D D' ∧ RemTo D s (codeE D true [s]) D' := by
  obtain ⟨h0, h1, h2, h3, h4⟩ := g.lims (by omega)
  refine (remove_live h hd h0 h1 h4 s).mono ?_
  rintro x w' ⟨rfl, k1, k2⟩
  by_cases hc : codeE D true [s] = 0
  · obtain ⟨b1, v1, gg⟩ := k2 hc
    obtain ⟨hn, hi, _⟩ := startE_name (codeE_zero hc)
    exact ⟨_, rfl, gg, .inr ⟨hc, hi rfl, b1, v1, rfl⟩⟩
  · exact ⟨_, rfl, k1 hc, .inl ⟨hc, rfl⟩⟩
theorem read_st (h : DkAt w D) (g : Good N B D) (hd : D.dead = false) (hN : N < 1048576) (hB : B ≤ 140737488355327) (s : ByteArray) :
    Calls Try.prog 15 #[P D.d, .string s] w fun e w' => ∃ (v : Value) (l : List Int), e = .returned (.tuple #[v, .int .i64 (codeE D true [s])]) ∧ Kd.R kB 5 w' w.heap.size (fun _ => True) v l ∧ Goes w w' D D.count ∧ (codeE D true [s] ≠ 0 → l = []) ∧ (codeE D true [s] = 0 → ∃ f ∈ D.fs, D.dir s = some f.blk ∧ l = f.b) := by
  obtain ⟨h0, h1, h2, h3, h4⟩ := g.lims (by omega)
  refine (read_live h hd h0 h1 s (fun fb hfb => by obtain ⟨f, hf, e⟩ := (g.dirI s fb hfb).2; exact ⟨f, hf, e, Nat.le_trans (g.big f hf) hB⟩)).mono ?_
  rintro x w' ⟨k1, k2⟩
  by_cases hc : codeE D true [s] = 0
  · obtain ⟨f, hf, hdf, v, rfl, hr, gg⟩ := k2 hc
    exact ⟨v, f.b, by rw [hc], hr, gg, fun h => absurd hc h, fun _ => ⟨f, hf, hdf, rfl⟩⟩
  · obtain ⟨rfl, gg⟩ := k1 hc
    exact ⟨_, [], rfl, Kd.R_nil _ _ _ _ _, gg, fun _ => rfl, fun h => absurd h hc⟩
theorem fail_st (h : DkAt w D) (g : Good N B D) (hN : N < 1048576) (x : Int) (A : Addr) (c : Nat) (hx : (Lit.int .i64 x).wf = true) (hA : w.cell? A = some (.int .i64 x)) (hA0 : A.spot = none) :
    Calls Try.prog 12 #[P D.d, .slice (some A) 1 c] w fun e w' => e = .returned (.tuple #[]) ∧ Goes w w' D { D with n := D.n + 1, fails := fun t => if t = x then D.fails x + 1 else D.fails t } := by
  obtain ⟨h0, h1, h2, h3, h4⟩ := g.lims (by omega)
  refine (fail_calls h x A c hx (g.fls x).1 (by have := (g.fls x).2; omega) h2 hA hA0).mono ?_
  rintro e w' ⟨rfl, k1, k2⟩
  exact ⟨rfl, k1, k2.wider (fun k hk => .inl (by rw [List.mem_singleton.1 hk]; simp [Dk.own])), fun _ hk => .inl hk, fun _ hk => .inl hk⟩
end
end Go.Proofs.Ytgcenkmekpaapaa.L
