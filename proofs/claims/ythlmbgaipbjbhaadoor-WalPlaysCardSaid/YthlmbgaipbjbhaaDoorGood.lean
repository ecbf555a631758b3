/- What holds of a disk between calls (lists and names alone). -/
import Derived.Test.YthlmbgaipbjbhaaDoorCrashD
namespace Go.Proofs.YthlmbgaipbjbhaaDoor.L
open Go.RowKit Go.Lib Go.Maps
open Go.Proofs.YthlmbgaipbjbhaaDoorW.PrintWords Go.Proofs.YthlmbgaipbjbhaaDoorW.PrintLast Go.Proofs.YthlmbgaipbjbhaaDoorW.PrintMore
def gw (b : Nat) : Ac → Nat
  | .grow f n => if f = b then n else 0
  | _ => 0
def growT (l : List Ac) (b : Nat) : Nat := (l.map (gw b)).sum
def replay : List Ac → Names → Names
  | [], d => d
  | a :: l, d => replay l (a.app d)
def plays : List Ac → Names → Prop
  | [], _ => True
  | a :: l, d => a.may d ∧ plays l (a.app d)
theorem growT_append (l l' : List Ac) (b : Nat) : growT (l ++ l') b = growT l b + growT l' b := by
  simp [growT]
theorem growT_cons (a : Ac) (l : List Ac) (b : Nat) : growT (a :: l) b = gw b a + growT l b := by
  simp [growT]
theorem growT_zero (b : Nat) : ∀ l : List Ac, (∀ a ∈ l, gw b a = 0) → growT l b = 0
  | [], _ => rfl
  | a :: l, h => by rw [growT_cons, h a List.mem_cons_self, growT_zero b l (fun x hx => h x (List.mem_cons_of_mem _ hx))]
theorem replay_append : ∀ (l l' : List Ac) (d : Names), replay (l ++ l') d = replay l' (replay l d)
  | [], _, _ => rfl
  | a :: l, l', d => replay_append l l' (a.app d)
theorem plays_append : ∀ (l l' : List Ac) (d : Names), plays (l ++ l') d ↔ plays l d ∧ plays l' (replay l d)
  | [], _, _ => ⟨fun h => ⟨trivial, h⟩, fun h => h.2⟩
  | a :: l, l', d => by
    show a.may d ∧ plays (l ++ l') (a.app d) ↔ (a.may d ∧ plays l (a.app d)) ∧ plays l' (replay l (a.app d))
    rw [plays_append l l' (a.app d), and_assoc]
theorem ac_of {f : Nat} {a : Ac} (h : isOf f a = true) : ∃ n, a = .grow f n := by
  cases a with
  | grow g n => simp only [isOf, decide_eq_true_eq] at h; exact ⟨n, by rw [h]⟩
  | _ => simp [isOf] at h
theorem of_not_dir {a : Ac} (h : isDir a = false) : ∃ g n, a = .grow g n := by
  cases a with
  | grow g n => exact ⟨g, n, rfl⟩
  | _ => simp [isDir] at h
theorem replay_strike (f : Nat) : ∀ (l : List Ac) (d : Names), replay (l.filter fun a => !isOf f a) d = replay l d
  | [], _ => rfl
  | a :: l, d => by
    rw [List.filter_cons]
    cases h : isOf f a with
    | false => exact replay_strike f l (a.app d)
    | true =>
      obtain ⟨n, rfl⟩ := ac_of h
      exact replay_strike f l d
theorem plays_strike (f : Nat) : ∀ (l : List Ac) (d : Names), plays l d → plays (l.filter fun a => !isOf f a) d
  | [], _, _ => trivial
  | a :: l, d, hp => by
    rw [List.filter_cons]
    cases h : isOf f a with
    | false => exact ⟨hp.1, plays_strike f l _ hp.2⟩
    | true =>
      obtain ⟨n, rfl⟩ := ac_of h
      exact plays_strike f l d hp.2
theorem replay_grows : ∀ (l : List Ac) (d : Names), (∀ a ∈ l, isDir a = false) → replay l d = d
  | [], _, _ => rfl
  | a :: l, d, h => by
    obtain ⟨g, n, rfl⟩ := of_not_dir (h a List.mem_cons_self)
    exact replay_grows l d (fun x hx => h x (List.mem_cons_of_mem _ hx))
theorem plays_grows : ∀ (l : List Ac) (d : Names), (∀ a ∈ l, isDir a = false) → plays l d
  | [], _, _ => trivial
  | a :: l, d, h => by
    obtain ⟨g, n, rfl⟩ := of_not_dir (h a List.mem_cons_self)
    exact ⟨trivial, plays_grows l d (fun x hx => h x (List.mem_cons_of_mem _ hx))⟩
theorem filter_grows (l : List Ac) : ∀ a ∈ l.filter (fun a => !isDir a), isDir a = false := fun a ha => by
  have := (List.mem_filter.1 ha).2
  simpa using this
theorem growT_dirs (b : Nat) : ∀ l : List Ac, growT (l.filter fun a => !isDir a) b = growT l b
  | [] => rfl
  | a :: l => by
    rw [List.filter_cons, growT_cons]
    cases h : isDir a with
    | false =>
      show growT (a :: _) b = _
      rw [growT_cons, growT_dirs b l]
    | true =>
      have h0 : gw b a = 0 := by
        cases a with
        | grow => simp [isDir] at h
        | _ => rfl
      rw [h0, Nat.zero_add]
      exact growT_dirs b l
theorem growT_strike (f b : Nat) : ∀ l : List Ac, growT (l.filter fun a => !isOf f a) b = if b = f then 0 else growT l b
  | [] => by simp [growT]
  | a :: l => by
    rw [List.filter_cons, growT_cons]
    have ih := growT_strike f b l
    cases h : isOf f a with
    | false =>
      show growT (a :: _) b = _
      rw [growT_cons, ih]
      by_cases e : b = f
      · subst e
        have h0 : gw b a = 0 := by
          cases a with
          | grow g n => simp [isOf] at h; simp [gw, h]
          | _ => rfl
        simp [h0]
      · simp [e]
    | true =>
      obtain ⟨n, rfl⟩ := ac_of h
      rw [if_neg (by simp), ih]
      by_cases e : b = f
      · simp [e]
      · have e2 : ¬ f = b := fun h => e h.symm
        simp [e, e2, gw]
structure Good (N B : Nat) (D : Dk) : Prop where
  ops0 : 0 ≤ D.ops
  opsN : D.ops ≤ N
  nN : D.n ≤ N
  lN : D.loose.length ≤ N
  fls : ∀ k, 0 ≤ D.fails k ∧ D.fails k ≤ N
  room : 0 ≤ D.room
  dirI : ∀ s b, D.dir s = some b → nameOk s = true ∧ ∃ f ∈ D.fs, f.blk = b
  sureI : ∀ s b, D.sure s = some b → nameOk s = true ∧ ∃ f ∈ D.fs, f.blk = b
  dinj : ∀ s t b, D.dir s = some b → D.dir t = some b → s = t
  sinj : ∀ s t b, D.sure s = some b → D.sure t = some b → s = t
  growI : ∀ g n, Ac.grow g n ∈ D.loose → ∃ f ∈ D.fs, f.blk = g
  makeI : ∀ s f b1 b2, Ac.make s f b1 b2 ∈ D.loose → nameOk s = true ∧ ∃ x ∈ D.fs, x.blk = f
  moveI : ∀ s t b1 b2, Ac.move s t b1 b2 ∈ D.loose → nameOk t = true
  sum : ∀ f ∈ D.fs, f.sure + growT D.loose f.blk = f.b.length
  big : ∀ f ∈ D.fs, f.b.length ≤ B
  play : replay D.loose D.sure = D.dir
  may : plays D.loose D.sure
  uniq : ∀ f ∈ D.fs, ∀ g ∈ D.fs, f.blk = g.blk → f = g
section
variable {N B : Nat} {D : Dk}
theorem Good.mono (h : Good N B D) {N' B' : Nat} (hN : N ≤ N') (hB : B ≤ B') : Good N' B' D :=
  ⟨h.ops0, by have := h.opsN; omega, by have := h.nN; omega, by have := h.lN; omega, fun k => ⟨(h.fls k).1, by have := (h.fls k).2; omega⟩, h.room, h.dirI, h.sureI, h.dinj, h.sinj, h.growI, h.makeI, h.moveI, h.sum, fun f hf => by have := h.big f hf; omega, h.play, h.may, h.uniq⟩
theorem Good.fresh (k N B : Nat) (room : Int) (hr : 0 ≤ room) : Good N B (newD k room) :=
  ⟨Int.le_refl _, Int.natCast_nonneg _, Nat.zero_le _, Nat.zero_le _, fun _ => ⟨Int.le_refl _, Int.natCast_nonneg _⟩, hr, (fun _ _ h => by cases h), (fun _ _ h => by cases h), (fun _ _ _ h => by cases h), (fun _ _ _ h => by cases h), (fun _ _ h => by cases h), (fun _ _ _ _ h => by cases h), (fun _ _ _ _ h => by cases h), (fun _ h => by cases h), (fun _ h => by cases h), rfl, trivial, (fun _ h => by cases h)⟩
theorem Good.count (h : Good N B D) : Good (N + 1) B D.count :=
  have h' := h.mono (Nat.le_succ N) (Nat.le_refl B)
  ⟨by show 0 ≤ D.ops + 1; have := h.ops0; omega, by show D.ops + 1 ≤ _; have := h.opsN; omega, h'.nN, h'.lN, h'.fls, h'.room, h'.dirI, h'.sureI, h'.dinj, h'.sinj, h'.growI, h'.makeI, h'.moveI, h'.sum, h'.big, h'.play, h'.may, h'.uniq⟩
theorem Good.power (h : Good N B D) (c : Int) (o : Bool) : Good N B { D with cut := c, off := o } :=
  ⟨h.ops0, h.opsN, h.nN, h.lN, h.fls, h.room, h.dirI, h.sureI, h.dinj, h.sinj, h.growI, h.makeI, h.moveI, h.sum, h.big, h.play, h.may, h.uniq⟩
theorem Good.failing (h : Good N B D) (x : Int) : Good (N + 1) B { D with n := D.n + 1, fails := fun t => if t = x then D.fails x + 1 else D.fails t } :=
  have h' := h.mono (Nat.le_succ N) (Nat.le_refl B)
  ⟨h'.ops0, h'.opsN, by show D.n + 1 ≤ _; have := h.nN; omega, h'.lN, fun k => by
    show 0 ≤ (if k = x then D.fails x + 1 else D.fails k) ∧ (if k = x then D.fails x + 1 else D.fails k) ≤ _
    have h1 := h.fls x
    have h2 := h.fls k
    split <;> omega, h'.room, h'.dirI, h'.sureI, h'.dinj, h'.sinj, h'.growI, h'.makeI, h'.moveI, h'.sum, h'.big, h'.play, h'.may, h'.uniq⟩
theorem Good.acted (h : Good N B D) {a : Ac} {D' : Dk} (ha : isDir a = true) (e : D' = { D with ops := D'.ops, n := D'.n, dir := a.app D.dir, lv := D'.lv, loose := D.loose ++ [a], fs := D'.fs }) (ho : D'.ops = D.ops + 1) (hn : D'.n ≤ D.n + 1)
    (hfs : ∀ f ∈ D.fs, f ∈ D'.fs) (hnew : ∀ f ∈ D'.fs, f ∈ D.fs ∨ (f.sure = 0 ∧ f.b = [] ∧ ∀ g ∈ D.fs, g.blk ≠ f.blk)) (hu : ∀ f ∈ D'.fs, ∀ g ∈ D'.fs, f.blk = g.blk → f = g)
    (hmay : a.may D.dir) (hd : ∀ s b, a.app D.dir s = some b → nameOk s = true ∧ ∃ f ∈ D'.fs, f.blk = b) (hi : ∀ s t b, a.app D.dir s = some b → a.app D.dir t = some b → s = t)
    (hmk : ∀ s f b1 b2, a = .make s f b1 b2 → nameOk s = true ∧ ∃ x ∈ D'.fs, x.blk = f) (hmv : ∀ s t b1 b2, a = .move s t b1 b2 → nameOk t = true) : Good (N + 1) B D' := by
  obtain ⟨d, dm, sm, fm, n, dir, sure, fs, lv, loose, room, ops, cut, off, fails⟩ := D'
  simp only [Dk.mk.injEq] at e
  obtain ⟨rfl, rfl, rfl, rfl, -, rfl, rfl, -, -, rfl, rfl, -, rfl, rfl, rfl⟩ := e
  simp only at ho hn hfs hnew hu hd hmk
  subst ho
  have hg : ∀ b, gw b a = 0 := fun b => by
    cases a with
    | grow => simp [isDir] at ha
    | _ => rfl
  have hzero : ∀ f : Fl, (∀ g ∈ D.fs, g.blk ≠ f.blk) → growT D.loose f.blk = 0 := fun f hf => by
    refine growT_zero _ _ (fun y hy => ?_)
    cases y with
    | grow g n =>
      obtain ⟨z, hz, hzb⟩ := h.growI g n hy
      show (if g = f.blk then n else 0) = 0
      rw [if_neg (fun e => hf z hz (hzb.trans e))]
    | _ => rfl
  have h' := h.mono (Nat.le_succ N) (Nat.le_refl B)
  refine ⟨by show 0 ≤ D.ops + 1; have := h.ops0; omega, by show D.ops + 1 ≤ _; have := h.opsN; omega, by show n ≤ _; have := h.nN; omega, by show (D.loose ++ [a]).length ≤ _; have := h.lN; simp; omega, h'.fls, h'.room, hd, fun s b hs => ?_, hi, h'.sinj, fun g n hm => ?_, fun s f b1 b2 hm => ?_, fun s t b1 b2 hm => ?_, fun f hf => ?_, fun f hf => ?_, ?_, ?_, hu⟩
  · obtain ⟨h1, f, hf, e⟩ := h.sureI s b hs
    exact ⟨h1, f, hfs f hf, e⟩
  · rcases List.mem_append.1 hm with hm | hm
    · obtain ⟨f, hf, e⟩ := h.growI g n hm
      exact ⟨f, hfs f hf, e⟩
    · rw [← List.mem_singleton.1 hm] at ha; simp [isDir] at ha
  · rcases List.mem_append.1 hm with hm | hm
    · obtain ⟨h1, x, hx, e⟩ := h.makeI s f b1 b2 hm
      exact ⟨h1, x, hfs x hx, e⟩
    · exact hmk s f b1 b2 (List.mem_singleton.1 hm).symm
  · rcases List.mem_append.1 hm with hm | hm
    · exact h.moveI s t b1 b2 hm
    · exact hmv s t b1 b2 (List.mem_singleton.1 hm).symm
  · show f.sure + growT (D.loose ++ [a]) f.blk = f.b.length
    rw [growT_append, growT_cons, hg]
    show f.sure + (growT D.loose f.blk + (0 + 0)) = _
    rcases hnew f hf with e | ⟨e1, e2, e3⟩
    · exact h.sum f e
    · rw [hzero f e3, e1, e2]; rfl
  · rcases hnew f hf with e | ⟨e1, e2, e3⟩
    · exact h.big f e
    · rw [e2]; exact Nat.zero_le _
  · show replay (D.loose ++ [a]) D.sure = a.app D.dir
    rw [replay_append, h.play]; rfl
  · show plays (D.loose ++ [a]) D.sure
    rw [plays_append, h.play]
    exact ⟨h.may, hmay, trivial⟩
theorem Good.gone (h : Good N B D) {s : ByteArray} {b1 : Nat} (v1 : Value) : Good (N + 1) B { D with ops := D.ops + 1, n := D.n + 1, dir := (Ac.gone s b1).app D.dir, lv := v1, loose := D.loose ++ [.gone s b1] } := by
  have hd : ∀ x b, (Ac.gone s b1).app D.dir x = some b → D.dir x = some b := fun x b hx => by
    simp only [Ac.app] at hx
    split at hx
    · cases hx
    · exact hx
  refine h.acted (a := .gone s b1) rfl rfl rfl (Nat.le_refl _) (fun _ hf => hf) (fun _ hf => .inl hf) h.uniq trivial (fun x b hx => h.dirI x b (hd x b hx)) (fun x y b hx hy => h.dinj x y b (hd x b hx) (hd y b hy)) ?_ ?_
  · intro _ _ _ _ e; cases e
  · intro _ _ _ _ e; cases e
theorem Good.move (h : Good N B D) {s t : ByteArray} {b1 b2 : Nat} (v1 : Value) (hs : (D.dir s).isSome = true) (ht : nameOk t = true) : Good (N + 1) B { D with ops := D.ops + 1, n := D.n + 1, dir := (Ac.move s t b1 b2).app D.dir, lv := v1, loose := D.loose ++ [.move s t b1 b2] } := by
  have hd : ∀ x b, (Ac.move s t b1 b2).app D.dir x = some b → x ≠ s ∧ ((x = t ∧ D.dir s = some b) ∨ (x ≠ t ∧ D.dir x = some b)) := fun x b hx => by
    simp only [Ac.app] at hx
    split at hx
    · cases hx
    · rename_i h1
      split at hx
      · rename_i h2; exact ⟨h1, .inl ⟨h2, hx⟩⟩
      · rename_i h2; exact ⟨h1, .inr ⟨h2, hx⟩⟩
  refine h.acted (a := .move s t b1 b2) rfl rfl rfl (Nat.le_refl _) (fun _ hf => hf) (fun _ hf => .inl hf) h.uniq hs (fun x b hx => ?_) (fun x y b hx hy => ?_) ?_ ?_
  · obtain ⟨_, ⟨rfl, h2⟩ | ⟨_, h2⟩⟩ := hd x b hx
    · exact ⟨ht, (h.dirI _ b h2).2⟩
    · exact h.dirI x b h2
  · obtain ⟨n1, ⟨rfl, h2⟩ | ⟨_, h2⟩⟩ := hd x b hx
    · obtain ⟨n2, ⟨rfl, h3⟩ | ⟨_, h3⟩⟩ := hd y b hy
      · rfl
      · exact absurd (h.dinj _ _ b h3 h2) n2
    · obtain ⟨n2, ⟨rfl, h3⟩ | ⟨_, h3⟩⟩ := hd y b hy
      · exact absurd (h.dinj _ _ b h2 h3) n1
      · exact h.dinj _ _ b h2 h3
  · intro _ _ _ _ e; cases e
  · intro _ _ _ _ e; injection e with _ e; rw [← e]; exact ht
theorem Good.mid (h : Good N B D) {s : ByteArray} {D3 : Dk} {f : Fl} (hm : Mid D s D3 f) (hs : nameOk s = true) : Good (N + 1) B D3 ∧ f ∈ D3.fs ∧ D3.dir s = some f.blk := by
  rcases hm with ⟨h1, h2, rfl⟩ | ⟨h1, h2, h3, b1, b2, v1, rfl⟩
  · exact ⟨h.count, h2, h1⟩
  · have hf : f ∈ (D.count.addF f).fs := by show f ∈ D.fs ++ [f]; simp
    have hd : ∀ x b, (Ac.make s f.blk b1 b2).app D.dir x = some b → (x = s ∧ b = f.blk) ∨ (x ≠ s ∧ D.dir x = some b) := fun x b hx => by
      simp only [Ac.app] at hx
      split at hx
      · rename_i e; injection hx with hx; exact .inl ⟨e, hx.symm⟩
      · rename_i e; exact .inr ⟨e, hx⟩
    have hsb : f.sure = 0 ∧ f.b = [] := by rw [h2]; exact ⟨rfl, rfl⟩
    have hdb : ∀ x, D.dir x ≠ some f.blk := fun x hx => by
      obtain ⟨_, g, hg, e⟩ := h.dirI x _ hx
      exact h3 g hg e
    refine ⟨h.acted (a := .make s f.blk b1 b2) rfl rfl rfl (Nat.le_refl _) (fun g hg => ?_) (fun g hg => ?_) (fun g hg k hk e => ?_) trivial (fun x b hx => ?_) (fun x y b hx hy => ?_) ?_ ?_, hf, ?_⟩
    · show g ∈ D.fs ++ [f]; exact List.mem_append_left _ hg
    · rcases List.mem_append.1 (show g ∈ D.fs ++ [f] from hg) with hg | hg
      · exact .inl hg
      · rw [List.mem_singleton.1 hg]; exact .inr ⟨hsb.1, hsb.2, h3⟩
    · rcases List.mem_append.1 (show g ∈ D.fs ++ [f] from hg) with hg | hg <;> rcases List.mem_append.1 (show k ∈ D.fs ++ [f] from hk) with hk | hk
      · exact h.uniq g hg k hk e
      · rw [List.mem_singleton.1 hk] at e; exact absurd e (h3 g hg)
      · rw [List.mem_singleton.1 hg] at e; exact absurd e.symm (h3 k hk)
      · rw [List.mem_singleton.1 hg, List.mem_singleton.1 hk]
    · rcases hd x b hx with ⟨rfl, rfl⟩ | ⟨_, h5⟩
      · exact ⟨hs, f, hf, rfl⟩
      · obtain ⟨h6, g, hg, e⟩ := h.dirI x b h5
        exact ⟨h6, g, by show g ∈ D.fs ++ [f]; exact List.mem_append_left _ hg, e⟩
    · rcases hd x b hx with ⟨rfl, rfl⟩ | ⟨_, h5⟩
      · rcases hd y _ hy with ⟨rfl, _⟩ | ⟨_, h6⟩
        · rfl
        · exact absurd h6 (hdb y)
      · rcases hd y b hy with ⟨rfl, rfl⟩ | ⟨_, h6⟩
        · exact absurd h5 (hdb x)
        · exact h.dinj x y b h5 h6
    · intro _ _ _ _ e; injection e with e1 e2; rw [← e1, ← e2]; exact ⟨hs, f, hf, rfl⟩
    · intro _ _ _ _ e; cases e
    · show (Ac.make s f.blk b1 b2).app D.dir s = _
      simp [Ac.app]
theorem mem_setF {f : Fl} (hf : f ∈ D.fs) (f' : Fl) (e : f'.blk = f.blk) (g : Fl) : g ∈ (D.setF f').fs ↔ g = f' ∨ (g ∈ D.fs ∧ g.blk ≠ f.blk) := by
  show g ∈ D.fs.map (fun g => if g.blk = f'.blk then f' else g) ↔ _
  rw [List.mem_map]
  constructor
  · rintro ⟨x, hx, rfl⟩
    by_cases e2 : x.blk = f'.blk
    · rw [if_pos e2]; exact .inl rfl
    · rw [if_neg e2]; exact .inr ⟨hx, fun e3 => e2 (e3.trans e.symm)⟩
  · rintro (rfl | ⟨h1, h2⟩)
    · exact ⟨f, hf, if_pos e.symm⟩
    · exact ⟨g, h1, if_neg (fun e3 => h2 (e3.trans e))⟩
theorem Good.turned (h : Good N B D) {f f' : Fl} (hf : f ∈ D.fs) (e : f'.blk = f.blk) {B' : Nat} (hB : B ≤ B') {l : List Ac} (lv : Value) (ops : Int) (hops : 0 ≤ ops ∧ ops ≤ N) (hl : l.length ≤ N) (hg : ∀ g n, Ac.grow g n ∈ l → ∃ f ∈ D.fs, f.blk = g) (hmk : ∀ s f b1 b2, Ac.make s f b1 b2 ∈ l → Ac.make s f b1 b2 ∈ D.loose) (hmv : ∀ s t b1 b2, Ac.move s t b1 b2 ∈ l → Ac.move s t b1 b2 ∈ D.loose)
    (hplay : replay l D.sure = D.dir) (hplays : plays l D.sure) (hsum : f'.sure + growT l f.blk = f'.b.length) (hoth : ∀ b, b ≠ f.blk → growT l b = growT D.loose b) (hbig : f'.b.length ≤ B') : Good N B' { D.setF f' with ops := ops, lv := lv, loose := l } := by
  have hmem := fun g => mem_setF hf f' e g
  have hin : ∀ b, (∃ g ∈ D.fs, g.blk = b) → ∃ g ∈ (D.setF f').fs, g.blk = b := fun b ⟨g, hg, hb⟩ => by
    by_cases e2 : g.blk = f.blk
    · exact ⟨f', (hmem f').2 (.inl rfl), by rw [e, ← e2, hb]⟩
    · exact ⟨g, (hmem g).2 (.inr ⟨hg, e2⟩), hb⟩
  refine ⟨hops.1, hops.2, h.nN, hl, h.fls, h.room, fun s b hs => ⟨(h.dirI s b hs).1, hin b (h.dirI s b hs).2⟩, fun s b hs => ⟨(h.sureI s b hs).1, hin b (h.sureI s b hs).2⟩, h.dinj, h.sinj, fun g n hm => hin g (hg g n hm), fun s g b1 b2 hm => ?_, fun s t b1 b2 hm => h.moveI s t b1 b2 (hmv s t b1 b2 hm), fun g hgm => ?_, fun g hgm => ?_, hplay, hplays, fun g hgm k hkm hb => ?_⟩
  · have := h.makeI s g b1 b2 (hmk s g b1 b2 hm)
    exact ⟨this.1, hin g this.2⟩
  · rcases (hmem g).1 hgm with rfl | ⟨h1, h2⟩
    · show _ + growT l _ = _
      rw [e]; exact hsum
    · show _ + growT l _ = _
      rw [hoth _ h2]; exact h.sum g h1
  · rcases (hmem g).1 hgm with rfl | ⟨h1, h2⟩
    · exact hbig
    · exact Nat.le_trans (h.big g h1) hB
  · rcases (hmem g).1 hgm with rfl | ⟨h1, h2⟩ <;> rcases (hmem k).1 hkm with rfl | ⟨h3, h4⟩
    · rfl
    · exact absurd (hb.symm.trans e) h4
    · exact absurd (hb.trans e) h2
    · exact h.uniq g h1 k h3 hb
theorem Good.grown (h : Good N B D) {f : Fl} (hf : f ∈ D.fs) (row lv : Value) (l : List Int) {B' : Nat} (hB : B ≤ B') (hbig : f.b.length + l.length ≤ B') : Good (N + 1) B' (D.grown f row lv l) := by
  have h' := h.mono (Nat.le_succ N) (Nat.le_refl B)
  refine h'.turned (f' := ⟨f.blk, row, f.b ++ l, f.sure⟩) hf rfl hB lv D.ops ⟨h'.ops0, h'.opsN⟩ (by have := h.lN; simp; omega) (fun g n hm => ?_) (fun s g b1 b2 hm => ?_) (fun s t b1 b2 hm => ?_) ?_ ?_ ?_ (fun b hb => ?_) (by show (f.b ++ l).length ≤ _; rw [List.length_append]; exact hbig)
  · rcases List.mem_append.1 hm with hm | hm
    · exact h.growI g n hm
    · injection List.mem_singleton.1 hm with e1; exact ⟨f, hf, e1.symm⟩
  · rcases List.mem_append.1 hm with hm | hm
    · exact hm
    · cases List.mem_singleton.1 hm
  · rcases List.mem_append.1 hm with hm | hm
    · exact hm
    · cases List.mem_singleton.1 hm
  · rw [replay_append, h.play]; rfl
  · rw [plays_append]; exact ⟨h.may, trivial, trivial⟩
  · rw [growT_append, growT_cons]
    show f.sure + (growT D.loose f.blk + ((if f.blk = f.blk then l.length else 0) + 0)) = (f.b ++ l).length
    have := h.sum f hf
    rw [if_pos rfl, List.length_append]; omega
  · rw [growT_append, growT_cons]
    show growT D.loose b + ((if f.blk = b then l.length else 0) + 0) = _
    rw [if_neg (fun e => hb e.symm)]; rfl
theorem mem_strike {f : Nat} {l : List Ac} {a : Ac} (h : a ∈ l.filter (fun a => !isOf f a)) : a ∈ l := (List.mem_filter.1 h).1
theorem Good.strike (h : Good N B D) {f : Fl} (hf : f ∈ D.fs) (row lv : Value) (l : List Int) (n : Nat) (hn : n = l.length) (hl : l.length ≤ B) : Good (N + 1) B ((D.struckF lv f.blk).setF ⟨f.blk, row, l, n⟩) := by
  have h' := h.mono (Nat.le_succ N) (Nat.le_refl B)
  have hlen : (D.loose.filter (fun a => !isOf f.blk a)).length ≤ N + 1 := Nat.le_trans (List.length_filter_le _ _) h'.lN
  exact h'.turned (f' := ⟨f.blk, row, l, n⟩) hf rfl (Nat.le_refl B) lv (D.ops + 1) (by have := h.ops0; have := h.opsN; omega) hlen (fun g m hm => h.growI g m (mem_strike hm)) (fun _ _ _ _ hm => mem_strike hm) (fun _ _ _ _ hm => mem_strike hm)
    ((replay_strike _ _ _).trans h.play) (plays_strike _ _ _ h.may) (by show n + growT (D.loose.filter fun a => !isOf f.blk a) f.blk = l.length; rw [growT_strike, if_pos rfl]; exact hn) (fun b hb => (growT_strike f.blk b D.loose).trans (if_neg hb)) hl
theorem Good.synced (h : Good N B D) (lv : Value) (m : Nat) : Good (N + 1) B (D.synced lv m) := by
  have h' := h.mono (Nat.le_succ N) (Nat.le_refl B)
  have hlen : (D.loose.filter (fun a => !isDir a)).length ≤ N + 1 := Nat.le_trans (List.length_filter_le _ _) h'.lN
  have ho : 0 ≤ D.ops + 1 ∧ D.ops + 1 ≤ ((N + 1 : Nat) : Int) := by have := h.ops0; have := h.opsN; omega
  have hno : ∀ a ∈ D.loose.filter (fun a => !isDir a), isDir a = false := filter_grows _
  have hg : ∀ g n, Ac.grow g n ∈ D.loose.filter (fun a => !isDir a) → ∃ f ∈ D.fs, f.blk = g := fun g n hm => h.growI g n (List.mem_filter.1 hm).1
  have hmk : ∀ s f b1 b2, Ac.make s f b1 b2 ∈ D.loose.filter (fun a => !isDir a) → nameOk s = true ∧ ∃ x ∈ D.fs, x.blk = f := fun s f b1 b2 hm => h.makeI s f b1 b2 (List.mem_filter.1 hm).1
  have hmv : ∀ s t b1 b2, Ac.move s t b1 b2 ∈ D.loose.filter (fun a => !isDir a) → nameOk t = true := fun s t b1 b2 hm => h.moveI s t b1 b2 (List.mem_filter.1 hm).1
  have hs : ∀ f ∈ D.fs, f.sure + growT (D.loose.filter (fun a => !isDir a)) f.blk = f.b.length := fun f hf => by rw [growT_dirs]; exact h.sum f hf
  unfold Dk.synced
  split
  · exact ⟨ho.1, ho.2, h'.nN, hlen, h'.fls, h'.room, h.sureI, h.sureI, h.sinj, h.sinj, hg, hmk, hmv, hs, h.big, replay_grows _ _ hno, plays_grows _ _ hno, h.uniq⟩
  · exact ⟨ho.1, ho.2, h'.nN, hlen, h'.fls, h'.room, h.dirI, h.dirI, h.dinj, h.dinj, hg, hmk, hmv, hs, h.big, replay_grows _ _ hno, plays_grows _ _ hno, h.uniq⟩
end
end Go.Proofs.YthlmbgaipbjbhaaDoor.L
