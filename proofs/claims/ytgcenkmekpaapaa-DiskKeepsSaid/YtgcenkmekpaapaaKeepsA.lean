/- A file that is synced, with the directory behind it: what other calls leave of it. -/
import Derived.Test.YtgcenkmekpaapaaLawFails
namespace Go.Proofs.Ytgcenkmekpaapaa.L
open Go.RowKit Go.Lib Go.Maps
set_option linter.unusedVariables false
open Go.Proofs.YtgcenkmekpaapaaW.PrintWords Go.Proofs.YtgcenkmekpaapaaW.PrintLast Go.Proofs.YtgcenkmekpaapaaW.PrintMore
abbrev sZ : ByteArray := ⟨#[122, 122, 45, 107, 101, 112, 116]⟩
theorem okZ : nameOk sZ = true := by kernel_rfl
def offZ (blk : Nat) : Ac → Prop
  | .grow _ _ => True
  | .make s f _ _ => s ≠ sZ ∧ f ≠ blk
  | .move s t _ _ => s ≠ sZ ∧ t ≠ sZ
  | .gone s _ => s ≠ sZ
abbrev OnlyZ (blk : Nat) (d : Names) : Prop := ∀ s, d s = some blk ↔ s = sZ
theorem app_off {blk : Nat} {a : Ac} {d : Names} (h : offZ blk a) (hd : OnlyZ blk d) : OnlyZ blk (a.app d) := fun x => by
  cases a with
  | grow f n => exact hd x
  | make s f b1 b2 =>
    show (if x = s then some f else d x) = some blk ↔ _
    by_cases e : x = s
    · rw [if_pos e]
      exact ⟨fun h2 => by injection h2 with h2; exact absurd h2 h.2, fun h2 => absurd (e.symm.trans h2) h.1⟩
    · rw [if_neg e]; exact hd x
  | move s t b1 b2 =>
    show (if x = s then none else if x = t then d s else d x) = some blk ↔ _
    by_cases e : x = s
    · rw [if_pos e]
      exact ⟨(fun h2 => by cases h2), fun h2 => absurd (e.symm.trans h2) h.1⟩
    · rw [if_neg e]
      by_cases e2 : x = t
      · rw [if_pos e2]
        exact ⟨fun h2 => absurd ((hd s).1 h2) h.1, fun h2 => absurd (e2.symm.trans h2) h.2⟩
      · rw [if_neg e2]; exact hd x
  | gone s b1 =>
    show (if x = s then none else d x) = some blk ↔ _
    by_cases e : x = s
    · rw [if_pos e]
      exact ⟨(fun h2 => by cases h2), fun h2 => absurd (e.symm.trans h2) h⟩
    · rw [if_neg e]; exact hd x
theorem replay_off {blk : Nat} : ∀ (l : List Ac) (d : Names), (∀ a ∈ l, offZ blk a) → OnlyZ blk d → OnlyZ blk (replay l d)
  | [], _, _, hd => hd
  | a :: l, d, h, hd => replay_off l (a.app d) (fun x hx => h x (List.mem_cons_of_mem _ hx)) (app_off (h a List.mem_cons_self) hd)
structure Kept (D : Dk) (blk : Nat) (b : List Int) (n : Nat) : Prop where
  dir : OnlyZ blk D.dir
  su : OnlyZ blk D.sure
  file : ∃ f ∈ D.fs, f.blk = blk ∧ f.b = b ∧ f.sure = n
  acts : ∀ a ∈ D.loose, offZ blk a
section
variable {w w' : World} {T : ByteArray → Prop} {N B L blk n : Nat} {D D' : Dk} {b : List Int}
theorem Kept.mid (k : Kept D blk b n) {s : ByteArray} {D3 : Dk} {f : Fl} (hm : Mid D s D3 f) (hs : s ≠ sZ) : Kept D3 blk b n ∧ f.blk ≠ blk ∧ f ∈ D3.fs := by
  obtain ⟨x, hx, hxb, hxc, hxs⟩ := k.file
  rcases hm with ⟨h1, h2, rfl⟩ | ⟨h1, h2, h3, b1, b2, v1, rfl⟩
  · exact ⟨⟨k.dir, k.su, k.file, k.acts⟩, fun e => hs ((k.dir s).1 (by rw [h1, e])), h2⟩
  · have hne : f.blk ≠ blk := fun e => h3 x hx (hxb.trans e.symm)
    refine ⟨⟨app_off (a := .make s f.blk b1 b2) ⟨hs, hne⟩ k.dir, k.su, ⟨x, ?_, hxb, hxc, hxs⟩, fun a ha => ?_⟩, hne, ?_⟩
    · show x ∈ D.fs ++ [f]; exact List.mem_append_left _ hx
    · rcases List.mem_append.1 ha with ha | ha
      · exact k.acts a ha
      · rw [List.mem_singleton.1 ha]; exact ⟨hs, hne⟩
    · show f ∈ D.fs ++ [f]; simp
theorem Kept.step (k : Kept D blk b n) (h : Stp T L D D') (hT : ∀ s, T s → s ≠ sZ) : Kept D' blk b n := by
  obtain ⟨x, hx, hxb, hxc, hxs⟩ := k.file
  cases h with
  | count => exact ⟨k.dir, k.su, k.file, k.acts⟩
  | gone s b1 v1 hs hd =>
    refine ⟨app_off (a := .gone s b1) (hT s hs) k.dir, k.su, k.file, fun a ha => ?_⟩
    rcases List.mem_append.1 ha with ha | ha
    · exact k.acts a ha
    · rw [List.mem_singleton.1 ha]; exact hT s hs
  | move s t b1 b2 v1 hs ht hd hn hne =>
    refine ⟨app_off (a := .move s t b1 b2) ⟨hT s hs, hT t ht⟩ k.dir, k.su, k.file, fun a ha => ?_⟩
    rcases List.mem_append.1 ha with ha | ha
    · exact k.acts a ha
    · rw [List.mem_singleton.1 ha]; exact ⟨hT s hs, hT t ht⟩
  | mid s D3 f hs hn hm => exact (k.mid hm (hT s hs)).1
  | grown s D3 f row lv l hs hn hm hl =>
    obtain ⟨k3, hne, hf⟩ := k.mid hm (hT s hs)
    obtain ⟨y, hy, hyb, hyc, hys⟩ := k3.file
    refine ⟨k3.dir, k3.su, ⟨y, ?_, hyb, hyc, hys⟩, fun a ha => ?_⟩
    · exact (mem_setF hf ⟨f.blk, row, f.b ++ l, f.sure⟩ rfl y).2 (.inr ⟨hy, fun e => hne (by rw [← e, hyb])⟩)
    · rcases List.mem_append.1 ha with ha | ha
      · exact k3.acts a ha
      · rw [List.mem_singleton.1 ha]; trivial
  | strike s f row lv l m hs hf hd hn hl =>
    have hne : f.blk ≠ blk := fun e => hT s hs ((k.dir s).1 (by rw [hd, e]))
    exact ⟨k.dir, k.su, ⟨x, (mem_setF (D := D.struckF lv f.blk) hf ⟨f.blk, row, l, m⟩ rfl x).2 (.inr ⟨hx, fun e => hne (by rw [← e, hxb])⟩), hxb, hxc, hxs⟩, fun a ha => k.acts a (List.mem_filter.1 ha).1⟩
  | synced lv m =>
    unfold Dk.synced
    split
    · exact ⟨k.su, k.su, k.file, fun a ha => k.acts a (List.mem_filter.1 ha).1⟩
    · exact ⟨k.dir, k.dir, k.file, fun a ha => k.acts a (List.mem_filter.1 ha).1⟩
  | failing x => exact ⟨k.dir, k.su, k.file, k.acts⟩
theorem Kept.more (k : Kept D blk b n) (g : Good N B D) {l : List Int} {c : Int} (h : AppTo D sZ l c D') : (c ≠ 0 → Kept D' blk b n) ∧ (c = 0 → Kept D' blk (b ++ l) n) := by
  obtain ⟨x, hx, hxb, hxc, hxs⟩ := k.file
  rcases h with ⟨hc, rfl⟩ | ⟨hc, hn, D3, f, hm, hh⟩
  · exact ⟨fun _ => ⟨k.dir, k.su, k.file, k.acts⟩, fun h => absurd h hc⟩
  · refine ⟨fun h => absurd hc h, fun _ => ?_⟩
    have hz : D.dir sZ = some blk := (k.dir sZ).2 rfl
    rcases hm with ⟨h1, h2, rfl⟩ | ⟨h1, _⟩
    · rw [hz] at h1
      injection h1 with h1
      obtain rfl := g.uniq x hx f h2 (hxb.trans h1)
      rcases hh with ⟨hnil, rfl⟩ | ⟨_, row, lv, rfl⟩
      · exact ⟨k.dir, k.su, ⟨x, hx, hxb, by rw [hnil, List.append_nil]; exact hxc, hxs⟩, k.acts⟩
      · refine ⟨k.dir, k.su, ⟨⟨x.blk, row, x.b ++ l, x.sure⟩, ?_, hxb, by rw [← hxc], hxs⟩, fun a ha => ?_⟩
        · exact (mem_setF (D := D.count) hx ⟨x.blk, row, x.b ++ l, x.sure⟩ rfl _).2 (.inl rfl)
        · rcases List.mem_append.1 ha with ha | ha
          · exact k.acts a ha
          · rw [List.mem_singleton.1 ha]; trivial
    · rw [hz] at h1; cases h1
theorem Kept.start (g : Good N B D) {f : Fl} (hf : f ∈ D.fs) (hd : D.dir sZ = some f.blk) (hs : f.sure = n) (hb : f.b = b) {lv : Value} {m : Nat} (hok : ¬ 0 < D.fails D.ops) : Kept (D.synced lv m) f.blk b n := by
  have ho : OnlyZ f.blk D.dir := fun s => ⟨fun h => g.dinj s sZ _ h hd, fun h => by rw [h]; exact hd⟩
  unfold Dk.synced
  rw [if_neg hok]
  refine ⟨ho, ho, ⟨f, hf, rfl, hb, hs⟩, fun a ha => ?_⟩
  obtain ⟨g', n', rfl⟩ := of_not_dir (filter_grows _ a ha)
  trivial
theorem Kept.crash (k : Kept D blk b n) (g : Good N B D) {keep torn : Int} {Dx : Dk} (h : Crashed keep torn D Dx) : ∃ m, n ≤ m ∧ m ≤ b.length ∧ ∃ f ∈ Dx.fs, Dx.dir sZ = some f.blk ∧ f.b = b.take m := by
  obtain ⟨x, hx, hxb, hxc, hxs⟩ := k.file
  have hd : dirU keep D.loose D.sure D.loose.length sZ = some x.blk := by
    rw [dirU_take _ _ _ _ (Nat.le_refl _), hxb]
    exact (replay_off _ _ (fun a ha => k.acts a (List.mem_of_mem_take ha)) k.su sZ).2 rfl
  obtain ⟨f, hf, h1, h2⟩ := h.there sZ x hx hd
  have h3 := g.growth hx keep torn
  exact ⟨crashN keep torn D x, by omega, by rw [← hxc]; exact h3.2, f, hf, h1, by rw [h2, hxc]⟩
theorem R_goes {v : Value} {l : List Int} (h : Kd.R kB 5 w 0 (fun k => k ∉ D.own) v l) (g : Goes w w' D D') : Kd.R kB 5 w' 0 (fun k => k ∉ D'.own) v l :=
  Kd.R_mono (Kd.R_step (Kd.R_mono (Kd.R_bound h) (fun k hk => (⟨hk.1, hk.2.2.1⟩ : k ∉ D.own ∧ k < w.heap.size))) (fun k hk hlt => g.fr.keep k hlt hk.1)) (fun k hk hm => (g.own k hm).elim hk.1 (fun e => by have := hk.2; omega))
theorem nums_append' (a c : List Int) : strOfNums (a ++ c) = strOfNums a ++ strOfNums c := by
  apply ByteArray.ext
  simp [strOfNums]
theorem nums_take (a : List Int) (m : Nat) : (strOfNums a).extract 0 m = strOfNums (a.take m) := by
  apply ByteArray.ext
  simp [strOfNums, List.map_take]
end
end Go.Proofs.Ytgcenkmekpaapaa.L
