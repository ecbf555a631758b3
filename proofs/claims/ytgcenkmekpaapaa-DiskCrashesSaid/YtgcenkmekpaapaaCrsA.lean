/- What DiskCrashes says, of lists and names. -/
import Derived.Test.YtgcenkmekpaapaaLawOff
namespace Go.Proofs.Ytgcenkmekpaapaa.L
open Go.RowKit Go.Lib Go.Maps
set_option linter.unusedVariables false
open Go.Proofs.YtgcenkmekpaapaaW.PrintWords Go.Proofs.YtgcenkmekpaapaaW.PrintLast Go.Proofs.YtgcenkmekpaapaaW.PrintMore
theorem names_perm {d1 d2 : Names} {es1 es2 : List (ByteArray × Nat)} (h1 : Lists d1 es1) (h2 : Lists d2 es2) (h : ∀ s, (d1 s).isSome = (d2 s).isSome) : (es1.map (·.1)).Perm (es2.map (·.1)) := by
  refine (List.perm_ext_iff_of_nodup h1.nodup h2.nodup).2 (fun s => ?_)
  have one : ∀ {d1 d2 : Names} {es1 es2 : List (ByteArray × Nat)}, Lists d1 es1 → Lists d2 es2 → (∀ s, (d1 s).isSome = (d2 s).isSome) → s ∈ es1.map (·.1) → s ∈ es2.map (·.1) := fun {d1 d2 es1 es2} h1 h2 h hs => by
    obtain ⟨p, hp, rfl⟩ := List.mem_map.1 hs
    have hd := (h1.is p.1 p.2 (h1.short p hp)).2 hp
    have hi : (d2 p.1).isSome = true := by rw [← h p.1, hd]; rfl
    obtain ⟨b, hb⟩ := Option.isSome_iff_exists.1 hi
    exact List.mem_map.2 ⟨(p.1, b), (h2.is p.1 b (h1.short p hp)).1 hb, rfl⟩
  exact ⟨one h1 h2 h, one h2 h1 (fun s => (h s).symm)⟩
theorem nameL_same {d1 d2 : Names} {es1 es2 : List (ByteArray × Nat)} (h1 : Lists d1 es1) (h2 : Lists d2 es2) (h : ∀ s, (d1 s).isSome = (d2 s).isSome) : nameL es1 = nameL es2 := by
  have hp := (names_perm h1 h2 h).map (fun s : ByteArray => s.data.toList)
  unfold nameL namesOf
  rw [List.map_map, List.map_map] at hp
  exact congrArg _ (mergeSort_of_perm hp)
theorem nameL_mem {d : Names} {es : List (ByteArray × Nat)} (h : Lists d es) {s : ByteArray} (hs : s ∈ nameL es) : ∃ b, d s = some b := by
  unfold nameL at hs
  obtain ⟨x, hx, rfl⟩ := List.mem_map.1 hs
  have h2 : x ∈ es.map fun p => p.1.data.toList := List.mem_mergeSort.1 hx
  obtain ⟨p, hp, rfl⟩ := List.mem_map.1 h2
  exact ⟨p.2, (h.is p.1 p.2 (h.short p hp)).2 hp⟩
theorem nameL_length (es : List (ByteArray × Nat)) : (nameL es).length = es.length := by
  simp [nameL, namesOf]
theorem growU_all {keep torn : Int} {l : List Ac} {b : Nat} : ∀ k, k ≤ l.length → (k : Int) ≤ keep → growU keep torn l k b = growT (l.take k) b
  | 0, _, _ => by simp [growU, growT]
  | k + 1, hk, hk2 => by
    have ih := growU_all (keep := keep) (torn := torn) (l := l) (b := b) k (by omega) (by omega)
    have hlt : (k : Int) < keep := by omega
    rw [growU_step (by omega), growT_take_succ (by omega)]
    have hh : ∀ a : Ac, acG keep torn k a (growU keep torn l k) b = (growT (l.take k) b : Int) + gw b a := fun a => by
      cases a with
      | grow f n =>
        simp only [acG, gw, if_pos hlt, addG]
        by_cases e : b = f
        · subst e; simp [ih]
        · have e2 : ¬ f = b := fun h => e h.symm
          simp [e, e2, ih]
      | _ => simp only [acG, gw]; omega
    have := hh (l[k]'(by omega))
    omega
section
variable {w w' : World} {N B : Nat} {D D' Dx Dy : Dk}
theorem Good.kept_all (g : Good N B D) {f : Fl} (hf : f ∈ D.fs) (torn : Int) : crashN (D.loose.length : Int) torn D f = f.b.length := by
  have h := growU_all (keep := (D.loose.length : Int)) (torn := torn) (b := f.blk) D.loose.length (Nat.le_refl _) (Int.le_refl _)
  rw [List.take_length] at h
  have h2 := g.sum f hf
  unfold crashN
  omega
theorem Good.dir_all (g : Good N B D) : dirU (D.loose.length : Int) D.loose D.sure D.loose.length = D.dir := by
  rw [dirU_take _ _ _ _ (Nat.le_refl _), show min D.loose.length (D.loose.length : Int).toNat = D.loose.length by omega, List.take_length, g.play]
theorem Crashed.isSome {keep torn : Int} (h : Crashed keep torn D D') (g : Good N B D) (s : ByteArray) : (D'.dir s).isSome = (dirU keep D.loose D.sure D.loose.length s).isSome := by
  cases hd : dirU keep D.loose D.sure D.loose.length s with
  | none => rw [h.gone s hd]
  | some b =>
    obtain ⟨_, f, hf, rfl⟩ := g.behind keep s b hd
    obtain ⟨f', _, h2, _⟩ := h.there s f hf hd
    rw [h2]; rfl
theorem Good.again (g : Good N B D) (hl : D.loose = []) (hs : D.sure = D.dir) (keep : Int) : dirU keep D.loose D.sure D.loose.length = D.dir := by
  rw [hl, ← hs]; rfl
theorem Good.again_b (g : Good N B D) (hl : D.loose = []) {f : Fl} (hf : f ∈ D.fs) (keep torn : Int) : f.b.take (crashN keep torn D f) = f.b := by
  have h := g.sum f hf
  rw [hl] at h
  have h2 : crashN keep torn D f = f.sure := by
    unfold crashN
    rw [hl]
    simp [growU]
  rw [h2, List.take_of_length_le]
  have h3 : growT [] f.blk = 0 := rfl
  omega
theorem all_sizes {torn : Int} (g : Good N B D) (h : Crashed (D.loose.length : Int) torn D D') {s : ByteArray} {b : Nat} (hs : D.dir s = some b) : ∃ f ∈ D.fs, D.dir s = some f.blk ∧ ∃ f' ∈ D'.fs, D'.dir s = some f'.blk ∧ f'.b.length = f.b.length := by
  obtain ⟨_, f, hf, rfl⟩ := g.dirI s b hs
  obtain ⟨f', hf', h1, h2⟩ := h.there s f hf (by rw [g.dir_all]; exact hs)
  refine ⟨f, hf, hs, f', hf', h1, ?_⟩
  rw [h2, g.kept_all hf, List.take_length]
theorem Good.at_ops (g : Good N B D) (j : Nat) (hj : j ≤ N) : Good N B { D with ops := (j : Int) } :=
  ⟨Int.natCast_nonneg _, by show (j : Int) ≤ N; omega, g.nN, g.lN, g.fls, g.room, g.dirI, g.sureI, g.dinj, g.sinj, g.growI, g.makeI, g.moveI, g.sum, g.big, g.play, g.may, g.uniq⟩
theorem ops_zero (h : D.ops = 0) : ({ D with ops := ((0 : Nat) : Int) } : Dk) = D := by
  cases D
  simp only at h
  subst h
  rfl
theorem codeE_there {s : ByteArray} (hn : nameOk s = true) (hd : (D.dir s).isSome = true) (hf : ∀ k, D.fails k = 0) : codeE D true [s] = 0 := by
  have h1 : ((D.dir ([s].headD ByteArray.empty)).isNone) = false := by
    show (D.dir s).isNone = false
    cases hx : D.dir s with
    | none => rw [hx] at hd; cases hd
    | some _ => rfl
  unfold codeE startE
  rw [h1, hf]
  simp [hn]
theorem read_again {keep torn : Int} {M : Nat} (gx : Good N B Dx) (gy : Good M B Dy) (hl : Dx.loose = []) (hs : Dx.sure = Dx.dir) (h : Crashed keep torn Dx Dy) {s : ByteArray} {f f2 : Fl} (hf : f ∈ Dx.fs) (hd : Dx.dir s = some f.blk) (hf2 : f2 ∈ Dy.fs) (hd2 : Dy.dir s = some f2.blk) : f2.b = f.b := by
  obtain ⟨f', hf', h1, h2⟩ := h.there s f hf (by rw [gx.again hl hs]; exact hd)
  rw [hd2] at h1
  injection h1 with h1
  rw [gy.uniq f2 hf2 f' hf' h1, h2, gx.again_b hl hf]
end
end Go.Proofs.Ytgcenkmekpaapaa.L
