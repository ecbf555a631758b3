/- What DiskCrashes says, of lists and names. -/
import Derived.Test.YtgcenkmekpaapaaLawOff
namespace Go.Proofs.Ytgcenkmekpaapaa.L
open Go.RowKit Go.Lib Go.Maps
set_option linter.unusedVariables false
open Go.Proofs.YtgcenkmekpaapaaW.PrintWords Go.Proofs.YtgcenkmekpaapaaW.PrintLast Go.Proofs.YtgcenkmekpaapaaW.PrintMore
theorem names_perm {d1 d2 : Names} {es1 es2 : List (ByteArray × Nat)} (h1 : Lists d1 es1) (h2 : Lists d2 es2) (h : ∀ s, (d1 s).isSome = (d2 s).isSome) : (es1.map (·.1)).Perm (es2.map (·.1)) := by
  refine (List.perm_ext_iff_of_nodup h1.nodup h2.nodup).2 (fun s => ?_)
  have one : ∀ {d1 d2 : Names} {es1 es2 : List (ByteArray × Nat)}, Lists d1 es1 → Lists d2 es2 → (∀ s, (d1 s).isSome = (d2 s).isSome) → s ∈ es1.map (·.1) → s ∈ es2.map (·.1) := fun {d1 d2 es1 es2} h1 h2 h hs => by
    obtain ⟨p, hp, rfl⟩ := List.mem_map.1 hs
    have hd := (h1.is p.1 p.2 (h1.short p hp)).2 hp
    have hi : (d2 p.1).isSome = true := by rw [← h p.1, hd]; rfl
    obtain ⟨b, hb⟩ := Option.isSome_iff_exists.1 hi
    exact List.mem_map.2 ⟨(p.1, b), (h2.is p.1 b (h1.short p hp)).1 hb, rfl⟩
  exact ⟨one h1 h2 h, one h2 h1 (fun s => (h s).symm)⟩
theorem nameL_same {d1 d2 : Names} {es1 es2 : List (ByteArray × Nat)} (h1 : Lists d1 es1) (h2 : Lists d2 es2) (h : ∀ s, (d1 s).isSome = (d2 s).isSome) : nameL es1 = nameL es2 := by
  have hp := (names_perm h1 h2 h).map (fun s : ByteArray => s.data.toList)
  unfold nameL namesOf
  rw [List.map_map, List.map_map] at hp
  exact congrArg _ (mergeSort_of_perm hp)
section
variable {w w' : World} {N B : Nat} {D D' Dx Dy : Dk}
theorem Crashed.isSome {keep torn : Int} (h : Crashed keep torn D D') (g : Good N B D) (s : ByteArray) : (D'.dir s).isSome = (dirU keep D.loose D.sure D.loose.length s).isSome := by
  cases hd : dirU keep D.loose D.sure D.loose.length s with
  | none => rw [h.gone s hd]
  | some b =>
    obtain ⟨_, f, hf, rfl⟩ := g.behind keep s b hd
    obtain ⟨f', _, h2, _⟩ := h.there s f hf hd
    rw [h2]; rfl
theorem Good.again (g : Good N B D) (hl : D.loose = []) (hs : D.sure = D.dir) (keep : Int) : dirU keep D.loose D.sure D.loose.length = D.dir := by
  rw [hl, ← hs]; rfl
theorem Good.again_b (g : Good N B D) (hl : D.loose = []) {f : Fl} (hf : f ∈ D.fs) (keep torn : Int) : f.b.take (crashN keep torn D f) = f.b := by
  have h := g.sum f hf
  rw [hl] at h
  have h2 : crashN keep torn D f = f.sure := by
    unfold crashN
    rw [hl]
    simp [growU]
  rw [h2, List.take_of_length_le]
  have h3 : growT [] f.blk = 0 := rfl
  omega
theorem codeE_there {s : ByteArray} (hn : nameOk s = true) (hd : (D.dir s).isSome = true) (hf : ∀ k, D.fails k = 0) : codeE D true [s] = 0 := by
  have h1 : ((D.dir ([s].headD ByteArray.empty)).isNone) = false := by
    show (D.dir s).isNone = false
    cases hx : D.dir s with
    | none => rw [hx] at hd; cases hd
    | some _ => rfl
  unfold codeE startE
  rw [h1, hf]
  simp [hn]
end
end Go.Proofs.Ytgcenkmekpaapaa.L
