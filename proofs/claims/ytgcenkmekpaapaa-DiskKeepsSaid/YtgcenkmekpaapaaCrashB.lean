/- Crash: the loose acts done again. (Printed by gen_crash.py.) -/
import Derived.Test.YtgcenkmekpaapaaCrashA
namespace Go.Proofs.Ytgcenkmekpaapaa.L
open Go.RowKit Go.Lib Go.Maps Go.ChangeMaps
open Go.Proofs.YtgcenkmekpaapaaW.PrintWords Go.Proofs.YtgcenkmekpaapaaW.PrintLast Go.Proofs.YtgcenkmekpaapaaW.PrintMore
def Ac.may : Ac → Names → Prop
  | .move s _ _ _, d => (d s).isSome = true
  | _, _ => True
def dirU (keep : Int) (l : List Ac) (d0 : Names) : Nat → Names
  | 0 => d0
  | k + 1 => match l[k]? with
    | some a => if (k : Int) < keep then a.app (dirU keep l d0 k) else dirU keep l d0 k
    | none => dirU keep l d0 k
def acG (keep torn : Int) (k : Nat) (a : Ac) (g : Nat → Int) : Nat → Int :=
  match a with
  | .grow f n => if (k : Int) < keep then addG g f n else if (k : Int) = max keep 0 then addG g f (min n (max torn 0)) else g
  | _ => g
def growU (keep torn : Int) (l : List Ac) : Nat → Nat → Int
  | 0 => fun _ => 0
  | k + 1 => match l[k]? with
    | some a => acG keep torn k a (growU keep torn l k)
    | none => growU keep torn l k
theorem dirU_step {keep : Int} {l : List Ac} {d0 : Names} {k : Nat} (h : k < l.length) : dirU keep l d0 (k + 1) = if (k : Int) < keep then l[k].app (dirU keep l d0 k) else dirU keep l d0 k := by
  show (match l[k]? with | some a => _ | none => _) = _
  rw [List.getElem?_eq_getElem h]
theorem growU_step {keep torn : Int} {l : List Ac} {k : Nat} (h : k < l.length) : growU keep torn l (k + 1) = acG keep torn k l[k] (growU keep torn l k) := by
  show (match l[k]? with | some a => _ | none => _) = _
  rw [List.getElem?_eq_getElem h]
theorem ac_kinds (a : Ac) : (∃ f n, a = .grow f n) ∨ (∃ s f b1 b2, a = .make s f b1 b2) ∨ (∃ s t b1 b2, a = .move s t b1 b2) ∨ ∃ s b1, a = .gone s b1 := by
  cases a with
  | grow f n => exact .inl ⟨f, n, rfl⟩
  | make s f b1 b2 => exact .inr (.inl ⟨s, f, b1, b2, rfl⟩)
  | move s t b1 b2 => exact .inr (.inr (.inl ⟨s, t, b1, b2, rfl⟩))
  | gone s b1 => exact .inr (.inr (.inr ⟨s, b1, rfl⟩))
structure Round (w wr : World) (D : Dk) (keep torn : Int) (gm sb mc kk : Nat) : Prop where
  dir : DirAt wr mc (D.n + kk) (dirU keep D.loose D.sure kk)
  grow : GrowAt wr gm (fun b => ∃ f ∈ D.fs, f.blk = b) (growU keep torn D.loose kk)
  box : wr.heap[sb]? = some (.cells #[.map (some gm)] 72 (0, 0))
  below : Below w.heap.size w wr
section
variable {w wr w2 : World} {D : Dk} {keep torn : Int} {gm sb mc kk : Nat}
theorem Round.new (h : Round w wr D keep torn gm sb mc kk) (f : Below wr.heap.size wr w2) : Round w w2 D keep torn gm sb mc kk :=
  ⟨h.dir.keep (f.block _ h.dir.lt), h.grow.keep (f.block _ h.grow.lt), (f.block _ (lt_of h.box)).trans h.box, h.below.trans (f.mono h.below.size)⟩
theorem Round.skip (h : Round w wr D keep torn gm sb mc kk) (hd : dirU keep D.loose D.sure (kk + 1) = dirU keep D.loose D.sure kk) (hg : growU keep torn D.loose (kk + 1) = growU keep torn D.loose kk) : Round w wr D keep torn gm sb mc (kk + 1) :=
  ⟨by rw [hd]; exact h.dir.mono (by omega), by rw [hg]; exact h.grow, h.box, h.below⟩
theorem Round.grown (h : Round w wr D keep torn gm sb mc kk) (hd : dirU keep D.loose D.sure (kk + 1) = dirU keep D.loose D.sure kk) {g : Nat → Int} (hg : growU keep torn D.loose (kk + 1) = g) (hga : GrowAt w2 gm (fun b => ∃ f ∈ D.fs, f.blk = b) g) (hf : Fr [gm] wr w2) (h1 : w.heap.size ≤ gm) (h2 : mc ≠ gm) (h3 : sb ≠ gm) : Round w w2 D keep torn gm sb mc (kk + 1) :=
  ⟨by rw [hd]; exact (h.dir.keep (hf.keep _ h.dir.lt (by simpa using h2))).mono (by omega), by rw [hg]; exact hga, (hf.keep _ (lt_of h.box) (by simpa using h3)).trans h.box, h.below.trans (hf.below h.below.size (fun k hk => by rw [List.mem_singleton.1 hk]; exact h1))⟩
theorem Round.turned (h : Round w wr D keep torn gm sb mc kk) {d : Names} (hd : dirU keep D.loose D.sure (kk + 1) = d) (hg : growU keep torn D.loose (kk + 1) = growU keep torn D.loose kk) (hda : DirAt w2 mc (D.n + kk + 1) d) (hf : Fr [mc] wr w2) (h1 : w.heap.size ≤ mc) (h2 : gm ≠ mc) (h3 : sb ≠ mc) : Round w w2 D keep torn gm sb mc (kk + 1) :=
  ⟨by rw [hd]; exact hda.mono (by omega), by rw [hg]; exact h.grow.keep (hf.keep _ h.grow.lt (by simpa using h2)), (hf.keep _ (lt_of h.box) (by simpa using h3)).trans h.box, h.below.trans (hf.below h.below.size (fun k hk => by rw [List.mem_singleton.1 hk]; exact h1))⟩
theorem Round.call (h : Round w wr D keep torn gm sb mc kk) (hD : DkAt w D) {f : Nat} (hf : ∃ x ∈ D.fs, x.blk = f) (n k : Int) (h0 : 0 ≤ growU keep torn D.loose kk f + k) (h1 : growU keep torn D.loose kk f + k < 4611686018427387904) :
    Calls Try.prog 34 #[.agg #[P f, .int .i64 n, .nilFunc], .int .i64 k, P sb] wr fun e w' => e = .returned (.tuple #[]) ∧ GrowAt w' gm (fun b => ∃ f ∈ D.fs, f.blk = b) (addG (growU keep torn D.loose kk) f k) ∧ Fr [gm] wr w' :=
  grow_calls h.grow (fun b hb => by
    obtain ⟨x, hx, rfl⟩ := hb
    exact ⟨_, _, ((hD.new (Fr.of_below h.below [])).files x hx).cell⟩) sb h.box f hf n k h0 h1
theorem Round.make (h : Round w wr D keep torn gm sb mc kk) (hD : DkAt w D) {s : ByteArray} {f b1 b2 : Nat} (hin : Ac.make s f b1 b2 ∈ D.loose) (hn : D.n + kk < maxLen) :
    Calls Try.prog 29 #[.map (some mc), P b1, P b2] wr fun e w' => e = .returned (.tuple #[]) ∧ DirAt w' mc (D.n + kk + 1) ((Ac.make s f b1 b2).app (dirU keep D.loose D.sure kk)) ∧ Fr [mc] wr w' :=
  do_make s f b1 b2 ((hD.boxed _ hin).keep (fun k _ hlt => h.below.block k hlt)) h.dir hn
theorem Round.gone (h : Round w wr D keep torn gm sb mc kk) (hD : DkAt w D) {s : ByteArray} {b1 : Nat} (hin : Ac.gone s b1 ∈ D.loose) :
    Calls Try.prog 39 #[.map (some mc), P b1] wr fun e w' => e = .returned (.tuple #[]) ∧ DirAt w' mc (D.n + kk + 1) ((Ac.gone s b1).app (dirU keep D.loose D.sure kk)) ∧ Fr [mc] wr w' :=
  do_gone s b1 ((hD.boxed _ hin).keep (fun k _ hlt => h.below.block k hlt)) h.dir
theorem Round.move (h : Round w wr D keep torn gm sb mc kk) (hD : DkAt w D) {s t : ByteArray} {b1 b2 : Nat} (hin : Ac.move s t b1 b2 ∈ D.loose) (hn : D.n + kk < maxLen) (hm : (Ac.move s t b1 b2).may (dirU keep D.loose D.sure kk)) (h1 : w.heap.size ≤ mc) :
    Calls Try.prog 36 #[.map (some mc), P b1, P b2] wr fun e w' => e = .returned (.tuple #[]) ∧ DirAt w' mc (D.n + kk + 1) ((Ac.move s t b1 b2).app (dirU keep D.loose D.sure kk)) ∧ Fr [mc] wr w' := by
  obtain ⟨fb, hfb⟩ := Option.isSome_iff_exists.1 (show ((dirU keep D.loose D.sure kk) s).isSome = true from hm)
  have hb := hD.boxed _ hin
  exact do_move s t b1 b2 (hb.keep (fun k _ hlt => h.below.block k hlt)) h.dir hn fb hfb (fun e => by have := hb.lt b1 (by simp [bxs]); omega)
end
theorem ne_nil (w : World) (a : Addr) : (binOp .neq 61 (.pointer (some a)) (.pointer none)).run Try.prog w = .ok (.bool true) w := by
  have h : ∀ d : Nat, (Op.equalIn (d + 1) 61 (.pointer (some a)) (.pointer none)).run Try.prog w = .ok false w := fun d => by
    simp [Op.equalIn, run_underlying uP]
  simp only [binOp]
  simp [Op.equal, Op.maxDepth, h 9999]
theorem nil_nil (w : World) : (binOp .neq 61 (.pointer none) (.pointer none)).run Try.prog w = .ok (.bool false) w := by
  have h : ∀ d : Nat, (Op.equalIn (d + 1) 61 (.pointer none) (.pointer none)).run Try.prog w = .ok true w := fun d => by
    simp [Op.equalIn, run_underlying uP]
  simp only [binOp]
  simp [Op.equal, Op.maxDepth, h 9999]
theorem d_nil (w : World) (a : Addr) : (binOp .eql 26 (.pointer (some a)) (.pointer none)).run Try.prog w = .ok (.bool false) w := by
  have hu : Try.prog.underlying 26 = some (.pointer 58) := by kernel_rfl
  have h : ∀ d : Nat, (Op.equalIn (d + 1) 26 (.pointer (some a)) (.pointer none)).run Try.prog w = .ok false w := fun d => by
    simp [Op.equalIn, run_underlying hu]
  simp only [binOp]
  simp [Op.equal, Op.maxDepth, h 9999]
end Go.Proofs.Ytgcenkmekpaapaa.L
