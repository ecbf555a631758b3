/- A disk in memory. -/
import Derived.Test.YtgcenkmekpaapaaDir
import Derived.Test.YtgcenkmekpaapaaRight
namespace Go.Proofs.Ytgcenkmekpaapaa.L
open Go.RowKit Go.Lib Go.Maps
open Go.Proofs.YtgcenkmekpaapaaW.PrintWords Go.Proofs.YtgcenkmekpaapaaW.PrintLast Go.Proofs.YtgcenkmekpaapaaW.PrintMore
inductive Ac where
  | grow (f n : Nat)
  | make (s : ByteArray) (f b1 b2 : Nat)
  | move (s t : ByteArray) (b1 b2 : Nat)
  | gone (s : ByteArray) (b1 : Nat)
def acF : Ac → Value
  | .grow f _ => P f
  | _ => .pointer none
def acN : Ac → Int
  | .grow _ n => n
  | _ => 0
def acDo : Ac → Value
  | .grow _ _ => .nilFunc
  | .make _ _ b1 b2 => .func (.func 29) #[] #[P b1, P b2]
  | .move _ _ b1 b2 => .func (.func 36) #[] #[P b1, P b2]
  | .gone _ b1 => .func (.func 39) #[] #[P b1]
def acCells (a : Ac) : List Value := [acF a, .int .i64 (acN a), acDo a]
def kAc : Kd Ac where
  sz := 3
  E := []
  K := fun _ x cs => cs = acCells x
  M := fun _ _ _ x cs => cs = acCells x
  K_len := fun h => by rw [h]; rfl
  K_one := fun {_ x _} h u hu => by
    rw [h] at hu
    cases x <;> simp [acCells, acF, acN, acDo] at hu <;> rcases hu with rfl | rfl | rfl <;> rfl
  K_below := fun _ h => h
  K_of_M := fun h => h
  M_mono := fun _ h => h
  M_bound := fun h => h
  M_move := fun _ h => h
  M_lower := fun _ h => h
def bxs : Ac → List Nat
  | .grow _ _ => []
  | .make _ _ b1 b2 => [b1, b2]
  | .move _ _ b1 b2 => [b1, b2]
  | .gone _ b1 => [b1]
def BoxIs (w : World) : Ac → Prop
  | .grow _ _ => True
  | .make s f b1 b2 => w.heap[b1]? = some (.cells #[P f] 61 (0, 0)) ∧ w.heap[b2]? = some (.cells #[.string s] 9 (0, 0)) ∧ s.size ≤ 80
  | .move s t b1 b2 => w.heap[b1]? = some (.cells #[.string s] 9 (0, 0)) ∧ w.heap[b2]? = some (.cells #[.string t] 9 (0, 0)) ∧ s.size ≤ 80 ∧ t.size ≤ 80
  | .gone s b1 => w.heap[b1]? = some (.cells #[.string s] 9 (0, 0)) ∧ s.size ≤ 80
theorem BoxIs.keep {w w' : World} {a : Ac} (h : BoxIs w a) (hk : ∀ k ∈ bxs a, k < w.heap.size → w'.heap[k]? = w.heap[k]?) : BoxIs w' a := by
  cases a with
  | grow => trivial
  | make s f b1 b2 => exact ⟨(hk b1 (by simp [bxs]) (lt_of h.1)).trans h.1, (hk b2 (by simp [bxs]) (lt_of h.2.1)).trans h.2.1, h.2.2⟩
  | move s t b1 b2 => exact ⟨(hk b1 (by simp [bxs]) (lt_of h.1)).trans h.1, (hk b2 (by simp [bxs]) (lt_of h.2.1)).trans h.2.1, h.2.2⟩
  | gone s b1 => exact ⟨(hk b1 (by simp [bxs]) (lt_of h.1)).trans h.1, h.2⟩
theorem BoxIs.lt {w : World} {a : Ac} (h : BoxIs w a) : ∀ k ∈ bxs a, k < w.heap.size := by
  intro k hk
  cases a with
  | grow => simp [bxs] at hk
  | make s f b1 b2 =>
    simp [bxs] at hk
    rcases hk with rfl | rfl
    · exact lt_of h.1
    · exact lt_of h.2.1
  | move s t b1 b2 =>
    simp [bxs] at hk
    rcases hk with rfl | rfl
    · exact lt_of h.1
    · exact lt_of h.2.1
  | gone s b1 =>
    simp [bxs] at hk
    rw [hk]; exact lt_of h.1
structure Fl where
  blk : Nat
  row : Value
  b : List Int
  sure : Nat
structure FlAt (w : World) (f : Fl) : Prop where
  cell : w.heap[f.blk]? = some (.cells #[f.row, .int .i64 f.sure] 63 (0, 0))
  bytes : Kd.R (Kd.int .u8) 5 w 0 (fun k => f.row.ownBlock = some k) f.row f.b
def Fl.own (f : Fl) : List Nat := f.blk :: f.row.ownBlock.toList
theorem FlAt.keep {w w' : World} {f : Fl} (h : FlAt w f) (hk : ∀ k ∈ f.own, k < w.heap.size → w'.heap[k]? = w.heap[k]?) : FlAt w' f :=
  ⟨(hk _ List.mem_cons_self (lt_of h.cell)).trans h.cell, Kd.R_step h.bytes (fun k hk' hlt => hk k (List.mem_cons_of_mem _ (by rw [hk']; simp)) hlt)⟩
theorem FlAt.lt {w : World} {f : Fl} (h : FlAt w f) : ∀ k ∈ f.own, k < w.heap.size := by
  intro k hk
  rcases List.mem_cons.1 hk with e | hk
  · rw [e]; exact lt_of h.cell
  · obtain ⟨inner, ho⟩ := Kd.R_own h.bytes
    exact own_lt ho k (by simpa using hk)
structure Dk where
  d : Nat
  dm : Nat
  sm : Nat
  fm : Nat
  n : Nat
  dir : ByteArray → Option Nat
  sure : ByteArray → Option Nat
  fs : List Fl
  lv : Value
  loose : List Ac
  room : Int
  ops : Int
  cut : Int
  off : Bool
  fails : Int → Int
def Dk.own (D : Dk) : List Nat := D.d :: D.dm :: D.sm :: D.fm :: (D.lv.ownBlock.toList ++ D.fs.flatMap Fl.own)
def Dk.boxes (D : Dk) : List Nat := D.loose.flatMap bxs
def headObj (D : Dk) : Obj := .cells #[.map (some D.dm), .map (some D.sm), D.lv, .int .i64 D.room, .int .i64 D.ops, .int .i64 D.cut, .bool D.off, .map (some D.fm)] 58 (0, 0)
structure DkAt (w : World) (D : Dk) : Prop where
  cell : w.heap[D.d]? = some (headObj D)
  dirM : DirAt w D.dm D.n D.dir
  sureM : DirAt w D.sm D.n D.sure
  failM : FailAtM w D.fm D.n D.fails
  row : Kd.R kAc 67 w 0 (fun k => D.lv.ownBlock = some k) D.lv D.loose
  files : ∀ f ∈ D.fs, FlAt w f
  boxed : ∀ a ∈ D.loose, BoxIs w a
  nodup : D.own.Nodup
  boff : ∀ k ∈ D.boxes, k ∉ D.own
section
variable {w : World} {D : Dk}
theorem DkAt.lt (h : DkAt w D) : ∀ k ∈ D.own, k < w.heap.size := by
  intro k hk
  simp only [Dk.own, List.mem_cons, List.mem_append, List.mem_flatMap] at hk
  rcases hk with e | e | e | e | e | ⟨f, hf, hk⟩
  · rw [e]; exact lt_of h.cell
  · rw [e]; exact h.dirM.lt
  · rw [e]; exact h.sureM.lt
  · rw [e]; exact h.failM.lt
  · obtain ⟨inner, ho⟩ := Kd.R_own h.row
    exact own_lt ho k (by simpa using e)
  · exact (h.files f hf).lt k hk
theorem DkAt.blt (h : DkAt w D) : ∀ k ∈ D.boxes, k < w.heap.size := by
  intro k hk
  obtain ⟨a, ha, hk⟩ := List.mem_flatMap.1 hk
  exact (h.boxed a ha).lt k hk
theorem DkAt.keep {w' : World} (h : DkAt w D) (hk : ∀ k, k ∈ D.own ∨ k ∈ D.boxes → k < w.heap.size → w'.heap[k]? = w.heap[k]?) : DkAt w' D := by
  have hl := h.lt
  refine ⟨(hk _ (.inl (by simp [Dk.own])) (lt_of h.cell)).trans h.cell, h.dirM.keep (hk _ (.inl (by simp [Dk.own])) h.dirM.lt), h.sureM.keep (hk _ (.inl (by simp [Dk.own])) h.sureM.lt), h.failM.keep (hk _ (.inl (by simp [Dk.own])) h.failM.lt),
    Kd.R_step h.row (fun k hk' hlt => hk k (.inl (by simp [Dk.own, hk'])) hlt), fun f hf => (h.files f hf).keep (fun k hkf hlt => hk k (.inl ?_) hlt), fun a ha => (h.boxed a ha).keep (fun k hka hlt => hk k (.inr (List.mem_flatMap.2 ⟨a, ha, hka⟩)) hlt), h.nodup, h.boff⟩
  simp only [Dk.own, List.mem_cons, List.mem_append, List.mem_flatMap]
  exact .inr (.inr (.inr (.inr (.inr ⟨f, hf, hkf⟩))))
theorem DkAt.fr {w' : World} {own : List Nat} (h : DkAt w D) (f : Fr own w w') (hd : ∀ k, k ∈ D.own ∨ k ∈ D.boxes → k ∉ own) : DkAt w' D :=
  h.keep (fun k hk hlt => f.keep k hlt (hd k hk))
theorem DkAt.new {w' : World} (h : DkAt w D) (f : Fr [] w w') : DkAt w' D := h.fr f (fun k _ hm => by simp at hm)
theorem DkAt.c0 (h : DkAt w D) : w.cell? ⟨D.d, 0, none⟩ = some (.map (some D.dm)) := (cell_of h.cell 0).trans rfl
theorem DkAt.c1 (h : DkAt w D) : w.cell? ⟨D.d, 1, none⟩ = some (.map (some D.sm)) := (cell_of h.cell 1).trans rfl
theorem DkAt.c2 (h : DkAt w D) : w.cell? ⟨D.d, 2, none⟩ = some D.lv := (cell_of h.cell 2).trans rfl
theorem DkAt.c3 (h : DkAt w D) : w.cell? ⟨D.d, 3, none⟩ = some (.int .i64 D.room) := (cell_of h.cell 3).trans rfl
theorem DkAt.c4 (h : DkAt w D) : w.cell? ⟨D.d, 4, none⟩ = some (.int .i64 D.ops) := (cell_of h.cell 4).trans rfl
theorem DkAt.c5 (h : DkAt w D) : w.cell? ⟨D.d, 5, none⟩ = some (.int .i64 D.cut) := (cell_of h.cell 5).trans rfl
theorem DkAt.c6 (h : DkAt w D) : w.cell? ⟨D.d, 6, none⟩ = some (.bool D.off) := (cell_of h.cell 6).trans rfl
theorem DkAt.c7 (h : DkAt w D) : w.cell? ⟨D.d, 7, none⟩ = some (.map (some D.fm)) := (cell_of h.cell 7).trans rfl
theorem DkAt.free (h : DkAt w D) (i : Nat) : w.frozen? ⟨D.d, i, none⟩ = false := free_of h.cell i
theorem DkAt.d_lt (h : DkAt w D) : D.d < w.heap.size := lt_of h.cell
theorem DkAt.head {w' : World} {D' : Dk} (h : DkAt w D) (hc : w'.heap[D.d]? = some (headObj D')) (hk : ∀ k, k ≠ D.d → k < w.heap.size → w'.heap[k]? = w.heap[k]?)
    (e1 : D'.d = D.d) (e2 : D'.dm = D.dm) (e3 : D'.sm = D.sm) (e4 : D'.fm = D.fm) (e5 : D'.n = D.n) (e6 : D'.dir = D.dir) (e7 : D'.sure = D.sure) (e8 : D'.fs = D.fs) (e9 : D'.lv = D.lv) (e10 : D'.loose = D.loose) (e11 : D'.fails = D.fails) : DkAt w' D' := by
  have hown : D'.own = D.own := by simp only [Dk.own, e1, e2, e3, e4, e8, e9]
  have hbx : D'.boxes = D.boxes := by simp only [Dk.boxes, e10]
  have hnd := h.nodup
  have hne : ∀ k ∈ D.own.tail, k ≠ D.d := fun k hk e => (List.nodup_cons.1 hnd).1 (by rw [← e]; exact hk)
  have hbne : ∀ k ∈ D.boxes, k ≠ D.d := fun k hk e => h.boff k hk (by rw [e]; exact List.mem_cons_self)
  refine ⟨by rw [e1]; exact hc, ?_, ?_, ?_, ?_, ?_, ?_, by rw [hown]; exact hnd, by rw [hown, hbx]; exact h.boff⟩
  · rw [e2, e5, e6]; exact h.dirM.keep (hk _ (hne _ (by simp [Dk.own])) h.dirM.lt)
  · rw [e3, e5, e7]; exact h.sureM.keep (hk _ (hne _ (by simp [Dk.own])) h.sureM.lt)
  · rw [e4, e5, e11]; exact h.failM.keep (hk _ (hne _ (by simp [Dk.own])) h.failM.lt)
  · rw [e9, e10]; exact Kd.R_step h.row (fun k hk' hlt => hk k (hne k (by simp [Dk.own, hk'])) hlt)
  · rw [e8]; exact fun f hf => (h.files f hf).keep (fun k hkf hlt => hk k (hne k (by
      simp only [Dk.own, List.tail_cons, List.mem_cons, List.mem_append, List.mem_flatMap]
      exact .inr (.inr (.inr (.inr ⟨f, hf, hkf⟩))))) hlt)
  · rw [e10]; exact fun a ha => (h.boxed a ha).keep (fun k hka hlt => hk k (hbne k (List.mem_flatMap.2 ⟨a, ha, hka⟩)) hlt)
theorem DkAt.set_ops (h : DkAt w D) (x : Int) : DkAt (w.setCell ⟨D.d, 4, none⟩ (.int .i64 x)) { D with ops := x } :=
  h.head (by rw [heap_set h.cell]; rfl) (fun k hne _ => Below.heap_setCell w _ _ k hne) rfl rfl rfl rfl rfl rfl rfl rfl rfl rfl rfl
theorem DkAt.drew (h : DkAt w D) : DkAt w.drew D := h.new (Fr.refl [] w).drew
theorem DkAt.drewN (h : DkAt w D) (q : Nat) : DkAt (w.drewN q) D := h.new (Fr.of_drawn ⟨q, rfl⟩)
end
def Dk.dead (D : Dk) : Bool := D.off || (decide (0 ≤ D.cut) && decide (D.cut ≤ D.ops))
end Go.Proofs.Ytgcenkmekpaapaa.L
