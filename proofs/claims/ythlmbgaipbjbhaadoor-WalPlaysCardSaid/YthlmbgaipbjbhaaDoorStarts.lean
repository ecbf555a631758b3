/- disk.right: which names are names. A disk in memory. An operation's beginning. -/
import Derived.Test.YthlmbgaipbjbhaaDoorDir
import Derived.Shelf.Abstract
import Derived.Deep.QuietTactic
import Derived.BigQuiet
import Derived.StillTailTactics
import Derived.Deep.DeepCutAuto
section
namespace Go.Proofs.YthlmbgaipbjbhaaDoor.L
open Go.RowKit Go.Lib
open Go.Proofs.YthlmbgaipbjbhaaDoorW.PrintWords Go.Proofs.YthlmbgaipbjbhaaDoorW.PrintLast Go.Proofs.YthlmbgaipbjbhaaDoorW.PrintMore
def badC (c : Int) : Bool := decide (c < 33) || decide (126 < c)
def nameOk (s : ByteArray) : Bool := decide (1 ≤ s.size) && decide (s.size ≤ 80) && !(bytesOf s).any badC
set_option maxRecDepth 100000 in
theorem bad_calls (c : Int) (w : World) : Calls Tryd.prog 76 #[.int .u8 c] w fun e w' => e = .returned (.bool (badC c)) ∧ w' = w := by
  by_cases h : c < 33
  · have e : badC c = true := by simp [badC, h]
    rw [e]
    go_enter Tryd.func76, Tryd.ntmps76
    go_wp2
    go_ret
    exact ⟨rfl, rfl⟩
  · by_cases h2 : 126 < c
    · have e : badC c = true := by simp [badC, h2]
      rw [e]
      go_enter Tryd.func76, Tryd.ntmps76
      go_wp2
      go_ret
      exact ⟨rfl, rfl⟩
    · have e : badC c = false := by simp [badC, h, h2]
      rw [e]
      go_enter Tryd.func76, Tryd.ntmps76
      go_wp2
      go_ret
      exact ⟨rfl, rfl⟩
set_option maxHeartbeats 2000000 in
set_option maxRecDepth 100000 in
theorem index_calls (b0 c0 : Nat) (l : List Int) (w : World) (hc : ∀ j, j < l.length → w.cell? ⟨b0, j, none⟩ = some (.int .u8 (l.getD j 0))) (hl : l.length < 4611686018427387904) :
    Calls Tryd.prog 89 #[.slice (some ⟨b0, 0, none⟩) l.length c0, .func (.func 76) #[] #[]] w fun e w' => ∃ i : Int, e = .returned (.int .i64 i) ∧ decide (0 ≤ i) = l.any badC ∧ w' = w := by
  have e33 : ∀ args w, (callFunc 76 args).run Tryd.prog w = .ok (.enter 76 args) w := enters_of Tryd.func76 (by kernel_rfl) rfl
  have HC := hid hc
  clear hc
  generalize hn : l.length = n at *
  go_enter Tryd.func89, Tryd.ntmps89
  go_wp2
  go_loopg [5, 8] n (fun gg _ s8 wr => ∃ kk : Nat, kk ≤ n ∧ n - kk ≤ gg ∧ s8 = .int .i64 kk ∧ w = wr ∧ Hid ((l.drop kk).any badC = l.any badC))
  case atStart => exact ⟨0, Nat.zero_le _, by omega, rfl, rfl, hid rfl⟩
  case round =>
    obtain ⟨kk, hkk, hg, rfl, rfl, HA⟩ := hrel
    by_cases hlt : kk < n
    · have hltz : (kk : Int) < (n : Int) := by omega
      have hd : l.drop kk = l.getD kk 0 :: l.drop (kk + 1) := by
        rw [List.drop_eq_getElem_cons (by omega), List.getD_eq_getElem?_getD, List.getElem?_eq_getElem (by omega)]; rfl
      have hcell := HC.out kk hlt
      have HA1 := HA.out
      clear HA
      rw [hd, List.any_cons] at HA1
      clear hd
      generalize l.getD kk 0 = y at hcell HA1
      cases hb : badC y with
      | false =>
        rw [hb, Bool.false_or] at HA1
        have HA2 := hid HA1
        have hcall := hid (show Calls Tryd.prog 76 #[.int .u8 y] w fun e w' => e = .returned (.bool false) ∧ w' = w from by rw [← hb]; exact bad_calls y w)
        clear hb HA1
        go_wp2_with (go_at_fn 76; refine hcall.out.mono ?_; rintro e w_ ⟨rfl, hww⟩; have hww2 := hww.symm; subst hww2)
        go_roundg (n - (kk + 1))
        case measure => omega
        case rel => exact ⟨kk + 1, by omega, by omega, by go_num, rfl, HA2⟩
      | true =>
        rw [hb, Bool.true_or] at HA1
        have HA2 := hid HA1
        have hcall := hid (show Calls Tryd.prog 76 #[.int .u8 y] w fun e w' => e = .returned (.bool true) ∧ w' = w from by rw [← hb]; exact bad_calls y w)
        clear hb HA1
        go_wp2_with (go_at_fn 76; refine hcall.out.mono ?_; rintro e w_ ⟨rfl, hww⟩; have hww2 := hww.symm; subst hww2)
        go_ret
        exact ⟨_, rfl, by rw [← HA2.out]; simp, rfl⟩
    · have hltz : ¬ (kk : Int) < (n : Int) := by omega
      have hr : l.any badC = false := by
        have := HA.out
        rw [List.drop_of_length_le (by omega)] at this
        simpa using this.symm
      have HR := hid hr
      clear hr HA
      go_wp2
      go_ret
      exact ⟨_, rfl, by rw [HR.out]; simp, rfl⟩
set_option maxHeartbeats 2000000 in
set_option maxRecDepth 100000 in
theorem contains_calls (s : ByteArray) (w W : World) (c0 : Nat) (hs : s.size ≤ 80) (hW : W = Lib.bytesWorld w 5 s) :
    Calls Tryd.prog 75 #[.slice (some ⟨w.heap.size, 0, none⟩) s.size c0, .func (.func 76) #[] #[]] W fun e w' => e = .returned (.bool ((bytesOf s).any badC)) ∧ w' = W := by
  have hr : ReadsInt W .u8 (some ⟨w.heap.size, 0, none⟩) s.size (bytesOf s) := by rw [hW]; exact bytes_reads w 5 s (by omega)
  have hlen : (bytesOf s).length = s.size := bytesOf_length s
  have HI := hid (show Calls Tryd.prog 89 #[.slice (some ⟨w.heap.size, 0, none⟩) s.size c0, .func (.func 76) #[] #[]] W fun e w' => ∃ i : Int, e = .returned (.int .i64 i) ∧ decide (0 ≤ i) = (bytesOf s).any badC ∧ w' = W from by
    rw [← hlen]
    refine index_calls w.heap.size c0 (bytesOf s) W (fun j hj => ?_) (by omega)
    obtain ⟨ad, he, hc⟩ := hr.2.2 (by omega)
    injection he with he
    have := hc j (by omega)
    rw [← he] at this
    rw [← this]
    congr 1
    unfold Addr.add
    split
    · rename_i hz; rw [hz]
    · simp)
  clear hr hW
  go_enter Tryd.func75, Tryd.ntmps75
  go_wp2_with (go_at_call 89; refine HI.out.mono ?_; rintro e w_ ⟨i, rfl, hi, hww⟩; have HD := hid hi; have hww2 := hww.symm; subst hww2; clear hi)
  go_ret
  exact ⟨by rw [← HD.out]; rfl, rfl⟩
set_option maxHeartbeats 4000000 in
set_option maxRecDepth 100000 in
theorem right_calls (l : List ByteArray) (A : Option Addr) (c0 : Nat) (w : World) (hl : l.length < 1000000) (hA : l ≠ [] → ∃ b o, A = some ⟨b, o, none⟩ ∧ b < w.heap.size ∧ ∀ j, j < l.length → w.cell? ⟨b, o + j, none⟩ = some (.string (l.getD j ByteArray.empty))) :
    Calls Tryd.prog 62 #[.slice A l.length c0] w fun e w' => e = .returned (.bool (l.all nameOk)) ∧ Below w.heap.size w w' := by
  have kb := fun (s : ByteArray) (W : World) => print_bytes (P := Tryd.prog) 9 33 5 Tryd.underlying9 Tryd.underlying33 Tryd.underlying5 s W
  have HA := hid hA
  have HB0 := hid (Below.refl w.heap.size w)
  clear hA
  go_enter Tryd.func62, Tryd.ntmps62
  go_wp2
  go_loopg [7] l.length (fun gg s7 wr => ∃ kk : Nat, kk ≤ l.length ∧ l.length - kk ≤ gg ∧ s7 = .int .i64 kk ∧ Hid (Below w.heap.size w wr) ∧ Hid ((l.drop kk).all nameOk = l.all nameOk))
  case atStart => exact ⟨0, Nat.zero_le _, by omega, rfl, HB0, hid rfl⟩
  case round =>
    clear HB0
    obtain ⟨kk, hkk, hg, rfl, HB, HL⟩ := hrel
    by_cases hlt : kk < l.length
    · have hltz : (kk : Int) < (l.length : Int) := by omega
      obtain ⟨b, o, rfl, hb, hcells⟩ := HA.out (by rintro rfl; simp at hlt)
      have hcell := (HB.out.cell (p := ⟨b, o + kk, none⟩) hb).trans (hcells kk hlt)
      have hd : l.drop kk = l.getD kk ByteArray.empty :: l.drop (kk + 1) := by
        rw [List.drop_eq_getElem_cons (by omega), List.getD_eq_getElem?_getD, List.getElem?_eq_getElem (by omega)]; rfl
      have HL1 := HL.out
      clear HL hcells
      rw [hd, List.all_cons] at HL1
      clear hd
      generalize l.getD kk ByteArray.empty = s at hcell HL1
      have HL2 := hid HL1
      clear HL1
      by_cases h1 : s.size < 1
      · have h1z : (s.size : Int) < 1 := by omega
        have hno := hid (show nameOk s = false from by unfold nameOk; rw [decide_eq_false (by omega)]; rfl)
        go_wp2
        go_ret
        exact ⟨by rw [← HL2.out, hno.out]; rfl, HB.out⟩
      · by_cases h2 : 80 < s.size
        · have h1z : ¬ (s.size : Int) < 1 := by omega
          have h2z : (80 : Int) < (s.size : Int) := by omega
          have hno := hid (show nameOk s = false from by unfold nameOk; rw [decide_eq_false (p := s.size ≤ 80) (by omega), Bool.and_false]; rfl)
          go_wp2
          go_ret
          exact ⟨by rw [← HL2.out, hno.out]; rfl, HB.out⟩
        · have h1z : ¬ (s.size : Int) < 1 := by omega
          have h2z : ¬ (80 : Int) < (s.size : Int) := by omega
          have hyes := hid (show nameOk s = !(bytesOf s).any badC from by unfold nameOk; rw [decide_eq_true (p := 1 ≤ s.size) (by omega), decide_eq_true (p := s.size ≤ 80) (by omega)]; rfl)
          have HC := hid (fun (c0 : Nat) => contains_calls s wr (Lib.bytesWorld wr 5 s) c0 (by omega) rfl)
          have HB2 := hid (bytes_below HB.out HB.out.size 5 s)
          cases hany : (bytesOf s).any badC with
          | true =>
            rw [hany] at HC hyes
            clear hany
            go_wp2_with (go_at_call 75; refine (HC.out _).mono ?_; rintro e w_ ⟨rfl, hww⟩; have hww2 := hww.symm; subst hww2)
            go_ret
            exact ⟨by rw [← HL2.out, hyes.out]; rfl, HB2.out⟩
          | false =>
            rw [hany] at HC hyes
            clear hany
            go_wp2_with (go_at_call 75; refine (HC.out _).mono ?_; rintro e w_ ⟨rfl, hww⟩; have hww2 := hww.symm; subst hww2)
            go_roundg (l.length - (kk + 1))
            case measure => omega
            case rel => exact ⟨kk + 1, by omega, by omega, by go_num, HB2, hid (by rw [← HL2.out, hyes.out]; rfl)⟩
    · have hltz : ¬ (kk : Int) < (l.length : Int) := by omega
      have hr := hid (show l.all nameOk = true from by
        have := HL.out
        rw [List.drop_of_length_le (by omega)] at this
        simpa using this.symm)
      clear HL
      go_wp2
      go_ret
      exact ⟨by rw [hr.out]; rfl, HB.out⟩
end Go.Proofs.YthlmbgaipbjbhaaDoor.L
end
section
namespace Go.Proofs.YthlmbgaipbjbhaaDoor.L
open Go.RowKit Go.Lib Go.Maps
open Go.Proofs.YthlmbgaipbjbhaaDoorW.PrintWords Go.Proofs.YthlmbgaipbjbhaaDoorW.PrintLast Go.Proofs.YthlmbgaipbjbhaaDoorW.PrintMore
inductive Ac where
  | grow (f n : Nat)
  | make (s : ByteArray) (f b1 b2 : Nat)
  | move (s t : ByteArray) (b1 b2 : Nat)
  | gone (s : ByteArray) (b1 : Nat)
def acF : Ac → Value
  | .grow f _ => P f
  | _ => .pointer none
def acN : Ac → Int
  | .grow _ n => n
  | _ => 0
def acDo : Ac → Value
  | .grow _ _ => .nilFunc
  | .make _ _ b1 b2 => .func (.func 66) #[] #[P b1, P b2]
  | .move _ _ b1 b2 => .func (.func 71) #[] #[P b1, P b2]
  | .gone _ b1 => .func (.func 70) #[] #[P b1]
def acCells (a : Ac) : List Value := [acF a, .int .i64 (acN a), acDo a]
def kAc : Kd Ac where
  sz := 3
  E := []
  K := fun _ x cs => cs = acCells x
  M := fun _ _ _ x cs => cs = acCells x
  K_len := fun h => by rw [h]; rfl
  K_one := fun {_ x _} h u hu => by
    rw [h] at hu
    cases x <;> simp [acCells, acF, acN, acDo] at hu <;> rcases hu with rfl | rfl | rfl <;> rfl
  K_below := fun _ h => h
  K_of_M := fun h => h
  M_mono := fun _ h => h
  M_bound := fun h => h
  M_move := fun _ h => h
  M_lower := fun _ h => h
def bxs : Ac → List Nat
  | .grow _ _ => []
  | .make _ _ b1 b2 => [b1, b2]
  | .move _ _ b1 b2 => [b1, b2]
  | .gone _ b1 => [b1]
def BoxIs (w : World) : Ac → Prop
  | .grow _ _ => True
  | .make s f b1 b2 => w.heap[b1]? = some (.cells #[P f] 86 (0, 0)) ∧ w.heap[b2]? = some (.cells #[.string s] 9 (0, 0)) ∧ s.size ≤ 80
  | .move s t b1 b2 => w.heap[b1]? = some (.cells #[.string s] 9 (0, 0)) ∧ w.heap[b2]? = some (.cells #[.string t] 9 (0, 0)) ∧ s.size ≤ 80 ∧ t.size ≤ 80
  | .gone s b1 => w.heap[b1]? = some (.cells #[.string s] 9 (0, 0)) ∧ s.size ≤ 80
theorem BoxIs.keep {w w' : World} {a : Ac} (h : BoxIs w a) (hk : ∀ k ∈ bxs a, k < w.heap.size → w'.heap[k]? = w.heap[k]?) : BoxIs w' a := by
  cases a with
  | grow => trivial
  | make s f b1 b2 => exact ⟨(hk b1 (by simp [bxs]) (lt_of h.1)).trans h.1, (hk b2 (by simp [bxs]) (lt_of h.2.1)).trans h.2.1, h.2.2⟩
  | move s t b1 b2 => exact ⟨(hk b1 (by simp [bxs]) (lt_of h.1)).trans h.1, (hk b2 (by simp [bxs]) (lt_of h.2.1)).trans h.2.1, h.2.2⟩
  | gone s b1 => exact ⟨(hk b1 (by simp [bxs]) (lt_of h.1)).trans h.1, h.2⟩
theorem BoxIs.lt {w : World} {a : Ac} (h : BoxIs w a) : ∀ k ∈ bxs a, k < w.heap.size := by
  intro k hk
  cases a with
  | grow => simp [bxs] at hk
  | make s f b1 b2 =>
    simp [bxs] at hk
    rcases hk with rfl | rfl
    · exact lt_of h.1
    · exact lt_of h.2.1
  | move s t b1 b2 =>
    simp [bxs] at hk
    rcases hk with rfl | rfl
    · exact lt_of h.1
    · exact lt_of h.2.1
  | gone s b1 =>
    simp [bxs] at hk
    rw [hk]; exact lt_of h.1
structure Fl where
  blk : Nat
  row : Value
  b : List Int
  sure : Nat
structure FlAt (w : World) (f : Fl) : Prop where
  cell : w.heap[f.blk]? = some (.cells #[f.row, .int .i64 f.sure] 92 (0, 0))
  bytes : Kd.R (Kd.int .u8) 5 w 0 (fun k => f.row.ownBlock = some k) f.row f.b
def Fl.own (f : Fl) : List Nat := f.blk :: f.row.ownBlock.toList
theorem FlAt.keep {w w' : World} {f : Fl} (h : FlAt w f) (hk : ∀ k ∈ f.own, k < w.heap.size → w'.heap[k]? = w.heap[k]?) : FlAt w' f :=
  ⟨(hk _ List.mem_cons_self (lt_of h.cell)).trans h.cell, Kd.R_step h.bytes (fun k hk' hlt => hk k (List.mem_cons_of_mem _ (by rw [hk']; simp)) hlt)⟩
theorem FlAt.lt {w : World} {f : Fl} (h : FlAt w f) : ∀ k ∈ f.own, k < w.heap.size := by
  intro k hk
  rcases List.mem_cons.1 hk with e | hk
  · rw [e]; exact lt_of h.cell
  · obtain ⟨inner, ho⟩ := Kd.R_own h.bytes
    exact own_lt ho k (by simpa using hk)
structure Dk where
  d : Nat
  dm : Nat
  sm : Nat
  fm : Nat
  n : Nat
  dir : ByteArray → Option Nat
  sure : ByteArray → Option Nat
  fs : List Fl
  lv : Value
  loose : List Ac
  room : Int
  ops : Int
  cut : Int
  off : Bool
  fails : Int → Int
def Dk.own (D : Dk) : List Nat := D.d :: D.dm :: D.sm :: D.fm :: (D.lv.ownBlock.toList ++ D.fs.flatMap Fl.own)
def Dk.boxes (D : Dk) : List Nat := D.loose.flatMap bxs
def headObj (D : Dk) : Obj := .cells #[.map (some D.dm), .map (some D.sm), D.lv, .int .i64 D.room, .int .i64 D.ops, .int .i64 D.cut, .bool D.off, .map (some D.fm)] 70 (0, 0)
structure DkAt (w : World) (D : Dk) : Prop where
  cell : w.heap[D.d]? = some (headObj D)
  dirM : DirAt w D.dm D.n D.dir
  sureM : DirAt w D.sm D.n D.sure
  failM : FailAtM w D.fm D.n D.fails
  row : Kd.R kAc 89 w 0 (fun k => D.lv.ownBlock = some k) D.lv D.loose
  files : ∀ f ∈ D.fs, FlAt w f
  boxed : ∀ a ∈ D.loose, BoxIs w a
  nodup : D.own.Nodup
  boff : ∀ k ∈ D.boxes, k ∉ D.own
section
variable {w : World} {D : Dk}
theorem DkAt.lt (h : DkAt w D) : ∀ k ∈ D.own, k < w.heap.size := by
  intro k hk
  simp only [Dk.own, List.mem_cons, List.mem_append, List.mem_flatMap] at hk
  rcases hk with e | e | e | e | e | ⟨f, hf, hk⟩
  · rw [e]; exact lt_of h.cell
  · rw [e]; exact h.dirM.lt
  · rw [e]; exact h.sureM.lt
  · rw [e]; exact h.failM.lt
  · obtain ⟨inner, ho⟩ := Kd.R_own h.row
    exact own_lt ho k (by simpa using e)
  · exact (h.files f hf).lt k hk
theorem DkAt.blt (h : DkAt w D) : ∀ k ∈ D.boxes, k < w.heap.size := by
  intro k hk
  obtain ⟨a, ha, hk⟩ := List.mem_flatMap.1 hk
  exact (h.boxed a ha).lt k hk
theorem DkAt.keep {w' : World} (h : DkAt w D) (hk : ∀ k, k ∈ D.own ∨ k ∈ D.boxes → k < w.heap.size → w'.heap[k]? = w.heap[k]?) : DkAt w' D := by
  have hl := h.lt
  refine ⟨(hk _ (.inl (by simp [Dk.own])) (lt_of h.cell)).trans h.cell, h.dirM.keep (hk _ (.inl (by simp [Dk.own])) h.dirM.lt), h.sureM.keep (hk _ (.inl (by simp [Dk.own])) h.sureM.lt), h.failM.keep (hk _ (.inl (by simp [Dk.own])) h.failM.lt),
    Kd.R_step h.row (fun k hk' hlt => hk k (.inl (by simp [Dk.own, hk'])) hlt), fun f hf => (h.files f hf).keep (fun k hkf hlt => hk k (.inl ?_) hlt), fun a ha => (h.boxed a ha).keep (fun k hka hlt => hk k (.inr (List.mem_flatMap.2 ⟨a, ha, hka⟩)) hlt), h.nodup, h.boff⟩
  simp only [Dk.own, List.mem_cons, List.mem_append, List.mem_flatMap]
  exact .inr (.inr (.inr (.inr (.inr ⟨f, hf, hkf⟩))))
theorem DkAt.fr {w' : World} {own : List Nat} (h : DkAt w D) (f : Fr own w w') (hd : ∀ k, k ∈ D.own ∨ k ∈ D.boxes → k ∉ own) : DkAt w' D :=
  h.keep (fun k hk hlt => f.keep k hlt (hd k hk))
theorem DkAt.new {w' : World} (h : DkAt w D) (f : Fr [] w w') : DkAt w' D := h.fr f (fun k _ hm => by simp at hm)
theorem DkAt.c0 (h : DkAt w D) : w.cell? ⟨D.d, 0, none⟩ = some (.map (some D.dm)) := (cell_of h.cell 0).trans rfl
theorem DkAt.c1 (h : DkAt w D) : w.cell? ⟨D.d, 1, none⟩ = some (.map (some D.sm)) := (cell_of h.cell 1).trans rfl
theorem DkAt.c2 (h : DkAt w D) : w.cell? ⟨D.d, 2, none⟩ = some D.lv := (cell_of h.cell 2).trans rfl
theorem DkAt.c3 (h : DkAt w D) : w.cell? ⟨D.d, 3, none⟩ = some (.int .i64 D.room) := (cell_of h.cell 3).trans rfl
theorem DkAt.c4 (h : DkAt w D) : w.cell? ⟨D.d, 4, none⟩ = some (.int .i64 D.ops) := (cell_of h.cell 4).trans rfl
theorem DkAt.c5 (h : DkAt w D) : w.cell? ⟨D.d, 5, none⟩ = some (.int .i64 D.cut) := (cell_of h.cell 5).trans rfl
theorem DkAt.c6 (h : DkAt w D) : w.cell? ⟨D.d, 6, none⟩ = some (.bool D.off) := (cell_of h.cell 6).trans rfl
theorem DkAt.c7 (h : DkAt w D) : w.cell? ⟨D.d, 7, none⟩ = some (.map (some D.fm)) := (cell_of h.cell 7).trans rfl
theorem DkAt.free (h : DkAt w D) (i : Nat) : w.frozen? ⟨D.d, i, none⟩ = false := free_of h.cell i
theorem DkAt.d_lt (h : DkAt w D) : D.d < w.heap.size := lt_of h.cell
theorem DkAt.head {w' : World} {D' : Dk} (h : DkAt w D) (hc : w'.heap[D.d]? = some (headObj D')) (hk : ∀ k, k ≠ D.d → k < w.heap.size → w'.heap[k]? = w.heap[k]?)
    (e1 : D'.d = D.d) (e2 : D'.dm = D.dm) (e3 : D'.sm = D.sm) (e4 : D'.fm = D.fm) (e5 : D'.n = D.n) (e6 : D'.dir = D.dir) (e7 : D'.sure = D.sure) (e8 : D'.fs = D.fs) (e9 : D'.lv = D.lv) (e10 : D'.loose = D.loose) (e11 : D'.fails = D.fails) : DkAt w' D' := by
  have hown : D'.own = D.own := by simp only [Dk.own, e1, e2, e3, e4, e8, e9]
  have hbx : D'.boxes = D.boxes := by simp only [Dk.boxes, e10]
  have hnd := h.nodup
  have hne : ∀ k ∈ D.own.tail, k ≠ D.d := fun k hk e => (List.nodup_cons.1 hnd).1 (by rw [← e]; exact hk)
  have hbne : ∀ k ∈ D.boxes, k ≠ D.d := fun k hk e => h.boff k hk (by rw [e]; exact List.mem_cons_self)
  refine ⟨by rw [e1]; exact hc, ?_, ?_, ?_, ?_, ?_, ?_, by rw [hown]; exact hnd, by rw [hown, hbx]; exact h.boff⟩
  · rw [e2, e5, e6]; exact h.dirM.keep (hk _ (hne _ (by simp [Dk.own])) h.dirM.lt)
  · rw [e3, e5, e7]; exact h.sureM.keep (hk _ (hne _ (by simp [Dk.own])) h.sureM.lt)
  · rw [e4, e5, e11]; exact h.failM.keep (hk _ (hne _ (by simp [Dk.own])) h.failM.lt)
  · rw [e9, e10]; exact Kd.R_step h.row (fun k hk' hlt => hk k (hne k (by simp [Dk.own, hk'])) hlt)
  · rw [e8]; exact fun f hf => (h.files f hf).keep (fun k hkf hlt => hk k (hne k (by
      simp only [Dk.own, List.tail_cons, List.mem_cons, List.mem_append, List.mem_flatMap]
      exact .inr (.inr (.inr (.inr ⟨f, hf, hkf⟩))))) hlt)
  · rw [e10]; exact fun a ha => (h.boxed a ha).keep (fun k hka hlt => hk k (hbne k (List.mem_flatMap.2 ⟨a, ha, hka⟩)) hlt)
theorem DkAt.set_ops (h : DkAt w D) (x : Int) : DkAt (w.setCell ⟨D.d, 4, none⟩ (.int .i64 x)) { D with ops := x } :=
  h.head (by rw [heap_set h.cell]; rfl) (fun k hne _ => Below.heap_setCell w _ _ k hne) rfl rfl rfl rfl rfl rfl rfl rfl rfl rfl rfl
theorem DkAt.set_off (h : DkAt w D) (x : Bool) : DkAt (w.setCell ⟨D.d, 6, none⟩ (.bool x)) { D with off := x } :=
  h.head (by rw [heap_set h.cell]; rfl) (fun k hne _ => Below.heap_setCell w _ _ k hne) rfl rfl rfl rfl rfl rfl rfl rfl rfl rfl rfl
theorem DkAt.drew (h : DkAt w D) : DkAt w.drew D := h.new (Fr.refl [] w).drew
theorem DkAt.drewN (h : DkAt w D) (q : Nat) : DkAt (w.drewN q) D := h.new (Fr.of_drawn ⟨q, rfl⟩)
end
def Dk.dead (D : Dk) : Bool := D.off || (decide (0 ≤ D.cut) && decide (D.cut ≤ D.ops))
end Go.Proofs.YthlmbgaipbjbhaaDoor.L
end
section
namespace Go.Proofs.YthlmbgaipbjbhaaDoor.L
open Go.RowKit Go.Lib Go.Maps
open Go.Proofs.YthlmbgaipbjbhaaDoorW.PrintWords Go.Proofs.YthlmbgaipbjbhaaDoorW.PrintLast Go.Proofs.YthlmbgaipbjbhaaDoorW.PrintMore
section
variable {w : World} {D : Dk}
set_option maxHeartbeats 4000000 in
set_option maxRecDepth 100000 in
theorem starts_dead (h : DkAt w D) (hd : D.dead = true) (must : Bool) (A : Option Addr) (n c : Nat) :
    Calls Tryd.prog 44 #[P D.d, .bool must, .slice A n c] w fun e w' => e = .returned (.tuple #[.bool false, .int .i64 35]) ∧ DkAt w' { D with off := true } ∧ Fr [D.d] w w' := by
  have c4 := h.c4
  have c5 := h.c5
  have c6 := h.c6
  have f6 : ∀ q, (w.drewN q).frozen? ⟨D.d, 6, none⟩ = false := fun q => (h.drewN q).free 6
  have HS := hid (fun q => (h.drewN q).set_off true)
  have HF := hid (fun q => (Fr.of_drawn ⟨q, rfl⟩ : Fr [D.d] w (w.drewN q)).trans (Fr.set (w.drewN q) ⟨D.d, 6, none⟩ (.bool true) (List.mem_singleton.2 rfl)) (fun _ hk => .inl hk))
  clear h
  unfold Dk.dead at hd
  cases ho : D.off with
  | true =>
    rw [ho] at c6
    clear hd ho
    go_enter Tryd.func44, Tryd.ntmps44
    go_wp2
    go_quiet (fail)
    go_wp2
    go_ret2
    exact ⟨rfl, HS.out _, HF.out _⟩
  | false =>
    rw [ho] at c6 hd
    simp only [Bool.false_or, Bool.and_eq_true, decide_eq_true_eq] at hd
    obtain ⟨h1, h2⟩ := hd
    clear ho
    generalize D.ops = ops at *
    generalize D.cut = cut at *
    go_enter Tryd.func44, Tryd.ntmps44
    go_wp2
    go_quiet (fail)
    go_wp2
    go_ret2
    exact ⟨rfl, HS.out _, HF.out _⟩
def startE (D : Dk) (must : Bool) (names : List ByteArray) : Bool × Int :=
  if names.all nameOk then (if must && (D.dir (names.headD ByteArray.empty)).isNone then (false, 32) else (decide (0 < D.fails D.ops), 0)) else (false, 30)
theorem name_short {s : ByteArray} (h : nameOk s = true) : s.size ≤ 80 := by
  unfold nameOk at h
  simp only [Bool.and_eq_true, decide_eq_true_eq] at h
  exact h.1.2
set_option maxHeartbeats 8000000 in
set_option maxRecDepth 100000 in
theorem starts_live (h : DkAt w D) (hd : D.dead = false) (h0 : 0 ≤ D.ops) (h1 : D.ops < 4611686018427387904) (must : Bool) (names : List ByteArray) (A : Option Addr) (c : Nat) (hlen : names.length < 1000000)
    (hA : names ≠ [] → ∃ b o, A = some ⟨b, o, none⟩ ∧ b < w.heap.size ∧ b ≠ D.d ∧ ∀ j, j < names.length → w.cell? ⟨b, o + j, none⟩ = some (.string (names.getD j ByteArray.empty))) (hm : must = true → names ≠ []) :
    Calls Tryd.prog 44 #[P D.d, .bool must, .slice A names.length c] w fun e w' => e = .returned (.tuple #[.bool (startE D must names).1, .int .i64 (startE D must names).2]) ∧ DkAt w' { D with ops := D.ops + 1 } ∧ Fr [D.d] w w' := by
  have HH := hid h
  have HA := hid hA
  have HM := hid hm
  have c4 := h.c4
  have c5 := h.c5
  have c6 := h.c6
  unfold Dk.dead at hd
  obtain ⟨hoff, hcut⟩ := Bool.or_eq_false_iff.1 hd
  rw [hoff] at c6
  have HC := hid (show ¬ 0 ≤ D.cut ∨ ¬ D.cut ≤ D.ops from by
    rcases Bool.and_eq_false_iff.1 hcut with h | h
    · exact .inl (by simpa using h)
    · exact .inr (by simpa using h))
  clear h hA hm hd hoff hcut
  obtain ⟨ops, hopse⟩ : ∃ x, x = D.ops := ⟨_, rfl⟩
  obtain ⟨cut, hcute⟩ : ∃ x, x = D.cut := ⟨_, rfl⟩
  rw [← hopse] at c4 h0 h1 HC
  rw [← hcute] at c5 HC
  have HOE := hid hopse.symm
  clear hopse hcute
  go_enter Tryd.func44, Tryd.ntmps44
  go_upto_region 3 with fail
  go_cut [32] (fun v32 wc => v32 = .bool false ∧ Hid (Drawn0 w wc))
  case first =>
    by_cases hc0 : 0 ≤ cut
    · have hlt : ¬ cut ≤ ops := by rcases HC.out with h | h; exact absurd hc0 h; exact h
      go_quiet (fail)
      go_wp2
      go_meet
      case rel => exact ⟨rfl, hid ⟨_, rfl⟩⟩
    · go_quiet (fail)
      go_wp2
      go_meet
      case rel => exact ⟨rfl, hid ⟨_, rfl⟩⟩
  case rest =>
    obtain ⟨hv, HD⟩ := hcut
    obtain rfl : u32 = .bool false := hv
    have H2 := hid (HH.out.new (Fr.of_drawn HD.out))
    have F2 := hid (Fr.of_drawn HD.out : Fr [D.d] w wc)
    clear c4 c5 c6 HC HD
    have c4 : wc.cell? ⟨D.d, 4, none⟩ = some (.int .i64 ops) := by have := H2.out.c4; rw [HOE.out] at this; exact this
    have c7 := H2.out.c7
    have hlook : ∀ nq, (Instr.lookup 67 (.map (some D.fm)) (.int .i64 ops) false).run Tryd.prog (wc.drewN nq) = .ok (.int .i64 (D.fails ops)) (wc.drewN nq) := fun nq => (H2.out.failM.keep (w' := wc.drewN nq) rfl).look (WalkArith.wf_i64 (by omega))
    have f4 : ∀ q, (wc.drewN q).frozen? ⟨D.d, 4, none⟩ = false := fun q => (H2.out.drewN q).free 4
    have hz : wrap64 (ops + 1) = ops + 1 := by unfold wrap64; omega
    generalize hfl : D.fails ops = fl at hlook
    have HFL := hid hfl
    clear hfl
    have H4 := hid (fun q => show DkAt ((wc.drewN q).setCell ⟨D.d, 4, none⟩ (.int .i64 (ops + 1))) { D with ops := D.ops + 1 } from by rw [← HOE.out]; exact (H2.out.drewN q).set_ops _)
    have F4 := hid (fun q => (show Fr [D.d] w ((wc.drewN q).setCell ⟨D.d, 4, none⟩ (.int .i64 (ops + 1))) from (F2.out.trans (Fr.of_drawn ⟨q, rfl⟩ : Fr [D.d] wc (wc.drewN q)) (fun _ hk => .inl hk)).trans (Fr.set _ _ _ (List.mem_singleton.2 rfl)) (fun _ hk => .inl hk)))
    have HR := hid (fun (W : World) (hW : Fr [D.d] w W) => right_calls names A c W (by omega) (fun hne => by
      obtain ⟨b, o, e, hb, hbd, hc⟩ := HA.out hne
      refine ⟨b, o, e, Nat.lt_of_lt_of_le hb hW.size, fun j hj => ?_⟩
      rw [← hc j hj]
      simp only [World.cell?, hW.keep b hb (by simpa using hbd)]))
    cases hok : names.all nameOk with
    | false =>
      rw [hok] at HR
      have HK := hid hok
      clear hok
      go_wp2
      go_quiet (fail)
      go_wp2_with (go_at_call 62; refine (HR.out _ (F4.out _)).mono ?_; rintro e w5 ⟨rfl, hb⟩; have H5 := hid ((H4.out _).new (Fr.of_below hb [])); have F5 := hid ((F4.out _).trans (Fr.of_below hb [D.d]) (fun _ hk => .inl hk)); clear hb)
      go_ret2
      refine ⟨?_, H5.out, F5.out⟩
      unfold startE
      rw [HK.out]
      rfl
    | true =>
      rw [hok] at HR
      have HK := hid hok
      clear hok
      cases must with
      | false =>
        go_wp2
        go_quiet (fail)
        go_wp2_with (go_at_call 62; refine (HR.out _ (F4.out _)).mono ?_; rintro e w5 ⟨rfl, hb⟩; have H5 := hid ((H4.out _).new (Fr.of_below hb [])); have F5 := hid ((F4.out _).trans (Fr.of_below hb [D.d]) (fun _ hk => .inl hk)); clear hb)
        go_quiet (fail)
        go_wp2
        go_ret2
        refine ⟨?_, H5.out.drewN _, F5.out.trans (Fr.of_drawn ⟨_, rfl⟩ : Fr [D.d] _ _) (fun _ hk => .inl hk)⟩
        unfold startE
        rw [HK.out, HOE.out, HFL.out]
        rfl
      | true =>
        obtain ⟨b, o, rfl, hb, hbd, hcells⟩ := HA.out (HM.out rfl)
        have hpos : 0 < names.length := List.length_pos_iff.2 (HM.out rfl)
        have hn0 := hcells 0 hpos
        rw [Nat.add_zero] at hn0
        have hhd : names.headD ByteArray.empty = names.getD 0 ByteArray.empty := by cases names <;> rfl
        have hsz : (names.getD 0 ByteArray.empty).size ≤ maxLen := by
          have := List.all_eq_true.1 HK.out (names.getD 0 ByteArray.empty) (by rw [List.getD_eq_getElem?_getD, List.getElem?_eq_getElem hpos]; exact List.getElem_mem hpos)
          have := name_short this
          unfold maxLen; omega
        have hposz : (0 : Int) < (names.length : Int) := by omega
        have HHD := hid hhd
        have HN0 := hid (fun (W : World) (hW : Fr [D.d] w W) => (show W.cell? ⟨b, o, none⟩ = some (.string (names.getD 0 ByteArray.empty)) from by
          rw [← hn0]
          simp only [World.cell?, hW.keep b hb (by simpa using hbd)]))
        clear hcells hn0 hhd
        generalize names.getD 0 ByteArray.empty = s0 at HHD HN0 hsz
        have HLK := hid (fun (W : World) (hW : DkAt W { D with ops := D.ops + 1 }) (nq : Nat) => (show (Instr.lookup 66 (.map (some D.dm)) (.string s0) false).run Tryd.prog (W.drewN nq) = .ok (ptrOf (D.dir s0)) (W.drewN nq) from (hW.dirM.keep (w' := W.drewN nq) rfl).look hsz))
        cases hdir : D.dir s0 with
        | none =>
          rw [hdir] at HLK
          have HDR := hid hdir
          clear hdir
          go_wp2
          go_quiet (fail)
          go_wp2_with (go_at_call 62; refine (HR.out _ (F4.out _)).mono ?_; rintro e w5 ⟨rfl, hb⟩; have H5 := hid ((H4.out _).new (Fr.of_below hb [])); have F5 := hid ((F4.out _).trans (Fr.of_below hb [D.d]) (fun _ hk => .inl hk)); have e0 := H5.out.c0; have en := HN0.out _ F5.out; have el : ∀ nq, (Instr.lookup 66 (.map (some D.dm)) (.string s0) false).run Tryd.prog (w5.drewN nq) = .ok (.pointer none) (w5.drewN nq) := HLK.out _ H5.out; clear hb)
          go_quiet (fail)
          go_wp2
          go_ret2
          refine ⟨?_, H5.out.drewN _, F5.out.trans (Fr.of_drawn ⟨_, rfl⟩ : Fr [D.d] _ _) (fun _ hk => .inl hk)⟩
          unfold startE
          rw [HK.out, HHD.out, HDR.out]
          rfl
        | some fb =>
          rw [hdir] at HLK
          have HDR := hid hdir
          clear hdir
          go_wp2
          go_quiet (fail)
          go_wp2_with (go_at_call 62; refine (HR.out _ (F4.out _)).mono ?_; rintro e w5 ⟨rfl, hb⟩; have H5 := hid ((H4.out _).new (Fr.of_below hb [])); have F5 := hid ((F4.out _).trans (Fr.of_below hb [D.d]) (fun _ hk => .inl hk)); have e0 := H5.out.c0; have en := HN0.out _ F5.out; have el : ∀ nq, (Instr.lookup 66 (.map (some D.dm)) (.string s0) false).run Tryd.prog (w5.drewN nq) = .ok (P fb) (w5.drewN nq) := HLK.out _ H5.out; clear hb)
          go_quiet (fail)
          go_wp2
          go_ret2
          refine ⟨?_, H5.out.drewN _, F5.out.trans (Fr.of_drawn ⟨_, rfl⟩ : Fr [D.d] _ _) (fun _ hk => .inl hk)⟩
          unfold startE
          rw [HK.out, HHD.out, HDR.out, HOE.out, HFL.out]
          rfl
end
end Go.Proofs.YthlmbgaipbjbhaaDoor.L
end
