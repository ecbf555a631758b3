/- Which acts are struck: Sync's closure, SyncDir's. -/
import Derived.Test.YtgcenkmekpaapaaNames
namespace Go.Proofs.Ytgcenkmekpaapaa.L
open Go.RowKit Go.Lib Go.Maps
open Go.Proofs.YtgcenkmekpaapaaW.PrintWords Go.Proofs.YtgcenkmekpaapaaW.PrintLast Go.Proofs.YtgcenkmekpaapaaW.PrintMore
theorem uP : Try.prog.underlying 61 = some (.pointer 63) := by kernel_rfl
theorem iP : ∃ j, Try.prog.info? 63 = some j ∧ j.size ≠ 0 := by
  have h : (Try.prog.info? 63).map (·.size) = some 2 := by kernel_rfl
  obtain ⟨j, hj, hs⟩ := Option.map_eq_some_iff.1 h
  exact ⟨j, hj, by omega⟩
theorem eq_same (w : World) (a : Addr) : (binOp .eql 61 (.pointer (some a)) (.pointer (some a))).run Try.prog w = .ok (.bool true) w := by
  obtain ⟨j, hj, hs⟩ := iP
  have h : ∀ d : Nat, (Op.equalIn (d + 1) 61 (.pointer (some a)) (.pointer (some a))).run Try.prog w = .ok true w := fun d => by
    simp [Op.equalIn, run_underlying uP, sizeOf, typeInfo, hj, run_sameAddr_same]
  simp only [binOp]
  simp [Op.equal, Op.maxDepth, h 9999]
theorem eq_other (w : World) {a b : Addr} {ca cb : Array Value} {ta tb : TypeId} (hne : a ≠ b) (ha : w.heap[a.block]? = some (.cells ca ta (0, 0))) (hb : w.heap[b.block]? = some (.cells cb tb (0, 0))) :
    (binOp .eql 61 (.pointer (some a)) (.pointer (some b))).run Try.prog w = .ok (.bool false) w := by
  obtain ⟨j, hj, hs⟩ := iP
  have h : ∀ d : Nat, (Op.equalIn (d + 1) 61 (.pointer (some a)) (.pointer (some b))).run Try.prog w = .ok false w := fun d => by
    simp [Op.equalIn, run_underlying uP, sizeOf, typeInfo, hj, hs, run_sameAddr_other w hne ha hb]
  simp only [binOp]
  simp [Op.equal, Op.maxDepth, h 9999]
theorem fn_nil (w : World) : (binOp .neq 65 .nilFunc .nilFunc).run Try.prog w = .ok (.bool false) w := by
  have h : ∀ d : Nat, (Op.equalIn (d + 1) 65 .nilFunc .nilFunc).run Try.prog w = .ok true w := fun d => by
    simp [Op.equalIn, run_underlying Try.underlying65]
  simp only [binOp]
  simp [Op.equal, Op.maxDepth, h 9999]
theorem fn_some (w : World) (g : Nat) (cs : Array Value) : (binOp .neq 65 (.func (.func g) #[] cs) .nilFunc).run Try.prog w = .ok (.bool true) w := by
  have h : ∀ d : Nat, (Op.equalIn (d + 1) 65 (.func (.func g) #[] cs) .nilFunc).run Try.prog w = .ok false w := fun d => by
    simp [Op.equalIn, run_underlying Try.underlying65]
  simp only [binOp]
  simp [Op.equal, Op.maxDepth, h 9999]
theorem eq_nil (w : World) (a : Addr) : (binOp .eql 61 (.pointer none) (.pointer (some a))).run Try.prog w = .ok (.bool false) w := by
  have h : ∀ d : Nat, (Op.equalIn (d + 1) 61 (.pointer none) (.pointer (some a))).run Try.prog w = .ok false w := fun d => by
    simp [Op.equalIn, run_underlying uP]
  simp only [binOp]
  simp [Op.equal, Op.maxDepth, h 9999]
def isDir : Ac → Bool
  | .grow _ _ => false
  | _ => true
def isOf (f : Nat) : Ac → Bool
  | .grow g _ => decide (g = f)
  | _ => false
set_option maxRecDepth 100000 in
theorem dir_grow (w : World) (po : Option Addr) (n : Int) :
    Calls Try.prog 32 #[.agg #[.pointer po, .int .i64 n, .nilFunc]] w fun e w' => e = .returned (.bool false) ∧ Below w.heap.size w w' := by
  have hb := hid (fun o => (Below.refl _ w).alloc (Nat.le_refl _) o)
  have hq1 := fn_nil
  have hq2 := fn_some
  go_enter Try.func32, Try.ntmps32
  go_wp2
  go_ret
  exact ⟨rfl, hb.out _⟩
set_option maxRecDepth 100000 in
theorem dir_act (w : World) (po : Option Addr) (n : Int) (g : Nat) (cs : Array Value) :
    Calls Try.prog 32 #[.agg #[.pointer po, .int .i64 n, .func (.func g) #[] cs]] w fun e w' => e = .returned (.bool true) ∧ Below w.heap.size w w' := by
  have hb := hid (fun o => (Below.refl _ w).alloc (Nat.le_refl _) o)
  have hq1 := fn_nil
  have hq2 := fn_some
  go_enter Try.func32, Try.ntmps32
  go_wp2
  go_ret
  exact ⟨rfl, hb.out _⟩
set_option maxRecDepth 100000 in
theorem of_grow (w : World) (g f bx : Nat) (n : Int) (hbx : w.heap[bx]? = some (.cells #[P f] 61 (0, 0))) (hg : ∃ c t, w.heap[g]? = some (.cells c t (0, 0))) (hf : ∃ c t, w.heap[f]? = some (.cells c t (0, 0))) :
    Calls Try.prog 31 #[.agg #[P g, .int .i64 n, .nilFunc], P bx] w fun e w' => e = .returned (.bool (decide (g = f))) ∧ Below w.heap.size w w' := by
  have hb := hid (fun o => (Below.refl _ w).alloc (Nat.le_refl _) o)
  have k1 : ∀ o, (w.alloc o).cell? ⟨bx, 0, none⟩ = some (P f) := fun o => (cell_of ((Below.heap_alloc w o bx (lt_of hbx)).trans hbx) 0).trans rfl
  by_cases e : g = f
  · subst e
    rw [decide_eq_true rfl]
    have hq : ∀ W, (binOp .eql 61 (P g) (P g)).run Try.prog W = .ok (.bool true) W := fun W => eq_same W _
    go_enter Try.func31, Try.ntmps31
    go_wp2
    go_ret
    exact ⟨rfl, hb.out _⟩
  · rw [decide_eq_false e]
    obtain ⟨c1, t1, h1⟩ := hg
    obtain ⟨c2, t2, h2⟩ := hf
    have hq : ∀ o, (binOp .eql 61 (P g) (P f)).run Try.prog (w.alloc o) = .ok (.bool false) (w.alloc o) := fun o => eq_other (w.alloc o) (fun h => e (by injection h)) ((Below.heap_alloc w o g (lt_of h1)).trans h1) ((Below.heap_alloc w o f (lt_of h2)).trans h2)
    go_enter Try.func31, Try.ntmps31
    go_wp2
    go_ret
    exact ⟨rfl, hb.out _⟩
set_option maxRecDepth 100000 in
theorem of_act (w : World) (f bx : Nat) (n : Int) (g : Nat) (cs : Array Value) (hbx : w.heap[bx]? = some (.cells #[P f] 61 (0, 0))) :
    Calls Try.prog 31 #[.agg #[.pointer none, .int .i64 n, .func (.func g) #[] cs], P bx] w fun e w' => e = .returned (.bool false) ∧ Below w.heap.size w w' := by
  have hb := hid (fun o => (Below.refl _ w).alloc (Nat.le_refl _) o)
  have k1 : ∀ o, (w.alloc o).cell? ⟨bx, 0, none⟩ = some (P f) := fun o => (cell_of ((Below.heap_alloc w o bx (lt_of hbx)).trans hbx) 0).trans rfl
  have hq1 := eq_nil
  go_enter Try.func31, Try.ntmps31
  go_wp2
  go_ret
  exact ⟨rfl, hb.out _⟩
theorem ac_form (a : Ac) : (∃ g n, a = .grow g n) ∨ (acF a = .pointer none ∧ acN a = 0 ∧ isDir a = true ∧ (∀ f, isOf f a = false) ∧ ∃ g cs, acDo a = .func (.func g) #[] cs) := by
  cases a with
  | grow g n => exact .inl ⟨g, n, rfl⟩
  | make s f b1 b2 => exact .inr ⟨rfl, rfl, rfl, fun _ => rfl, _, _, rfl⟩
  | move s t b1 b2 => exact .inr ⟨rfl, rfl, rfl, fun _ => rfl, _, _, rfl⟩
  | gone s b1 => exact .inr ⟨rfl, rfl, rfl, fun _ => rfl, _, _, rfl⟩
def Says (g : Nat) (caps : Array Value) (p : Ac → Bool) (w : World) (row : List Nat) (l : List Ac) : Prop :=
  ∀ (W : World) (a : Ac), a ∈ l → Fr row w W → Calls Try.prog g (#[.agg #[acF a, .int .i64 (acN a), acDo a]] ++ caps) W fun e w' => e = .returned (.bool (p a)) ∧ Below W.heap.size W w'
theorem says_dir (w : World) (row : List Nat) (l : List Ac) : Says 32 #[] isDir w row l := by
  intro W a _ _
  rcases ac_form a with ⟨g, n, rfl⟩ | ⟨h1, h2, h3, _, g, cs, h4⟩
  · exact dir_grow W _ _
  · rw [h1, h2, h3, h4]; exact dir_act W _ _ g cs
theorem says_of (w : World) (row : List Nat) (l : List Ac) (f bx : Nat) (hbx : w.heap[bx]? = some (.cells #[P f] 61 (0, 0))) (hbr : bx ∉ row) (hf : ∃ c t, w.heap[f]? = some (.cells c t (0, 0))) (hfr : f ∉ row) (hl : ∀ g n, Ac.grow g n ∈ l → g ∉ row ∧ ∃ c t, w.heap[g]? = some (.cells c t (0, 0))) :
    Says 31 #[P bx] (isOf f) w row l := by
  intro W a ha hW
  have hb := (hW.keep bx (lt_of hbx) hbr).trans hbx
  obtain ⟨cf, tf, hff⟩ := hf
  have hf' := (hW.keep f (lt_of hff) hfr).trans hff
  rcases ac_form a with ⟨g, n, rfl⟩ | ⟨h1, h2, _, h3, g, cs, h4⟩
  · obtain ⟨hg1, cg, tg, hg2⟩ := hl g n ha
    exact of_grow W g f bx _ hb ⟨cg, tg, (hW.keep g (lt_of hg2) hg1).trans hg2⟩ ⟨cf, tf, hf'⟩
  · rw [h1, h2, h3, h4]; exact of_act W f bx _ g cs hb
theorem act_at {w : World} {v : Value} {l : List Ac} {base : Nat} {ok : Nat → Prop} {A : Option Addr} {c : Nat} (h : Kd.R kAc 67 w base ok v l) (e : v = .slice A l.length c) (hi : 0 < l.length) :
    ∃ g, A = some ⟨g, 0, none⟩ ∧ g < w.heap.size ∧ v.ownBlock = some g ∧ (∀ i, w.frozen? ⟨g, i, none⟩ = false) ∧ ∀ j (hj : j < l.length), w.cell? ⟨g, j * 3, none⟩ = some (acF l[j]) ∧ w.cell? ⟨g, j * 3 + 1, none⟩ = some (.int .i64 (acN l[j])) ∧ w.cell? ⟨g, j * 3 + 2, none⟩ = some (acDo l[j]) := by
  obtain ⟨g, cap, e2, _, hlt, cells, hcl⟩ := Kd.R_form h hi
  have e3 : (Value.slice A l.length c) = .slice (some ⟨g, 0, none⟩) l.length cap := e.symm.trans e2
  injection e3 with e4 _ _
  refine ⟨g, e4, hlt, by rw [e2]; rfl, fun i => free_of hcl i, fun j hj => ?_⟩
  rw [e2] at h
  obtain ⟨ad, hA, hcell⟩ := (Kd.R_reads' h).2.2.2.2 (by omega)
  obtain rfl : ad = ⟨g, 0, none⟩ := by injection hA with hA; exact hA.symm
  obtain ⟨cs, _, hK, hc⟩ := hcell j l[j] (List.getElem?_eq_getElem hj)
  have hK2 : cs = acCells l[j] := hK
  subst hK2
  have h0 := hc 0 _ rfl
  have h1 := hc 1 _ rfl
  have h2 := hc 2 _ rfl
  have ea : ∀ n : Nat, (⟨g, 0, none⟩ : Addr).add n = ⟨g, n, none⟩ := fun n => by
    unfold Addr.add
    split
    · rename_i hz; rw [hz]
    · simp
  rw [ea] at h0 h1 h2
  exact ⟨h0, h1, h2⟩
end Go.Proofs.Ytgcenkmekpaapaa.L
