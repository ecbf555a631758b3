/- New, Size, Ops, Loose, CutAt, FailAt. -/
import Derived.Test.YtgcenkmekpaapaaStarts
namespace Go.Proofs.Ytgcenkmekpaapaa.L
open Go.RowKit Go.Lib Go.Maps
open Go.Proofs.YtgcenkmekpaapaaW.PrintWords Go.Proofs.YtgcenkmekpaapaaW.PrintLast Go.Proofs.YtgcenkmekpaapaaW.PrintMore
section
variable {w : World} {D : Dk}
def newD (k : Nat) (room : Int) : Dk := { d := k + 3, dm := k, sm := k + 1, fm := k + 2, n := 0, dir := fun _ => none, sure := fun _ => none, fs := [], lv := .slice none 0 0, loose := [], room := room, ops := 0, cut := -1, off := false, fails := fun _ => 0 }
theorem new_at (w : World) (room : Int) : DkAt ((((w.alloc (.map #[] 0)).alloc (.map #[] 0)).alloc (.map #[] 0)).alloc (headObj (newD w.heap.size room))) (newD w.heap.size room) := by
  have b0 : ∀ (W : World) (o : Obj) (k : Nat), k < W.heap.size → (W.alloc o).heap[k]? = W.heap[k]? := fun W o k hk => Below.heap_alloc W o k hk
  refine ⟨?_, ?_, ?_, ?_, Kd.R_nil _ _ _ _ _, by simp [newD], by simp [newD], by simp [newD, Dk.own, Value.ownBlock], by simp [newD, Dk.boxes]⟩
  · have := (MapKept.heap_alloc (((w.alloc (.map #[] 0)).alloc (.map #[] 0)).alloc (.map #[] 0)) (headObj (newD w.heap.size room))).1
    simpa [newD] using this
  · refine (((DirAt.made w).keep (b0 _ _ _ (by simp))).keep (b0 _ _ _ ?_)).keep (b0 _ _ _ ?_) <;> simp <;> omega
  · have h := DirAt.made (w.alloc (.map #[] 0))
    have e : (w.alloc (.map #[] 0)).heap.size = w.heap.size + 1 := by simp
    rw [e] at h
    refine (h.keep (b0 _ _ _ ?_)).keep (b0 _ _ _ ?_) <;> simp
  · have h := FailAtM.made ((w.alloc (.map #[] 0)).alloc (.map #[] 0))
    have e : ((w.alloc (.map #[] 0)).alloc (.map #[] 0)).heap.size = w.heap.size + 2 := by simp
    rw [e] at h
    refine h.keep (b0 _ _ _ ?_)
    simp
set_option maxRecDepth 100000 in
theorem new_calls (room : Int) (hr : 0 ≤ room) (w : World) :
    Calls Try.prog 8 #[.int .i64 room] w fun e w' => e = .returned (.tuple #[P (w.heap.size + 3), .int .i64 0]) ∧ DkAt w' (newD w.heap.size room) ∧ Below w.heap.size w w' := by
  have hmm := @run_makeMap Try.prog
  have HN := hid (new_at w room)
  have HB := hid (fun o => ((((Below.refl _ w).alloc (Nat.le_refl _) (.map #[] 0)).alloc (by simp) (.map #[] 0)).alloc (by simp; omega) (.map #[] 0)).alloc (by simp; omega) o)
  go_enter Try.func8, Try.ntmps8
  go_wp2
  go_ret2
  exact ⟨rfl, HN.out, HB.out _⟩
theorem FlAt.c0 {f : Fl} (h : FlAt w f) : w.cell? ⟨f.blk, 0, none⟩ = some f.row := (cell_of h.cell 0).trans rfl
theorem FlAt.c1 {f : Fl} (h : FlAt w f) : w.cell? ⟨f.blk, 1, none⟩ = some (.int .i64 f.sure) := (cell_of h.cell 1).trans rfl
theorem FlAt.free {f : Fl} (h : FlAt w f) (i : Nat) : w.frozen? ⟨f.blk, i, none⟩ = false := free_of h.cell i
set_option maxRecDepth 100000 in
theorem size_some (h : DkAt w D) (s : ByteArray) (hs : s.size ≤ maxLen) (f : Fl) (hf : f ∈ D.fs) (hn : D.dir s = some f.blk) :
    Calls Try.prog 16 #[P D.d, .string s] w fun e w' => e = .returned (.int .i64 f.b.length) ∧ w' = w := by
  have c0 := h.c0
  have hl := h.dirM.look hs
  rw [hn] at hl
  have hl2 : (Instr.lookup 54 (.map (some D.dm)) (.string s) false).run Try.prog w = .ok (P f.blk) w := hl
  have k0 := (h.files f hf).c0
  obtain ⟨A, c, hv⟩ := Kd.R_slice (h.files f hf).bytes
  rw [hv] at k0
  clear h hl hn hv
  go_enter Try.func16, Try.ntmps16
  go_wp2
  go_ret
  exact ⟨rfl, rfl⟩
set_option maxRecDepth 100000 in
theorem ops_calls (h : DkAt w D) : Calls Try.prog 13 #[P D.d] w fun e w' => e = .returned (.int .i64 D.ops) ∧ w' = w := by
  have c4 := h.c4
  clear h
  go_enter Try.func13, Try.ntmps13
  go_wp2
  go_ret
  exact ⟨rfl, rfl⟩
set_option maxRecDepth 100000 in
theorem loose_calls (h : DkAt w D) : Calls Try.prog 23 #[P D.d] w fun e w' => e = .returned (.int .i64 D.loose.length) ∧ w' = w := by
  have c2 := h.c2
  obtain ⟨A, c, hv⟩ := Kd.R_slice h.row
  rw [hv] at c2
  clear h hv
  go_enter Try.func23, Try.ntmps23
  go_wp2
  go_ret
  exact ⟨rfl, rfl⟩
theorem DkAt.turn_fails {w' : World} {f' : Int → Int} (h : DkAt w D) (hm : FailAtM w' D.fm (D.n + 1) f') (g : Fr [D.fm] w w') : DkAt w' { D with n := D.n + 1, fails := f' } := by
  have hnd := h.nodup
  have hne : ∀ k ∈ D.own, k ≠ D.fm → k ∉ [D.fm] := fun k _ hk hm => hk (List.mem_singleton.1 hm)
  simp only [Dk.own, List.nodup_cons, List.mem_cons, List.mem_append, List.mem_flatMap, not_or] at hnd
  obtain ⟨⟨n1, n2, n3, n4, n5⟩, ⟨n6, n7, n8, n9⟩, ⟨n10, n11, n12⟩, ⟨n13, n14⟩, n15⟩ := hnd
  have hb : ∀ k ∈ D.boxes, k ≠ D.fm := fun k hk e => h.boff k hk (by rw [e]; simp [Dk.own])
  refine ⟨(g.keep _ h.d_lt (by simpa using n3)).trans h.cell, (h.dirM.keep (g.keep _ h.dirM.lt (by simpa using n7))).mono (Nat.le_succ _), (h.sureM.keep (g.keep _ h.sureM.lt (by simpa using n10))).mono (Nat.le_succ _), hm,
    Kd.R_step h.row (fun k hk hlt => g.keep k hlt (fun hm => n13 (by rw [← List.mem_singleton.1 hm]; simpa using hk))), fun f hf => (h.files f hf).keep (fun k hk hlt => g.keep k hlt (fun hm => n14 ⟨f, hf, by rw [← List.mem_singleton.1 hm]; exact hk⟩)),
    fun a ha => (h.boxed a ha).keep (fun k hk hlt => g.keep k hlt (fun hm => hb k (List.mem_flatMap.2 ⟨a, ha, hk⟩) (List.mem_singleton.1 hm))), h.nodup, h.boff⟩
set_option maxHeartbeats 4000000 in
set_option maxRecDepth 100000 in
theorem fail_calls (h : DkAt w D) (x : Int) (A : Addr) (c : Nat) (hx : (Lit.int .i64 x).wf = true) (hf : 0 ≤ D.fails x) (hf2 : D.fails x < 4611686018427387904) (hn : D.n < maxLen) (hA : w.cell? A = some (.int .i64 x)) (hA0 : A.spot = none) :
    Calls Try.prog 12 #[P D.d, .slice (some A) 1 c] w fun e w' => e = .returned (.tuple #[]) ∧ DkAt w' { D with n := D.n + 1, fails := fun t => if t = x then D.fails x + 1 else D.fails t } ∧ Fr [D.fm] w w' := by
  have c7 := h.c7
  have hl := h.failM.look hx
  have HH := hid h
  have hz : wrap64 (D.fails x + 1) = D.fails x + 1 := by unfold wrap64; omega
  obtain ⟨b, o, sp⟩ := A
  obtain rfl : sp = none := hA0
  clear h
  go_enter Try.func12, Try.ntmps12
  go_wp2
  refine wp_loop_rounds 2 ?_
  rw [rounds_succ]
  go_wp2_with (at_mapUpdate; refine wpList_fail _ rfl _ _ _ rfl rfl HH.out.failM hn x (D.fails x + 1) rfl rfl hx (WalkArith.wf_i64 (by omega)) ?_; intro w2 hm2 ht2; have H2 := hid (HH.out.turn_fails hm2 (Fr.turned ht2 (List.mem_singleton.2 rfl))); have F2 := hid (Fr.turned ht2 (List.mem_singleton.2 rfl) : Fr [D.fm] w w2); clear hm2 ht2)
  rw [rounds_succ]
  go_wp2
  go_end0
  exact ⟨rfl, H2.out, F2.out⟩
end
end Go.Proofs.Ytgcenkmekpaapaa.L
