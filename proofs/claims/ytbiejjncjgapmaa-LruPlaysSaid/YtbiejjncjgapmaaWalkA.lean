/- The ring's own functions. -/
import Derived.Test.YtbiejjncjgapmaaLies
namespace Go.Proofs.Ytbiejjncjgapmaa.L
open Go.RowKit Go.Lib
section
variable {w : World} {c m : Nat} {is : List Item} {nx pv : Nat → Nat} {bud byt : Int}
set_option maxRecDepth 100000 in
theorem loose_calls (h : Lies w c m is nx pv bud byt) {x : Nat} (hx : x ∈ blks c is) (hp : pv x ∈ blks c is) (hq : nx x ∈ blks c is) :
    Calls Try.prog 28 #[P c, P x] w fun e w' => e = .returned (.tuple #[]) ∧ Lies w' c m is (upd nx (pv x) (nx x)) (upd pv (nx x) (pv x)) bud byt ∧ Fr (blks c is) w w' := by
  have c1 := h.prev hx
  have c2 := h.next hx
  have f1 := h.free hp 3
  have f2 := h.free hq 2
  have d1 := h.next hp
  have d2 := h.prev hq
  have HH := hid ((h.set_next hp (nx x)).set_prev hq (pv x)).drew
  have HF := hid (((Fr.set w ⟨pv x, 3, none⟩ (P (nx x)) hp).trans (Fr.set _ ⟨nx x, 2, none⟩ (P (pv x)) hq) (fun _ hk => .inl hk)).drew : Fr (blks c is) w _)
  clear h hp hq hx
  go_enter Try.func28, Try.ntmps28
  go_wp2
  go_region
  all_goals (go_end0; exact ⟨rfl, HH.out, HF.out⟩)
set_option maxRecDepth 100000 in
theorem use_any {is1 : List Item} {nx1 pv1 : Nat → Nat} {x q : Nat} {v2 v3 : Value} (c1 : w.cell? ⟨c, 3, none⟩ = some (P q)) (f1 : w.frozen? ⟨x, 2, none⟩ = false) (f2 : w.frozen? ⟨x, 3, none⟩ = false)
    (d1 : w.cell? ⟨x, 2, none⟩ = some v2) (d2 : w.cell? ⟨x, 3, none⟩ = some v3) (h1 : Lies ((w.setCell ⟨x, 2, none⟩ (P c)).setCell ⟨x, 3, none⟩ (P q)).drew c m is1 nx1 pv1 bud byt)
    (e1 : pv1 x = c) (e2 : nx1 x = q) (hx : x ∈ blks c is1) (hq : q ∈ blks c is1) :
    Calls Try.prog 23 #[P c, P x] w fun e w' => e = .returned (.tuple #[]) ∧ Lies w' c m is1 (upd nx1 c x) (upd pv1 q x) bud byt ∧ Fr (blks c is1) w w' := by
  have hc : c ∈ blks c is1 := List.mem_cons_self
  have HF1 := hid (((Fr.set w ⟨x, 2, none⟩ (P c) hx).trans (Fr.set _ ⟨x, 3, none⟩ (P q) hx) (fun _ hk => .inl hk)).drew : Fr (blks c is1) w _)
  have HH1 := hid h1
  clear h1
  go_enter Try.func23, Try.ntmps23
  go_wp2
  go_region
  all_goals (
    generalize World.drew _ = w1 at HH1 HF1 ⊢
    have h1 := HH1.out
    clear c1 f1 f2 d1 d2 HH1
    have c1 := h1.prev hx
    have c2 := h1.next hx
    rw [e1] at c1
    rw [e2] at c2
    have f1 := h1.free hc 3
    have f2 := h1.free hq 2
    have d1 := h1.next hc
    have d2 := h1.prev hq
    have HH := hid ((h1.set_next hc x).set_prev hq x).drew
    have HF := hid ((HF1.out.trans (Fr.set _ ⟨c, 3, none⟩ (P x) hc) (fun _ hk => .inl hk)).trans (Fr.set _ ⟨q, 2, none⟩ (P x) hq) (fun _ hk => .inl hk)).drew
    clear h1 HF1 e1 e2
    go_wp2
    go_region
    all_goals (go_end0; exact ⟨rfl, HH.out, HF.out⟩))
theorem use_calls (h : Lies w c m is nx pv bud byt) {x : Nat} (hx : x ∈ blks c is) (hq : nx c ∈ blks c is) :
    Calls Try.prog 23 #[P c, P x] w fun e w' => e = .returned (.tuple #[]) ∧ Lies w' c m is (upd (upd nx x (nx c)) c x) (upd (upd pv x c) (nx c) x) bud byt ∧ Fr (blks c is) w w' :=
  use_any (h.next List.mem_cons_self) (h.free hx 2) (h.free hx 3) (h.prev hx) (h.next hx) ((h.set_prev hx c).set_next hx (nx c)).drew (upd_same _ _ _) (upd_same _ _ _) hx hq
theorem Lies.add (h : Lies w c m is nx pv bud byt) (x : Item) {a b : Nat} (hb : w.heap[x.blk]? = some (.cells #[.string x.key, .string x.val, P a, P b] 48 (0, 0))) (hn : x.blk ∉ blks c is) :
    Lies w c m (x :: is) (upd nx x.blk b) (upd pv x.blk a) bud byt := by
  have hc : c ≠ x.blk := fun e => hn (e ▸ List.mem_cons_self)
  refine ⟨?_, fun y hy => ?_, ?_⟩
  · rw [upd_other _ _ hc, upd_other _ _ hc]; exact h.head
  · rcases List.mem_cons.1 hy with e | hy
    · rw [e, upd_same, upd_same]; exact hb
    · have hne : y.blk ≠ x.blk := fun e => hn (e ▸ List.mem_cons_of_mem _ (List.mem_map_of_mem hy))
      rw [upd_other _ _ hne, upd_other _ _ hne]; exact h.item y hy
  · have h0 := List.nodup_cons.1 h.nodup
    unfold blks
    rw [List.map_cons, List.nodup_cons, List.nodup_cons]
    refine ⟨fun hm => ?_, fun hm => hn (List.mem_cons_of_mem _ hm), h0.2⟩
    rcases List.mem_cons.1 hm with e | hm
    · exact hc e
    · exact h0.1 hm
theorem use_new (h : Lies w c m is nx pv bud byt) (x : Item) {v2 v3 : Value} (hb : w.heap[x.blk]? = some (.cells #[.string x.key, .string x.val, v2, v3] 48 (0, 0))) (hn : x.blk ∉ blks c is) (hq : nx c ∈ blks c is) :
    Calls Try.prog 23 #[P c, P x.blk] w fun e w' => e = .returned (.tuple #[]) ∧ Lies w' c m (x :: is) (upd (upd nx x.blk (nx c)) c x.blk) (upd (upd pv x.blk c) (nx c) x.blk) bud byt ∧ Fr (blks c (x :: is)) w w' := by
  have hx : x.blk ∈ blks c (x :: is) := List.mem_cons_of_mem _ List.mem_cons_self
  have hsub : ∀ k ∈ blks c is, k ∈ blks c (x :: is) := fun k hk => by
    rcases List.mem_cons.1 hk with e | hk
    · rw [e]; exact List.mem_cons_self
    · exact List.mem_cons_of_mem _ (List.mem_cons_of_mem _ hk)
  have b1 := heap_set (off := 2) hb (P c)
  have b2 := heap_set (off := 3) b1 (P (nx c))
  have hl : Lies ((w.setCell ⟨x.blk, 2, none⟩ (P c)).setCell ⟨x.blk, 3, none⟩ (P (nx c))) c m is nx pv bud byt := by
    refine h.keep (fun k hk => ?_)
    have e : k ≠ x.blk := fun e => hn (e ▸ hk)
    exact (Below.heap_setCell _ _ _ k e).trans (Below.heap_setCell _ _ _ k e)
  exact use_any (h.next List.mem_cons_self) (free_of hb 2) (free_of hb 3) (cell_of hb 2) (cell_of hb 3) (hl.add x b2 hn).drew (upd_same _ _ _) (upd_same _ _ _) hx (hsub _ hq)
set_option maxRecDepth 100000 in
theorem eldest_calls (h : Lies w c m is nx pv bud byt) :
    Calls Try.prog 24 #[P c] w fun e w' => e = .returned (P (pv c)) ∧ w' = w := by
  have c1 := h.prev (List.mem_cons_self : c ∈ blks c is)
  clear h
  go_enter Try.func24, Try.ntmps24
  go_wp2
  go_ret
  exact ⟨rfl, rfl⟩
set_option maxRecDepth 100000 in
theorem bytes_calls (h : Lies w c m is nx pv bud byt) :
    Calls Try.prog 18 #[P c] w fun e w' => e = .returned (.int .i64 byt) ∧ w' = w := by
  have c1 := h.bytes
  clear h
  go_enter Try.func18, Try.ntmps18
  go_wp2
  go_ret
  exact ⟨rfl, rfl⟩
end
end Go.Proofs.Ytbiejjncjgapmaa.L
