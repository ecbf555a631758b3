/- The reference's cache in memory: a budget and a row of texts; what it finds, takes out and lays first. -/
import Derived.Test.YtbiejjncjgapmaaPut
namespace Go.Proofs.Ytbiejjncjgapmaa.L
open Go.RowKit Go.Lib
open Go.Proofs.YtbiejjncjgapmaaW.PrintWords Go.Proofs.YtbiejjncjgapmaaW.PrintLast Go.Proofs.YtbiejjncjgapmaaW.PrintMore
theorem info62 : (Try.prog.info? 62).map (fun i => (i.zero, i.size, i.bytes)) = some (some (.agg #[.string ⟨#[]⟩, .string ⟨#[]⟩]), 2, 32) := by kernel_rfl
def kT : Kd Item := Kd.iso (Kd.pair Kd.string Kd.string) (fun x => (x.key, x.val))
theorem kT_K {w : World} {x : Item} {cs : List Value} : kT.K w x cs ↔ cs = [.string x.key, .string x.val] := by
  constructor
  · rintro ⟨c0, c1, rfl, rfl, rfl⟩; rfl
  · rintro rfl; exact ⟨_, _, rfl, rfl, rfl⟩
theorem kT_mk (w : World) (base : Nat) (ok : Nat → Prop) (x : Item) : kT.M w base ok x [.string x.key, .string x.val] := ⟨_, _, rfl, rfl, rfl⟩
structure RefAt (w : World) (r : Nat) (v : Value) (os : List Item) (bud : Int) : Prop where
  cell : w.heap[r]? = some (.cells #[v, .int .i64 bud] 55 (0, 0))
  row : Kd.R kT 62 w 0 (fun k => v.ownBlock = some k) v os
section
variable {w : World} {r : Nat} {v : Value} {os : List Item} {bud : Int}
theorem row_self {base : Nat} {ok : Nat → Prop} (h : Kd.R kT 62 w base ok v os) : Kd.R kT 62 w 0 (fun k => v.ownBlock = some k) v os := by
  obtain ⟨_, inner, ho, hr⟩ := Kd.R_lower h (Nat.zero_le _)
  exact ⟨fun k hk => hk, inner, ho, hr.imp_ (fun _ _ hp => hp)⟩
theorem RefAt.lt (h : RefAt w r v os bud) : r < w.heap.size := (Array.getElem?_eq_some_iff.1 h.cell).1
theorem RefAt.row_lt (h : RefAt w r v os bud) (k : Nat) (hk : v.ownBlock = some k) : k < w.heap.size := by
  obtain ⟨inner, ho⟩ := Kd.R_own h.row
  exact own_lt ho k hk
theorem RefAt.row_ne (h : RefAt w r v os bud) (k : Nat) (hk : v.ownBlock = some k) : k ≠ r := by
  have := Kd.R_ne h.row h.cell (by decide)
  intro e
  exact this (by rw [hk, e])
theorem RefAt.fr {w' : World} {own : List Nat} (h : RefAt w r v os bud) (f : Fr own w w') (hr : r ∉ own) (hv : ∀ k, v.ownBlock = some k → k ∉ own) : RefAt w' r v os bud :=
  ⟨(f.keep r h.lt hr).trans h.cell, Kd.R_step h.row (fun k hk hlt => f.keep k hlt (hv k hk))⟩
theorem RefAt.c0 (h : RefAt w r v os bud) : w.cell? ⟨r, 0, none⟩ = some v := (cell_of h.cell 0).trans rfl
theorem RefAt.c1 (h : RefAt w r v os bud) : w.cell? ⟨r, 1, none⟩ = some (.int .i64 bud) := (cell_of h.cell 1).trans rfl
theorem RefAt.free (h : RefAt w r v os bud) (i : Nat) : w.frozen? ⟨r, i, none⟩ = false := free_of h.cell i
theorem RefAt.slice (h : RefAt w r v os bud) : ∃ A c, v = .slice A os.length c ∧ os.length ≤ c ∧ Kd.C kT w A os.length os := Kd.R_reads h.row
theorem text_at {A : Option Addr} {c : Nat} (h : Kd.R kT 62 w 0 (fun k => v.ownBlock = some k) v os) (e : v = .slice A os.length c) {i : Nat} (hi : i < os.length) :
    ∃ g, A = some ⟨g, 0, none⟩ ∧ g < w.heap.size ∧ v.ownBlock = some g ∧ ∀ j (hj : j < os.length), w.cell? ⟨g, j * 2, none⟩ = some (.string os[j].key) ∧ w.cell? ⟨g, j * 2 + 1, none⟩ = some (.string os[j].val) := by
  obtain ⟨g, cap, e2, _, hlt, _⟩ := Kd.R_form h (by omega)
  have e3 : (Value.slice A os.length c) = .slice (some ⟨g, 0, none⟩) os.length cap := e.symm.trans e2
  injection e3 with e4 _ _
  refine ⟨g, e4, hlt, by rw [e2]; rfl, fun j hj => ?_⟩
  rw [e2] at h
  obtain ⟨ad, hA, hcell⟩ := (Kd.R_reads' h).2.2.2.2 (by omega)
  obtain rfl : ad = ⟨g, 0, none⟩ := by injection hA with hA; exact hA.symm
  obtain ⟨cs, _, hK, hc⟩ := hcell j os[j] (List.getElem?_eq_getElem hj)
  rw [kT_K] at hK
  subst hK
  have h0 := hc 0 _ rfl
  have h1 := hc 1 _ rfl
  have ea : ∀ n : Nat, (⟨g, 0, none⟩ : Addr).add n = ⟨g, n, none⟩ := fun n => by
    unfold Addr.add
    split
    · rename_i hz; rw [hz]
    · simp
  rw [ea] at h0 h1
  exact ⟨h0, h1⟩
def FindsAt (os : List Item) (s : ByteArray) (i : Int) : Prop := (i = -1 ∧ findI os s = none) ∨ (0 ≤ i ∧ ∃ xs x ys, os = xs ++ x :: ys ∧ i = (xs.length : Int) ∧ x.key = s ∧ findI os s = some x)
theorem str_ne {a b : ByteArray} (h : a ≠ b) : a.toList ≠ b.toList := fun e => h (by
  rw [ByteArray.toList_eq, ByteArray.toList_eq] at e
  cases a; cases b
  simp at e
  rw [e])
set_option maxHeartbeats 4000000 in
set_option maxRecDepth 100000 in
theorem find_calls (h : RefAt w r v os bud) (s : ByteArray) :
    Calls Try.prog 25 #[P r, .string s] w fun e w' => (∃ i : Int, e = .returned (.int .i64 i) ∧ FindsAt os s i) ∧ w' = w := by
  obtain ⟨A, c, hv, hlc, _⟩ := h.slice
  have c0 := h.c0
  rw [hv] at c0
  have hmx : os.length ≤ 9223372036854775807 := Kd.C_max (Kd.R_reads' (hv ▸ h.row)).2.2
  have HT := hid (fun i (hi : i < os.length) => text_at h.row hv hi)
  clear h hv
  go_enter Try.func25, Try.ntmps25
  go_wp2
  go_loopg [5] os.length (fun gg s5 wr => ∃ (kk : Nat), kk ≤ os.length ∧ os.length - kk ≤ gg ∧ s5 = .int .i64 kk ∧ w = wr ∧ Hid (∀ j (hj : j < os.length), j < kk → os[j].key ≠ s))
  case atStart => exact ⟨0, Nat.zero_le _, by omega, rfl, rfl, hid (fun j _ hj => absurd hj (Nat.not_lt_zero _))⟩
  case round =>
    obtain ⟨kk, hkk, hg, rfl, rfl, HN⟩ := hrel
    by_cases hlt : kk < os.length
    · have hltz : (kk : Int) < (os.length : Int) := by omega
      obtain ⟨g, rfl, hgl, _, hcell⟩ := HT.out kk hlt
      have k0 := (hcell kk hlt).1
      clear hcell
      by_cases he : os[kk].key = s
      · have hf : findI os s = some os[kk] := by
          unfold findI
          rw [List.find?_eq_some_iff_append]
          refine ⟨by simpa using he, os.take kk, os.drop (kk + 1), ?_, fun a ha => ?_⟩
          · rw [← List.drop_eq_getElem_cons hlt, List.take_append_drop]
          · obtain ⟨j, hj, rfl⟩ := List.mem_iff_getElem.1 ha
            rw [List.length_take] at hj
            have := HN.out j (by omega) (by omega)
            simpa using this
        have hres := hid (show FindsAt os s (kk : Int) from .inr ⟨by omega, os.take kk, os[kk], os.drop (kk + 1), by rw [← List.drop_eq_getElem_cons hlt, List.take_append_drop], by rw [List.length_take]; omega, he, hf⟩)
        clear hf
        have hb1 : (os[kk].key.toList == s.toList) = true := by rw [he]; simp
        have hb2 : (os[kk].key.toList = s.toList) = True := by rw [he]; simp
        clear he
        generalize os[kk].key = g1 at k0 hb1 hb2
        go_wp2
        go_ret
        exact ⟨⟨_, rfl, hres.out⟩, rfl⟩
      · have HN2 := hid (show ∀ j (hj : j < os.length), j < kk + 1 → os[j].key ≠ s from fun j hj hjk => by
          by_cases e : j = kk
          · subst e; exact he
          · exact HN.out j hj (by omega))
        have hb1 : (os[kk].key.toList == s.toList) = false := beq_eq_false_iff_ne.2 (str_ne he)
        have hb2 : (os[kk].key.toList = s.toList) = False := eq_false (str_ne he)
        clear he
        generalize os[kk].key = g1 at k0 hb1 hb2
        go_wp2
        go_roundg (os.length - (kk + 1))
        case measure => omega
        case rel => exact ⟨kk + 1, by omega, by omega, by go_num, rfl, HN2⟩
    · have hltz : ¬ (kk : Int) < (os.length : Int) := by omega
      have hf : findI os s = none := by
        unfold findI
        rw [List.find?_eq_none]
        intro x hx
        obtain ⟨j, hj, rfl⟩ := List.mem_iff_getElem.1 hx
        have := HN.out j hj (by omega)
        simpa using this
      have hres := hid (show FindsAt os s (-1) from .inl ⟨rfl, hf⟩)
      clear hf
      go_wp2
      go_ret
      exact ⟨⟨_, rfl, hres.out⟩, rfl⟩
end
end Go.Proofs.Ytbiejjncjgapmaa.L
