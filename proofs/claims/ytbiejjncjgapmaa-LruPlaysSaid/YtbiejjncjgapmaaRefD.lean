/- The reference's cache: Get, Keys, Drop. -/
import Derived.Test.YtbiejjncjgapmaaRefC
namespace Go.Proofs.Ytbiejjncjgapmaa.L
open Go.RowKit Go.Lib
open Go.Proofs.YtbiejjncjgapmaaW.PrintWords Go.Proofs.YtbiejjncjgapmaaW.PrintLast Go.Proofs.YtbiejjncjgapmaaW.PrintMore
section
variable {w : World} {r : Nat} {v : Value} {os : List Item} {bud : Int}
theorem out_mid {xs ys : List Item} {x : Item} {s : ByteArray} (hk : x.key = s) (hn : ((xs ++ x :: ys).map (·.key)).Nodup) : outI (xs ++ x :: ys) s = xs ++ ys := by
  rw [List.map_append, List.map_cons, List.nodup_append, List.nodup_cons] at hn
  unfold outI
  rw [List.filter_append, List.filter_cons_of_neg (by simp [hk])]
  congr 1
  · rw [List.filter_eq_self]
    intro y hy
    simp only [ne_eq, decide_eq_true_eq]
    intro e
    exact hn.2.2 y.key (List.mem_map_of_mem hy) x.key List.mem_cons_self (e.trans hk.symm)
  · rw [List.filter_eq_self]
    intro y hy
    simp only [ne_eq, decide_eq_true_eq]
    intro e
    exact hn.2.1.1 (by rw [hk, ← e]; exact List.mem_map_of_mem hy)
def Newer (w : World) (v v' : Value) : Prop := ∀ k, v'.ownBlock = some k → v.ownBlock = some k ∨ w.heap.size ≤ k
theorem Newer.refl (w : World) (v : Value) : Newer w v v := fun _ h => .inl h
theorem Newer.of (w : World) (v : Value) {v' : Value} (h : ∀ k, v'.ownBlock = some k → w.heap.size ≤ k) : Newer w v v' := fun k hk => .inr (h k hk)
theorem Newer.trans {w w1 : World} {v v1 v2 : Value} (h : Newer w v v1) (h' : Newer w1 v1 v2) (hs : w.heap.size ≤ w1.heap.size) : Newer w v v2 := fun k hk => by
  rcases h' k hk with e | e
  · exact h k e
  · exact .inr (by omega)
set_option maxHeartbeats 4000000 in
set_option maxRecDepth 100000 in
theorem ref_get (h : RefAt w r v os bud) (hn : (os.map (·.key)).Nodup) (hlen : os.length < 4294967295) (s : ByteArray) :
    Calls Try.prog 15 #[P r, .string s] w fun e w' => e = .returned (.tuple #[.string (getV os s).1, .bool (getV os s).2]) ∧ ∃ v', RefAt w' r v' (getI os s) bud ∧ Fr [r] w w' ∧ Newer w v v' := by
  have HF := hid (find_calls h s)
  have HH := hid h
  have HN := hid hn
  clear h hn
  unfold getI getV
  cases hf : findI os s with
  | none =>
    have HU := hid hf
    clear hf
    go_enter Try.func15, Try.ntmps15
    go_wp2_with (go_at_call 25; refine HF.out.mono ?_; rintro e w_ ⟨⟨i, rfl, hi⟩, hww⟩; have hww2 := hww.symm; subst hww2; obtain rfl : i = -1 := (by rcases hi with ⟨h, _⟩ | ⟨_, xs, x, ys, _, _, _, h⟩; exact h; rw [HU.out] at h; cases h); clear hi)
    go_ret2
    exact ⟨rfl, v, HH.out, Fr.refl _ _, Newer.refl _ _⟩
  | some x =>
    have HU := hid hf
    clear hf
    obtain ⟨A, c, hv, hlc, _⟩ := HH.out.slice
    have HT := hid (fun i (hi : i < os.length) => text_at HH.out.row hv hi)
    have c0 := HH.out.c0
    rw [hv] at c0
    have hmx : os.length ≤ 9223372036854775807 := by omega
    have hv0 := hid hv
    clear hv
    have HG : Hid (∃ xs ys, os = xs ++ x :: ys ∧ x.key = s ∧ ∀ i, FindsAt os s i → i = (xs.length : Int)) := hid (by
      obtain ⟨hm, hk⟩ := find_key HU.out
      obtain ⟨xs, ys, rfl⟩ := List.append_of_mem hm
      refine ⟨xs, ys, rfl, hk, fun i hi => ?_⟩
      rcases hi with ⟨_, h⟩ | ⟨_, xs', x', ys', he, hil, hk', h⟩
      · rw [HU.out] at h; cases h
      · have hx : x = x' := by have := HU.out.symm.trans h; injection this
        subst hx
        rw [hil]
        have hnd := HN.out
        have h1 : (xs ++ x :: ys).map (·.key) = xs.map (·.key) ++ s :: ys.map (·.key) := by rw [List.map_append, List.map_cons, hk]
        have h2 : (xs ++ x :: ys).map (·.key) = xs'.map (·.key) ++ s :: ys'.map (·.key) := by rw [he, List.map_append, List.map_cons, hk]
        have g1 : ((xs ++ x :: ys).map (·.key))[xs.length]? = some s := by rw [h1, List.getElem?_append_right (by simp)]; simp
        have g2 : ((xs ++ x :: ys).map (·.key))[xs'.length]? = some s := by rw [h2, List.getElem?_append_right (by simp)]; simp
        have l1 : xs.length < ((xs ++ x :: ys).map (·.key)).length := by rw [h1]; simp
        have := (List.getElem?_inj l1 hnd).1 (g1.trans g2.symm)
        omega)
    obtain ⟨xs, ys, hos, hk, hidx⟩ := HG.out
    have HI := hid hidx
    have hxl : xs.length < os.length := by rw [hos]; simp
    obtain ⟨g, rfl, hgl, _, hcell⟩ := HT.out xs.length hxl
    have hox : os[xs.length] = x := by
      have : os[xs.length]? = some x := by rw [hos, List.getElem?_append_right (Nat.le_refl _)]; simp
      rw [List.getElem?_eq_getElem hxl] at this
      injection this
    have k0 := (hcell xs.length hxl).1
    have k1 := (hcell xs.length hxl).2
    rw [hox] at k0 k1
    have hxlz : (xs.length : Int) < (os.length : Int) := by omega
    have hout : outI os s = xs ++ ys := by
      have hnd := HN.out
      rw [hos] at hnd ⊢
      exact out_mid hk hnd
    have HO := hid hout
    have HS := hid hos
    have hr := HH.out.lt
    have HA := hid (show let o := Obj.cells #[.string x.key, .string x.val] 62; RefAt (w.alloc o) r v (xs ++ x :: ys) bud ∧ (w.alloc o).heap[w.heap.size]? = some o from by
      intro o
      exact ⟨by have h1 := HH.out.fr (Fr.alloc [] w o) (by simp) (fun k _ => by simp); rw [hos] at h1; exact h1, (MapKept.heap_alloc w o).1⟩)
    have HLn := hid (show (xs ++ x :: ys).length < 4294967296 ∧ (xs ++ ys).length < 4294967296 from by rw [hos] at hlen; simp at hlen ⊢; omega)
    clear hidx HT hcell hout hos hk HG HF hox
    have HF := hid (find_calls HH.out s)
    go_enter Try.func15, Try.ntmps15
    go_wp2_with (first
      | (go_at_call 25; refine HF.out.mono ?_; rintro e w_ ⟨⟨i, rfl, hi⟩, hww⟩; have hww2 := hww.symm; subst hww2; obtain rfl := HI.out i hi; clear hi)
      | (go_at_call 26; refine (out_calls xs ys x HA.out.1 HLn.out.1).mono ?_; rintro e w1 ⟨rfl, v1, hr1, hf1, hn1⟩; have R1 := hid hr1; have F1 := hid ((Fr.alloc [r] w _).trans hf1 (fun _ hk => .inl hk)); have b1 := (hf1.keep w.heap.size (by simp) (by simp; omega)).trans HA.out.2; have b10 : w1.cell? ⟨w.heap.size, 0, none⟩ = some (.string x.key) := (cell_of b1 0).trans rfl; have b11 : w1.cell? ⟨w.heap.size, 1, none⟩ = some (.string x.val) := (cell_of b1 1).trans rfl; have B1 := hid b1; have hs1 := hf1.size; have N1 := hid hn1; clear hr1 hf1 hn1 b1)
      | (go_at_call 27; refine (first_calls x R1.out HLn.out.2).mono ?_; rintro e w2 ⟨rfl, v2, hr2, hf2, hn2⟩; have R2 := hid hr2; have F2 := hid (F1.out.trans hf2 (fun _ hk => .inl hk)); have b2 := (hf2.keep w.heap.size (by have := hs1; simp at this; omega) (by simp; omega)).trans B1.out; have b21 : w2.cell? ⟨w.heap.size, 1, none⟩ = some (.string x.val) := (cell_of b2 1).trans rfl; have N2 := hid hn2; clear hr2 hf2 hn2 b2))
    go_ret2
    refine ⟨rfl, v2, ?_, F2.out, Newer.of _ _ (fun k hk => by have h1 := N2.out k hk; have h2 := F1.out.size; omega)⟩
    rw [HO.out]
    exact R2.out
set_option maxHeartbeats 4000000 in
set_option maxRecDepth 100000 in
theorem ref_keys (h : RefAt w r v os bud) (hlen : os.length < 4294967296) :
    Calls Try.prog 21 #[P r] w fun e w' => ∃ u : Value, e = .returned u ∧ Kd.R Kd.string 9 w' w.heap.size (fun _ => True) u (os.map (·.key)) ∧ Below w.heap.size w w' := by
  obtain ⟨A, c, hv, hlc, _⟩ := h.slice
  have hmx : os.length ≤ 9223372036854775807 := by omega
  have c0 := h.c0
  rw [hv] at c0
  have HT := hid (fun i (hi : i < os.length) => text_at h.row hv hi)
  have hrl := h.lt
  have HR0 := hid (Kd.R_nil Kd.string 9 w w.heap.size (fun _ => True))
  have HB0 := hid (Below.refl w.heap.size w)
  clear h hv
  go_enter Try.func21, Try.ntmps21
  go_wp2
  go_loopg [3, 4] os.length (fun gg s3 s4 wr => ∃ (kk : Nat), kk ≤ os.length ∧ os.length - kk ≤ gg ∧ s4 = .int .i64 kk ∧ Hid (Kd.R Kd.string 9 wr w.heap.size (fun _ => True) s3 ((os.take kk).map (·.key))) ∧ Hid (Below w.heap.size w wr))
  case atStart => exact ⟨0, Nat.zero_le _, by omega, rfl, HR0, HB0⟩
  case round =>
    clear HR0 HB0
    obtain ⟨kk, hkk, hg, rfl, HR, HB⟩ := hrel
    obtain ⟨A1, c1, hv1⟩ := Kd.R_slice HR.out
    subst hv1
    have d0 : wr.cell? ⟨r, 0, none⟩ = some (.slice A os.length c) := (HB.out.cell (p := ⟨r, 0, none⟩) hrl).trans c0
    by_cases hlt : kk < os.length
    · have hltz : (kk : Int) < (os.length : Int) := by omega
      obtain ⟨g, rfl, hgl, _, hcell⟩ := HT.out kk hlt
      have k0 : wr.cell? ⟨g, kk * 2, none⟩ = some (.string os[kk].key) := (HB.out.cell (p := ⟨g, kk * 2, none⟩) hgl).trans (hcell kk hlt).1
      have htk : (os.take (kk + 1)).map (·.key) = (os.take kk).map (·.key) ++ [os[kk].key] := by
        rw [List.take_succ_eq_append_getElem hlt, List.map_append]; rfl
      have hlk : ((os.take kk).map (·.key)).length = kk := by rw [List.length_map, List.length_take]; omega
      have HTK := hid htk
      clear hcell htk
      generalize hae : (os.take kk).map (·.key) = acc at HR HTK hlk
      generalize hse : os[kk].key = s at k0 HTK
      clear hae hse
      have hBw : w.heap.size ≤ wr.heap.size := HB.out.size
      go_wp2_with ((with_reducible refine gate_builtin (b := .append) (xs := #[.tmp 14, .tmp 23]) rfl ?_); at_builtin; refine Kd.R_append Kd.string (w0 := w) w.heap.size rfl (.tmp 14) (.tmp 23) 28 9 (.string ⟨#[]⟩) 16 rfl Try.underlying28 info9 rfl (by decide) (by omega) (.slice A1 acc.length c1) acc s [.string s] (fun _ => True) (fun _ => False) rfl rfl ?aP (fun _ hk => hk.elim) (fun _ _ => trivial) ?aO ?aB ?aS ?aL ?_; (case aP => exact rfl); (case aO => exact HR.out); (case aB => exact HB.out); (case aS => exact hBw); (case aL => omega); intro v1 w1 ho hb hg1 hat; have HR1 := hid ho; have HB1 := hid hb; clear ho hb hg1 hat)
      go_roundg (os.length - (kk + 1))
      case measure => omega
      case rel => exact ⟨kk + 1, by omega, by omega, by go_num, by rw [HTK.out]; exact HR1, HB1⟩
    · have hltz : ¬ (kk : Int) < (os.length : Int) := by omega
      obtain rfl : kk = os.length := by omega
      go_wp2
      go_ret
      refine ⟨_, rfl, ?_, HB.out⟩
      have h := HR.out
      rw [List.take_length, List.length_map] at h
      exact h
end
end Go.Proofs.Ytbiejjncjgapmaa.L
