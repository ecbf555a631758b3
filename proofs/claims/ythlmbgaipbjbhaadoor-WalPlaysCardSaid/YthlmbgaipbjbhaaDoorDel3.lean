/- slices.DeleteFunc on acts. (Printed by gen_del3.py.) -/
import Derived.Test.YthlmbgaipbjbhaaDoorDel2
import Derived.Lib.SliceRun
import Derived.Laws.EntriesVeiled
namespace Go.Proofs.YthlmbgaipbjbhaaDoor.L
open Go.RowKit Go.Lib Go.Maps
open Go.Proofs.YthlmbgaipbjbhaaDoorW.PrintWords Go.Proofs.YthlmbgaipbjbhaaDoorW.PrintLast Go.Proofs.YthlmbgaipbjbhaaDoorW.PrintMore
theorem R_past {w : World} {l : List Ac} {g c k : Nat} (h : Kd.R kAc 89 w 0 (fun _ => True) (.slice (some ⟨g, 0, none⟩) k c) l) (vs : List Value) (off : Nat) (ho : k * 3 ≤ off) (hf : off + vs.length ≤ c * 3) :
    Kd.R kAc 89 (w.setCells g off vs) 0 (fun _ => True) (.slice (some ⟨g, 0, none⟩) k c) l := by
  obtain ⟨hn, hnc, _⟩ := Kd.R_reads' h
  obtain ⟨hok, inner, ⟨ho1, ho2⟩, hr⟩ := h
  rcases ho2 with ⟨hv, _⟩ | ⟨g', cap', cur, hv, hb, hh, hnc', hcm, hcs, ht⟩
  · cases hv
  injection hv with ha _ hc
  injection ha with ha
  injection ha with hg
  subst hg; subst hc
  have hcs3 : cur.size = c * 3 := hcs
  obtain ⟨cur', h3, h4, h5⟩ := setCells_row vs off w cur hh (by omega)
  refine ⟨hok, inner, ⟨ho1, .inr ⟨g, c, cur', by rw [hn], hb, h3, hnc', hcm, by rw [h4, hcs], ?_⟩⟩, hr.imp_ (fun _ _ hp => hp)⟩
  rw [← ht, h5]
  have h6 : l.length * kAc.sz ≤ off := by rw [← hn]; exact ho
  have h7 : off ≤ cur.toList.length := by rw [Array.length_toList]; omega
  rw [List.append_assoc, List.take_append_of_le_length (by rw [List.length_take]; omega), List.take_take, Nat.min_eq_left h6]
theorem setCells_fr (g : Nat) : ∀ (vs : List Value) (o : Nat) (w : World), Fr [g] w (w.setCells g o vs)
  | [], _, w => Fr.refl _ w
  | v :: r, o, w => (Fr.set w ⟨g, o, none⟩ v (List.mem_singleton.2 rfl)).trans (setCells_fr g r (o + 1) _) (fun _ hk => .inl hk)
theorem R_lay {w : World} {l : List Ac} {g n c : Nat} (h : Kd.R kAc 89 w 0 (fun _ => True) (.slice (some ⟨g, 0, none⟩) n c) l) (a : Ac) {k : Nat} (hk : k < n) :
    Kd.R kAc 89 (((w.setCell ⟨g, k * 3, none⟩ (acF a)).setCell ⟨g, k * 3 + 1, none⟩ (.int .i64 (acN a))).setCell ⟨g, k * 3 + 2, none⟩ (acDo a)) 0 (fun _ => True) (.slice (some ⟨g, 0, none⟩) n c) (l.set k a) := by
  obtain ⟨cs, h1, h2, h3, h4⟩ := Kd.R_elem h a (k : Int) (by omega) (by omega)
  have h5 := (Kd.R_seg (j := 0) (seg := [acF a, .int .i64 (acN a), acDo a]) (x' := a) (okp := fun k => k ≠ g) h (k : Int) (by omega) (by omega) h1 h3 (Nat.le_refl _) (by
    show [] ++ [acF a, .int .i64 (acN a), acDo a] ++ cs.drop 3 = acCells a
    have : cs.drop 3 = [] := List.drop_eq_nil_of_le (by rw [h1]; exact Nat.le_refl _)
    rw [this]; rfl) (fun _ hk => ⟨trivial, hk⟩)).1
  exact h5
theorem Below.cell {n : Nat} {w w' : World} (h : Below n w w') {a : Addr} (ha : a.block < n) : w'.cell? a = w.cell? a := by
  unfold World.cell?
  rw [h.block _ ha]
theorem kept_step {p : Ac → Bool} {l l' : List Ac} {k j : Nat} (hkj : k < j) (hj : j < l.length) (hll : l'.length = l.length) (ht : l'.take k = (l.take j).filter (fun a => !p a)) (hd : l'.drop j = l.drop j) (hp : p l[j] = false) :
    (l'.set k l[j]).length = l.length ∧ (l'.set k l[j]).take (k + 1) = (l.take (j + 1)).filter (fun a => !p a) ∧ (l'.set k l[j]).drop (j + 1) = l.drop (j + 1) := by
  refine ⟨by rw [List.length_set, hll], ?_, ?_⟩
  · rw [List.take_succ_eq_append_getElem hj, List.filter_append, ← ht, List.take_succ_eq_append_getElem (by rw [List.length_set]; omega), List.take_set_of_le (Nat.le_refl _), List.getElem_set_self]
    simp [hp]
  · rw [List.drop_set_of_lt (by omega), ← List.drop_drop, hd, List.drop_drop]
theorem gone_step {p : Ac → Bool} {l l' : List Ac} {k j : Nat} (hj : j < l.length) (ht : l'.take k = (l.take j).filter (fun a => !p a)) (hd : l'.drop j = l.drop j) (hp : p l[j] = true) :
    l'.take k = (l.take (j + 1)).filter (fun a => !p a) ∧ l'.drop (j + 1) = l.drop (j + 1) := by
  refine ⟨?_, by rw [← List.drop_drop, hd, List.drop_drop]⟩
  rw [List.take_succ_eq_append_getElem hj, List.filter_append, ← ht]
  simp [hp]
theorem alloc_below {wr w2 : World} {o : Obj} (hb : Below (wr.alloc o).heap.size (wr.alloc o) w2) : Below wr.heap.size wr w2 ∧ w2.heap[wr.heap.size]? = some o := by
  have h1 : (wr.alloc o).heap.size = wr.heap.size + 1 := by show (wr.heap.push o).size = _; rw [Array.size_push]
  refine ⟨((Below.refl _ wr).alloc (Nat.le_refl _) o).trans (hb.mono (by omega)), (hb.block _ (by omega)).trans ?_⟩
  show (wr.heap.push o)[wr.heap.size]? = some o
  rw [Array.getElem?_push_size]
theorem info_act : ∃ j, Tryd.prog.info? 89 = some j ∧ j.size = 3 := by
  have h : (Tryd.prog.info? 89).map (·.size) = some 3 := by kernel_rfl
  exact Option.map_eq_some_iff.1 h
theorem zero_one (n : Nat) : ∀ v ∈ (Builtin.zeroCells #[.pointer none, .int .i64 0, .nilFunc] n).toList, v.oneCell' = true := by
  intro v hv
  simp only [Builtin.zeroCells, Array.toList_map, List.mem_map] at hv
  obtain ⟨i, _, rfl⟩ := hv
  have h3 : (#[Value.pointer none, .int .i64 0, .nilFunc] : Array Value).size = 3 := rfl
  rw [h3]
  have : i % 3 = 0 ∨ i % 3 = 1 ∨ i % 3 = 2 := by omega
  rcases this with h | h | h <;> rw [h] <;> rfl
theorem zero_len (n : Nat) : (Builtin.zeroCells #[.pointer none, .int .i64 0, .nilFunc] n).toList.length = n * 3 := by
  simp only [Builtin.zeroCells, Array.toList_map, List.length_map, Array.toList_range, List.length_range]
  rfl
theorem clear_acts {w : World} {l : List Ac} {g n c k : Nat} (h : Kd.R kAc 89 w 0 (fun _ => True) (.slice (some ⟨g, 0, none⟩) n c) l) (hk : k < n) (ty : TypeId) (c2 : Nat) :
    (Builtin.clear_ #[68] ty #[.slice (some ⟨g, k * 3, none⟩) (n - k) c2]).run Tryd.prog w = .ok (.tuple #[]) (w.setCells g (k * 3) (Builtin.zeroCells #[.pointer none, .int .i64 0, .nilFunc] (n - k)).toList) := by
  obtain ⟨hn, hnc, _⟩ := Kd.R_reads' h
  obtain ⟨hok, inner, ⟨ho1, ho2⟩, hr⟩ := h
  rcases ho2 with ⟨hv, _⟩ | ⟨g', cap', cur, hv, hb, hh, hnc', hcm, hcs, ht⟩
  · cases hv
  simp only [Value.slice.injEq, Option.some.injEq, Addr.mk.injEq, and_true] at hv
  obtain ⟨hg, _, hc⟩ := hv
  subst hg; subst hc
  have hcs3 : cur.size = c * 3 := hcs
  have hlen := zero_len (n - k)
  have hst := run_storeCells_cells (P := Tryd.prog) g (k * 3) (Builtin.zeroCells #[.pointer none, .int .i64 0, .nilFunc] (n - k)).toList 0 w (fun j hj => by rw [cell_of hh, Array.getElem?_eq_getElem (by rw [hlen] at hj; omega)]; rfl) (fun j _ => free_of hh _) (zero_one _)
  rw [Nat.add_zero] at hst
  obtain ⟨m, hm⟩ : ∃ m, n - k = m + 1 := ⟨n - k - 1, by omega⟩
  rw [hm] at hst ⊢
  have hcells : (Value.agg #[.pointer none, .int .i64 0, .nilFunc]).cells = #[.pointer none, .int .i64 0, .nilFunc] := rfl
  simp [Builtin.clear_, run_underlying Tryd.underlying68, hcells, hst]
theorem test_stop {p : Prop} : Hid p → p := fun h => h.out
theorem elem_same {l l' : List Ac} {j : Nat} (hj : j < l.length) (hll : l'.length = l.length) (hd : l'.drop j = l.drop j) : l'[j]'(by omega) = l[j] := by
  have h1 : (l'.drop j)[0]? = (l.drop j)[0]? := by rw [hd]
  rw [List.getElem?_drop, List.getElem?_drop, Nat.add_zero, List.getElem?_eq_getElem hj, List.getElem?_eq_getElem (by omega)] at h1
  injection h1
set_option maxHeartbeats 8000000 in
set_option maxRecDepth 100000 in
theorem del_dir {w : World} {v : Value} {l : List Ac} (A : Option Addr) (c : Nat) (hr : Kd.R kAc 89 w 0 (fun _ => True) v l) (hv : v = .slice A l.length c) (hs : Says 68 #[] isDir w v.ownBlock.toList l) :
    Calls Tryd.prog 67 #[.slice A l.length c, .func (.func 68) #[] #[]] w fun e w' => ∃ v2, e = .returned v2 ∧ Kd.R kAc 89 w' 0 (fun _ => True) v2 (l.filter (fun a => !isDir a)) ∧ Fr v.ownBlock.toList w w' ∧ v2.ownBlock = v.ownBlock := by
  have e33 : ∀ args w, (callFunc 68 args).run Tryd.prog w = .ok (.enter 68 args) w := enters_of Tryd.func68 (by kernel_rfl) rfl
  have HR := hid hr
  have HV := hid hv
  have HS := hid hs
  have hmx : l.length ≤ 9223372036854775807 := by rw [hv] at hr; exact Kd.C_max (Kd.R_reads' hr).2.2
  have HI := hid (idx_dir  A c hr hv hs)
  clear hr hv hs
  go_enter Tryd.func67, Tryd.ntmps67
  go_upto_region 2 with (go_at_call 77; refine HI.out.mono ?_; rintro e w1 ⟨i, rfl, hix, hb⟩; have IX := hid hix; have B1 := hid hb; clear hix hb)
  rcases IX.out with ⟨rfl, hno⟩ | ⟨k0, rfl, hk0, hbef, hat⟩
  · have HN := hid hno
    clear hno
    go_wp2
    go_ret
    have hfl : l.filter (fun a => !isDir a) = l := List.filter_eq_self.2 (fun a ha => by rw [HN.out a ha]; rfl)
    rw [hfl]
    exact ⟨_, rfl, by rw [← HV.out]; exact Kd.R_below HR.out B1.out, Fr.of_below B1.out _, by rw [HV.out]; rfl⟩
  · have HBE := hid hbef
    have HAT := hid (hat hk0)
    clear hbef hat
    have hk0z : ((k0 : Int) == -1) = false := by simp
    clear IX
    obtain ⟨g, hA, hgl, how, _, _⟩ := act_at HR.out HV.out (by omega)
    subst hA
    have HOW := hid how
    have HR1 := hid (show Kd.R kAc 89 w1 0 (fun _ => True) (.slice (some ⟨g, 0, none⟩) l.length c) l by rw [← HV.out]; exact Kd.R_below HR.out B1.out)
    have HG1 := hid (show Fr [g] w w1 from Fr.of_below B1.out _)
    have HF0 := hid (show l.take k0 = (l.take (k0 + 1)).filter (fun a => !isDir a) by
      rw [List.take_succ_eq_append_getElem hk0, List.filter_append, List.filter_eq_self.2 (fun a ha => by rw [HBE.out a ha]; rfl)]
      simp [HAT.out])
    have HSG := hid (show Says 68 #[] isDir w [g] l by have := HS.out; rw [HOW.out] at this; exact this)
    clear HR HI HS how hgl HBE HAT B1
    have hk1 : (k0 : Int) + 1 ≤ 9223372036854775807 := by omega
    have hzk : wrap64 ((k0 : Int) + 1) = ((k0 + 1 : Nat) : Int) := by unfold wrap64; omega
    have hzk2 : IntKind.i64.wrap ((k0 : Int) + 1) = ((k0 + 1 : Nat) : Int) := by rw [IntKind.wrap_i64]; omega
    go_wp2
    go_loopg [5, 6, 7] l.length (fun gg s5 s6 _ wr => ∃ (k j : Nat) (l2 : List Ac), k < j ∧ j ≤ l.length ∧ l.length - j ≤ gg ∧ s5 = .int .i64 k ∧ s6 = .int .i64 j ∧ Hid (Kd.R kAc 89 wr 0 (fun _ => True) (.slice (some ⟨g, 0, none⟩) l.length c) l2) ∧ Hid (l2.length = l.length) ∧ Hid (l2.take k = (l.take j).filter (fun a => !isDir a)) ∧ Hid (l2.drop j = l.drop j) ∧ Hid (Fr [g] w wr))
    case atStart => exact ⟨k0, k0 + 1, l, by omega, by omega, by omega, rfl, by go_num, HR1, hid rfl, HF0, hid rfl, HG1⟩
    case round =>
      clear HR1 HG1 HF0
      obtain ⟨k, j, l2, hkj, hjl, hg, rfl, rfl, HR, HL, HT, HD, HG⟩ := hrel
      by_cases hlt : j < l.length
      · have hltz : (j : Int) < (l.length : Int) := by omega
        obtain ⟨g2, hA, hgl, how2, hfz, hcell⟩ := act_at HR.out (by rw [HL.out]) (by have := HL.out; omega)
        obtain rfl : g = g2 := by injection hA with hA; injection hA
        obtain ⟨c0, c1, c2⟩ := hcell j (by have := HL.out; omega)
        rw [elem_same hlt HL.out HD.out] at c0 c1 c2
        have HC0 := hid (fun (W : World) (hW : Fr [g] wr W) => HSG.out W l[j] (List.getElem_mem hlt) (HG.out.trans hW (fun _ hk => .inl hk)))
        clear hcell hA how2
        cases hp : isDir l[j] with
        | true =>
          rw [hp] at HC0
          have HST := hid (gone_step hlt HT.out HD.out hp)
          clear hp
          rcases ac_form l[j] with ⟨x, n, hf⟩ | ⟨h1, h2, _, _, gg2, cs, h4⟩
          · rw [hf] at c0 c1 c2 HC0
            have q0 : wr.cell? ⟨g, j * 3, none⟩ = some (P x) := c0
            have q1 : wr.cell? ⟨g, j * 3 + 1, none⟩ = some (.int .i64 n) := c1
            have q2 : wr.cell? ⟨g, j * 3 + 2, none⟩ = some .nilFunc := c2
            have HC := hid (show ∀ W, Fr [g] wr W → Calls Tryd.prog 68 #[.agg #[P x, .int .i64 n, .nilFunc]] W fun e w' => e = .returned (.bool true) ∧ Below W.heap.size W w' from HC0.out)
            clear c0 c1 c2 HC0 hf
            go_wp2_with (go_at_fn 68; refine (HC.out _ (Fr.alloc [g] wr _)).mono ?_; rintro e w2 ⟨rfl, hb⟩; have B2 := hid (alloc_below hb).1; clear hb)
            go_roundg (l.length - (j + 1))
            case measure => omega
            case rel => exact ⟨k, j + 1, l2, by omega, by omega, by omega, rfl, by go_num, hid (Kd.R_below HR.out B2.out), HL, hid HST.out.1, hid HST.out.2, hid (HG.out.trans (Fr.of_below B2.out [g]) (fun _ hk => .inl hk))⟩
          · rw [h1] at c0
            rw [h2] at c1
            rw [h4] at c2
            rw [h1, h2, h4] at HC0
            have HC := hid (show ∀ W, Fr [g] wr W → Calls Tryd.prog 68 #[.agg #[.pointer none, .int .i64 0, .func (.func gg2) #[] cs]] W fun e w' => e = .returned (.bool true) ∧ Below W.heap.size W w' from HC0.out)
            clear HC0 h1 h2 h4
            go_wp2_with (go_at_fn 68; refine (HC.out _ (Fr.alloc [g] wr _)).mono ?_; rintro e w2 ⟨rfl, hb⟩; have B2 := hid (alloc_below hb).1; clear hb)
            go_roundg (l.length - (j + 1))
            case measure => omega
            case rel => exact ⟨k, j + 1, l2, by omega, by omega, by omega, rfl, by go_num, hid (Kd.R_below HR.out B2.out), HL, hid HST.out.1, hid HST.out.2, hid (HG.out.trans (Fr.of_below B2.out [g]) (fun _ hk => .inl hk))⟩
        | false =>
          rw [hp] at HC0
          have HST := hid (kept_step hkj hlt HL.out HT.out HD.out hp)
          clear hp
          have hkz : (k : Int) < (l.length : Int) := by omega
          have HCELL := hid (fun (W : World) (hW : Below wr.heap.size wr W) => (act_at (Kd.R_below HR.out hW) (by rw [HL.out]) (by have := HL.out; omega)))
          have HLAY := hid (fun (W : World) (hW : Below wr.heap.size wr W) => R_lay (Kd.R_below HR.out hW) l[j] (show k < l.length by omega))
          have hkl2 : k < l2.length := by have := HL.out; omega
          rcases ac_form l[j] with ⟨x, n, hf⟩ | ⟨h1, h2, _, _, gg2, cs, h4⟩
          · rw [hf] at c0 c1 c2 HC0
            have q0 : wr.cell? ⟨g, j * 3, none⟩ = some (P x) := c0
            have q1 : wr.cell? ⟨g, j * 3 + 1, none⟩ = some (.int .i64 n) := c1
            have q2 : wr.cell? ⟨g, j * 3 + 2, none⟩ = some .nilFunc := c2
            have HC := hid (show ∀ W, Fr [g] wr W → Calls Tryd.prog 68 #[.agg #[P x, .int .i64 n, .nilFunc]] W fun e w' => e = .returned (.bool false) ∧ Below W.heap.size W w' from HC0.out)
            have HL3 := hid (show ∀ W, Below wr.heap.size wr W → Kd.R kAc 89 (((W.setCell ⟨g, k * 3, none⟩ (P x)).setCell ⟨g, k * 3 + 1, none⟩ (.int .i64 n)).setCell ⟨g, k * 3 + 2, none⟩ .nilFunc) 0 (fun _ => True) (.slice (some ⟨g, 0, none⟩) l.length c) (l2.set k l[j]) from fun W hW => by have := HLAY.out W hW; rw [hf] at this ⊢; exact this)
            clear c0 c1 c2 HC0 HLAY hf
            go_wp2_with (go_at_fn 68; refine (HC.out _ (Fr.alloc [g] wr _)).mono ?_; rintro e w2 ⟨rfl, hb⟩; have B2 := hid (alloc_below hb).1; have x0 : w2.cell? ⟨wr.heap.size, 0, none⟩ = some (P x) := (cell_of (alloc_below hb).2 0).trans rfl; have x1 : w2.cell? ⟨wr.heap.size, 1, none⟩ = some (.int .i64 n) := (cell_of (alloc_below hb).2 1).trans rfl; have x2 : w2.cell? ⟨wr.heap.size, 2, none⟩ = some (.nilFunc) := (cell_of (alloc_below hb).2 2).trans rfl; obtain ⟨g3, hA3, _, _, hfz2, hce⟩ := HCELL.out w2 B2.out; obtain rfl : g = g3 := (by first | (cases hA3; done) | (cases hA3; rfl)); obtain ⟨y0, y1, y2⟩ := hce k hkl2; clear hb hA3 hce)
            go_roundg (l.length - (j + 1))
            case measure => omega
            case rel => exact ⟨k + 1, j + 1, l2.set k l[j], by omega, by omega, by omega, by go_num, by go_num, hid (HL3.out w2 B2.out), hid HST.out.1, hid HST.out.2.1, hid HST.out.2.2, hid ((HG.out.trans (Fr.of_below B2.out [g]) (fun _ hk => .inl hk)).trans (setCells_fr g [_, _, _] (k * 3) w2) (fun _ hk => .inl hk))⟩
          · rw [h1] at c0
            rw [h2] at c1
            rw [h4] at c2
            rw [h1, h2, h4] at HC0
            have HC := hid (show ∀ W, Fr [g] wr W → Calls Tryd.prog 68 #[.agg #[.pointer none, .int .i64 0, .func (.func gg2) #[] cs]] W fun e w' => e = .returned (.bool false) ∧ Below W.heap.size W w' from HC0.out)
            have HL3 := hid (show ∀ W, Below wr.heap.size wr W → Kd.R kAc 89 (((W.setCell ⟨g, k * 3, none⟩ (.pointer none)).setCell ⟨g, k * 3 + 1, none⟩ (.int .i64 0)).setCell ⟨g, k * 3 + 2, none⟩ (.func (.func gg2) #[] cs)) 0 (fun _ => True) (.slice (some ⟨g, 0, none⟩) l.length c) (l2.set k l[j]) from fun W hW => by have := HLAY.out W hW; rw [h1, h2, h4] at this; exact this)
            clear HC0 HLAY h1 h2 h4
            go_wp2_with (go_at_fn 68; refine (HC.out _ (Fr.alloc [g] wr _)).mono ?_; rintro e w2 ⟨rfl, hb⟩; have B2 := hid (alloc_below hb).1; have x0 : w2.cell? ⟨wr.heap.size, 0, none⟩ = some (.pointer none) := (cell_of (alloc_below hb).2 0).trans rfl; have x1 : w2.cell? ⟨wr.heap.size, 1, none⟩ = some (.int .i64 0) := (cell_of (alloc_below hb).2 1).trans rfl; have x2 : w2.cell? ⟨wr.heap.size, 2, none⟩ = some (.func (.func gg2) #[] cs) := (cell_of (alloc_below hb).2 2).trans rfl; obtain ⟨g3, hA3, _, _, hfz2, hce⟩ := HCELL.out w2 B2.out; obtain rfl : g = g3 := (by first | (cases hA3; done) | (cases hA3; rfl)); obtain ⟨y0, y1, y2⟩ := hce k hkl2; clear hb hA3 hce)
            go_roundg (l.length - (j + 1))
            case measure => omega
            case rel => exact ⟨k + 1, j + 1, l2.set k l[j], by omega, by omega, by omega, by go_num, by go_num, hid (HL3.out w2 B2.out), hid HST.out.1, hid HST.out.2.1, hid HST.out.2.2, hid ((HG.out.trans (Fr.of_below B2.out [g]) (fun _ hk => .inl hk)).trans (setCells_fr g [_, _, _] (k * 3) w2) (fun _ hk => .inl hk))⟩
      · have hltz : ¬ (j : Int) < (l.length : Int) := by omega
        go_upto_region 11 with fail
        have hkl : k < l.length := by omega
        have hnc := (Kd.R_reads' HR.out).2.1
        have HNN := hid (Kd.R_reads' HR.out).1
        obtain ⟨ji, hji, hjs⟩ := info_act
        have e1 := cut_from (P := Tryd.prog) 68 89 .i64 (Tryd.underlying68) hji 3 hjs (some ⟨g, 0, none⟩) l.length c (k : Int) (by omega) (by omega)
        have e2 := cut_to (P := Tryd.prog) 68 89 .i64 (Tryd.underlying68) hji (some ⟨g, 0, none⟩) l.length c (k : Int) (by omega) (by omega) hnc
        have e3 := clear_acts HR.out hkl
        have hadd : (⟨g, 0, none⟩ : Addr).add (k * 3) = ⟨g, k * 3, none⟩ := by
          unfold Addr.add
          split
          · rename_i hz; rw [hz]
          · simp
        rw [Int.toNat_natCast, if_neg (by omega)] at e1
        simp only [Option.map_some, hadd] at e1
        rw [Int.toNat_natCast] at e2
        have HP := hid (show Kd.R kAc 89 (wr.setCells g (k * 3) (Builtin.zeroCells #[.pointer none, .int .i64 0, .nilFunc] (l.length - k)).toList) 0 (fun _ => True) (.slice (some ⟨g, 0, none⟩) k c) (l2.take k) from R_past (Kd.R_take HR.out (by have := HNN.out; omega)) _ _ (Nat.le_refl _) (by rw [zero_len]; omega))
        have HG2 := hid (HG.out.trans (setCells_fr g (Builtin.zeroCells #[.pointer none, .int .i64 0, .nilFunc] (l.length - k)).toList (k * 3) wr) (fun _ hk => .inl hk))
        have HT2 := hid (show l2.take k = l.filter (fun a => !isDir a) by rw [HT.out, List.take_of_length_le (by omega)])
        generalize wr.setCells g (k * 3) (Builtin.zeroCells #[.pointer none, .int .i64 0, .nilFunc] (l.length - k)).toList = wz at e3 HP HG2
        go_wp2
        go_ret
        exact ⟨_, rfl, by rw [← HT2.out]; exact HP.out, by rw [HOW.out]; exact HG2.out, by rw [HOW.out]; rfl⟩
set_option maxHeartbeats 8000000 in
set_option maxRecDepth 100000 in
theorem del_of {w : World} {v : Value} {l : List Ac} (f bx : Nat) (A : Option Addr) (c : Nat) (hr : Kd.R kAc 89 w 0 (fun _ => True) v l) (hv : v = .slice A l.length c) (hs : Says 69 #[P bx] (isOf f) w v.ownBlock.toList l) :
    Calls Tryd.prog 67 #[.slice A l.length c, .func (.func 69) #[] #[P bx]] w fun e w' => ∃ v2, e = .returned v2 ∧ Kd.R kAc 89 w' 0 (fun _ => True) v2 (l.filter (fun a => !isOf f a)) ∧ Fr v.ownBlock.toList w w' ∧ v2.ownBlock = v.ownBlock := by
  have e33 : ∀ args w, (callFunc 69 args).run Tryd.prog w = .ok (.enter 69 args) w := enters_of Tryd.func69 (by kernel_rfl) rfl
  have HR := hid hr
  have HV := hid hv
  have HS := hid hs
  have hmx : l.length ≤ 9223372036854775807 := by rw [hv] at hr; exact Kd.C_max (Kd.R_reads' hr).2.2
  have HI := hid (idx_of f bx A c hr hv hs)
  clear hr hv hs
  go_enter Tryd.func67, Tryd.ntmps67
  go_upto_region 2 with (go_at_call 77; refine HI.out.mono ?_; rintro e w1 ⟨i, rfl, hix, hb⟩; have IX := hid hix; have B1 := hid hb; clear hix hb)
  rcases IX.out with ⟨rfl, hno⟩ | ⟨k0, rfl, hk0, hbef, hat⟩
  · have HN := hid hno
    clear hno
    go_wp2
    go_ret
    have hfl : l.filter (fun a => !isOf f a) = l := List.filter_eq_self.2 (fun a ha => by rw [HN.out a ha]; rfl)
    rw [hfl]
    exact ⟨_, rfl, by rw [← HV.out]; exact Kd.R_below HR.out B1.out, Fr.of_below B1.out _, by rw [HV.out]; rfl⟩
  · have HBE := hid hbef
    have HAT := hid (hat hk0)
    clear hbef hat
    have hk0z : ((k0 : Int) == -1) = false := by simp
    clear IX
    obtain ⟨g, hA, hgl, how, _, _⟩ := act_at HR.out HV.out (by omega)
    subst hA
    have HOW := hid how
    have HR1 := hid (show Kd.R kAc 89 w1 0 (fun _ => True) (.slice (some ⟨g, 0, none⟩) l.length c) l by rw [← HV.out]; exact Kd.R_below HR.out B1.out)
    have HG1 := hid (show Fr [g] w w1 from Fr.of_below B1.out _)
    have HF0 := hid (show l.take k0 = (l.take (k0 + 1)).filter (fun a => !isOf f a) by
      rw [List.take_succ_eq_append_getElem hk0, List.filter_append, List.filter_eq_self.2 (fun a ha => by rw [HBE.out a ha]; rfl)]
      simp [HAT.out])
    have HSG := hid (show Says 69 #[P bx] (isOf f) w [g] l by have := HS.out; rw [HOW.out] at this; exact this)
    clear HR HI HS how hgl HBE HAT B1
    have hk1 : (k0 : Int) + 1 ≤ 9223372036854775807 := by omega
    have hzk : wrap64 ((k0 : Int) + 1) = ((k0 + 1 : Nat) : Int) := by unfold wrap64; omega
    have hzk2 : IntKind.i64.wrap ((k0 : Int) + 1) = ((k0 + 1 : Nat) : Int) := by rw [IntKind.wrap_i64]; omega
    go_wp2
    go_loopg [5, 6, 7] l.length (fun gg s5 s6 _ wr => ∃ (k j : Nat) (l2 : List Ac), k < j ∧ j ≤ l.length ∧ l.length - j ≤ gg ∧ s5 = .int .i64 k ∧ s6 = .int .i64 j ∧ Hid (Kd.R kAc 89 wr 0 (fun _ => True) (.slice (some ⟨g, 0, none⟩) l.length c) l2) ∧ Hid (l2.length = l.length) ∧ Hid (l2.take k = (l.take j).filter (fun a => !isOf f a)) ∧ Hid (l2.drop j = l.drop j) ∧ Hid (Fr [g] w wr))
    case atStart => exact ⟨k0, k0 + 1, l, by omega, by omega, by omega, rfl, by go_num, HR1, hid rfl, HF0, hid rfl, HG1⟩
    case round =>
      clear HR1 HG1 HF0
      obtain ⟨k, j, l2, hkj, hjl, hg, rfl, rfl, HR, HL, HT, HD, HG⟩ := hrel
      by_cases hlt : j < l.length
      · have hltz : (j : Int) < (l.length : Int) := by omega
        obtain ⟨g2, hA, hgl, how2, hfz, hcell⟩ := act_at HR.out (by rw [HL.out]) (by have := HL.out; omega)
        obtain rfl : g = g2 := by injection hA with hA; injection hA
        obtain ⟨c0, c1, c2⟩ := hcell j (by have := HL.out; omega)
        rw [elem_same hlt HL.out HD.out] at c0 c1 c2
        have HC0 := hid (fun (W : World) (hW : Fr [g] wr W) => HSG.out W l[j] (List.getElem_mem hlt) (HG.out.trans hW (fun _ hk => .inl hk)))
        clear hcell hA how2
        cases hp : (isOf f) l[j] with
        | true =>
          rw [hp] at HC0
          have HST := hid (gone_step hlt HT.out HD.out hp)
          clear hp
          rcases ac_form l[j] with ⟨x, n, hf⟩ | ⟨h1, h2, _, _, gg2, cs, h4⟩
          · rw [hf] at c0 c1 c2 HC0
            have q0 : wr.cell? ⟨g, j * 3, none⟩ = some (P x) := c0
            have q1 : wr.cell? ⟨g, j * 3 + 1, none⟩ = some (.int .i64 n) := c1
            have q2 : wr.cell? ⟨g, j * 3 + 2, none⟩ = some .nilFunc := c2
            have HC := hid (show ∀ W, Fr [g] wr W → Calls Tryd.prog 69 #[.agg #[P x, .int .i64 n, .nilFunc], P bx] W fun e w' => e = .returned (.bool true) ∧ Below W.heap.size W w' from HC0.out)
            clear c0 c1 c2 HC0 hf
            go_wp2_with (go_at_fn 69; refine (HC.out _ (Fr.alloc [g] wr _)).mono ?_; rintro e w2 ⟨rfl, hb⟩; have B2 := hid (alloc_below hb).1; clear hb)
            go_roundg (l.length - (j + 1))
            case measure => omega
            case rel => exact ⟨k, j + 1, l2, by omega, by omega, by omega, rfl, by go_num, hid (Kd.R_below HR.out B2.out), HL, hid HST.out.1, hid HST.out.2, hid (HG.out.trans (Fr.of_below B2.out [g]) (fun _ hk => .inl hk))⟩
          · rw [h1] at c0
            rw [h2] at c1
            rw [h4] at c2
            rw [h1, h2, h4] at HC0
            have HC := hid (show ∀ W, Fr [g] wr W → Calls Tryd.prog 69 #[.agg #[.pointer none, .int .i64 0, .func (.func gg2) #[] cs], P bx] W fun e w' => e = .returned (.bool true) ∧ Below W.heap.size W w' from HC0.out)
            clear HC0 h1 h2 h4
            go_wp2_with (go_at_fn 69; refine (HC.out _ (Fr.alloc [g] wr _)).mono ?_; rintro e w2 ⟨rfl, hb⟩; have B2 := hid (alloc_below hb).1; clear hb)
            go_roundg (l.length - (j + 1))
            case measure => omega
            case rel => exact ⟨k, j + 1, l2, by omega, by omega, by omega, rfl, by go_num, hid (Kd.R_below HR.out B2.out), HL, hid HST.out.1, hid HST.out.2, hid (HG.out.trans (Fr.of_below B2.out [g]) (fun _ hk => .inl hk))⟩
        | false =>
          rw [hp] at HC0
          have HST := hid (kept_step hkj hlt HL.out HT.out HD.out hp)
          clear hp
          have hkz : (k : Int) < (l.length : Int) := by omega
          have HCELL := hid (fun (W : World) (hW : Below wr.heap.size wr W) => (act_at (Kd.R_below HR.out hW) (by rw [HL.out]) (by have := HL.out; omega)))
          have HLAY := hid (fun (W : World) (hW : Below wr.heap.size wr W) => R_lay (Kd.R_below HR.out hW) l[j] (show k < l.length by omega))
          have hkl2 : k < l2.length := by have := HL.out; omega
          rcases ac_form l[j] with ⟨x, n, hf⟩ | ⟨h1, h2, _, _, gg2, cs, h4⟩
          · rw [hf] at c0 c1 c2 HC0
            have q0 : wr.cell? ⟨g, j * 3, none⟩ = some (P x) := c0
            have q1 : wr.cell? ⟨g, j * 3 + 1, none⟩ = some (.int .i64 n) := c1
            have q2 : wr.cell? ⟨g, j * 3 + 2, none⟩ = some .nilFunc := c2
            have HC := hid (show ∀ W, Fr [g] wr W → Calls Tryd.prog 69 #[.agg #[P x, .int .i64 n, .nilFunc], P bx] W fun e w' => e = .returned (.bool false) ∧ Below W.heap.size W w' from HC0.out)
            have HL3 := hid (show ∀ W, Below wr.heap.size wr W → Kd.R kAc 89 (((W.setCell ⟨g, k * 3, none⟩ (P x)).setCell ⟨g, k * 3 + 1, none⟩ (.int .i64 n)).setCell ⟨g, k * 3 + 2, none⟩ .nilFunc) 0 (fun _ => True) (.slice (some ⟨g, 0, none⟩) l.length c) (l2.set k l[j]) from fun W hW => by have := HLAY.out W hW; rw [hf] at this ⊢; exact this)
            clear c0 c1 c2 HC0 HLAY hf
            go_wp2_with (go_at_fn 69; refine (HC.out _ (Fr.alloc [g] wr _)).mono ?_; rintro e w2 ⟨rfl, hb⟩; have B2 := hid (alloc_below hb).1; have x0 : w2.cell? ⟨wr.heap.size, 0, none⟩ = some (P x) := (cell_of (alloc_below hb).2 0).trans rfl; have x1 : w2.cell? ⟨wr.heap.size, 1, none⟩ = some (.int .i64 n) := (cell_of (alloc_below hb).2 1).trans rfl; have x2 : w2.cell? ⟨wr.heap.size, 2, none⟩ = some (.nilFunc) := (cell_of (alloc_below hb).2 2).trans rfl; obtain ⟨g3, hA3, _, _, hfz2, hce⟩ := HCELL.out w2 B2.out; obtain rfl : g = g3 := (by first | (cases hA3; done) | (cases hA3; rfl)); obtain ⟨y0, y1, y2⟩ := hce k hkl2; clear hb hA3 hce)
            go_roundg (l.length - (j + 1))
            case measure => omega
            case rel => exact ⟨k + 1, j + 1, l2.set k l[j], by omega, by omega, by omega, by go_num, by go_num, hid (HL3.out w2 B2.out), hid HST.out.1, hid HST.out.2.1, hid HST.out.2.2, hid ((HG.out.trans (Fr.of_below B2.out [g]) (fun _ hk => .inl hk)).trans (setCells_fr g [_, _, _] (k * 3) w2) (fun _ hk => .inl hk))⟩
          · rw [h1] at c0
            rw [h2] at c1
            rw [h4] at c2
            rw [h1, h2, h4] at HC0
            have HC := hid (show ∀ W, Fr [g] wr W → Calls Tryd.prog 69 #[.agg #[.pointer none, .int .i64 0, .func (.func gg2) #[] cs], P bx] W fun e w' => e = .returned (.bool false) ∧ Below W.heap.size W w' from HC0.out)
            have HL3 := hid (show ∀ W, Below wr.heap.size wr W → Kd.R kAc 89 (((W.setCell ⟨g, k * 3, none⟩ (.pointer none)).setCell ⟨g, k * 3 + 1, none⟩ (.int .i64 0)).setCell ⟨g, k * 3 + 2, none⟩ (.func (.func gg2) #[] cs)) 0 (fun _ => True) (.slice (some ⟨g, 0, none⟩) l.length c) (l2.set k l[j]) from fun W hW => by have := HLAY.out W hW; rw [h1, h2, h4] at this; exact this)
            clear HC0 HLAY h1 h2 h4
            go_wp2_with (go_at_fn 69; refine (HC.out _ (Fr.alloc [g] wr _)).mono ?_; rintro e w2 ⟨rfl, hb⟩; have B2 := hid (alloc_below hb).1; have x0 : w2.cell? ⟨wr.heap.size, 0, none⟩ = some (.pointer none) := (cell_of (alloc_below hb).2 0).trans rfl; have x1 : w2.cell? ⟨wr.heap.size, 1, none⟩ = some (.int .i64 0) := (cell_of (alloc_below hb).2 1).trans rfl; have x2 : w2.cell? ⟨wr.heap.size, 2, none⟩ = some (.func (.func gg2) #[] cs) := (cell_of (alloc_below hb).2 2).trans rfl; obtain ⟨g3, hA3, _, _, hfz2, hce⟩ := HCELL.out w2 B2.out; obtain rfl : g = g3 := (by first | (cases hA3; done) | (cases hA3; rfl)); obtain ⟨y0, y1, y2⟩ := hce k hkl2; clear hb hA3 hce)
            go_roundg (l.length - (j + 1))
            case measure => omega
            case rel => exact ⟨k + 1, j + 1, l2.set k l[j], by omega, by omega, by omega, by go_num, by go_num, hid (HL3.out w2 B2.out), hid HST.out.1, hid HST.out.2.1, hid HST.out.2.2, hid ((HG.out.trans (Fr.of_below B2.out [g]) (fun _ hk => .inl hk)).trans (setCells_fr g [_, _, _] (k * 3) w2) (fun _ hk => .inl hk))⟩
      · have hltz : ¬ (j : Int) < (l.length : Int) := by omega
        go_upto_region 11 with fail
        have hkl : k < l.length := by omega
        have hnc := (Kd.R_reads' HR.out).2.1
        have HNN := hid (Kd.R_reads' HR.out).1
        obtain ⟨ji, hji, hjs⟩ := info_act
        have e1 := cut_from (P := Tryd.prog) 68 89 .i64 (Tryd.underlying68) hji 3 hjs (some ⟨g, 0, none⟩) l.length c (k : Int) (by omega) (by omega)
        have e2 := cut_to (P := Tryd.prog) 68 89 .i64 (Tryd.underlying68) hji (some ⟨g, 0, none⟩) l.length c (k : Int) (by omega) (by omega) hnc
        have e3 := clear_acts HR.out hkl
        have hadd : (⟨g, 0, none⟩ : Addr).add (k * 3) = ⟨g, k * 3, none⟩ := by
          unfold Addr.add
          split
          · rename_i hz; rw [hz]
          · simp
        rw [Int.toNat_natCast, if_neg (by omega)] at e1
        simp only [Option.map_some, hadd] at e1
        rw [Int.toNat_natCast] at e2
        have HP := hid (show Kd.R kAc 89 (wr.setCells g (k * 3) (Builtin.zeroCells #[.pointer none, .int .i64 0, .nilFunc] (l.length - k)).toList) 0 (fun _ => True) (.slice (some ⟨g, 0, none⟩) k c) (l2.take k) from R_past (Kd.R_take HR.out (by have := HNN.out; omega)) _ _ (Nat.le_refl _) (by rw [zero_len]; omega))
        have HG2 := hid (HG.out.trans (setCells_fr g (Builtin.zeroCells #[.pointer none, .int .i64 0, .nilFunc] (l.length - k)).toList (k * 3) wr) (fun _ hk => .inl hk))
        have HT2 := hid (show l2.take k = l.filter (fun a => !isOf f a) by rw [HT.out, List.take_of_length_le (by omega)])
        generalize wr.setCells g (k * 3) (Builtin.zeroCells #[.pointer none, .int .i64 0, .nilFunc] (l.length - k)).toList = wz at e3 HP HG2
        go_wp2
        go_ret
        exact ⟨_, rfl, by rw [← HT2.out]; exact HP.out, by rw [HOW.out]; exact HG2.out, by rw [HOW.out]; rfl⟩
end Go.Proofs.YthlmbgaipbjbhaaDoor.L
