/- A directory cloned; Names. Which acts are struck: Sync's closure, SyncDir's. slices.IndexFunc, slices.DeleteFunc on acts. (Printed by gen_del.py.) -/
import Derived.Test.YthlmbgaipbjbhaaDoorIter
section
namespace Go.Proofs.YthlmbgaipbjbhaaDoor.L
open Go.RowKit Go.Lib Go.Maps
open Go.Proofs.YthlmbgaipbjbhaaDoorW.PrintWords Go.Proofs.YthlmbgaipbjbhaaDoorW.PrintLast Go.Proofs.YthlmbgaipbjbhaaDoorW.PrintMore
theorem dir_clone {w : World} {m n : Nat} {f : Names} (h : DirAt w m n f) :
    Calls Tryd.prog 38 #[.map (some m)] w fun e w' => e = .returned (.map (some w.heap.size)) ∧ DirAt w' w.heap.size n f ∧ Below w.heap.size w w' := by
  obtain ⟨E, hown, hf⟩ := h
  refine (AnyW.maps_Clone_owns Tryd.clone38 9 ptrElem m n E w hown).mono ?_
  rintro e w' ⟨he, h1, _, hb⟩
  exact ⟨he, ⟨E, h1, hf⟩, hb⟩
def namesOf (es : List (ByteArray × Nat)) : List (List UInt8) := (es.map fun p => p.1.data.toList).mergeSort (fun x y => decide (x ≤ y))
theorem strKeys_enc (es : List (ByteArray × Nat)) : strKeys (.map (es.map encE) : DataW Nat) = es.map fun p => p.1.data.toList := by
  simp [strKeys, encE, strOf, List.map_map, Function.comp_def]
set_option maxHeartbeats 4000000 in
set_option maxRecDepth 100000 in
theorem names_calls {w : World} {D : Dk} (h : DkAt w D) (es : List (ByteArray × Nat)) (hes : Lists D.dir es) (hlen : es.length ≤ 4294967296) :
    Calls Tryd.prog 20 #[P D.d] w fun e w' => ∃ v, e = .returned v ∧ Kd.R Kd.string 9 w' w.heap.size (fun _ => True) v ((namesOf es).map fun b => ⟨b.toArray⟩) ∧ Below w.heap.size w w' := by
  have c0 := h.c0
  obtain ⟨es', hes', hown, _⟩ := h.dirM.list
  have hp := hes.perm hes'
  have hz : Maps.size (.map (es'.map encE) : DataW Nat) = es.length := by simp [Maps.size, hp.length_eq]
  have HK := hid (fun (mb : Option Nat) (W : World) => callsIn_wide.1 (Tryd.maps_Keys_43 mb W))
  have HS := hid (callsIn_wide.1 (Tryd.slices_Sorted_keys_42_43 D.dm D.n (.map (es'.map encE)) ptrElem w hown (by rw [hz]; unfold maxLen; omega) (by rw [hz]; omega)))
  have HP := hid hp
  clear h hes hes' hown hp hz
  go_enter Tryd.func20, Tryd.ntmps20
  go_wp2_with (first
    | (go_at_call 43; refine (HK.out _ _).mono ?_; rintro e w_ ⟨rfl, hww⟩; have hww2 := hww.symm; subst hww2)
    | (go_at_call 42; refine HS.out.mono ?_; rintro e w2 ⟨v, ss, rfl, hss, hrow, hnil, hb⟩; have R2 := hid hrow; have S2 := hid hss; have B2 := hid hb; clear hss hrow hb hnil))
  go_ret
  refine ⟨v, rfl, ?_, ((Below.refl _ w).alloc (Nat.le_refl _) _).trans (B2.out.mono (by simp))⟩
  have hs := S2.out
  rw [strKeys_enc] at hs
  have hsort : ss.mergeSort (fun x y => decide (x ≤ y)) = namesOf es := by
    unfold namesOf
    exact mergeSort_of_perm (hs.trans ((HP.out.map _).symm))
  have hr := R2.out
  rw [hsort] at hr
  have hl : ((namesOf es).map fun b => (⟨b.toArray⟩ : ByteArray)).length = ss.length := by rw [List.length_map, ← hsort, List.length_mergeSort]
  refine Kd.R_of_own (h1 := fun _ => rfl) ?_ (fun _ _ => trivial)
  rw [hl]
  have he : Go.Proofs.YthlmbgaipbjbhaaDoorW.PrintWords.encs Value.string ((namesOf es).map fun b => (⟨b.toArray⟩ : ByteArray)) = (namesOf es).map encStr := by simp [Go.Proofs.YthlmbgaipbjbhaaDoorW.PrintWords.encs, encStr]
  rw [he]
  exact own_weaken hr (by simp)
end Go.Proofs.YthlmbgaipbjbhaaDoor.L
end
section
namespace Go.Proofs.YthlmbgaipbjbhaaDoor.L
open Go.RowKit Go.Lib Go.Maps
open Go.Proofs.YthlmbgaipbjbhaaDoorW.PrintWords Go.Proofs.YthlmbgaipbjbhaaDoorW.PrintLast Go.Proofs.YthlmbgaipbjbhaaDoorW.PrintMore
theorem uP : Tryd.prog.underlying 86 = some (.pointer 92) := by kernel_rfl
theorem iP : ∃ j, Tryd.prog.info? 92 = some j ∧ j.size ≠ 0 := by
  have h : (Tryd.prog.info? 92).map (·.size) = some 2 := by kernel_rfl
  obtain ⟨j, hj, hs⟩ := Option.map_eq_some_iff.1 h
  exact ⟨j, hj, by omega⟩
theorem eq_same (w : World) (a : Addr) : (binOp .eql 86 (.pointer (some a)) (.pointer (some a))).run Tryd.prog w = .ok (.bool true) w := by
  obtain ⟨j, hj, hs⟩ := iP
  have h : ∀ d : Nat, (Op.equalIn (d + 1) 86 (.pointer (some a)) (.pointer (some a))).run Tryd.prog w = .ok true w := fun d => by
    simp [Op.equalIn, run_underlying uP, sizeOf, typeInfo, hj, run_sameAddr_same]
  simp only [binOp]
  simp [Op.equal, Op.maxDepth, h 9999]
theorem eq_other (w : World) {a b : Addr} {ca cb : Array Value} {ta tb : TypeId} (hne : a ≠ b) (ha : w.heap[a.block]? = some (.cells ca ta (0, 0))) (hb : w.heap[b.block]? = some (.cells cb tb (0, 0))) :
    (binOp .eql 86 (.pointer (some a)) (.pointer (some b))).run Tryd.prog w = .ok (.bool false) w := by
  obtain ⟨j, hj, hs⟩ := iP
  have h : ∀ d : Nat, (Op.equalIn (d + 1) 86 (.pointer (some a)) (.pointer (some b))).run Tryd.prog w = .ok false w := fun d => by
    simp [Op.equalIn, run_underlying uP, sizeOf, typeInfo, hj, hs, run_sameAddr_other w hne ha hb]
  simp only [binOp]
  simp [Op.equal, Op.maxDepth, h 9999]
theorem fn_nil (w : World) : (binOp .neq 87 .nilFunc .nilFunc).run Tryd.prog w = .ok (.bool false) w := by
  have h : ∀ d : Nat, (Op.equalIn (d + 1) 87 .nilFunc .nilFunc).run Tryd.prog w = .ok true w := fun d => by
    simp [Op.equalIn, run_underlying Tryd.underlying87]
  simp only [binOp]
  simp [Op.equal, Op.maxDepth, h 9999]
theorem fn_some (w : World) (g : Nat) (cs : Array Value) : (binOp .neq 87 (.func (.func g) #[] cs) .nilFunc).run Tryd.prog w = .ok (.bool true) w := by
  have h : ∀ d : Nat, (Op.equalIn (d + 1) 87 (.func (.func g) #[] cs) .nilFunc).run Tryd.prog w = .ok false w := fun d => by
    simp [Op.equalIn, run_underlying Tryd.underlying87]
  simp only [binOp]
  simp [Op.equal, Op.maxDepth, h 9999]
theorem eq_nil (w : World) (a : Addr) : (binOp .eql 86 (.pointer none) (.pointer (some a))).run Tryd.prog w = .ok (.bool false) w := by
  have h : ∀ d : Nat, (Op.equalIn (d + 1) 86 (.pointer none) (.pointer (some a))).run Tryd.prog w = .ok false w := fun d => by
    simp [Op.equalIn, run_underlying uP]
  simp only [binOp]
  simp [Op.equal, Op.maxDepth, h 9999]
def isDir : Ac → Bool
  | .grow _ _ => false
  | _ => true
def isOf (f : Nat) : Ac → Bool
  | .grow g _ => decide (g = f)
  | _ => false
set_option maxRecDepth 100000 in
theorem dir_grow (w : World) (po : Option Addr) (n : Int) :
    Calls Tryd.prog 68 #[.agg #[.pointer po, .int .i64 n, .nilFunc]] w fun e w' => e = .returned (.bool false) ∧ Below w.heap.size w w' := by
  have hb := hid (fun o => (Below.refl _ w).alloc (Nat.le_refl _) o)
  have hq1 := fn_nil
  have hq2 := fn_some
  go_enter Tryd.func68, Tryd.ntmps68
  go_wp2
  go_ret
  exact ⟨rfl, hb.out _⟩
set_option maxRecDepth 100000 in
theorem dir_act (w : World) (po : Option Addr) (n : Int) (g : Nat) (cs : Array Value) :
    Calls Tryd.prog 68 #[.agg #[.pointer po, .int .i64 n, .func (.func g) #[] cs]] w fun e w' => e = .returned (.bool true) ∧ Below w.heap.size w w' := by
  have hb := hid (fun o => (Below.refl _ w).alloc (Nat.le_refl _) o)
  have hq1 := fn_nil
  have hq2 := fn_some
  go_enter Tryd.func68, Tryd.ntmps68
  go_wp2
  go_ret
  exact ⟨rfl, hb.out _⟩
set_option maxRecDepth 100000 in
theorem of_grow (w : World) (g f bx : Nat) (n : Int) (hbx : w.heap[bx]? = some (.cells #[P f] 86 (0, 0))) (hg : ∃ c t, w.heap[g]? = some (.cells c t (0, 0))) (hf : ∃ c t, w.heap[f]? = some (.cells c t (0, 0))) :
    Calls Tryd.prog 69 #[.agg #[P g, .int .i64 n, .nilFunc], P bx] w fun e w' => e = .returned (.bool (decide (g = f))) ∧ Below w.heap.size w w' := by
  have hb := hid (fun o => (Below.refl _ w).alloc (Nat.le_refl _) o)
  have k1 : ∀ o, (w.alloc o).cell? ⟨bx, 0, none⟩ = some (P f) := fun o => (cell_of ((Below.heap_alloc w o bx (lt_of hbx)).trans hbx) 0).trans rfl
  by_cases e : g = f
  · subst e
    rw [decide_eq_true rfl]
    have hq : ∀ W, (binOp .eql 86 (P g) (P g)).run Tryd.prog W = .ok (.bool true) W := fun W => eq_same W _
    go_enter Tryd.func69, Tryd.ntmps69
    go_wp2
    go_ret
    exact ⟨rfl, hb.out _⟩
  · rw [decide_eq_false e]
    obtain ⟨c1, t1, h1⟩ := hg
    obtain ⟨c2, t2, h2⟩ := hf
    have hq : ∀ o, (binOp .eql 86 (P g) (P f)).run Tryd.prog (w.alloc o) = .ok (.bool false) (w.alloc o) := fun o => eq_other (w.alloc o) (fun h => e (by injection h)) ((Below.heap_alloc w o g (lt_of h1)).trans h1) ((Below.heap_alloc w o f (lt_of h2)).trans h2)
    go_enter Tryd.func69, Tryd.ntmps69
    go_wp2
    go_ret
    exact ⟨rfl, hb.out _⟩
set_option maxRecDepth 100000 in
theorem of_act (w : World) (f bx : Nat) (n : Int) (g : Nat) (cs : Array Value) (hbx : w.heap[bx]? = some (.cells #[P f] 86 (0, 0))) :
    Calls Tryd.prog 69 #[.agg #[.pointer none, .int .i64 n, .func (.func g) #[] cs], P bx] w fun e w' => e = .returned (.bool false) ∧ Below w.heap.size w w' := by
  have hb := hid (fun o => (Below.refl _ w).alloc (Nat.le_refl _) o)
  have k1 : ∀ o, (w.alloc o).cell? ⟨bx, 0, none⟩ = some (P f) := fun o => (cell_of ((Below.heap_alloc w o bx (lt_of hbx)).trans hbx) 0).trans rfl
  have hq1 := eq_nil
  go_enter Tryd.func69, Tryd.ntmps69
  go_wp2
  go_ret
  exact ⟨rfl, hb.out _⟩
theorem ac_form (a : Ac) : (∃ g n, a = .grow g n) ∨ (acF a = .pointer none ∧ acN a = 0 ∧ isDir a = true ∧ (∀ f, isOf f a = false) ∧ ∃ g cs, acDo a = .func (.func g) #[] cs) := by
  cases a with
  | grow g n => exact .inl ⟨g, n, rfl⟩
  | make s f b1 b2 => exact .inr ⟨rfl, rfl, rfl, fun _ => rfl, _, _, rfl⟩
  | move s t b1 b2 => exact .inr ⟨rfl, rfl, rfl, fun _ => rfl, _, _, rfl⟩
  | gone s b1 => exact .inr ⟨rfl, rfl, rfl, fun _ => rfl, _, _, rfl⟩
def Says (g : Nat) (caps : Array Value) (p : Ac → Bool) (w : World) (row : List Nat) (l : List Ac) : Prop :=
  ∀ (W : World) (a : Ac), a ∈ l → Fr row w W → Calls Tryd.prog g (#[.agg #[acF a, .int .i64 (acN a), acDo a]] ++ caps) W fun e w' => e = .returned (.bool (p a)) ∧ Below W.heap.size W w'
theorem says_dir (w : World) (row : List Nat) (l : List Ac) : Says 68 #[] isDir w row l := by
  intro W a _ _
  rcases ac_form a with ⟨g, n, rfl⟩ | ⟨h1, h2, h3, _, g, cs, h4⟩
  · exact dir_grow W _ _
  · rw [h1, h2, h3, h4]; exact dir_act W _ _ g cs
theorem says_of (w : World) (row : List Nat) (l : List Ac) (f bx : Nat) (hbx : w.heap[bx]? = some (.cells #[P f] 86 (0, 0))) (hbr : bx ∉ row) (hf : ∃ c t, w.heap[f]? = some (.cells c t (0, 0))) (hfr : f ∉ row) (hl : ∀ g n, Ac.grow g n ∈ l → g ∉ row ∧ ∃ c t, w.heap[g]? = some (.cells c t (0, 0))) :
    Says 69 #[P bx] (isOf f) w row l := by
  intro W a ha hW
  have hb := (hW.keep bx (lt_of hbx) hbr).trans hbx
  obtain ⟨cf, tf, hff⟩ := hf
  have hf' := (hW.keep f (lt_of hff) hfr).trans hff
  rcases ac_form a with ⟨g, n, rfl⟩ | ⟨h1, h2, _, h3, g, cs, h4⟩
  · obtain ⟨hg1, cg, tg, hg2⟩ := hl g n ha
    exact of_grow W g f bx _ hb ⟨cg, tg, (hW.keep g (lt_of hg2) hg1).trans hg2⟩ ⟨cf, tf, hf'⟩
  · rw [h1, h2, h3, h4]; exact of_act W f bx _ g cs hb
theorem act_at {w : World} {v : Value} {l : List Ac} {base : Nat} {ok : Nat → Prop} {A : Option Addr} {c : Nat} (h : Kd.R kAc 89 w base ok v l) (e : v = .slice A l.length c) (hi : 0 < l.length) :
    ∃ g, A = some ⟨g, 0, none⟩ ∧ g < w.heap.size ∧ v.ownBlock = some g ∧ (∀ i, w.frozen? ⟨g, i, none⟩ = false) ∧ ∀ j (hj : j < l.length), w.cell? ⟨g, j * 3, none⟩ = some (acF l[j]) ∧ w.cell? ⟨g, j * 3 + 1, none⟩ = some (.int .i64 (acN l[j])) ∧ w.cell? ⟨g, j * 3 + 2, none⟩ = some (acDo l[j]) := by
  obtain ⟨g, cap, e2, _, hlt, cells, hcl⟩ := Kd.R_form h hi
  have e3 : (Value.slice A l.length c) = .slice (some ⟨g, 0, none⟩) l.length cap := e.symm.trans e2
  injection e3 with e4 _ _
  refine ⟨g, e4, hlt, by rw [e2]; rfl, fun i => free_of hcl i, fun j hj => ?_⟩
  rw [e2] at h
  obtain ⟨ad, hA, hcell⟩ := (Kd.R_reads' h).2.2.2.2 (by omega)
  obtain rfl : ad = ⟨g, 0, none⟩ := by injection hA with hA; exact hA.symm
  obtain ⟨cs, _, hK, hc⟩ := hcell j l[j] (List.getElem?_eq_getElem hj)
  have hK2 : cs = acCells l[j] := hK
  subst hK2
  have h0 := hc 0 _ rfl
  have h1 := hc 1 _ rfl
  have h2 := hc 2 _ rfl
  have ea : ∀ n : Nat, (⟨g, 0, none⟩ : Addr).add n = ⟨g, n, none⟩ := fun n => by
    unfold Addr.add
    split
    · rename_i hz; rw [hz]
    · simp
  rw [ea] at h0 h1 h2
  exact ⟨h0, h1, h2⟩
end Go.Proofs.YthlmbgaipbjbhaaDoor.L
end
section
namespace Go.Proofs.YthlmbgaipbjbhaaDoor.L
open Go.RowKit Go.Lib Go.Maps
open Go.Proofs.YthlmbgaipbjbhaaDoorW.PrintWords Go.Proofs.YthlmbgaipbjbhaaDoorW.PrintLast Go.Proofs.YthlmbgaipbjbhaaDoorW.PrintMore
def IdxIs (p : Ac → Bool) (l : List Ac) (i : Int) : Prop := (i = -1 ∧ ∀ a ∈ l, p a = false) ∨ (∃ k : Nat, i = k ∧ k < l.length ∧ (∀ a ∈ l.take k, p a = false) ∧ ∀ (h : k < l.length), p l[k] = true)
theorem take_more {p : Ac → Bool} {l : List Ac} {k : Nat} (h : ∀ a ∈ l.take k, p a = false) (hk : k < l.length) (hp : p l[k] = false) : ∀ a ∈ l.take (k + 1), p a = false := by
  intro a ha
  rw [List.take_succ_eq_append_getElem hk] at ha
  rcases List.mem_append.1 ha with ha | ha
  · exact h a ha
  · rw [List.mem_singleton.1 ha]; exact hp
set_option maxHeartbeats 4000000 in
set_option maxRecDepth 100000 in
theorem idx_dir {w : World} {v : Value} {l : List Ac} (A : Option Addr) (c : Nat) (hr : Kd.R kAc 89 w 0 (fun _ => True) v l) (hv : v = .slice A l.length c) (hs : Says 68 #[] isDir w v.ownBlock.toList l) :
    Calls Tryd.prog 77 #[.slice A l.length c, .func (.func 68) #[] #[]] w fun e w' => ∃ i : Int, e = .returned (.int .i64 i) ∧ IdxIs (isDir) l i ∧ Below w.heap.size w w' := by
  have e33 : ∀ args w, (callFunc 68 args).run Tryd.prog w = .ok (.enter 68 args) w := enters_of Tryd.func68 (by kernel_rfl) rfl
  have HR := hid hr
  have HV := hid hv
  have HS := hid hs
  have HB0 := hid (Below.refl w.heap.size w)
  have hmx : l.length ≤ 9223372036854775807 := by rw [hv] at hr; exact Kd.C_max (Kd.R_reads' hr).2.2
  clear hr hv hs
  go_enter Tryd.func77, Tryd.ntmps77
  go_wp2
  go_loopg [5, 8] l.length (fun gg _ s8 wr => ∃ kk : Nat, kk ≤ l.length ∧ l.length - kk ≤ gg ∧ s8 = .int .i64 kk ∧ Hid (Below w.heap.size w wr) ∧ Hid (∀ a ∈ l.take kk, (isDir) a = false))
  case atStart => exact ⟨0, Nat.zero_le _, by omega, rfl, HB0, hid (fun a ha => by simp at ha)⟩
  case round =>
    clear HB0
    obtain ⟨kk, hkk, hg, rfl, HB, HN⟩ := hrel
    by_cases hlt : kk < l.length
    · have hltz : (kk : Int) < (l.length : Int) := by omega
      obtain ⟨g, hA, hgl, _, _, hcell⟩ := act_at (Kd.R_step HR.out (fun k _ hk => HB.out.block k hk) : Kd.R kAc 89 wr 0 (fun _ => True) v l) HV.out (by omega)
      obtain ⟨k0, k1, k2⟩ := hcell kk hlt
      have hcall := HS.out wr l[kk] (List.getElem_mem hlt) (Fr.of_below HB.out _)
      clear hcell
      subst hA
      cases hp : (isDir) l[kk] with
      | true =>
        rw [hp] at hcall
        have HRES := hid (show IdxIs (isDir) l (kk : Int) from .inr ⟨kk, rfl, hlt, HN.out, fun _ => hp⟩)
        clear hp
        rcases ac_form l[kk] with ⟨x, n, hf⟩ | ⟨h1, h2, _, _, gg2, cs, h4⟩
        · rw [hf] at k0 k1 k2 hcall
          have q0 : wr.cell? ⟨g, kk * 3, none⟩ = some (P x) := k0
          have q1 : wr.cell? ⟨g, kk * 3 + 1, none⟩ = some (.int .i64 n) := k1
          have q2 : wr.cell? ⟨g, kk * 3 + 2, none⟩ = some .nilFunc := k2
          have HC := hid (show Calls Tryd.prog 68 #[.agg #[P x, .int .i64 n, .nilFunc]] wr fun e w' => e = .returned (.bool true) ∧ Below wr.heap.size wr w' from hcall)
          clear k0 k1 k2 hcall hf
          go_wp2_with (go_at_fn 68; refine HC.out.mono ?_; rintro e w2 ⟨rfl, hb⟩; have B2 := hid (HB.out.trans (hb.mono HB.out.size)); clear hb)
          go_ret
          exact ⟨_, rfl, HRES.out, B2.out⟩
        · rw [h1] at k0
          rw [h2] at k1
          rw [h4] at k2
          rw [h1, h2, h4] at hcall
          have HC := hid (show Calls Tryd.prog 68 #[.agg #[.pointer none, .int .i64 0, .func (.func gg2) #[] cs]] wr fun e w' => e = .returned (.bool true) ∧ Below wr.heap.size wr w' from hcall)
          clear hcall h1 h2 h4
          go_wp2_with (go_at_fn 68; refine HC.out.mono ?_; rintro e w2 ⟨rfl, hb⟩; have B2 := hid (HB.out.trans (hb.mono HB.out.size)); clear hb)
          go_ret
          exact ⟨_, rfl, HRES.out, B2.out⟩
      | false =>
        rw [hp] at hcall
        have HN2 := hid (take_more HN.out hlt hp)
        clear hp
        rcases ac_form l[kk] with ⟨x, n, hf⟩ | ⟨h1, h2, _, _, gg2, cs, h4⟩
        · rw [hf] at k0 k1 k2 hcall
          have q0 : wr.cell? ⟨g, kk * 3, none⟩ = some (P x) := k0
          have q1 : wr.cell? ⟨g, kk * 3 + 1, none⟩ = some (.int .i64 n) := k1
          have q2 : wr.cell? ⟨g, kk * 3 + 2, none⟩ = some .nilFunc := k2
          have HC := hid (show Calls Tryd.prog 68 #[.agg #[P x, .int .i64 n, .nilFunc]] wr fun e w' => e = .returned (.bool false) ∧ Below wr.heap.size wr w' from hcall)
          clear k0 k1 k2 hcall hf
          go_wp2_with (go_at_fn 68; refine HC.out.mono ?_; rintro e w2 ⟨rfl, hb⟩; have B2 := hid (HB.out.trans (hb.mono HB.out.size)); clear hb)
          go_roundg (l.length - (kk + 1))
          case measure => omega
          case rel => exact ⟨kk + 1, by omega, by omega, by go_num, B2, HN2⟩
        · rw [h1] at k0
          rw [h2] at k1
          rw [h4] at k2
          rw [h1, h2, h4] at hcall
          have HC := hid (show Calls Tryd.prog 68 #[.agg #[.pointer none, .int .i64 0, .func (.func gg2) #[] cs]] wr fun e w' => e = .returned (.bool false) ∧ Below wr.heap.size wr w' from hcall)
          clear hcall h1 h2 h4
          go_wp2_with (go_at_fn 68; refine HC.out.mono ?_; rintro e w2 ⟨rfl, hb⟩; have B2 := hid (HB.out.trans (hb.mono HB.out.size)); clear hb)
          go_roundg (l.length - (kk + 1))
          case measure => omega
          case rel => exact ⟨kk + 1, by omega, by omega, by go_num, B2, HN2⟩
    · have hltz : ¬ (kk : Int) < (l.length : Int) := by omega
      have HRES := hid (show IdxIs (isDir) l (-1) from .inl ⟨rfl, fun a ha => HN.out a (by rw [List.take_of_length_le (by omega)]; exact ha)⟩)
      go_wp2
      go_ret
      exact ⟨_, rfl, HRES.out, HB.out⟩
set_option maxHeartbeats 4000000 in
set_option maxRecDepth 100000 in
theorem idx_of {w : World} {v : Value} {l : List Ac} (f bx : Nat) (A : Option Addr) (c : Nat) (hr : Kd.R kAc 89 w 0 (fun _ => True) v l) (hv : v = .slice A l.length c) (hs : Says 69 #[P bx] (isOf f) w v.ownBlock.toList l) :
    Calls Tryd.prog 77 #[.slice A l.length c, .func (.func 69) #[] #[P bx]] w fun e w' => ∃ i : Int, e = .returned (.int .i64 i) ∧ IdxIs (isOf f) l i ∧ Below w.heap.size w w' := by
  have e33 : ∀ args w, (callFunc 69 args).run Tryd.prog w = .ok (.enter 69 args) w := enters_of Tryd.func69 (by kernel_rfl) rfl
  have HR := hid hr
  have HV := hid hv
  have HS := hid hs
  have HB0 := hid (Below.refl w.heap.size w)
  have hmx : l.length ≤ 9223372036854775807 := by rw [hv] at hr; exact Kd.C_max (Kd.R_reads' hr).2.2
  clear hr hv hs
  go_enter Tryd.func77, Tryd.ntmps77
  go_wp2
  go_loopg [5, 8] l.length (fun gg _ s8 wr => ∃ kk : Nat, kk ≤ l.length ∧ l.length - kk ≤ gg ∧ s8 = .int .i64 kk ∧ Hid (Below w.heap.size w wr) ∧ Hid (∀ a ∈ l.take kk, (isOf f) a = false))
  case atStart => exact ⟨0, Nat.zero_le _, by omega, rfl, HB0, hid (fun a ha => by simp at ha)⟩
  case round =>
    clear HB0
    obtain ⟨kk, hkk, hg, rfl, HB, HN⟩ := hrel
    by_cases hlt : kk < l.length
    · have hltz : (kk : Int) < (l.length : Int) := by omega
      obtain ⟨g, hA, hgl, _, _, hcell⟩ := act_at (Kd.R_step HR.out (fun k _ hk => HB.out.block k hk) : Kd.R kAc 89 wr 0 (fun _ => True) v l) HV.out (by omega)
      obtain ⟨k0, k1, k2⟩ := hcell kk hlt
      have hcall := HS.out wr l[kk] (List.getElem_mem hlt) (Fr.of_below HB.out _)
      clear hcell
      subst hA
      cases hp : (isOf f) l[kk] with
      | true =>
        rw [hp] at hcall
        have HRES := hid (show IdxIs (isOf f) l (kk : Int) from .inr ⟨kk, rfl, hlt, HN.out, fun _ => hp⟩)
        clear hp
        rcases ac_form l[kk] with ⟨x, n, hf⟩ | ⟨h1, h2, _, _, gg2, cs, h4⟩
        · rw [hf] at k0 k1 k2 hcall
          have q0 : wr.cell? ⟨g, kk * 3, none⟩ = some (P x) := k0
          have q1 : wr.cell? ⟨g, kk * 3 + 1, none⟩ = some (.int .i64 n) := k1
          have q2 : wr.cell? ⟨g, kk * 3 + 2, none⟩ = some .nilFunc := k2
          have HC := hid (show Calls Tryd.prog 69 #[.agg #[P x, .int .i64 n, .nilFunc], P bx] wr fun e w' => e = .returned (.bool true) ∧ Below wr.heap.size wr w' from hcall)
          clear k0 k1 k2 hcall hf
          go_wp2_with (go_at_fn 69; refine HC.out.mono ?_; rintro e w2 ⟨rfl, hb⟩; have B2 := hid (HB.out.trans (hb.mono HB.out.size)); clear hb)
          go_ret
          exact ⟨_, rfl, HRES.out, B2.out⟩
        · rw [h1] at k0
          rw [h2] at k1
          rw [h4] at k2
          rw [h1, h2, h4] at hcall
          have HC := hid (show Calls Tryd.prog 69 #[.agg #[.pointer none, .int .i64 0, .func (.func gg2) #[] cs], P bx] wr fun e w' => e = .returned (.bool true) ∧ Below wr.heap.size wr w' from hcall)
          clear hcall h1 h2 h4
          go_wp2_with (go_at_fn 69; refine HC.out.mono ?_; rintro e w2 ⟨rfl, hb⟩; have B2 := hid (HB.out.trans (hb.mono HB.out.size)); clear hb)
          go_ret
          exact ⟨_, rfl, HRES.out, B2.out⟩
      | false =>
        rw [hp] at hcall
        have HN2 := hid (take_more HN.out hlt hp)
        clear hp
        rcases ac_form l[kk] with ⟨x, n, hf⟩ | ⟨h1, h2, _, _, gg2, cs, h4⟩
        · rw [hf] at k0 k1 k2 hcall
          have q0 : wr.cell? ⟨g, kk * 3, none⟩ = some (P x) := k0
          have q1 : wr.cell? ⟨g, kk * 3 + 1, none⟩ = some (.int .i64 n) := k1
          have q2 : wr.cell? ⟨g, kk * 3 + 2, none⟩ = some .nilFunc := k2
          have HC := hid (show Calls Tryd.prog 69 #[.agg #[P x, .int .i64 n, .nilFunc], P bx] wr fun e w' => e = .returned (.bool false) ∧ Below wr.heap.size wr w' from hcall)
          clear k0 k1 k2 hcall hf
          go_wp2_with (go_at_fn 69; refine HC.out.mono ?_; rintro e w2 ⟨rfl, hb⟩; have B2 := hid (HB.out.trans (hb.mono HB.out.size)); clear hb)
          go_roundg (l.length - (kk + 1))
          case measure => omega
          case rel => exact ⟨kk + 1, by omega, by omega, by go_num, B2, HN2⟩
        · rw [h1] at k0
          rw [h2] at k1
          rw [h4] at k2
          rw [h1, h2, h4] at hcall
          have HC := hid (show Calls Tryd.prog 69 #[.agg #[.pointer none, .int .i64 0, .func (.func gg2) #[] cs], P bx] wr fun e w' => e = .returned (.bool false) ∧ Below wr.heap.size wr w' from hcall)
          clear hcall h1 h2 h4
          go_wp2_with (go_at_fn 69; refine HC.out.mono ?_; rintro e w2 ⟨rfl, hb⟩; have B2 := hid (HB.out.trans (hb.mono HB.out.size)); clear hb)
          go_roundg (l.length - (kk + 1))
          case measure => omega
          case rel => exact ⟨kk + 1, by omega, by omega, by go_num, B2, HN2⟩
    · have hltz : ¬ (kk : Int) < (l.length : Int) := by omega
      have HRES := hid (show IdxIs (isOf f) l (-1) from .inl ⟨rfl, fun a ha => HN.out a (by rw [List.take_of_length_le (by omega)]; exact ha)⟩)
      go_wp2
      go_ret
      exact ⟨_, rfl, HRES.out, HB.out⟩
end Go.Proofs.YthlmbgaipbjbhaaDoor.L
end
