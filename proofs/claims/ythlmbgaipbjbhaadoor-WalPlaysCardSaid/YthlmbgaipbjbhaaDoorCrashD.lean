/- Crash. (Printed by gen_crash.py.) -/
import Derived.Test.YthlmbgaipbjbhaaDoorCrashC
namespace Go.Proofs.YthlmbgaipbjbhaaDoor.L
open Go.RowKit Go.Lib Go.Maps Go.ChangeMaps
open Go.Proofs.YthlmbgaipbjbhaaDoorW.PrintWords Go.Proofs.YthlmbgaipbjbhaaDoorW.PrintLast Go.Proofs.YthlmbgaipbjbhaaDoorW.PrintMore
theorem entry_is {f : Names} {es : List (ByteArray × Nat)} (hes : Lists f es) {x : ByteArray} {c : Option Nat} {kl : Lit} {y : DataW Nat} {yp : List MemPlace} (hkey : keyOf Tryd.prog 9 (.string x) = some kl) (hv : ptrElem (ptrOf c) = some (y, yp)) (hat : ∀ zd, (DataW.map (es.map encE)).atKey kl zd = y) :
    ∃ b, c = some b ∧ (x, b) ∈ es ∧ x.size ≤ maxLen ∧ kl = .string x.data.toList := by
  have hsz : x.size ≤ maxLen ∧ kl = .string x.data.toList := by
    obtain ⟨z, hz, hz2, hz3⟩ := Maps.keyOf_str Tryd.underlying9 hkey
    simp only [encStr] at hz
    injection hz with hz
    subst hz
    exact ⟨by show z.toArray.size ≤ _; simpa using hz3, by rw [hz2]⟩
  obtain ⟨hh, hkl⟩ := hsz
  have hhas : Maps.has (.map (es.map encE)) kl = true := Maps.has_true_of_atKey hat
  rw [hkl, has_eq, List.any_eq_true] at hhas
  obtain ⟨q, hq, hqs⟩ := hhas
  obtain ⟨⟨s, b⟩, hp, rfl⟩ := List.mem_map.1 hq
  have he : s = x := by
    have h1 : (Lit.string s.data.toList).sameKey (.string x.data.toList) = true := hqs
    rw [same_key] at h1
    simpa using h1
  subst he
  have hy := hat .nil
  rw [hkl, atKey_list hes.nodup hp] at hy
  refine ⟨b, ?_, hp, hh, hkl⟩
  cases c with
  | none => simp [ptrElem, ptrOf] at hv; rw [← hv.1] at hy; cases hy
  | some b2 =>
    simp [ptrElem, ptrOf] at hv
    rw [← hv.1] at hy
    simp at hy
    rw [hy]
theorem has_of_mem {es : List (ByteArray × Nat)} {e : ByteArray × Nat} (he : e ∈ es) : Maps.has (.map (es.map encE)) (.string e.1.data.toList) = true := by
  rw [has_eq, List.any_eq_true]
  exact ⟨encE e, List.mem_map_of_mem he, sameKey_self _⟩
theorem cell_keep {w w' : World} {b : Nat} (h : w'.heap[b]? = w.heap[b]?) (i : Nat) : w'.cell? ⟨b, i, none⟩ = w.cell? ⟨b, i, none⟩ := by
  simp [World.cell?, h]
set_option maxHeartbeats 16000000 in
set_option maxRecDepth 100000 in
theorem crash_calls {w : World} {D : Dk} (h : DkAt w D) (keep torn : Int) (hn : D.n + D.loose.length < maxLen) (hmay : ∀ k (hk : k < D.loose.length), (k : Int) < keep → D.loose[k].may (dirU keep D.loose D.sure k))
    (hgb : ∀ k, k ≤ D.loose.length → ∀ f, 0 ≤ growU keep torn D.loose k f ∧ growU keep torn D.loose k f < 4611686018427387904) (hgr : ∀ g n, Ac.grow g n ∈ D.loose → ∃ x ∈ D.fs, x.blk = g) (hroom : 0 ≤ D.room) (hfil : ∀ s b, dirU keep D.loose D.sure D.loose.length s = some b → ∃ f ∈ D.fs, f.blk = b) (hcut : ∀ f ∈ D.fs, crashN keep torn D f ≤ f.b.length ∧ f.b.length ≤ 140737488355327) :
    Calls Tryd.prog 13 #[P D.d, .int .i64 keep, .int .i64 torn] w fun e w' => ∃ (k : Nat) (es : List (ByteArray × Nat)) (ps : List (ByteArray × Fl)) (m : Nat), e = .returned (P (k + 3)) ∧ w.heap.size ≤ k ∧ Lists (dirU keep D.loose D.sure D.loose.length) es ∧ (∀ p ∈ es, p.1 ∈ ps.map (·.1)) ∧ (∀ p ∈ ps, CpOf keep torn D p) ∧ (ps.map (·.1)).Nodup ∧ ps.length = es.length ∧ es.length ≤ D.n + D.loose.length ∧
      DkAt w' { xD k D.room ps with sm := m, sure := dirOf ps } ∧ Below w.heap.size w w' ∧ ∀ j ∈ ({ xD k D.room ps with sm := m, sure := dirOf ps } : Dk).own, w.heap.size ≤ j := by
  have HH := hid h
  have HN := hid hn
  have HMAY := hid hmay
  have HGB := hid hgb
  have HGR := hid hgr
  have HFIL := hid hfil
  have HCUT := hid hcut
  obtain ⟨A, c, hlv⟩ := R_slice h.row
  have HLV := hid hlv
  have hmx : D.loose.length ≤ 9223372036854775807 := by have := h.row; rw [hlv] at this; exact Kd.C_max (Kd.R_reads' this).2.2
  have hmm := @run_makeMap Tryd.prog
  have hdn := d_nil w ⟨D.d, 0, none⟩
  have HC1 := hid (fun (W : World) (hW : Fr [] w W) => (show W.cell? ⟨D.d, 1, none⟩ = some (.map (some D.sm)) from (h.new hW).c1))
  clear h hn hmay hgb hgr hlv hfil hcut
  go_enter Tryd.func13, Tryd.ntmps13
  go_upto_region 4 with fail
  obtain ⟨w0, hw0⟩ : ∃ x, x = (w.alloc (.map #[] 0)).alloc (.cells #[.map (some w.heap.size)] 84) := ⟨_, rfl⟩
  have B0 := hid (show Below w.heap.size w w0 by rw [hw0]; exact ((Below.refl _ w).alloc (Nat.le_refl _) _).alloc (by simp) _)
  have GM := hid (show GrowAt w0 w.heap.size (fun b => ∃ f ∈ D.fs, f.blk = b) (fun _ => 0) by rw [hw0]; exact (GrowAt.made w _).keep (Below.heap_alloc _ _ _ (by simp)))
  have SB := hid (show w0.heap[w.heap.size + 1]? = some (.cells #[.map (some w.heap.size)] 84 (0, 0)) by rw [hw0]; have := (MapKept.heap_alloc (w.alloc (.map #[] 0)) (.cells #[.map (some w.heap.size)] 84)).1; simpa using this)
  have SZ := hid (show w0.heap.size = w.heap.size + 2 by rw [hw0]; simp)
  rw [← hw0]
  clear hw0
  have c1 := HC1.out w0 (Fr.of_below B0.out [])
  have HCL := hid (dir_clone (HH.out.new (Fr.of_below B0.out [])).sureM)
  go_wp2_with (go_at_call 38; refine HCL.out.mono ?_; rintro e w1 ⟨rfl, hm1, hb1⟩; have R1 := hid (show Round w w1 D keep torn w.heap.size (w.heap.size + 1) w0.heap.size 0 from ⟨hm1, GM.out.keep (hb1.block _ (by have := SZ.out; omega)), (hb1.block _ (lt_of SB.out)).trans SB.out, B0.out.trans (hb1.mono B0.out.size)⟩); have c2 : w1.cell? ⟨D.d, 2, none⟩ = some (.slice A D.loose.length c) := (by have := (HH.out.new (Fr.of_below R1.out.below [])).c2; rw [HLV.out] at this; exact this); clear hm1 hb1)
  obtain ⟨mc, hmc⟩ : ∃ x, x = w0.heap.size := ⟨_, rfl⟩
  rw [← hmc] at R1 SZ ⊢
  clear hmc HCL c1 SB GM B0 HC1
  go_loopg [31] D.loose.length (fun gg s31 wr => ∃ kk : Nat, kk ≤ D.loose.length ∧ D.loose.length - kk ≤ gg ∧ s31 = .int .i64 kk ∧ Hid (Round w wr D keep torn w.heap.size (w.heap.size + 1) mc kk))
  case atStart => exact ⟨0, Nat.zero_le _, by omega, rfl, R1⟩
  case round =>
    clear R1 c2
    obtain ⟨kk, hkk, hg, rfl, HR⟩ := hrel
    by_cases hlt : kk < D.loose.length
    · have hltz : (kk : Int) < (D.loose.length : Int) := by omega
      have hkz : wrap64 ((kk : Int) + 1) = ((kk + 1 : Nat) : Int) := by unfold wrap64; omega
      have HDW := hid (HH.out.new (Fr.of_below HR.out.below []))
      obtain ⟨g, hA, hgl, _, _, hcell⟩ := act_at (R_true HDW.out.row) HLV.out (by omega)
      obtain ⟨c0, c1, c2⟩ := hcell kk hlt
      subst hA
      clear hcell
      have HNE := hid (show mc ≠ w.heap.size ∧ w.heap.size + 1 ≠ w.heap.size ∧ w.heap.size ≤ mc ∧ w.heap.size + 1 ≠ mc from by have := SZ.out; omega)
      have HNK := hid (show D.n + kk < maxLen from by have := HN.out; omega)
      have hq1 := fn_nil
      have hq2 := fn_some
      have hq3 := ne_nil
      have hq4 := nil_nil
      have HST := hid (growU_step (keep := keep) (torn := torn) hlt)
      have HSD := hid (dirU_step (keep := keep) (d0 := D.sure) hlt)
      have HMK := hid (HMAY.out kk hlt)
      have HGK := hid (HGB.out kk hkk)
      have HGK2 := hid (HGB.out (kk + 1) (by omega))
      have HIN := hid (show D.loose[kk] ∈ D.loose from List.getElem_mem hlt)
      rcases ac_kinds D.loose[kk] with ⟨f, n, hf⟩ | ⟨s, f, b1, b2, hf⟩ | ⟨s, t, b1, b2, hf⟩ | ⟨s, b1, hf⟩
      · rw [hf] at c0 c1 c2 HST HSD HMK HIN
        have q0 : wr.cell? ⟨g, kk * 3, none⟩ = some (P f) := c0
        have q1 : wr.cell? ⟨g, kk * 3 + 1, none⟩ = some (.int .i64 n) := c1
        have q2 : wr.cell? ⟨g, kk * 3 + 2, none⟩ = some (.nilFunc) := c2
        clear c0 c1 c2 hf
        go_upto_region 9 with fail
        obtain ⟨W1, hW1⟩ : ∃ x, x = wr.alloc (.cells #[P f, .int .i64 n, .nilFunc] 89) := ⟨_, rfl⟩
        have HR1 := hid (show Round w W1 D keep torn w.heap.size (w.heap.size + 1) mc kk by rw [hW1]; exact HR.out.new ((Below.refl _ wr).alloc (Nat.le_refl _) _))
        have hbox : W1.heap[wr.heap.size]? = some (.cells #[P f, .int .i64 n, .nilFunc] 89 (0, 0)) := by rw [hW1]; exact (MapKept.heap_alloc wr _).1
        rw [← hW1]
        clear hW1 q0 q1 q2 HR HDW
        have x0 : W1.cell? ⟨wr.heap.size, 0, none⟩ = some (P f) := (cell_of hbox 0).trans rfl
        have x1 : W1.cell? ⟨wr.heap.size, 1, none⟩ = some (.int .i64 n) := (cell_of hbox 1).trans rfl
        have x2 : W1.cell? ⟨wr.heap.size, 2, none⟩ = some (.nilFunc) := (cell_of hbox 2).trans rfl
        clear hbox
        have HSD2 := hid (show dirU keep D.loose D.sure (kk + 1) = dirU keep D.loose D.sure kk by rw [HSD.out]; split <;> rfl)
        have HFI := hid (HGR.out f n HIN.out)
        by_cases hik : (kk : Int) < keep
        · have HST2 := hid (show growU keep torn D.loose (kk + 1) = addG (growU keep torn D.loose kk) f n by rw [HST.out]; exact if_pos hik)
          have HC := hid (HR1.out.call HH.out HFI.out n n (by have := HGK2.out f; rw [HST2.out] at this; unfold addG at this; rw [if_pos rfl] at this; exact this.1) (by have := HGK2.out f; rw [HST2.out] at this; unfold addG at this; rw [if_pos rfl] at this; exact this.2))
          go_wp2_with (go_at_fn 39; refine test_stop ?_)
          refine hid ?_
          refine HC.out.mono ?_
          rintro e w2 ⟨rfl, hg2, hf2⟩
          have R2 := hid (show Round w w2 D keep torn w.heap.size (w.heap.size + 1) mc (kk + 1) from HR1.out.grown HSD2.out HST2.out hg2 hf2 (Nat.le_refl _) HNE.out.1 HNE.out.2.1)
          clear hg2 hf2
          go_wp2
          go_roundg (D.loose.length - (kk + 1))
          case measure => omega
          case rel => exact ⟨kk + 1, by omega, by omega, by go_num, R2⟩
        · by_cases hmk : max keep 0 = (kk : Int)
          · have HST2 := hid (show growU keep torn D.loose (kk + 1) = addG (growU keep torn D.loose kk) f (min n (max torn 0)) by rw [HST.out]; exact (if_neg hik).trans (if_pos hmk.symm))
            have HC := hid (HR1.out.call HH.out HFI.out n (min n (max torn 0)) (by have := HGK2.out f; rw [HST2.out] at this; unfold addG at this; rw [if_pos rfl] at this; exact this.1) (by have := HGK2.out f; rw [HST2.out] at this; unfold addG at this; rw [if_pos rfl] at this; exact this.2))
            go_wp2_with (go_at_fn 39; refine test_stop ?_)
            refine hid ?_
            refine HC.out.mono ?_
            rintro e w2 ⟨rfl, hg2, hf2⟩
            have R2 := hid (show Round w w2 D keep torn w.heap.size (w.heap.size + 1) mc (kk + 1) from HR1.out.grown HSD2.out HST2.out hg2 hf2 (Nat.le_refl _) HNE.out.1 HNE.out.2.1)
            clear hg2 hf2
            go_wp2
            go_roundg (D.loose.length - (kk + 1))
            case measure => omega
            case rel => exact ⟨kk + 1, by omega, by omega, by go_num, R2⟩
          · have R2 := hid (HR1.out.skip HSD2.out (by rw [HST.out]; exact (if_neg hik).trans (if_neg (fun e => hmk e.symm))))
            have hmk2 : ¬ (kk : Int) = max keep 0 := fun e => hmk e.symm
            go_wp2
            go_roundg (D.loose.length - (kk + 1))
            case measure => omega
            case rel => exact ⟨kk + 1, by omega, by omega, by go_num, R2⟩
      · rw [hf] at c0 c1 c2 HST HSD HMK HIN
        have q0 : wr.cell? ⟨g, kk * 3, none⟩ = some (.pointer none) := c0
        have q1 : wr.cell? ⟨g, kk * 3 + 1, none⟩ = some (.int .i64 0) := c1
        have q2 : wr.cell? ⟨g, kk * 3 + 2, none⟩ = some (.func (.func 66) #[] #[P b1, P b2]) := c2
        clear c0 c1 c2 hf
        go_upto_region 9 with fail
        obtain ⟨W1, hW1⟩ : ∃ x, x = wr.alloc (.cells #[.pointer none, .int .i64 0, .func (.func 66) #[] #[P b1, P b2]] 89) := ⟨_, rfl⟩
        have HR1 := hid (show Round w W1 D keep torn w.heap.size (w.heap.size + 1) mc kk by rw [hW1]; exact HR.out.new ((Below.refl _ wr).alloc (Nat.le_refl _) _))
        have hbox : W1.heap[wr.heap.size]? = some (.cells #[.pointer none, .int .i64 0, .func (.func 66) #[] #[P b1, P b2]] 89 (0, 0)) := by rw [hW1]; exact (MapKept.heap_alloc wr _).1
        rw [← hW1]
        clear hW1 q0 q1 q2 HR HDW
        have x0 : W1.cell? ⟨wr.heap.size, 0, none⟩ = some (.pointer none) := (cell_of hbox 0).trans rfl
        have x1 : W1.cell? ⟨wr.heap.size, 1, none⟩ = some (.int .i64 0) := (cell_of hbox 1).trans rfl
        have x2 : W1.cell? ⟨wr.heap.size, 2, none⟩ = some (.func (.func 66) #[] #[P b1, P b2]) := (cell_of hbox 2).trans rfl
        clear hbox
        have HST2 := hid (show growU keep torn D.loose (kk + 1) = growU keep torn D.loose kk by rw [HST.out]; rfl)
        by_cases hik : (kk : Int) < keep
        · have HSD2 := hid (HSD.out.trans (if_pos hik))
          have HC := hid (HR1.out.make HH.out HIN.out HNK.out)
          go_wp2_with (go_at_fn 66; refine test_stop ?_)
          refine hid ?_
          refine HC.out.mono ?_
          rintro e w2 ⟨rfl, hd2, hf2⟩
          have R2 := hid (show Round w w2 D keep torn w.heap.size (w.heap.size + 1) mc (kk + 1) from HR1.out.turned HSD2.out HST2.out hd2 hf2 HNE.out.2.2.1 (fun e => HNE.out.1 e.symm) HNE.out.2.2.2)
          clear hd2 hf2
          go_wp2
          go_roundg (D.loose.length - (kk + 1))
          case measure => omega
          case rel => exact ⟨kk + 1, by omega, by omega, by go_num, R2⟩
        · have R2 := hid (HR1.out.skip (HSD.out.trans (if_neg hik)) HST2.out)
          by_cases hmk : max keep 0 = (kk : Int)
          · go_wp2
            go_roundg (D.loose.length - (kk + 1))
            case measure => omega
            case rel => exact ⟨kk + 1, by omega, by omega, by go_num, R2⟩
          · have hmk2 : ¬ (kk : Int) = max keep 0 := fun e => hmk e.symm
            go_wp2
            go_roundg (D.loose.length - (kk + 1))
            case measure => omega
            case rel => exact ⟨kk + 1, by omega, by omega, by go_num, R2⟩
      · rw [hf] at c0 c1 c2 HST HSD HMK HIN
        have q0 : wr.cell? ⟨g, kk * 3, none⟩ = some (.pointer none) := c0
        have q1 : wr.cell? ⟨g, kk * 3 + 1, none⟩ = some (.int .i64 0) := c1
        have q2 : wr.cell? ⟨g, kk * 3 + 2, none⟩ = some (.func (.func 71) #[] #[P b1, P b2]) := c2
        clear c0 c1 c2 hf
        go_upto_region 9 with fail
        obtain ⟨W1, hW1⟩ : ∃ x, x = wr.alloc (.cells #[.pointer none, .int .i64 0, .func (.func 71) #[] #[P b1, P b2]] 89) := ⟨_, rfl⟩
        have HR1 := hid (show Round w W1 D keep torn w.heap.size (w.heap.size + 1) mc kk by rw [hW1]; exact HR.out.new ((Below.refl _ wr).alloc (Nat.le_refl _) _))
        have hbox : W1.heap[wr.heap.size]? = some (.cells #[.pointer none, .int .i64 0, .func (.func 71) #[] #[P b1, P b2]] 89 (0, 0)) := by rw [hW1]; exact (MapKept.heap_alloc wr _).1
        rw [← hW1]
        clear hW1 q0 q1 q2 HR HDW
        have x0 : W1.cell? ⟨wr.heap.size, 0, none⟩ = some (.pointer none) := (cell_of hbox 0).trans rfl
        have x1 : W1.cell? ⟨wr.heap.size, 1, none⟩ = some (.int .i64 0) := (cell_of hbox 1).trans rfl
        have x2 : W1.cell? ⟨wr.heap.size, 2, none⟩ = some (.func (.func 71) #[] #[P b1, P b2]) := (cell_of hbox 2).trans rfl
        clear hbox
        have HST2 := hid (show growU keep torn D.loose (kk + 1) = growU keep torn D.loose kk by rw [HST.out]; rfl)
        by_cases hik : (kk : Int) < keep
        · have HSD2 := hid (HSD.out.trans (if_pos hik))
          have HC := hid (HR1.out.move HH.out HIN.out HNK.out (HMK.out hik) HNE.out.2.2.1)
          go_wp2_with (go_at_fn 71; refine test_stop ?_)
          refine hid ?_
          refine HC.out.mono ?_
          rintro e w2 ⟨rfl, hd2, hf2⟩
          have R2 := hid (show Round w w2 D keep torn w.heap.size (w.heap.size + 1) mc (kk + 1) from HR1.out.turned HSD2.out HST2.out hd2 hf2 HNE.out.2.2.1 (fun e => HNE.out.1 e.symm) HNE.out.2.2.2)
          clear hd2 hf2
          go_wp2
          go_roundg (D.loose.length - (kk + 1))
          case measure => omega
          case rel => exact ⟨kk + 1, by omega, by omega, by go_num, R2⟩
        · have R2 := hid (HR1.out.skip (HSD.out.trans (if_neg hik)) HST2.out)
          by_cases hmk : max keep 0 = (kk : Int)
          · go_wp2
            go_roundg (D.loose.length - (kk + 1))
            case measure => omega
            case rel => exact ⟨kk + 1, by omega, by omega, by go_num, R2⟩
          · have hmk2 : ¬ (kk : Int) = max keep 0 := fun e => hmk e.symm
            go_wp2
            go_roundg (D.loose.length - (kk + 1))
            case measure => omega
            case rel => exact ⟨kk + 1, by omega, by omega, by go_num, R2⟩
      · rw [hf] at c0 c1 c2 HST HSD HMK HIN
        have q0 : wr.cell? ⟨g, kk * 3, none⟩ = some (.pointer none) := c0
        have q1 : wr.cell? ⟨g, kk * 3 + 1, none⟩ = some (.int .i64 0) := c1
        have q2 : wr.cell? ⟨g, kk * 3 + 2, none⟩ = some (.func (.func 70) #[] #[P b1]) := c2
        clear c0 c1 c2 hf
        go_upto_region 9 with fail
        obtain ⟨W1, hW1⟩ : ∃ x, x = wr.alloc (.cells #[.pointer none, .int .i64 0, .func (.func 70) #[] #[P b1]] 89) := ⟨_, rfl⟩
        have HR1 := hid (show Round w W1 D keep torn w.heap.size (w.heap.size + 1) mc kk by rw [hW1]; exact HR.out.new ((Below.refl _ wr).alloc (Nat.le_refl _) _))
        have hbox : W1.heap[wr.heap.size]? = some (.cells #[.pointer none, .int .i64 0, .func (.func 70) #[] #[P b1]] 89 (0, 0)) := by rw [hW1]; exact (MapKept.heap_alloc wr _).1
        rw [← hW1]
        clear hW1 q0 q1 q2 HR HDW
        have x0 : W1.cell? ⟨wr.heap.size, 0, none⟩ = some (.pointer none) := (cell_of hbox 0).trans rfl
        have x1 : W1.cell? ⟨wr.heap.size, 1, none⟩ = some (.int .i64 0) := (cell_of hbox 1).trans rfl
        have x2 : W1.cell? ⟨wr.heap.size, 2, none⟩ = some (.func (.func 70) #[] #[P b1]) := (cell_of hbox 2).trans rfl
        clear hbox
        have HST2 := hid (show growU keep torn D.loose (kk + 1) = growU keep torn D.loose kk by rw [HST.out]; rfl)
        by_cases hik : (kk : Int) < keep
        · have HSD2 := hid (HSD.out.trans (if_pos hik))
          have HC := hid (HR1.out.gone HH.out HIN.out)
          go_wp2_with (go_at_fn 70; refine test_stop ?_)
          refine hid ?_
          refine HC.out.mono ?_
          rintro e w2 ⟨rfl, hd2, hf2⟩
          have R2 := hid (show Round w w2 D keep torn w.heap.size (w.heap.size + 1) mc (kk + 1) from HR1.out.turned HSD2.out HST2.out hd2 hf2 HNE.out.2.2.1 (fun e => HNE.out.1 e.symm) HNE.out.2.2.2)
          clear hd2 hf2
          go_wp2
          go_roundg (D.loose.length - (kk + 1))
          case measure => omega
          case rel => exact ⟨kk + 1, by omega, by omega, by go_num, R2⟩
        · have R2 := hid (HR1.out.skip (HSD.out.trans (if_neg hik)) HST2.out)
          by_cases hmk : max keep 0 = (kk : Int)
          · go_wp2
            go_roundg (D.loose.length - (kk + 1))
            case measure => omega
            case rel => exact ⟨kk + 1, by omega, by omega, by go_num, R2⟩
          · have hmk2 : ¬ (kk : Int) = max keep 0 := fun e => hmk e.symm
            go_wp2
            go_roundg (D.loose.length - (kk + 1))
            case measure => omega
            case rel => exact ⟨kk + 1, by omega, by omega, by go_num, R2⟩
    · have hltz : ¬ (kk : Int) < (D.loose.length : Int) := by omega
      have hke : kk = D.loose.length := by omega
      subst hke
      have HGL := hid (fun f => HGB.out D.loose.length (Nat.le_refl _) f)
      clear hltz hlt hkk hg HMAY HGB HGR
      have HDW := hid (HH.out.new (Fr.of_below HR.out.below []))
      have c3 : wr.cell? ⟨D.d, 3, none⟩ = some (.int .i64 D.room) := HDW.out.c3
      have HNW := hid (new_calls D.room hroom wr)
      go_upto_region 17 with (go_at_call 9; refine HNW.out.mono ?_; rintro e w2 ⟨rfl, h2, b2⟩; have H2 := hid h2; have B2 := hid b2; clear h2 b2)
      have HR2 := hid (HR.out.new B2.out)
      obtain ⟨es, hes, hown, hel⟩ := HR2.out.dir.list
      have HES := hid hes
      have HO := hid hown
      have HEL := hid hel
      have HKS := hid (show w.heap.size ≤ wr.heap.size ∧ w.heap.size < wr.heap.size ∧ w.heap.size + 1 < wr.heap.size ∧ mc < wr.heap.size from ⟨HR.out.below.size, HR.out.grow.lt, lt_of HR.out.box, HR.out.dir.lt⟩)
      have HX := hid (H2.out.lt)
      clear hes hown hel HR HNW c3 HDW
      obtain ⟨k, hk⟩ : ∃ x, x = wr.heap.size := ⟨_, rfl⟩
      have B2k := hid (show k ≤ w2.heap.size by rw [hk]; exact B2.out.size)
      rw [← hk] at H2 HKS HX ⊢
      clear hk B2
      go_wp2_with (at_range; refine wpList_range_own _ rfl _ 66 rfl 9 86 law Tryd.underlying66 ptrElem mc (D.n + D.loose.length) (.map (es.map encE)) rfl HO.out ?_; intro w3 hrg0 hg0 hs0; have RG := hid hrg0; have B3 := hid (show Below w2.heap.size w2 w3 from ⟨hg0.os, hg0.tape, hg0.output, hg0.size, fun j hj => hg0.block j hj (by simp)⟩); have S3 := hid (show w2.heap.size < w3.heap.size by omega); clear hrg0 hg0 hs0)
      obtain ⟨r0, hr0⟩ : ∃ x, x = w2.heap.size := ⟨_, rfl⟩
      have CP := hid (show Copying w w3 D keep torn w.heap.size (w.heap.size + 1) k r0 es (Maps.has (.map (es.map encE))) [] from
        ⟨H2.out.new (Fr.of_below B3.out []), fun j hj => ⟨by
          simp only [xD, newD, Dk.own, List.mem_cons, Value.ownBlock] at hj
          simp at hj
          omega, by have := HX.out j hj; omega⟩, HR2.out.below.trans (B3.out.mono HR2.out.below.size), HR2.out.grow.keep (B3.out.block _ HR2.out.grow.lt), (B3.out.block _ (lt_of HR2.out.box)).trans HR2.out.box, fun p hp => by simp at hp, fun e he hle => absurd (hle.symm.trans (has_of_mem he)) (by simp), fun p hp => by simp at hp, List.nodup_nil, by rw [left_all]; simp⟩)
      have HRK := hid (show k ≤ r0 by rw [hr0]; exact B2k.out)
      rw [← hr0] at RG S3 ⊢
      clear hr0 HR2 H2 HX B2k B3 HO
      go_frame
      go_loopg [14] (Maps.size (.map (es.map encE) : DataW Nat)) (fun gg _ wq => ∃ (left : Lit → Bool) (cnt : Nat) (ps : List (ByteArray × Fl)), cnt ≤ gg ∧ Hid (r0 < wq.heap.size) ∧ Hid (wq.ranges Tryd.prog 9 ptrElem mc r0 (D.n + D.loose.length) (.map (es.map encE)) left cnt) ∧ Hid (Copying w wq D keep torn w.heap.size (w.heap.size + 1) k r0 es left ps))
      case atStart => exact ⟨_, _, [], Nat.le_refl _, S3, RG, CP⟩
      case round =>
        clear RG CP S3
        obtain ⟨left, cnt, ps, hcg, HS, HR, HP⟩ := hrel
        go_wp2_with (at_next; refine wpList_next_ranges _ rfl _ rfl 9 law ptrElem Value.string ptrOf (fun key kl hkk => by obtain ⟨x, hx, _⟩ := Maps.keyOf_str Tryd.underlying9 hkk; exact ⟨_, hx⟩) (fun v y hv => ptr_inv hv) mc r0 (D.n + D.loose.length) _ _ _ rfl HR.out ?_ ?_)
        · intro hc0 hl0
          have HL0 := hid hl0
          clear hc0 hl0
          have c0x : wr.cell? ⟨k + 3, 0, none⟩ = some (.map (some k)) := HP.out.at_.c0
          have HCX := hid (dir_clone HP.out.at_.dirM)
          go_wp2_with (go_at_call 38; refine test_stop ?_)
          refine hid ?_
          refine HCX.out.mono ?_
          rintro e w6 ⟨rfl, hm6, hb6⟩
          have GX := hid (Goes.new_sure HP.out.at_ hb6 hm6)
          have y1 : w6.cell? ⟨k + 3, 1, none⟩ = some (.map (some (k + 1))) := (cell_of ((hb6.block _ HP.out.at_.d_lt).trans HP.out.at_.cell) 1).trans rfl
          have yf : w6.frozen? ⟨k + 3, 1, none⟩ = false := free_of ((hb6.block _ HP.out.at_.d_lt).trans HP.out.at_.cell) 1
          clear hm6 hb6
          go_wp2
          go_ret
          refine ⟨k, es, ps, wr.heap.size, rfl, HKS.out.1, HES.out, fun p hp => HP.out.done p hp (HL0.out _), HP.out.all, HP.out.nodup, ?_, HEL.out, GX.out.at_, ?_, fun j hj => ?_⟩
          · have := HP.out.few
            rw [left_none HL0.out] at this
            simpa using this
          · exact HP.out.below.trans (GX.out.fr.below HP.out.below.size (fun j hj => Nat.le_trans HKS.out.1 (HP.out.own j hj).1))
          · rcases GX.out.own j hj with e | e
            · exact Nat.le_trans HKS.out.1 (HP.out.own j e).1
            · exact Nat.le_trans HP.out.below.size e
        · intro x c4 kl y yp wn cnt1 hkey hlk hv hat hrg1 hlt1 hg1 hs1 hen
          obtain ⟨b, rfl, hmem, hxs, hkl⟩ := entry_is HES.out hkey hv hat
          subst hkl
          have hdx := (HES.out.is x b hxs).2 hmem
          obtain ⟨f, hf, rfl⟩ := HFIL.out x b hdx
          obtain ⟨hcu, hbig⟩ := HCUT.out f hf
          have HMEM := hid hmem
          have HLK := hid hlk
          have HDX := hid hdx
          have HF := hid hf
          have HXS := hid hxs
          have HP1 := hid (HP.out.fr (⟨hg1.os, hg1.tape, hg1.output, hg1.size, fun j hj hn => hg1.block j hj (fun e => hn (by injection e with e; rw [e]; simp))⟩ : Fr [r0] _ wn) HKS.out.1 HRK.out HKS.out.2.1 HKS.out.2.2.1)
          have R1 := hid hrg1
          have hen2 : (Instr.entry (.pointer (some ⟨r0, 0, none⟩))).run Tryd.prog wn = .ok (.tuple #[.string x, P f.blk]) wn := hen
          have HSN := hid (show r0 < wn.heap.size by rw [hs1]; exact HS.out)
          have HDN := hid (HH.out.new (Fr.of_below HP1.out.below []))
          obtain ⟨hg0, hg1⟩ := HGL.out f.blk
          have n1 : ∀ q, (wn.drewN q).cell? ⟨f.blk, 1, none⟩ = some (.int .i64 f.sure) := fun q => ((HDN.out.drewN q).files f hf).c1
          have n7 : ∀ q, (wn.drewN q).cell? ⟨w.heap.size + 1, 0, none⟩ = some (.map (some w.heap.size)) := fun q => (cell_of (w := wn.drewN q) HP1.out.box 0).trans rfl
          have nl : ∀ q, (Instr.lookup 84 (.map (some w.heap.size)) (P f.blk) false).run Tryd.prog (wn.drewN q) = .ok (.int .i64 (growU keep torn D.loose D.loose.length f.blk)) (wn.drewN q) := fun q => (HP1.out.grow.keep (w' := wn.drewN q) rfl).look (fun b hb => by
            obtain ⟨y, hy, rfl⟩ := hb
            exact ⟨_, _, ((HDN.out.drewN q).files y hy).cell⟩) ⟨_, _, ((HDN.out.drewN q).files f hf).cell⟩
          clear hmem hlk hdx hf hrg1 hs1 hen hat hkey hv hxs HR HP HS
          have hcn : (f.sure + growU keep torn D.loose D.loose.length f.blk).toNat = crashN keep torn D f := rfl
          obtain ⟨gz, hgz⟩ : ∃ x, x = growU keep torn D.loose D.loose.length f.blk := ⟨_, rfl⟩
          rw [← hgz] at hg0 hg1 nl hcn
          obtain ⟨n, hnn⟩ : ∃ x, x = crashN keep torn D f := ⟨_, rfl⟩
          rw [← hnn] at hcn hcu
          have HNN := hid hnn
          clear hgz hnn
          have hz : wrap64 ((f.sure : Int) + gz) = (n : Int) := by unfold wrap64; omega
          have hz2 : IntKind.i64.wrap ((f.sure : Int) + gz) = (n : Int) := by rw [IntKind.wrap_i64]; omega
          clear hcn hg0 hg1
          go_wp2
          go_quiet (fail)
          go_wp2
          obtain ⟨w5, hw5⟩ : ∃ x, x = wn.drewN nq := ⟨_, rfl⟩
          have HP5 := hid (show Copying w w5 D keep torn w.heap.size (w.heap.size + 1) k r0 es left ps by rw [hw5]; exact HP1.out.fr (Fr.of_drawn ⟨_, rfl⟩) HKS.out.1 HRK.out HKS.out.2.1 HKS.out.2.2.1)
          have R5 := hid (show w5.ranges Tryd.prog 9 ptrElem mc r0 (D.n + D.loose.length) (.map (es.map encE)) (fun z => left z && !z.sameKey (.string x.data.toList)) cnt1 by rw [hw5]; exact ranges_move R1.out rfl rfl)
          have S5 := hid (show r0 < w5.heap.size by rw [hw5]; exact HSN.out)
          rw [← hw5]
          clear hw5 n1 n7 nl hz hz2 HP1 R1 HSN HDN hen2
          have HD5 := hid (HH.out.new (Fr.of_below HP5.out.below []))
          obtain ⟨A5, c5, hrow⟩ := B_slice (HD5.out.files f HF.out).bytes
          have HROW := hid hrow
          have m0 : w5.cell? ⟨k + 3, 0, none⟩ = some (.map (some k)) := HP5.out.at_.c0
          have m1 : w5.cell? ⟨f.blk, 0, none⟩ = some (.slice A5 f.b.length c5) := by rw [← hrow]; exact (HD5.out.files f HF.out).c0
          have hcap := (Kd.R_reads' (show Kd.R kB 5 w5 0 _ (.slice A5 f.b.length c5) f.b by rw [← hrow]; exact (HD5.out.files f HF.out).bytes)).2.1
          clear hrow
          obtain ⟨ji, hji, _⟩ := info_byte
          have hnz : (0 : Int) ≤ (n : Int) := by omega
          have e2 := cut_to (P := Tryd.prog) 33 5 .i64 (Tryd.underlying33) hji A5 f.b.length c5 (n : Int) hnz (by omega) hcap
          rw [Int.toNat_natCast] at e2
          have HPN := hid (show ps.length < maxLen by have := HP5.out.few; have := HEL.out; have := HN.out; omega)
          have HCLN := hid (fun (W : World) (hW : Fr [] w5 W) => (show Calls Tryd.prog 40 #[.slice A5 n c5] W fun e w' => ∃ u, e = .returned u ∧ Kd.R kB 5 w' W.heap.size (fun _ => True) u (f.b.take n) ∧ Below W.heap.size W w' from
            clone_calls (Kd.R_take (show Kd.R kB 5 W 0 _ (.slice A5 f.b.length c5) f.b by rw [← HROW.out]; exact ((HD5.out.new hW).files f HF.out).bytes) hcu) (by rw [List.length_take]; omega)))
          have HST5 := hid (fun (W w2 : World) (hW : Fr [] w5 W) (hb : Below W.heap.size W w2) (A2 : Option Addr) (c2 : Nat) (hr : Kd.R kB 5 w2 W.heap.size (fun _ => True) (.slice A2 (f.b.take n).length c2) (f.b.take n)) => copy_step (HP5.out.at_.new hW) hb hr n x HXS.out HPN.out)
          have HFK := hid (show f.blk < w5.drew.heap.size ∧ f.blk ∉ (xD k D.room ps).own from ⟨lt_of (HD5.out.files f HF.out).cell, fun hm => by have h1 := (HP5.out.own _ hm).1; have h2 := lt_of (HH.out.files f HF.out).cell; have h3 := HKS.out.1; omega⟩)
          have HLN := hid (show n = (f.b.take n).length by rw [List.length_take]; omega)
          clear hcap hnz
          go_region_held3 (fun w_ => w_.cell? ⟨k + 3, 0, none⟩ = some (.map (some k)) ∧ w_.cell? ⟨f.blk, 0, none⟩ = some (.slice A5 f.b.length c5)) (first | exact ⟨mm0, mm1⟩ | go_keep) (first | (go_at_call 40; refine (HCLN.out _ (Fr.refl [] w5).drew).mono ?_; rintro e w6 ⟨u, rfl, hr6, hb6⟩; obtain ⟨A2, c2, rfl⟩ := B_slice hr6; obtain ⟨w7, hrun7, g7⟩ := HST5.out _ w6 (Fr.refl [] w5).drew hb6 A2 c2 hr6; have hrn : (Instr.mapUpdate 66 (.map (some k)) (.string x) (P w6.heap.size)).run Tryd.prog (w6.alloc (.cells #[.slice A2 n c2, .int .i64 n] 92)) = .ok () w7 := (by have hr := hrun7; rw [← HLN.out] at hr; exact hr); have G7 := hid g7; have mk0 : w6.cell? ⟨k + 3, 0, none⟩ = some (.map (some k)) := (hb6.cell (p := ⟨k + 3, 0, none⟩) HP5.out.at_.d_lt).trans m0; have mk1 : w6.cell? ⟨f.blk, 0, none⟩ = some (.slice A5 f.b.length c5) := (hb6.cell (p := ⟨f.blk, 0, none⟩) (lt_of (HD5.out.files f HF.out).cell)).trans m1; have mm0 : w7.cell? ⟨k + 3, 0, none⟩ = some (.map (some k)) := g7.at_.c0; have mm1 : w7.cell? ⟨f.blk, 0, none⟩ = some (.slice A5 f.b.length c5) := ((cell_keep (g7.fr.keep f.blk HFK.out.1 HFK.out.2) 0).trans m1); clear hrun7 g7 hr6 hb6))
          have HW7 := hid (show k ≤ w5.drew.heap.size ∧ mc < w5.drew.heap.size ∧ r0 < w5.drew.heap.size from by have h1 := HRK.out; have h2 := S5.out; have h3 := HKS.out.2.2.2; exact ⟨show k ≤ w5.heap.size by omega, show mc < w5.heap.size by omega, h2⟩)
          go_wp2
          go_roundg cnt1
          case measure => omega
          case rel =>
            refine ⟨_, cnt1, _, Nat.le_refl _, hid ?_, hid ?_, hid ((HP5.out.fr (Fr.refl [r0] w5).drew HKS.out.1 HRK.out HKS.out.2.1 HKS.out.2.2.1).step G7.out HKS.out.1 HKS.out.2.1 HKS.out.2.2.1 HW7.out.2.2 HW7.out.1 HES.out.nodup HMEM.out HLK.out ⟨f, HF.out, HDX.out, by rw [← HNN.out], HNN.out⟩)⟩
            · exact Nat.lt_of_lt_of_le HW7.out.2.2 G7.out.fr.size
            · exact ranges_move R5.out (G7.out.fr.keep mc HW7.out.2.1 (fun hm => by have := (HP5.out.own _ hm).1; have := HKS.out.2.2.2; omega)) (G7.out.fr.keep r0 HW7.out.2.2 (fun hm => (HP5.out.own _ hm).2 rfl))
end Go.Proofs.YthlmbgaipbjbhaaDoor.L
