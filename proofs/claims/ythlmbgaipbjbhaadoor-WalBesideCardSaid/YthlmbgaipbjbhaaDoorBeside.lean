/- WalBeside walked. -/
import Derived.Test.YthlmbgaipbjbhaaDoorPair
import Derived.Test.YthlmbgaipbjbhaaDoorShow
import Derived.LaidEqlPtr
namespace Go.Proofs.YthlmbgaipbjbhaaDoor.L
open Go.RowKit Go.Lib Go.Maps Go.Proofs.YthlmbgaipbjbhaaDoor.P
open Go.Proofs.YthlmbgaipbjbhaaDoorW.PrintWords Go.Proofs.YthlmbgaipbjbhaaDoorW.PrintLast Go.Proofs.YthlmbgaipbjbhaaDoorW.PrintMore
set_option linter.unusedVariables false
set_option linter.unusedSimpArgs false
theorem beside_g {g n : Nat} (h : g ≤ n) (hn : n < 40) : g < 4294967296 := by omega
theorem beside_g32 {g n : Nat} (h : g ≤ n + 1) (hn : n < 40) : g < 4294967296 := by omega
theorem beside_gl {g n : Nat} (h : g ≤ n + 1) (hn : n < 40) : g < 1048576 := by omega
theorem beside_m {M n : Nat} (h : M ≤ 16 * n) (hn : n < 40) : M + 40 < 1048576 := by omega
theorem beside_m2 {M n : Nat} (h : M ≤ 16 * n) : M + 16 ≤ 16 * (n + 1) := by omega
theorem beside_c {M n : Nat} (h : M ≤ 16 * n) (hn : n < 40) : M + 16 < 1152921504606846976 := by omega
theorem beside_o {M n : Nat} (h : M ≤ 16 * n) (hn : n < 40) : M + 16 + (M + 16) + 8 < 1048576 := by omega
theorem beside_o2 {M n : Nat} (h : M ≤ 16 * n) (hn : n < 40) : M + 16 + (M + 16) + 2 + 8 < 1048576 := by omega
theorem besides_c {M : Nat} (h : M ≤ 640) : M < 1152921504606846976 := by omega
theorem besides_o {M : Nat} (h : M ≤ 640) : M + M + 8 < 1048576 := by omega
theorem besides_o2 {M : Nat} (h : M ≤ 640) : M + M + 2 + 8 < 1048576 := by omega
theorem besides_gl {g : Nat} (h : g ≤ 40) : g < 1048576 := by omega
theorem besides_g32 {g : Nat} (h : g ≤ 40) : g < 4294967296 := by omega
theorem beside_e {e g n : Nat} (h : e ≤ g * 7277) (hg : g ≤ n) (hn : n < 40) : e + 7277 ≤ 1048576 := by omega
theorem beside_j {n : Nat} (hn : n < 40) : wrap64 ((n : Int) + 1) = ((n + 1 : Nat) : Int) := by unfold wrap64; omega
theorem beside_i {i n : Nat} (h : i ≤ n) (hn : n < 40) : wrap64 ((i : Int) + 1) = ((i + 1 : Nat) : Int) := by unfold wrap64; omega
theorem beside_me {n g : Nat} (h : 40 - n ≤ g) (hn : n < 40) : 40 - (n + 1) < g := by omega
theorem skip2 {a b j : Nat} {l : List Nat} (h : j ∈ a :: l) : j ∈ a :: b :: l := by
  rcases List.mem_cons.1 h with e | h
  · rw [e]; exact List.mem_cons_self
  · exact List.mem_cons_of_mem _ (List.mem_cons_of_mem _ h)
theorem own4 {w : World} {x y a b : Nat} {l l' : List Nat} (h : ∀ j ∈ l', j ∈ l ∨ w.heap.size ≤ j) : ∀ j ∈ x :: y :: a :: b :: l', j ∈ x :: y :: a :: b :: l ∨ w.heap.size ≤ j := fun j hj => by
  simp only [List.mem_cons] at hj ⊢
  rcases hj with e | e | e | e | e
  · exact .inl (.inl e)
  · exact .inl (.inr (.inl e))
  · exact .inl (.inr (.inr (.inl e)))
  · exact .inl (.inr (.inr (.inr (.inl e))))
  · exact (h j e).elim (fun e => .inl (.inr (.inr (.inr (.inr e))))) .inr
theorem box_cells {w : World} {z : Nat} {q : Op} (h : w.heap[z]? = some (boxObj q)) : w.cell? ⟨z, 0, none⟩ = some (.int .i64 q.kind) ∧ w.cell? ⟨z, 1, none⟩ = some (.slice q.at_ q.l.length q.cap) ∧ w.cell? ⟨z, 2, none⟩ = some (.int .i64 q.n) ∧ w.cell? ⟨z, 3, none⟩ = some (.int .i64 q.torn) :=
  ⟨(cell_of h 0).trans rfl, (cell_of h 1).trans rfl, (cell_of h 2).trans rfl, (cell_of h 3).trans rfl⟩
theorem eql_world (W : World) (x : Nat) : (binOp .eql 39 (P x) (P x)).run Tryd.prog W = .ok (.bool true) W := by
  obtain ⟨j, hj⟩ : ∃ j, Tryd.prog.info? 47 = some j := Option.isSome_iff_exists.1 (by kernel_rfl)
  exact run_eql_ptr_same W ⟨x, 0, none⟩ (by kernel_rfl : Tryd.prog.underlying 39 = some (.pointer 47)) hj
theorem inA : nA ∈ nAB := List.mem_cons_self
theorem inA2 : nA2 ∈ nAB := List.mem_cons_of_mem _ List.mem_cons_self
theorem inB : nB ∈ nAB := List.mem_cons_of_mem _ (List.mem_cons_of_mem _ List.mem_cons_self)
theorem inB2 : nB2 ∈ nAB := List.mem_cons_of_mem _ (List.mem_cons_of_mem _ (List.mem_cons_of_mem _ List.mem_cons_self))
theorem box_put {w : World} {z : Nat} {p : Op} (h : w.heap[z]? = some (boxObj p)) (q : Op) :
    ((((w.setCell ⟨z, 0, none⟩ (.int .i64 q.kind)).setCell ⟨z, 1, none⟩ (.slice q.at_ q.l.length q.cap)).setCell ⟨z, 2, none⟩ (.int .i64 q.n)).setCell ⟨z, 3, none⟩ (.int .i64 q.torn)).heap[z]? = some (boxObj q) ∧
    Fr [z] w ((((w.setCell ⟨z, 0, none⟩ (.int .i64 q.kind)).setCell ⟨z, 1, none⟩ (.slice q.at_ q.l.length q.cap)).setCell ⟨z, 2, none⟩ (.int .i64 q.n)).setCell ⟨z, 3, none⟩ (.int .i64 q.torn)) := by
  have hm : ∀ (a : Nat), (⟨z, a, none⟩ : Addr).block ∈ [z] := fun a => by simp
  refine ⟨?_, (((Fr.set w _ _ (hm 0)).trans (Fr.set _ _ _ (hm 1)) (fun k hk => .inl hk)).trans (Fr.set _ _ _ (hm 2)) (fun k hk => .inl hk)).trans (Fr.set _ _ _ (hm 3)) (fun k hk => .inl hk)⟩
  exact (heap_set (off := 3) (heap_set (off := 2) (heap_set (off := 1) (heap_set (off := 0) h _) _) _) _).trans rfl
theorem OpIs.zero (w : World) : OpIs w ⟨0, none, [], 0, 0, 0⟩ := ⟨by decide, by decide, by decide, ⟨⟨rfl, by simp, fun h => by simp at h⟩, Nat.le_refl _, Nat.zero_le _⟩⟩
theorem Bx.start {w0 w4 w5 : World} {ka kb : Nat} {D : Dk} (dw : Dw w0 w4 0 1048576 D) (la : Lw w0 w4 D ka nA []) (lb : Lw w0 w4 D kb nB []) (hk : ka ≠ kb) (hon : ∀ P : ByteArray → Prop, Only P D) (c : Calm 5242880 D) (f : Fr [] w4 w5) {x y : Nat} (hx : w4.heap.size ≤ x) (hy : w4.heap.size ≤ y) (hne : x ≠ y)
    (ox : w5.heap[x]? = some (wsObj D.d ka (.slice none 0 0) (.slice none 0 0) false)) (oy : w5.heap[y]? = some (wsObj D.d kb (.slice none 0 0) (.slice none 0 0) false)) : Bx w0 w5 0 D ka kb x y (.slice none 0 0) (.slice none 0 0) [] [] :=
  have ho : ∀ j, w4.heap.size ≤ j → j ∉ ka :: kb :: D.own := fun j hj hm => by
    simp only [List.mem_cons] at hm
    rcases hm with e | e | e
    · have := la.lt; omega
    · have := lb.lt; omega
    · have := dw.at_.lt j e; omega
  ⟨dw.new f, ox, oy, Nat.le_trans dw.bel.size hx, Nat.le_trans dw.bel.size hy, ho x hx, ho y hy, hne, hk, Nat.lt_of_lt_of_le la.lt f.size, Nat.lt_of_lt_of_le lb.lt f.size, la.ge, lb.ge, hon _, c.fails, c.room, Wr.nil _ _, Wr.nil _ _⟩
set_option maxHeartbeats 32000000 in
set_option maxRecDepth 100000 in
theorem beside_calls (w : World) (hL : Laid w) (A1 : Option Addr) (n1 cap1 : Nat) (Q1 : Nat → Op) (h1 : OpsAt w A1 n1 Q1) (A2 : Option Addr) (n2 cap2 : Nat) (Q2 : Nat → Op) (h2 : OpsAt w A2 n2 Q2) (A3 : Option Addr) (n3 cap3 : Nat) (Q3 : Nat → Bool) (h3 : BoolsAt w A3 n3 Q3) (cut keep torn : Int) (hcut : (Lit.int .i64 cut).wf = true) :
    Calls Tryd.prog 5 #[.slice A1 n1 cap1, .slice A2 n2 cap2, .slice A3 n3 cap3, .int .i64 cut, .int .i64 keep, .int .i64 torn] w fun e w' => e = .returned (.bool true) ∧ Below w.heap.size w w' := by
  have HL := hid hL
  have HA1 := hid h1
  have HA2 := hid h2
  have HA3 := hid h3
  have HPC := hid (fun W => pick_calls cut 200 hcut (by omega) W)
  clear hL h1 h2 h3 hcut
  go_enter Tryd.func5, Tryd.ntmps5
  go_upto_region 2 with (go_at_call 8; refine (shown_calls w HL.out).mono ?_; rintro e w1 ⟨rfl, hb1⟩; have HB1 := hid hb1; clear hb1)
  go_upto_region 5 with (go_at_call 9; refine (new_w w 16777216 (by omega) HB1.out 1048576).mono ?_; rintro e w2 ⟨D0, rfl, hb2, dw2, ho2, hf2, hn2, hc2⟩; have DW2 := hid dw2; have HF2 := hid hf2; have HN2 := hid hn2; have HC2 := hid (hc2 5242880 (by omega)); clear hb2 dw2 ho2 hf2 hn2 hc2)
  go_upto_region 6 with (go_at_call 10; refine (open_new DW2.out wNameA (HF2.out _)).mono ?_; rintro e w3 ⟨ka, rfl, hb3, dw3, hk3, lw3⟩; have DW3 := hid dw3; have LA3 := hid lw3; clear hb3 dw3 hk3 lw3)
  go_upto_region 7 with (go_at_call 10; refine (open_new DW3.out wNameB (HF2.out _)).mono ?_; rintro e w4 ⟨kb, rfl, hb4, dw4, hk4, lw4⟩; have DW4 := hid dw4; have LB4 := hid lw4; have LA4 := hid (LA3.out.new (Fr.of_below hb4 [])); have HKN := hid (show ka ≠ kb from fun e => by have := LA3.out.lt; omega); clear hb4 dw4 hk4 lw4)
  go_upto_region 11 with fail
  have F5 := hid ((Fr.alloc [] w4 (wsObj D0.d ka (.slice none 0 0) (.slice none 0 0) false)).trans (Fr.alloc [] (w4.alloc (wsObj D0.d ka (.slice none 0 0) (.slice none 0 0) false)) (wsObj D0.d kb (.slice none 0 0) (.slice none 0 0) false)) (fun j hj => .inl hj))
  have HB5 := hid (Bx.start (x := w4.heap.size) (y := w4.heap.size + 1) DW4.out LA4.out LB4.out HKN.out HN2.out HC2.out F5.out (Nat.le_refl _) (Nat.le_succ _) (Nat.ne_of_lt (Nat.lt_succ_self _)) (by rw [al_keep _ (by simp only [al_size]; omega), al_get]) (by have := al_get (w4.alloc (wsObj D0.d ka (.slice none 0 0) (.slice none 0 0) false)) (wsObj D0.d kb (.slice none 0 0) (.slice none 0 0) false); simp only [al_size] at this; exact this))
  have LA5 := hid (LA4.out.new F5.out)
  have LB5 := hid (LB4.out.new F5.out)
  clear F5 DW2 DW3 DW4 LA3 LA4 LB4 HF2 HN2 HC2 HKN HB1
  generalize (w4.alloc (wsObj D0.d ka (.slice none 0 0) (.slice none 0 0) false)).alloc (wsObj D0.d kb (.slice none 0 0) (.slice none 0 0) false) = w5 at *
  obtain ⟨y, hy⟩ : ∃ y, y = w4.heap.size + 1 := ⟨_, rfl⟩
  try rw [← hy]
  rw [← hy] at HB5
  clear hy
  generalize w4.heap.size = x at *
  go_upto_region 14 with (first
    | (go_at_call 12; refine (HPC.out _).mono ?_; rintro e w_ ⟨rfl, hww⟩; have hww2 := hww.symm; subst hww2)
    | (go_at_call 16; refine (cut_calls HB5.out.dw.at_ _).mono ?_; rintro e w6 ⟨rfl, hd6, hf6⟩; have HB6 := hid (HB5.out.power hf6 hd6); have LA6 := hid (LA5.out.power hf6 (pickI cut 200) false); have LB6 := hid (LB5.out.power hf6 (pickI cut 200) false); clear hd6 hf6))
  clear HB5 LA5 LB5 HPC
  obtain ⟨D1, hD1⟩ : ∃ D1 : Dk, D1 = { D0 with cut := pickI cut 200, off := false } := ⟨_, rfl⟩
  have HD1 := hid (show D1.d = D0.d by rw [hD1])
  rw [← hD1] at HB6 LA6 LB6
  clear hD1
  generalize D0.d = d0 at *
  go_upto_block 0 with fail
  go_cut [24] (fun v24 wc => ∃ (M : Nat) (D : Dk) (va vb : Value) (Ga Gb : List (List ByteArray)), Hid (M ≤ 640) ∧ Hid (D.d = d0) ∧ Hid (Bx w wc M D ka kb x y va vb Ga Gb) ∧ Hid (Lw w wc D ka nA Ga) ∧ Hid (Lw w wc D kb nB Gb) ∧ Hid (Ga.length ≤ 40) ∧ Hid (Gb.length ≤ 40))
  case first =>
    go_wp2_with fail
    go_loopg [24, 25, 26] 40 (fun gg s24 s25 s26 wr => ∃ (nn i j M : Nat) (D : Dk) (va vb : Value) (Ga Gb : List (List ByteArray)), nn ≤ 40 ∧ 40 - nn ≤ gg ∧ s24 = .int .i64 i ∧ s25 = .int .i64 j ∧ s26 = .int .i64 nn ∧ i ≤ nn ∧ j ≤ nn ∧ Hid (M ≤ 16 * nn) ∧ Hid (D.d = d0) ∧ Hid (Bx w wr M D ka kb x y va vb Ga Gb) ∧ Hid (Lw w wr D ka nA Ga) ∧ Hid (Lw w wr D kb nB Gb) ∧ Hid (Ga.length ≤ nn) ∧ Hid (Gb.length ≤ nn))
    case atStart => exact ⟨0, 0, 0, 0, D1, _, _, [], [], Nat.zero_le _, Nat.le_refl _, rfl, rfl, rfl, Nat.le_refl _, Nat.le_refl _, hid (Nat.le_refl _), HD1, HB6, LA6, LB6, hid (Nat.le_refl _), hid (Nat.le_refl _)⟩
    case round =>
      clear HB6 LA6 LB6 HD1
      obtain ⟨nn, i, j, M, D, va, vb, Ga, Gb, hnn, hgn, rfl, rfl, rfl, hi, hj, HMB, HD0, HB3, HLA3, HLB3, HGA4, HGB4⟩ := hrel
      by_cases hn3 : nn < n3
      · have hn3z : (nn : Int) < (n3 : Int) := Int.ofNat_lt.2 hn3
        by_cases h40 : nn < 40
        · have h40z : (nn : Int) < 40 := by omega
          have HN40 := hid h40
          obtain ⟨bt, ot, rfl, hbt, hct⟩ := HA3.out.there (Nat.lt_of_le_of_lt (Nat.zero_le _) hn3)
          have ht := hct nn hn3
          clear hct
          generalize Q3 nn = tn at ht
          have HTN := hid (fun (W : World) (hW : Below w.heap.size w W) => (Below.cell hW (a := ⟨bt, ot + nn, none⟩) hbt).trans ht)
          go_upto_region 19 with fail
          clear ht
          have HBW := hid (show Below wr.heap.size wr (wr.alloc (.cells #[.int .i64 0, .slice none 0 0, .int .i64 0, .int .i64 0] 52)) from al_below wr _)
          have HZ0 := hid (show (wr.alloc (.cells #[.int .i64 0, .slice none 0 0, .int .i64 0, .int .i64 0] 52)).heap[wr.heap.size]? = some (boxObj ⟨0, none, [], 0, 0, 0⟩) from al_get wr _)
          have htn : (wr.alloc (.cells #[.int .i64 0, .slice none 0 0, .int .i64 0, .int .i64 0] 52)).cell? ⟨bt, ot + nn, none⟩ = some (.bool tn) := HTN.out _ (HB3.out.dw.bel.trans (HBW.out.mono HB3.out.dw.bel.size))
          generalize wr.alloc (.cells #[.int .i64 0, .slice none 0 0, .int .i64 0, .int .i64 0] 52) = wz at *
          obtain ⟨z, hz⟩ : ∃ z, z = wr.heap.size := ⟨_, rfl⟩
          have HZE := hid hz
          rw [← hz] at HZ0
          rw [← hz]
          clear hz
          have H3 := hid hn3
          have HGN := hid (And.intro hnn hgn)
          have HIJ := hid (And.intro hi hj)
          have HBT := hid hbt
          clear hn3 hn3z h40 h40z hnn hgn hi hj hbt
          go_cut [122] (fun v122 wc => v122 = .bool (tn && decide (i < n1)) ∧ Hid (wc = wz))
          case first =>
            cases tn with
            | false =>
              go_wp2
              go_meet
              exact ⟨rfl, hid rfl⟩
            | true =>
              by_cases hin : i < n1
              · have hinz : (i : Int) < (n1 : Int) := Int.ofNat_lt.2 hin
                go_wp2
                go_meet
                exact ⟨by rw [decide_eq_true hin]; rfl, hid rfl⟩
              · have hinz : ¬ (i : Int) < (n1 : Int) := fun h => hin (Int.ofNat_lt.1 h)
                go_wp2
                go_meet
                exact ⟨by rw [decide_eq_false hin]; rfl, hid rfl⟩
          case rest =>
            obtain ⟨rfl, HWZ⟩ := hcut
            obtain rfl := HWZ.out
            clear htn HWZ
            obtain ⟨br, hbr⟩ : ∃ b : Bool, b = (tn && decide (i < n1)) := ⟨_, rfl⟩
            rw [← hbr]
            have HBR := hid (show br = true → i < n1 from fun h => by rw [hbr] at h; simp at h; exact h.2)
            clear hbr
            go_upto_if 122 with fail
            go_cut [24, 25, 27] (fun v24 v25 v27 wf => ∃ (i2 j2 : Nat) (q : Op) (s : Bool), v24 = .int .i64 i2 ∧ v25 = .int .i64 j2 ∧ v27 = P (bif s then y else x) ∧ i2 ≤ nn + 1 ∧ j2 ≤ nn + 1 ∧ Hid (OpIs w q) ∧ Hid (Bx w wf M D ka kb x y va vb Ga Gb) ∧ Hid (Lw w wf D ka nA Ga) ∧ Hid (Lw w wf D kb nB Gb) ∧ Hid (wf.heap[z]? = some (boxObj q)))
            case first =>
              have k0 := HZ0.out
              have g0 := (cell_of k0 0).trans rfl
              cases br with
              | true =>
                have hin := HBR.out rfl
                obtain ⟨b2, o2, rfl, hb2, hcells2⟩ := HA1.out.there (Nat.lt_of_le_of_lt (Nat.zero_le _) hin)
                have hop := hcells2 i hin
                have HOI := hid (HA1.out.each i hin)
                clear hcells2
                generalize Q1 i = p at hop HOI
                have hBel : Below w.heap.size w wc := HB3.out.dw.bel.trans (HBW.out.mono HB3.out.dw.bel.size)
                have e0 := (hBel.cell (p := ⟨b2, o2 + i * 4, none⟩) hb2).trans hop.c0
                have e1 := (hBel.cell (p := ⟨b2, o2 + i * 4 + 1, none⟩) hb2).trans hop.c1
                have e2 := (hBel.cell (p := ⟨b2, o2 + i * 4 + 2, none⟩) hb2).trans hop.c2
                have e3 := (hBel.cell (p := ⟨b2, o2 + i * 4 + 3, none⟩) hb2).trans hop.c3
                have f0 := free_of k0 0
                have f1 := free_of k0 1
                have f2 := free_of k0 2
                have f3 := free_of k0 3
                have HHB := hid hb2
                have hinz : (i : Int) < (n1 : Int) := Int.ofNat_lt.2 hin
                have hiz := beside_i HIJ.out.1 HN40.out
                clear hop hBel hb2 g0
                obtain ⟨g0, g1, g2, g3⟩ := box_cells k0
                clear k0
                go_wp2
                have hput := box_put HZ0.out p
                have HBF := hid (HBW.out.trans (hput.2.below HBW.out.size (fun k hk => by rw [List.mem_singleton.1 hk, HZE.out]; exact Nat.le_refl _)))
                go_meet
                exact ⟨i + 1, j, p, false, (by first | rfl | rw [hiz]), (by first | rfl | rw [hiz]), rfl, Nat.succ_le_succ HIJ.out.1, Nat.le_succ_of_le HIJ.out.2, HOI, hid (HB3.out.new (Fr.of_below HBF.out [])), hid (HLA3.out.new (Fr.of_below HBF.out [])), hid (HLB3.out.new (Fr.of_below HBF.out [])), hid hput.1⟩
              | false =>
                by_cases hin : j < n2
                · skip
                  obtain ⟨b2, o2, rfl, hb2, hcells2⟩ := HA2.out.there (Nat.lt_of_le_of_lt (Nat.zero_le _) hin)
                  have hop := hcells2 j hin
                  have HOI := hid (HA2.out.each j hin)
                  clear hcells2
                  generalize Q2 j = p at hop HOI
                  have hBel : Below w.heap.size w wc := HB3.out.dw.bel.trans (HBW.out.mono HB3.out.dw.bel.size)
                  have e0 := (hBel.cell (p := ⟨b2, o2 + j * 4, none⟩) hb2).trans hop.c0
                  have e1 := (hBel.cell (p := ⟨b2, o2 + j * 4 + 1, none⟩) hb2).trans hop.c1
                  have e2 := (hBel.cell (p := ⟨b2, o2 + j * 4 + 2, none⟩) hb2).trans hop.c2
                  have e3 := (hBel.cell (p := ⟨b2, o2 + j * 4 + 3, none⟩) hb2).trans hop.c3
                  have f0 := free_of k0 0
                  have f1 := free_of k0 1
                  have f2 := free_of k0 2
                  have f3 := free_of k0 3
                  have HHB := hid hb2
                  have hinz : (j : Int) < (n2 : Int) := Int.ofNat_lt.2 hin
                  have hiz := beside_i HIJ.out.2 HN40.out
                  clear hop hBel hb2 g0
                  obtain ⟨g0, g1, g2, g3⟩ := box_cells k0
                  clear k0
                  go_wp2
                  have hput := box_put HZ0.out p
                  have HBF := hid (HBW.out.trans (hput.2.below HBW.out.size (fun k hk => by rw [List.mem_singleton.1 hk, HZE.out]; exact Nat.le_refl _)))
                  go_meet
                  exact ⟨i, j + 1, p, true, (by first | rfl | rw [hiz]), (by first | rfl | rw [hiz]), rfl, Nat.le_succ_of_le HIJ.out.1, Nat.succ_le_succ HIJ.out.2, HOI, hid (HB3.out.new (Fr.of_below HBF.out [])), hid (HLA3.out.new (Fr.of_below HBF.out [])), hid (HLB3.out.new (Fr.of_below HBF.out [])), hid hput.1⟩
                · have hinz : ¬ (j : Int) < (n2 : Int) := fun h => hin (Int.ofNat_lt.1 h)
                  have HBF := HBW
                  clear g0 k0
                  go_wp2
                  go_meet
                  exact ⟨i, j, _, false, rfl, rfl, rfl, Nat.le_succ_of_le HIJ.out.1, Nat.le_succ_of_le HIJ.out.2, hid (OpIs.zero w), hid (HB3.out.new (Fr.of_below HBF.out [])), hid (HLA3.out.new (Fr.of_below HBF.out [])), hid (HLB3.out.new (Fr.of_below HBF.out [])), HZ0⟩
            case rest =>
              obtain ⟨i2, j2, q, s, rfl, rfl, rfl, hi2, hj2, HOI, HB4, HLA4, HLB4, HZ⟩ := hcut
              have hgn := HGN.out.2
              clear HB3 HLA3 HLB3 HZ0 HZE HBW HBR HIJ HTN HBT H3 HGN
              cases s with
              | false =>
                rw [show (bif false then y else x) = x from rfl]
                have HBX := hid (HB4.out)
                have HLX := hid HLA4.out
                have HLY := hid HLB4.out
                have HGX := hid HGA4.out
                clear HB4 HLA4 HLB4
                have HBE := hid (behind_calls wc x D.d ka va (.slice none 0 0) false Ga HBX.out.ox (fun j => j ∉ x :: y :: ka :: kb :: D.own) (fun j hj hm => Nat.lt_irrefl _ (Nat.lt_of_lt_of_le (HBX.out.olt j hm) hj)) HBX.out.ra.1 (beside_g HGX.out HN40.out) q (HOI.out.keep HBX.out.dw.bel))
                have HEZ := hid (fun (W : World) (hW : Below wc.heap.size wc W) => box_cells ((hW.block z (lt_of HZ.out)).trans HZ.out))
                obtain ⟨e0, e1, e2, e3⟩ := HEZ.out wc (Below.refl _ _)
                go_upto_region 27 with (go_at_call 18; refine HBE.out.mono ?_; rintro e wb ⟨v8, rfl, hr8, hb8⟩; obtain ⟨A8, c8, rfl⟩ := Kd.R_slice hr8; have HR8 := hid hr8; have HB8 := hid hb8; clear hr8 hb8)
                clear e0 e1 e2 e3 HBE
                obtain ⟨e0, e1, e2, e3⟩ := HEZ.out wb HB8.out
                have HB7 := hid (HBX.out.new (Fr.of_below HB8.out []))
                have HT7 := hid (show Wr wb (x :: y :: ka :: kb :: D.own) (.slice A8 (nxt q Ga).length c8) (nxt q Ga) from HBX.out.ra.nxt HR8.out)
                have HLY7 := hid (HLY.out.new (Fr.of_below HB8.out []))
                have HLA := hid (lay_calls HB7.out.dw (HLX.out.new (Fr.of_below HB8.out [])) HL.out (beside_m HMB.out HN40.out) (by decide) namedA nAB HB7.out.only inA inA2 va none 0 [] false HB7.out.ox (fun hm => HB7.out.xoff (skip2 hm)) (fun W _ => ⟨rfl, by simp, fun h => by simp at h⟩) (by decide) q HOI.out (beside_e HB7.out.ra.2.2 HGX.out HN40.out) (R := 5242880) (by decide))
                go_upto_region 28 with (go_at_call 19; refine HLA.out.mono ?_; intro e w9 hl9; obtain ⟨c, D9, rfl, hw9, hd9, hf9, ho9, hly9, hway9⟩ := HB7.out.of_lay HLY7.out hl9 inA inA2 (by decide) (by decide); have HB9 := hid hw9; have HD9 := hid (hd9.trans HD0.out); have HF9 := hid hf9; have HO9 := hid ho9; have HLY9 := hid hly9; have HWY9 := hid hway9; clear hl9 hw9 hd9 hf9 ho9 hly9 hway9)
                clear e0 e1 e2 e3 HLA HEZ HLY7
                have HT9 := hid (HT7.out.to (own' := x :: y :: ka :: kb :: D9.own) HF9.out (fun j hj => List.mem_cons_of_mem _ (List.mem_cons_of_mem _ (skip2 hj))) (own4 HO9.out))
                have HLN := hid (show (nxt q Ga).length ≤ nn + 1 from Nat.le_trans nxt_len (Nat.succ_le_succ HGX.out))
                have hfz := HB9.out.free 2
                have p2 := HB9.out.c2
                rcases HWY9.out with ⟨hc, lw9⟩ | ⟨hc, cu9⟩
                · subst hc
                  have HLX9 := hid lw9
                  clear lw9 HWY9
                  have HS := hid (HB9.out.setg HT9.out)
                  have HLX10 := hid (HLX9.out.fr HS.out.2 (fun hm => HB9.out.xoff (by rw [← List.mem_singleton.1 hm]; exact List.mem_cons_self)))
                  have HLY10 := hid (HLY9.out.fr HS.out.2 (fun hm => HB9.out.xoff (by rw [← List.mem_singleton.1 hm]; simp)))
                  have hjz := beside_j HN40.out
                  go_wp2
                  go_roundg (40 - (nn + 1))
                  case measure => exact beside_me hgn HN40.out
                  case rel => exact ⟨nn + 1, i2, j2, M + 16, D9, .slice A8 (nxt q Ga).length c8, vb, nxt q Ga, Gb, HN40.out, Nat.le_refl _, rfl, rfl, (by first | rfl | rw [hjz]), hi2, hj2, hid (beside_m2 HMB.out), HD9, hid HS.out.1, HLX10, HLY10, HLN, hid (Nat.le_succ_of_le HGB4.out)⟩
                · subst hc
                  have HCU := hid cu9
                  clear cu9 HWY9 hfz p2 HT7 HB7 HR8 HB8
                  have HCV := hid (HLY9.out.cuts HB9.out.dw.good)
                  have HCR := hid (crash_w HB9.out.dw (beside_c HMB.out HN40.out) (by decide) keep torn)
                  rw [HD9.out] at HCR
                  go_upto_region 32 with (go_at_call 13; refine HCR.out.mono ?_; rintro e w10 ⟨D2, rfl, hb2, dwo, dx2, cr2, low2⟩; obtain ⟨oX, rX, fX⟩ := HCU.out.crash HB9.out.dw.good dx2.good cr2; obtain ⟨oY, rY, fY⟩ := HCV.out.crash HB9.out.dw.good dx2.good cr2; have HAB1 := hid (HB9.out.crashed hb2 dx2 cr2 low2); have HFX := hid fX; have HFY := hid fY; have HRX := hid rX; have HRY := hid rY; clear hb2 dwo dx2 cr2 low2 fX fY rX rY)
                  clear HCR HCU HCV
                  obtain ⟨G8, hG8, hr8⟩ : ∃ G8, (G8 = Ga ∨ G8 = nxt q Ga) ∧ Reads (oX.getD []) G8 := by
                    rcases HRX.out with h | h
                    · exact ⟨_, .inl rfl, h⟩
                    · exact ⟨_, .inr rfl, h⟩
                  have HG8 := hid hG8
                  have HR8 := hid hr8
                  clear hG8 hr8 HRX
                  have HGX8 := hid (show (∀ g ∈ G8, GOk g) ∧ (encs G8).length ≤ G8.length * 7277 from by
                    rcases HG8.out with e | e <;> rw [e]
                    · exact HB9.out.ra.2
                    · exact HT9.out.2)
                  have HGL8 := hid (show G8.length ≤ nn + 1 from by
                    rcases HG8.out with e | e <;> rw [e]
                    · exact Nat.le_succ_of_le HGX.out
                    · exact HLN.out)
                  have HGY8 := hid HB9.out.rb.2
                  have HGYL := hid HGB4.out
                  have HGK1 := hid HGX8.out
                  have HGK2 := hid HGY8.out
                  have HOP1 := hid (open_w HAB1.out.dw HL.out (beside_o HMB.out HN40.out) (by decide) wNameA _ HFX.out HR8.out HGK1.out.1 (beside_gl HGL8.out HN40.out))
                  go_upto_region 33 with (go_at_call 10; refine HOP1.out.mono ?_; intro e we1 h9; obtain ⟨De1, ke1, ve1, rfl, dw9, d9, fr9, own9, box9, r9, hk9, lw9⟩ := h9.calm HAB1.out.calm; obtain ⟨hab9, hr9, hf9⟩ := HAB1.out.opened dw9 d9 fr9 own9 box9 r9 HGK1.out.1 HGK1.out.2; obtain ⟨Ae1, ce1, rfl⟩ := Kd.R_slice hr9.1; have HDE1 := hid (d9.d); have HAC1 := hid hab9; have HRE1 := hid hr9; have HFI1 := hid hf9; have FRE1 := hid fr9; have OWE1 := hid own9; clear h9 dw9 d9 fr9 own9 box9 r9 hk9 lw9 hab9 hr9 hf9)
                  clear HOP1
                  have HAB2 := hid HAC1.out
                  have HOP2 := hid (open_w HAC1.out.dw HL.out (beside_o2 HMB.out HN40.out) (by decide) wNameB _ (HFI1.out _ _ HFY.out) HRY.out HGK2.out.1 (beside_gl (Nat.le_succ_of_le HGYL.out) HN40.out))
                  rw [HDE1.out] at HOP2
                  go_upto_region 34 with (go_at_call 10; refine HOP2.out.mono ?_; intro e we2 h9; obtain ⟨De2, ke2, ve2, rfl, dw9, d9, fr9, own9, box9, r9, hk9, lw9⟩ := h9.calm HAB2.out.calm; obtain ⟨hab9, hr9, hf9⟩ := HAB2.out.opened dw9 d9 fr9 own9 box9 r9 HGK2.out.1 HGK2.out.2; obtain ⟨Ae2, ce2, rfl⟩ := Kd.R_slice hr9.1; have HDE2 := hid (d9.d); have HAC2 := hid hab9; have HRE2 := hid hr9; have HFI2 := hid hf9; have FRE2 := hid fr9; have OWE2 := hid own9; clear h9 dw9 d9 fr9 own9 box9 r9 hk9 lw9 hab9 hr9 hf9)
                  clear HOP2
                  have RE1 := hid (HRE1.out.to (own' := []) FRE2.out (fun j hj => hj) (fun j hj => by simp at hj))
                  have RE2 := HRE2
                  have pxa : we2.cell? ⟨x, 2, none⟩ = some va := (Below.cell HAC2.out.bel (a := ⟨x, 2, none⟩) (lt_of HB9.out.ox)).trans (cell_of HB9.out.ox 2)
                  have pyb : we2.cell? ⟨y, 2, none⟩ = some vb := (Below.cell HAC2.out.bel (a := ⟨y, 2, none⟩) (lt_of HB9.out.oy)).trans (cell_of HB9.out.oy 2)
                  have HPX := hid (fun (W : World) (hW : Below we2.heap.size we2 W) => And.intro ((Below.cell hW (a := ⟨x, 2, none⟩) (Nat.lt_of_lt_of_le (lt_of HB9.out.ox) HAC2.out.bel.size)).trans pxa) ((Below.cell hW (a := ⟨y, 2, none⟩) (Nat.lt_of_lt_of_le (lt_of HB9.out.oy) HAC2.out.bel.size)).trans pyb))
                  have HS1 := hid (fun (W : World) (hW : Below we2.heap.size we2 W) => same_rows (RE1.out.keep hW) ((HB9.out.ra.keep HAC2.out.bel).keep hW) (beside_g32 HGL8.out HN40.out))
                  have HS2 := hid (fun (W : World) (hW : Below we2.heap.size we2 W) => same_rows (RE2.out.keep hW) ((HB9.out.rb.keep HAC2.out.bel).keep hW) (beside_g32 (Nat.le_succ_of_le HGYL.out) HN40.out))
                  have HS3 := hid (fun (W : World) (hW : Below we2.heap.size we2 W) => same_rows (RE1.out.keep hW) ((HT9.out.keep HAC2.out.bel).keep hW) (beside_g32 HGL8.out HN40.out))
                  have HBF := hid HAC2.out.dw.bel
                  clear HAB1 HAB2 HAC1 HAC2 HRE1 HRE2 HFI1 HFI2 FRE1 FRE2 OWE1 OWE2 HGK1 HGK2 HFX HFY HRY HR8 RE1 RE2 HT9 HLY9 HB9
                  rw [decide_eq_true (rfl : Gb = Gb)] at HS2
                  clear pyb
                  by_cases h1 : G8 = Ga
                  · rw [decide_eq_true h1] at HS1
                    clear h1
                    go_upto_region 35 with (go_at_call 14; with_reducible refine (HS1.out _ (Below.refl _ _)).mono ?_; rintro e wm1 ⟨rfl, hd_⟩; have BEwm1 := hid (show Below we2.heap.size we2 wm1 from below_drawn hd_); have Pwm1 := HPX.out _ BEwm1.out; have pxwm1 := Pwm1.1; have pywm1 := Pwm1.2; clear hd_ Pwm1)
                    clear pxa
                    go_upto_region 36 with (go_at_call 14; with_reducible refine (HS2.out _ BEwm1.out).mono ?_; rintro e wm2 ⟨rfl, hd_⟩; have BEwm2 := hid (show Below we2.heap.size we2 wm2 from BEwm1.out.trans ((below_drawn hd_).mono BEwm1.out.size)); have Pwm2 := HPX.out _ BEwm2.out; have pxwm2 := Pwm2.1; have pywm2 := Pwm2.2; clear hd_ Pwm2)
                    try clear pxwm1 pywm1
                    try clear pxwm2 pywm2
                    go_wp2
                    go_ret
                    exact ⟨rfl, HBF.out.trans (BEwm2.out.mono HBF.out.size)⟩
                  · rw [decide_eq_false h1] at HS1
                    have keq := fun (W : World) => eql_world W x
                    have h3 := HG8.out.resolve_left h1
                    clear h1
                    rw [decide_eq_true h3] at HS3
                    clear h3
                    go_upto_region 35 with (first | (go_at_call 14; with_reducible refine (HS1.out _ (Below.refl _ _)).mono ?_; rintro e wm1 ⟨rfl, hd_⟩; have BEwm1 := hid (show Below we2.heap.size we2 wm1 from below_drawn hd_); have Pwm1 := HPX.out _ BEwm1.out; have pxwm1 := Pwm1.1; have pywm1 := Pwm1.2; clear hd_ Pwm1) | (go_at_call 14; with_reducible refine (HS3.out _ BEwm1.out).mono ?_; rintro e wm2 ⟨rfl, hd_⟩; have BEwm2 := hid (show Below we2.heap.size we2 wm2 from BEwm1.out.trans ((below_drawn hd_).mono BEwm1.out.size)); have Pwm2 := HPX.out _ BEwm2.out; have pxwm2 := Pwm2.1; have pywm2 := Pwm2.2; clear hd_ Pwm2))
                    try clear pxa
                    try clear pxwm1 pywm1
                    go_upto_region 36 with (go_at_call 14; with_reducible refine (HS2.out _ BEwm2.out).mono ?_; rintro e wm3 ⟨rfl, hd_⟩; have BEwm3 := hid (show Below we2.heap.size we2 wm3 from BEwm2.out.trans ((below_drawn hd_).mono BEwm2.out.size)); have Pwm3 := HPX.out _ BEwm3.out; have pxwm3 := Pwm3.1; have pywm3 := Pwm3.2; clear hd_ Pwm3)
                    try clear pxwm1 pywm1
                    try clear pxwm2 pywm2
                    try clear pxwm3 pywm3
                    go_wp2
                    go_ret
                    exact ⟨rfl, HBF.out.trans (BEwm3.out.mono HBF.out.size)⟩
              | true =>
                rw [show (bif true then y else x) = y from rfl]
                have HBX := hid (HB4.out.swap)
                have HLX := hid HLB4.out
                have HLY := hid HLA4.out
                have HGX := hid HGB4.out
                clear HB4 HLA4 HLB4
                have HBE := hid (behind_calls wc y D.d kb vb (.slice none 0 0) false Gb HBX.out.ox (fun j => j ∉ y :: x :: kb :: ka :: D.own) (fun j hj hm => Nat.lt_irrefl _ (Nat.lt_of_lt_of_le (HBX.out.olt j hm) hj)) HBX.out.ra.1 (beside_g HGX.out HN40.out) q (HOI.out.keep HBX.out.dw.bel))
                have HEZ := hid (fun (W : World) (hW : Below wc.heap.size wc W) => box_cells ((hW.block z (lt_of HZ.out)).trans HZ.out))
                obtain ⟨e0, e1, e2, e3⟩ := HEZ.out wc (Below.refl _ _)
                go_upto_region 27 with (go_at_call 18; refine HBE.out.mono ?_; rintro e wb ⟨v8, rfl, hr8, hb8⟩; obtain ⟨A8, c8, rfl⟩ := Kd.R_slice hr8; have HR8 := hid hr8; have HB8 := hid hb8; clear hr8 hb8)
                clear e0 e1 e2 e3 HBE
                obtain ⟨e0, e1, e2, e3⟩ := HEZ.out wb HB8.out
                have HB7 := hid (HBX.out.new (Fr.of_below HB8.out []))
                have HT7 := hid (show Wr wb (y :: x :: kb :: ka :: D.own) (.slice A8 (nxt q Gb).length c8) (nxt q Gb) from HBX.out.ra.nxt HR8.out)
                have HLY7 := hid (HLY.out.new (Fr.of_below HB8.out []))
                have HLA := hid (lay_calls HB7.out.dw (HLX.out.new (Fr.of_below HB8.out [])) HL.out (beside_m HMB.out HN40.out) (by decide) namedB nAB HB7.out.only inB inB2 vb none 0 [] false HB7.out.ox (fun hm => HB7.out.xoff (skip2 hm)) (fun W _ => ⟨rfl, by simp, fun h => by simp at h⟩) (by decide) q HOI.out (beside_e HB7.out.ra.2.2 HGX.out HN40.out) (R := 5242880) (by decide))
                go_upto_region 28 with (go_at_call 19; refine HLA.out.mono ?_; intro e w9 hl9; obtain ⟨c, D9, rfl, hw9, hd9, hf9, ho9, hly9, hway9⟩ := HB7.out.of_lay HLY7.out hl9 inB inB2 (by decide) (by decide); have HB9 := hid hw9; have HD9 := hid (hd9.trans HD0.out); have HF9 := hid hf9; have HO9 := hid ho9; have HLY9 := hid hly9; have HWY9 := hid hway9; clear hl9 hw9 hd9 hf9 ho9 hly9 hway9)
                clear e0 e1 e2 e3 HLA HEZ HLY7
                have HT9 := hid (HT7.out.to (own' := y :: x :: kb :: ka :: D9.own) HF9.out (fun j hj => List.mem_cons_of_mem _ (List.mem_cons_of_mem _ (skip2 hj))) (own4 HO9.out))
                have HLN := hid (show (nxt q Gb).length ≤ nn + 1 from Nat.le_trans nxt_len (Nat.succ_le_succ HGX.out))
                have hfz := HB9.out.free 2
                have p2 := HB9.out.c2
                rcases HWY9.out with ⟨hc, lw9⟩ | ⟨hc, cu9⟩
                · subst hc
                  have HLX9 := hid lw9
                  clear lw9 HWY9
                  have HS := hid (HB9.out.setg HT9.out)
                  have HLX10 := hid (HLX9.out.fr HS.out.2 (fun hm => HB9.out.xoff (by rw [← List.mem_singleton.1 hm]; exact List.mem_cons_self)))
                  have HLY10 := hid (HLY9.out.fr HS.out.2 (fun hm => HB9.out.xoff (by rw [← List.mem_singleton.1 hm]; simp)))
                  have hjz := beside_j HN40.out
                  go_wp2
                  go_roundg (40 - (nn + 1))
                  case measure => exact beside_me hgn HN40.out
                  case rel => exact ⟨nn + 1, i2, j2, M + 16, D9, va, .slice A8 (nxt q Gb).length c8, Ga, nxt q Gb, HN40.out, Nat.le_refl _, rfl, rfl, (by first | rfl | rw [hjz]), hi2, hj2, hid (beside_m2 HMB.out), HD9, hid HS.out.1.swap, HLY10, HLX10, hid (Nat.le_succ_of_le HGA4.out), HLN⟩
                · subst hc
                  have HCU := hid cu9
                  clear cu9 HWY9 hfz p2 HT7 HB7 HR8 HB8
                  have HCV := hid (HLY9.out.cuts HB9.out.dw.good)
                  have HCR := hid (crash_w HB9.out.dw (beside_c HMB.out HN40.out) (by decide) keep torn)
                  rw [HD9.out] at HCR
                  go_upto_region 32 with (go_at_call 13; refine HCR.out.mono ?_; rintro e w10 ⟨D2, rfl, hb2, dwo, dx2, cr2, low2⟩; obtain ⟨oX, rX, fX⟩ := HCU.out.crash HB9.out.dw.good dx2.good cr2; obtain ⟨oY, rY, fY⟩ := HCV.out.crash HB9.out.dw.good dx2.good cr2; have HAB1 := hid (HB9.out.crashed hb2 dx2 cr2 low2); have HFX := hid fX; have HFY := hid fY; have HRX := hid rX; have HRY := hid rY; clear hb2 dwo dx2 cr2 low2 fX fY rX rY)
                  clear HCR HCU HCV
                  obtain ⟨G8, hG8, hr8⟩ : ∃ G8, (G8 = Gb ∨ G8 = nxt q Gb) ∧ Reads (oX.getD []) G8 := by
                    rcases HRX.out with h | h
                    · exact ⟨_, .inl rfl, h⟩
                    · exact ⟨_, .inr rfl, h⟩
                  have HG8 := hid hG8
                  have HR8 := hid hr8
                  clear hG8 hr8 HRX
                  have HGX8 := hid (show (∀ g ∈ G8, GOk g) ∧ (encs G8).length ≤ G8.length * 7277 from by
                    rcases HG8.out with e | e <;> rw [e]
                    · exact HB9.out.ra.2
                    · exact HT9.out.2)
                  have HGL8 := hid (show G8.length ≤ nn + 1 from by
                    rcases HG8.out with e | e <;> rw [e]
                    · exact Nat.le_succ_of_le HGX.out
                    · exact HLN.out)
                  have HGY8 := hid HB9.out.rb.2
                  have HGYL := hid HGA4.out
                  have HGK1 := hid HGY8.out
                  have HGK2 := hid HGX8.out
                  have HOP1 := hid (open_w HAB1.out.dw HL.out (beside_o HMB.out HN40.out) (by decide) wNameA _ HFY.out HRY.out HGK1.out.1 (beside_gl (Nat.le_succ_of_le HGYL.out) HN40.out))
                  go_upto_region 33 with (go_at_call 10; refine HOP1.out.mono ?_; intro e we1 h9; obtain ⟨De1, ke1, ve1, rfl, dw9, d9, fr9, own9, box9, r9, hk9, lw9⟩ := h9.calm HAB1.out.calm; obtain ⟨hab9, hr9, hf9⟩ := HAB1.out.opened dw9 d9 fr9 own9 box9 r9 HGK1.out.1 HGK1.out.2; obtain ⟨Ae1, ce1, rfl⟩ := Kd.R_slice hr9.1; have HDE1 := hid (d9.d); have HAC1 := hid hab9; have HRE1 := hid hr9; have HFI1 := hid hf9; have FRE1 := hid fr9; have OWE1 := hid own9; clear h9 dw9 d9 fr9 own9 box9 r9 hk9 lw9 hab9 hr9 hf9)
                  clear HOP1
                  have HAB2 := hid HAC1.out
                  have HOP2 := hid (open_w HAC1.out.dw HL.out (beside_o2 HMB.out HN40.out) (by decide) wNameB _ (HFI1.out _ _ HFX.out) HR8.out HGK2.out.1 (beside_gl HGL8.out HN40.out))
                  rw [HDE1.out] at HOP2
                  go_upto_region 34 with (go_at_call 10; refine HOP2.out.mono ?_; intro e we2 h9; obtain ⟨De2, ke2, ve2, rfl, dw9, d9, fr9, own9, box9, r9, hk9, lw9⟩ := h9.calm HAB2.out.calm; obtain ⟨hab9, hr9, hf9⟩ := HAB2.out.opened dw9 d9 fr9 own9 box9 r9 HGK2.out.1 HGK2.out.2; obtain ⟨Ae2, ce2, rfl⟩ := Kd.R_slice hr9.1; have HDE2 := hid (d9.d); have HAC2 := hid hab9; have HRE2 := hid hr9; have HFI2 := hid hf9; have FRE2 := hid fr9; have OWE2 := hid own9; clear h9 dw9 d9 fr9 own9 box9 r9 hk9 lw9 hab9 hr9 hf9)
                  clear HOP2
                  have RE1 := hid (HRE1.out.to (own' := []) FRE2.out (fun j hj => hj) (fun j hj => by simp at hj))
                  have RE2 := HRE2
                  have pxa : we2.cell? ⟨x, 2, none⟩ = some va := (Below.cell HAC2.out.bel (a := ⟨x, 2, none⟩) (lt_of HB9.out.oy)).trans (cell_of HB9.out.oy 2)
                  have pyb : we2.cell? ⟨y, 2, none⟩ = some vb := (Below.cell HAC2.out.bel (a := ⟨y, 2, none⟩) (lt_of HB9.out.ox)).trans (cell_of HB9.out.ox 2)
                  have HPX := hid (fun (W : World) (hW : Below we2.heap.size we2 W) => And.intro ((Below.cell hW (a := ⟨x, 2, none⟩) (Nat.lt_of_lt_of_le (lt_of HB9.out.oy) HAC2.out.bel.size)).trans pxa) ((Below.cell hW (a := ⟨y, 2, none⟩) (Nat.lt_of_lt_of_le (lt_of HB9.out.ox) HAC2.out.bel.size)).trans pyb))
                  have HS1 := hid (fun (W : World) (hW : Below we2.heap.size we2 W) => same_rows (RE1.out.keep hW) ((HB9.out.rb.keep HAC2.out.bel).keep hW) (beside_g32 (Nat.le_succ_of_le HGYL.out) HN40.out))
                  have HS2 := hid (fun (W : World) (hW : Below we2.heap.size we2 W) => same_rows (RE2.out.keep hW) ((HB9.out.ra.keep HAC2.out.bel).keep hW) (beside_g32 HGL8.out HN40.out))
                  have HS3 := hid (fun (W : World) (hW : Below we2.heap.size we2 W) => same_rows (RE2.out.keep hW) ((HT9.out.keep HAC2.out.bel).keep hW) (beside_g32 HGL8.out HN40.out))
                  have HBF := hid HAC2.out.dw.bel
                  clear HAB1 HAB2 HAC1 HAC2 HRE1 HRE2 HFI1 HFI2 FRE1 FRE2 OWE1 OWE2 HGK1 HGK2 HFX HFY HRY HR8 RE1 RE2 HT9 HLY9 HB9
                  rw [decide_eq_true (rfl : Ga = Ga)] at HS1
                  clear pyb
                  by_cases h1 : G8 = Gb
                  · rw [decide_eq_true h1] at HS2
                    clear h1
                    go_upto_region 35 with (go_at_call 14; with_reducible refine (HS1.out _ (Below.refl _ _)).mono ?_; rintro e wm1 ⟨rfl, hd_⟩; have BEwm1 := hid (show Below we2.heap.size we2 wm1 from below_drawn hd_); have Pwm1 := HPX.out _ BEwm1.out; have pxwm1 := Pwm1.1; have pywm1 := Pwm1.2; clear hd_ Pwm1)
                    clear pxa
                    go_upto_region 36 with (go_at_call 14; with_reducible refine (HS2.out _ BEwm1.out).mono ?_; rintro e wm2 ⟨rfl, hd_⟩; have BEwm2 := hid (show Below we2.heap.size we2 wm2 from BEwm1.out.trans ((below_drawn hd_).mono BEwm1.out.size)); have Pwm2 := HPX.out _ BEwm2.out; have pxwm2 := Pwm2.1; have pywm2 := Pwm2.2; clear hd_ Pwm2)
                    try clear pxwm1 pywm1
                    try clear pxwm2 pywm2
                    go_wp2
                    go_ret
                    exact ⟨rfl, HBF.out.trans (BEwm2.out.mono HBF.out.size)⟩
                  · rw [decide_eq_false h1] at HS2
                    have keq := fun (W : World) => eql_world W y
                    have h3 := HG8.out.resolve_left h1
                    clear h1
                    rw [decide_eq_true h3] at HS3
                    clear h3
                    go_upto_region 35 with (go_at_call 14; with_reducible refine (HS1.out _ (Below.refl _ _)).mono ?_; rintro e wm1 ⟨rfl, hd_⟩; have BEwm1 := hid (show Below we2.heap.size we2 wm1 from below_drawn hd_); have Pwm1 := HPX.out _ BEwm1.out; have pxwm1 := Pwm1.1; have pywm1 := Pwm1.2; clear hd_ Pwm1)
                    clear pxa
                    go_upto_region 36 with (first | (go_at_call 14; with_reducible refine (HS2.out _ BEwm1.out).mono ?_; rintro e wm2 ⟨rfl, hd_⟩; have BEwm2 := hid (show Below we2.heap.size we2 wm2 from BEwm1.out.trans ((below_drawn hd_).mono BEwm1.out.size)); have Pwm2 := HPX.out _ BEwm2.out; have pxwm2 := Pwm2.1; have pywm2 := Pwm2.2; clear hd_ Pwm2) | (go_at_call 14; with_reducible refine (HS3.out _ BEwm2.out).mono ?_; rintro e wm3 ⟨rfl, hd_⟩; have BEwm3 := hid (show Below we2.heap.size we2 wm3 from BEwm2.out.trans ((below_drawn hd_).mono BEwm2.out.size)); have Pwm3 := HPX.out _ BEwm3.out; have pxwm3 := Pwm3.1; have pywm3 := Pwm3.2; clear hd_ Pwm3))
                    try clear pxwm1 pywm1
                    try clear pxwm2 pywm2
                    try clear pxwm3 pywm3
                    go_wp2
                    go_ret
                    exact ⟨rfl, HBF.out.trans (BEwm3.out.mono HBF.out.size)⟩
        · have h40z : ¬ (nn : Int) < 40 := by omega
          go_wp2
          go_meet
          case rel => exact ⟨M, D, va, vb, Ga, Gb, hid (Nat.le_trans HMB.out (by omega)), HD0, HB3, HLA3, HLB3, hid (Nat.le_trans HGA4.out hnn), hid (Nat.le_trans HGB4.out hnn)⟩
      · have hn3z : ¬ (nn : Int) < (n3 : Int) := fun h => hn3 (Int.ofNat_lt.1 h)
        go_wp2
        go_meet
        case rel => exact ⟨M, D, va, vb, Ga, Gb, hid (Nat.le_trans HMB.out (by omega)), HD0, HB3, HLA3, HLB3, hid (Nat.le_trans HGA4.out hnn), hid (Nat.le_trans HGB4.out hnn)⟩
  case rest =>
    obtain ⟨M, D, va, vb, Ga, Gb, HMB, HD0, HB3, HLA3, HLB3, HGA, HGB⟩ := hcut
    clear HB6 LA6 LB6 HD1
    have HCT := hid (show Calls Tryd.prog 16 #[P d0, .int .i64 (-1)] wc fun e w' => e = .returned (.tuple #[]) ∧ DkAt w' { D with cut := -1, off := false } ∧ Fr [D.d] wc w' from by rw [← HD0.out]; exact cut_calls HB3.out.dw.at_ (-1))
    go_upto_region 39 with (go_at_call 16; refine HCT.out.mono ?_; rintro e w7 ⟨rfl, hd7, hf7⟩; have hfb : Fr [D.d] wc w7 := hf7; have HB7 := hid (HB3.out.power hfb hd7); have LA7 := hid (HLA3.out.power hfb (-1) false); have LB7 := hid (HLB3.out.power hfb (-1) false); clear hd7 hf7 hfb)
    clear HCT HB3 HLA3 HLB3
    obtain ⟨D9, hD9⟩ : ∃ D9 : Dk, D9 = { D with cut := -1, off := false } := ⟨_, rfl⟩
    have HD9 := hid (show D9.d = d0 by rw [hD9]; exact HD0.out)
    rw [← hD9] at HB7 LA7 LB7
    clear hD9 HD0
    have HCU := hid (LA7.out.cuts HB7.out.dw.good)
    have HCV := hid (LB7.out.cuts HB7.out.dw.good)
    have HCR := hid (crash_w HB7.out.dw (besides_c HMB.out) (by decide) keep torn)
    rw [HD9.out] at HCR
    go_upto_region 40 with (go_at_call 13; refine HCR.out.mono ?_; rintro e w10 ⟨D2, rfl, hb2, dwo, dx2, cr2, low2⟩; obtain ⟨oX, rX, fX⟩ := HCU.out.crash HB7.out.dw.good dx2.good cr2; obtain ⟨oY, rY, fY⟩ := HCV.out.crash HB7.out.dw.good dx2.good cr2; have HAB1 := hid (HB7.out.crashed hb2 dx2 cr2 low2); have HFX := hid fX; have HFY := hid fY; have HRX := hid rX; have HRY := hid rY; clear hb2 dwo dx2 cr2 low2 fX fY rX rY)
    clear HCR HCU HCV LA7 LB7
    have HGK1 := hid HB7.out.ra.2
    have HGK2 := hid HB7.out.rb.2
    have HOP1 := hid (open_w HAB1.out.dw HL.out (besides_o HMB.out) (by decide) wNameA _ HFX.out HRX.out HGK1.out.1 (besides_gl HGA.out))
    go_upto_region 41 with (go_at_call 10; refine HOP1.out.mono ?_; intro e we1 h9; obtain ⟨De1, ke1, ve1, rfl, dw9, d9, fr9, own9, box9, r9, hk9, lw9⟩ := h9.calm HAB1.out.calm; obtain ⟨hab9, hr9, hf9⟩ := HAB1.out.opened dw9 d9 fr9 own9 box9 r9 HGK1.out.1 HGK1.out.2; obtain ⟨Ae1, ce1, rfl⟩ := Kd.R_slice hr9.1; have HDE1 := hid (d9.d); have HAC1 := hid hab9; have HRE1 := hid hr9; have HFI1 := hid hf9; have FRE1 := hid fr9; have OWE1 := hid own9; clear h9 dw9 d9 fr9 own9 box9 r9 hk9 lw9 hab9 hr9 hf9)
    clear HOP1
    have HAB2 := hid HAC1.out
    have HOP2 := hid (open_w HAC1.out.dw HL.out (besides_o2 HMB.out) (by decide) wNameB _ (HFI1.out _ _ HFY.out) HRY.out HGK2.out.1 (besides_gl HGB.out))
    rw [HDE1.out] at HOP2
    go_upto_region 42 with (go_at_call 10; refine HOP2.out.mono ?_; intro e we2 h9; obtain ⟨De2, ke2, ve2, rfl, dw9, d9, fr9, own9, box9, r9, hk9, lw9⟩ := h9.calm HAB2.out.calm; obtain ⟨hab9, hr9, hf9⟩ := HAB2.out.opened dw9 d9 fr9 own9 box9 r9 HGK2.out.1 HGK2.out.2; obtain ⟨Ae2, ce2, rfl⟩ := Kd.R_slice hr9.1; have HDE2 := hid (d9.d); have HAC2 := hid hab9; have HRE2 := hid hr9; have HFI2 := hid hf9; have FRE2 := hid fr9; have OWE2 := hid own9; clear h9 dw9 d9 fr9 own9 box9 r9 hk9 lw9 hab9 hr9 hf9)
    clear HOP2
    have RE1 := hid (HRE1.out.to (own' := []) FRE2.out (fun j hj => hj) (fun j hj => by simp at hj))
    have RE2 := HRE2
    have pxa : we2.cell? ⟨x, 2, none⟩ = some va := (Below.cell HAC2.out.bel (a := ⟨x, 2, none⟩) (lt_of HB7.out.ox)).trans (cell_of HB7.out.ox 2)
    have pyb : we2.cell? ⟨y, 2, none⟩ = some vb := (Below.cell HAC2.out.bel (a := ⟨y, 2, none⟩) (lt_of HB7.out.oy)).trans (cell_of HB7.out.oy 2)
    have HPX := hid (fun (W : World) (hW : Below we2.heap.size we2 W) => (Below.cell hW (a := ⟨y, 2, none⟩) (Nat.lt_of_lt_of_le (lt_of HB7.out.oy) HAC2.out.bel.size)).trans pyb)
    have HS1 := hid (same_rows RE1.out (HB7.out.ra.keep HAC2.out.bel) (besides_g32 HGA.out))
    have HS2 := hid (fun (W : World) (hW : Below we2.heap.size we2 W) => same_rows (RE2.out.keep hW) ((HB7.out.rb.keep HAC2.out.bel).keep hW) (besides_g32 HGB.out))
    rw [decide_eq_true (rfl : Ga = Ga)] at HS1
    rw [decide_eq_true (rfl : Gb = Gb)] at HS2
    have HBF := hid HAC2.out.dw.bel
    clear HAB1 HAB2 HAC1 HAC2 HRE1 HRE2 HFI1 HFI2 FRE1 FRE2 OWE1 OWE2 HGK1 HGK2 HFX HFY HRX HRY RE1 RE2 HB7 pyb
    go_wp2_with (first
      | (go_at_call 14; with_reducible refine HS1.out.mono ?_; rintro e wm1 ⟨rfl, hd_⟩; have BE1 := hid (below_drawn hd_); have py1 := HPX.out _ BE1.out; clear hd_ pxa)
      | (go_at_call 14; with_reducible refine (HS2.out _ BE1.out).mono ?_; rintro e wm2 ⟨rfl, hd_⟩; have BE2 := hid (show Below we2.heap.size we2 wm2 from BE1.out.trans ((below_drawn hd_).mono BE1.out.size)); clear hd_ py1))
    go_ret
    exact ⟨rfl, HBF.out.trans (BE2.out.mono HBF.out.size)⟩
end Go.Proofs.YthlmbgaipbjbhaaDoor.L
