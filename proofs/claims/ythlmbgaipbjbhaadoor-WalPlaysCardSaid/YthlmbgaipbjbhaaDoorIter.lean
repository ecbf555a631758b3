/- Append, done. slices.Sorted(maps.Keys(m)) and maps.Clone at this dump: the shelf's contracts, laid (the lays written by wip/tools/layg.py, the rest by the kit's lay-iter.mjs, remarks struck). -/
import Derived.Test.YthlmbgaipbjbhaaDoorApp
import Derived.Shelf.SlIter.Nil
import Derived.Shelf.SortM.Plain
import Derived.Shelf.SortM.SortNone
import Derived.Shelf.SlMaps.Clone
import Derived.Test.YthlmbgaipbjbhaaDoorProg
section
namespace Go.Proofs.YthlmbgaipbjbhaaDoor.L
open Go.RowKit Go.Lib Go.Maps
open Go.Proofs.YthlmbgaipbjbhaaDoorW.PrintWords Go.Proofs.YthlmbgaipbjbhaaDoorW.PrintLast Go.Proofs.YthlmbgaipbjbhaaDoorW.PrintMore
section
variable {w w' : World} {D : Dk}
theorem fl_row_ne (h : DkAt w D) {f : Fl} (hf : f ∈ D.fs) : f.row.ownBlock ≠ some f.blk := by
  intro e
  obtain ⟨l1, l2, hl⟩ := List.append_of_mem hf
  have hn := h.nodup
  simp only [Dk.own, List.nodup_cons] at hn
  have h3 := (List.nodup_append.1 hn.2.2.2.2).2.1
  rw [hl, List.flatMap_append, List.flatMap_cons, List.nodup_append] at h3
  have h4 := (List.nodup_append.1 h3.2.1).1
  unfold Fl.own at h4
  rw [e] at h4
  simp at h4
theorem Goes.row {w5 : World} (h : DkAt w D) {f : Fl} (hf : f ∈ D.fs) {v5 : Value} {b5 : List Int} (hr : Kd.R kB 5 w5 0 (fun _ => True) v5 b5) (hg : Fr f.row.ownBlock.toList w w5) (hat : v5.ownBlock = f.row.ownBlock ∨ v5.ownBlock = none ∨ ∃ b, v5.ownBlock = some b ∧ w.heap.size ≤ b) :
    Goes w (w5.setCell ⟨f.blk, 0, none⟩ v5) D (D.setF ⟨f.blk, v5, b5, f.sure⟩) := by
  have hfa := h.files f hf
  have hne := fl_row_ne h hf
  have hcell : w5.heap[f.blk]? = some (.cells #[f.row, .int .i64 f.sure] 92 (0, 0)) := (hg.keep _ (lt_of hfa.cell) (fun hm => hne (by simpa using hm))).trans hfa.cell
  have hv5 : ∀ k, v5.ownBlock = some k → k ≠ f.blk := fun k hk e => by
    rcases hat with hat | hat | ⟨b, hat, hb⟩
    · exact hne (by rw [← hat, hk, e])
    · rw [hat] at hk; cases hk
    · rw [hat] at hk
      injection hk with hk
      have := lt_of hfa.cell
      omega
  refine Goes.file h hf rfl ⟨by rw [heap_set hcell]; rfl, ?_⟩ ?_ hat
  · obtain ⟨_, inner, ho, hrr⟩ := hr
    have h0 : Kd.R kB 5 w5 0 (fun k => v5.ownBlock = some k) v5 b5 := ⟨fun k hk => hk, inner, ho, hrr.imp_ (fun _ _ hp => hp)⟩
    exact Kd.R_step h0 (fun k hk _ => Below.heap_setCell w5 _ _ k (hv5 k hk))
  · exact (hg.wider (fun k hk => .inl (List.mem_cons_of_mem _ hk))).trans (Fr.set w5 ⟨f.blk, 0, none⟩ v5 (List.mem_singleton.2 rfl) : Fr [f.blk] _ _) (fun k hk => .inl (by rw [List.mem_singleton.1 hk]; exact List.mem_cons_self))
theorem Mid.in_ {s : ByteArray} {D3 : Dk} {f : Fl} (h : Mid D s D3 f) : D3.dir s = some f.blk ∧ f ∈ D3.fs ∧ D3.d = D.d := by
  rcases h with ⟨h1, h2, rfl⟩ | ⟨h1, h2, _, b1, b2, v1, rfl⟩
  · exact ⟨h1, h2, rfl⟩
  · exact ⟨if_pos rfl, List.mem_append_right _ (List.mem_singleton.2 rfl), rfl⟩
set_option maxHeartbeats 16000000 in
set_option maxRecDepth 100000 in
theorem append_ok (h : DkAt w D) (hd : D.dead = false) (h0 : 0 ≤ D.ops) (h1 : D.ops < 4611686018427387904) (hn : D.n < maxLen) (hll : D.loose.length < 4294967290) (s : ByteArray) (A : Option Addr) (l : List Int) (c : Nat) (hl : l.length < 140737488355327) (hC : ∀ W, Fr D.own w W → Kd.C kB W A l.length l)
    (es : List (ByteArray × Nat)) (hes : Lists D.dir es) (hin : ∀ p ∈ es, ∃ f ∈ D.fs, f.blk = p.2) (hsum : total D.len es < 4611686018427387904) (hok : appE D s (total D.len es) l.length = 0) (hbig : ∀ f ∈ D.fs, f.b.length + l.length ≤ 140737488355327) (hif : ∀ fb, D.dir s = some fb → ∃ f ∈ D.fs, f.blk = fb) :
    Calls Tryd.prog 49 #[P D.d, .string s, .slice A l.length c] w fun e w' => e = .returned (.int .i64 0) ∧ ∃ D3 f, Mid D s D3 f ∧ (l = [] → Goes w w' D D3) ∧ (l ≠ [] → ∃ row lv, Goes w w' D (D3.grown f row lv l)) := by
  have HS := hid (starts_box h hd h0 h1 false s)
  have HU := hid (fun (W : World) (g : Goes w W D D.count) => (show Calls Tryd.prog 64 #[P D.d] W fun e w' => e = .returned (.int .i64 (total D.len es)) ∧ Below W.heap.size W w' from used_is g.at_ es hes hin hsum))
  have HH := hid h
  have hE : startE D false [s] = (false, 0) ∧ ¬ (0 < l.length ∧ D.room < (total D.len es : Int) + (l.length : Int)) := by
    unfold appE at hok
    cases hx : startE D false [s] with
    | mk a b =>
      rw [hx] at hok
      simp only at hok
      split at hok
      · rename_i hb
        split at hok
        · cases hok
        · rename_i hr
          split at hok
          · cases hok
          · rename_i ha
            exact ⟨by rw [hb]; cases a; rfl; exact absurd rfl ha, hr⟩
      · rename_i hb
        exact absurd hok hb
  have HNM := hid (name_short (startE_name hE.1).1)
  have hroom := hE.2
  rw [hE.1] at HS
  have HCC := hid hC
  have HIF := hid hif
  have HBG := hid hbig
  clear h hE hC hif hbig hok
  go_enter Tryd.func49, Tryd.ntmps49
  go_upto_region 4 with (go_at_call 44; refine HS.out.mono ?_; rintro e w1 ⟨rfl, g1, hbx, hsz⟩; have G1 := hid g1; have BX := hid hbx; have c3 : w1.cell? ⟨D.d, 3, none⟩ = some (.int .i64 D.room) := g1.at_.c3; clear g1 hbx)
  go_cut [22] (fun v22 wc => v22 = .bool false ∧ Hid (Goes w wc D D.count) ∧ Hid (wc.heap[w.heap.size]? = some (.cells #[.string s] 9 (0, 0))) ∧ Hid (w.heap.size < wc.heap.size))
  case first =>
    by_cases hpos : 0 < l.length
    · have hposz : (0 : Int) < (l.length : Int) := by omega
      have hz : wrap64 ((total D.len es : Int) + (l.length : Int)) = (total D.len es : Int) + (l.length : Int) := by unfold wrap64; omega
      have hz2 : IntKind.i64.wrap ((total D.len es : Int) + (l.length : Int)) = (total D.len es : Int) + (l.length : Int) := by rw [IntKind.wrap_i64]; omega
      have hfull : ¬ D.room < (total D.len es : Int) + (l.length : Int) := fun e => hroom ⟨hpos, e⟩
      go_region_held3 (fun w_ => w_.cell? ⟨D.d, 3, none⟩ = some (.int .i64 D.room)) (go_keep) (first | (go_at_call 64; refine (HU.out _ (G1.out.on (Fr.refl [] w1).drew)).mono ?_; rintro e w2 ⟨rfl, hb⟩; have G2 := hid ((G1.out.on (Fr.refl [] w1).drew).on (Fr.of_below hb [])); have B2 := hid ((hb.block w.heap.size hsz).trans BX.out); have Z2 := hid (Nat.lt_of_lt_of_le hsz hb.size); have c32 : w2.cell? ⟨D.d, 3, none⟩ = some (.int .i64 D.room) := G2.out.at_.c3; clear hb))
      go_wp2
      go_meet
      case rel => exact ⟨by rw [decide_eq_false (Int.not_lt.2 hfull)], G2, B2, Z2⟩
    · have hposz : ¬ (0 : Int) < (l.length : Int) := by omega
      go_quiet (fail)
      go_wp2
      go_meet
      case rel => exact ⟨rfl, hid (G1.out.on (Fr.of_drawn ⟨_, rfl⟩)), BX, hid hsz⟩
  case rest =>
    obtain ⟨hv, GC, BC, ZC⟩ := hcut
    obtain rfl : u22 = .bool false := hv
    clear G1 BX c3 hsz HS HU hroom
    have HSM := hid (show s.size ≤ maxLen from by have := HNM.out; unfold maxLen; omega)
    go_upto_region 8 with fail
    go_cut [46] (fun v46 wd => v46 = .bool (D.dir s).isNone ∧ Hid (Goes w wd D D.count) ∧ Hid (wd.heap[w.heap.size]? = some (.cells #[.string s] 9 (0, 0))) ∧ Hid (w.heap.size < wd.heap.size))
    case first =>
      have c0 : wc.cell? ⟨D.d, 0, none⟩ = some (.map (some D.dm)) := GC.out.at_.c0
      have x4 : wc.cell? ⟨w.heap.size, 0, none⟩ = some (.string s) := (cell_of BC.out 0).trans rfl
      have hlk := hid (fun nq => (GC.out.at_.dirM.keep (w' := wc.drewN nq) rfl).look HSM.out)
      cases hdir : D.dir s with
      | none =>
        have el : ∀ nq, (Instr.lookup 66 (.map (some D.dm)) (.string s) false).run Tryd.prog (wc.drewN nq) = .ok (.pointer none) (wc.drewN nq) := fun nq => by have := hlk.out nq; rw [show (D.count).dir s = none from hdir] at this; exact this
        have HDR := hid hdir
        clear hdir
        go_quiet (fail)
        go_wp2
        go_meet
        case rel => exact ⟨by rw [HDR.out]; rfl, hid (GC.out.on (Fr.of_drawn ⟨_, rfl⟩)), BC, ZC⟩
      | some fb =>
        have el : ∀ nq, (Instr.lookup 66 (.map (some D.dm)) (.string s) false).run Tryd.prog (wc.drewN nq) = .ok (P fb) (wc.drewN nq) := fun nq => by have := hlk.out nq; rw [show (D.count).dir s = some fb from hdir] at this; exact this
        have HDR := hid hdir
        clear hdir
        go_quiet (fail)
        go_wp2
        go_meet
        case rel => exact ⟨by rw [HDR.out]; rfl, hid (GC.out.on (Fr.of_drawn ⟨_, rfl⟩)), BC, ZC⟩
    case rest =>
      obtain ⟨hv46, GD, BD, ZD⟩ := hcut
      clear GC BC ZC
      go_upto_if 46 with fail
      go_cut [9] (fun v9 we => ∃ (D3 : Dk) (f : Fl), Hid (Goes w we D D3) ∧ Hid (Mid D s D3 f) ∧ Hid (we.heap[w.heap.size]? = some (.cells #[.string s] 9 (0, 0))) ∧ Hid (f.b.length + l.length ≤ 140737488355327 ∧ D3.loose.length < 4294967292))
      case first =>
        cases hdir : D.dir s with
        | some fb =>
          rw [hdir] at hv46
          obtain rfl : u46 = .bool false := hv46
          obtain ⟨f, hf, rfl⟩ := HIF.out fb hdir
          have HM := hid (show Mid D s D.count f from .inl ⟨hdir, hf, rfl⟩)
          have HB2 := hid (HBG.out f hf)
          clear hdir hf
          go_wp2
          go_meet
          case rel => exact ⟨D.count, f, GD, HM, BD, hid ⟨HB2.out, by show D.loose.length < _; omega⟩⟩
        | none =>
          rw [hdir] at hv46
          obtain rfl : u46 = .bool true := hv46
          have HDN := hid hdir
          clear hdir
          have HT := hid (show let F := wc.heap.size; let W := (wc.alloc (.cells #[.slice none 0 0, .int .i64 0] 92)).alloc (.cells #[P F] 86); let f : Fl := ⟨F, .slice none 0 0, [], 0⟩; Goes w W D (D.count.addF f) ∧ BoxIs W (.make s F (F + 1) w.heap.size) ∧ (∀ k ∈ bxs (.make s F (F + 1) w.heap.size), k ∉ (D.count.addF f).own ∧ k ∉ (D.count.addF f).boxes) from by
            intro F W f
            have hFv : F = wc.heap.size := rfl
            have hF : W.heap[F]? = some (.cells #[.slice none 0 0, .int .i64 0] 92 (0, 0)) := (Below.heap_alloc _ _ _ (by simp only [World.size_alloc]; exact Nat.lt_succ_self _)).trans (MapKept.heap_alloc wc _).1
            have hB := (MapKept.heap_alloc (wc.alloc (.cells #[.slice none 0 0, .int .i64 0] 92)) (.cells #[P F] 86)).1
            rw [World.size_alloc] at hB
            have hfr : Fr [] wc W := (Fr.alloc [] wc _).trans (Fr.alloc [] _ _) (fun _ hk => .inl hk)
            have hz := ZD.out
            have hdo : ∀ k, k ∈ D.own ∨ k ∈ D.boxes → k < w.heap.size := fun k hk => hk.elim (fun e => HH.out.lt k e) (fun e => HH.out.blt k e)
            refine ⟨GD.out.trans (Goes.add GD.out.at_ hfr (f := f) ⟨hF, Kd.R_nil _ _ _ _ _⟩ (Nat.le_refl _) rfl), ⟨hB, (hfr.keep _ hz (by simp)).trans BD.out, HNM.out⟩, fun k hk => ?_⟩
            have hk2 : k = F + 1 ∨ k = w.heap.size := by simpa [bxs] using hk
            have ho : (D.count.addF f).own = D.own ++ [F] := by simp [Dk.addF, Dk.own, Dk.count, Fl.own, f, Value.ownBlock]
            refine ⟨fun hm => ?_, fun hm => ?_⟩
            · rw [ho] at hm
              rcases List.mem_append.1 hm with hm | hm
              · have := hdo k (.inl hm)
                rcases hk2 with e | e <;> omega
              · have := List.mem_singleton.1 hm
                rcases hk2 with e | e <;> omega
            · have := hdo k (.inr hm)
              rcases hk2 with e | e <;> omega)
          go_wp2_with (go_at_call 65; refine (turn_make HT.out.1.at_ s wc.heap.size (wc.heap.size + 1) w.heap.size HT.out.2.1 HT.out.2.2 hn (by show D.loose.length < _; omega)).mono ?_; rintro e w4 ⟨rfl, v1, h4, f4, o4⟩; have G4 := hid (Goes.acted HT.out.1 h4 f4 o4 (boxes_snoc (D := D.count.addF ⟨wc.heap.size, .slice none 0 0, [], 0⟩) (l := D.loose) rfl rfl (fun k hk => (by have hz := ZD.out; simp [bxs] at hk; omega)))); have B4 := hid ((f4.keep w.heap.size (by have hz := ZD.out; simp; omega) (HT.out.2.2 w.heap.size (by simp [bxs])).1).trans HT.out.2.1.2.1); clear h4 f4 o4)
          go_meet
          case rel =>
            refine ⟨_, ⟨wc.heap.size, .slice none 0 0, [], 0⟩, G4, hid (.inr ⟨HDN.out, rfl, fun g hg e => ?_, _, _, _, rfl⟩), B4, hid ⟨by show 0 + l.length ≤ _; omega, by show (D.loose ++ [_]).length < _; rw [List.length_append, List.length_singleton]; omega⟩⟩
            have h1 := HH.out.lt g.blk (by
              simp only [Dk.own, List.mem_cons, List.mem_append, List.mem_flatMap]
              exact .inr (.inr (.inr (.inr (.inr ⟨g, hg, List.mem_cons_self⟩)))))
            have h2 := ZD.out
            simp only at e
            omega
      case rest =>
        clear GD BD ZD HIF HBG hv46 hes hin hsum
        obtain ⟨D3, f, GE, HM, BE, HL⟩ := hcut
        by_cases hl0 : l.length = 0
        · have hpos : ¬ (0 : Int) < (l.length : Int) := by omega
          have HZ := hid (List.eq_nil_of_length_eq_zero hl0)
          clear hl0
          go_wp2
          go_ret
          exact ⟨rfl, D3, f, HM.out, fun _ => GE.out, fun h => absurd HZ.out h⟩
        · have hpos : (0 : Int) < (l.length : Int) := by omega
          have hne := hid (show l ≠ [] from fun e => hl0 (by rw [e]; rfl))
          clear hl0
          go_upto_region 12 with fail
          go_cut [10] (fun v10 wc => v10 = P f.blk ∧ Hid (Goes w wc D D3))
          case first =>
            have c0 : wc.cell? ⟨D.d, 0, none⟩ = some (.map (some D3.dm)) := by rw [← HM.out.in_.2.2]; exact GE.out.at_.c0
            have x4 : wc.cell? ⟨w.heap.size, 0, none⟩ = some (.string s) := (cell_of BE.out 0).trans rfl
            have el : ∀ nq, (Instr.lookup 66 (.map (some D3.dm)) (.string s) false).run Tryd.prog (wc.drewN nq) = .ok (P f.blk) (wc.drewN nq) := fun nq => by
              have := (GE.out.at_.dirM.keep (w' := wc.drewN nq) rfl).look HSM.out
              rw [HM.out.in_.1] at this
              exact this
            go_wp2
            go_quiet (fail)
            go_wp2
            go_meet
            case rel => exact ⟨rfl, hid (GE.out.on (Fr.of_drawn ⟨_, rfl⟩))⟩
          case rest =>
            obtain ⟨hv10, GF⟩ := hcut
            obtain rfl : u10 = P f.blk := hv10
            clear GE BE
            have hfin := HM.out.in_.2.1
            have FA := hid (GF.out.at_.files f hfin)
            obtain ⟨A2, c2, hrow⟩ := Kd.R_slice FA.out.bytes
            have k0 : wc.cell? ⟨f.blk, 0, none⟩ = some (.slice A2 f.b.length c2) := by rw [← hrow]; exact FA.out.c0
            obtain ⟨A7, c7, hlv⟩ := Kd.R_slice GF.out.at_.row
            have HROW := hid hrow
            have HLV := hid hlv
            have HFI := hid hfin
            have HL1 := hid HL.out.1
            have hll3 := HL.out.2
            have hfl := HL.out.1
            have HDD := hid HM.out.in_.2.2
            clear hrow hlv hfin HL
            go_upto_region 14 with ((with_reducible refine gate_builtin (b := .append) (xs := #[.tmp 65, .tmp 66]) rfl ?_); at_builtin; refine Kd.R_append_rows kB (w0 := wc) 0 rfl (.tmp 65) (.tmp 66) 33 5 (.int .u8 0) 1 rfl Tryd.underlying33 info5 rfl (by decide) (by omega) (.slice A2 f.b.length c2) f.b l _ _ _ (fun _ => True) (fun _ => False) rfl rfl ?aO ?aR (fun _ _ h => h) (fun _ h => h.elim) (fun _ _ => trivial) ?aB ?aS ?aL ?_; (case aO => exact (by have := Kd.R_mono (ok' := fun _ => True) FA.out.bytes (fun _ _ => trivial); rw [HROW.out] at this; exact this)); (case aR => exact HCC.out wc GF.out.fr); (case aB => exact Below.refl 0 wc); (case aS => exact Nat.zero_le _); (case aL => omega); intro v5 w5 hr5 hb5 hg5 hat5; have G5 := hid (GF.out.trans (Goes.row GF.out.at_ HFI.out hr5 (by rw [HROW.out]; exact Fr.grown hg5) (by rw [HROW.out]; exact hat5.imp id .inr))); have hfc := ((Fr.grown hg5).keep f.blk (lt_of FA.out.cell) (by rw [← HROW.out]; intro hm; exact fl_row_ne GF.out.at_ HFI.out (by simpa using hm))).trans FA.out.cell; have k5 : w5.cell? ⟨f.blk, 0, none⟩ = some (.slice A2 f.b.length c2) := (by rw [cell_of hfc 0, ← HROW.out]; rfl); have f5 := free_of hfc 0; have e2 : (w5.setCell ⟨f.blk, 0, none⟩ v5).cell? ⟨D.d, 2, none⟩ = some (.slice A7 D3.loose.length c7) := (by have := G5.out.at_.c2; rw [show (D3.setF ⟨f.blk, v5, f.b ++ l, f.sure⟩).lv = D3.lv from rfl, HLV.out, show (D3.setF ⟨f.blk, v5, f.b ++ l, f.sure⟩).d = D.d from HDD.out] at this; exact this); obtain ⟨A9, c9, hv9⟩ := Kd.R_slice hr5; rw [List.length_append] at hv9; subst hv9; clear hfc hr5 hb5 hg5 hat5)
            generalize w5.setCell ⟨f.blk, 0, none⟩ (.slice A9 (f.b.length + l.length) c9) = W5 at G5 e2 ⊢
            clear k5 f5
            go_wp2_with ((with_reducible refine gate_builtin (b := .append) (xs := #[.tmp 74, .tmp 79]) rfl ?_); at_builtin; refine Kd.R_append kAc (w0 := W5) 0 rfl (.tmp 74) (.tmp 79) 68 89 (.agg #[.pointer none, .int .i64 0, .nilFunc]) 24 rfl Tryd.underlying68 info89 rfl (by decide) (by omega) (.slice A7 D3.loose.length c7) D3.loose (.grow f.blk l.length) [P f.blk, .int .i64 l.length, .nilFunc] (fun _ => True) (fun _ => False) rfl rfl ?aP (fun _ hk => hk.elim) (fun _ _ => trivial) ?aO ?aB ?aS ?aL ?_; (case aP => exact rfl); (case aO => exact (by have := Kd.R_mono (ok' := fun _ => True) G5.out.at_.row (fun _ _ => trivial); rw [show (D3.setF ⟨f.blk, .slice A9 (f.b.length + l.length) c9, f.b ++ l, f.sure⟩).lv = D3.lv from rfl, HLV.out] at this; exact this)); (case aB => exact Below.refl 0 _); (case aS => exact Nat.zero_le _); (case aL => omega); intro v6 w6 ho6 hb6 hg6 hat6; have L6 := hid (acted G5.out (a := .grow f.blk l.length) trivial (fun k hk => by simp [bxs] at hk) ho6 (by rw [show (D3.setF ⟨f.blk, .slice A9 (f.b.length + l.length) c9, f.b ++ l, f.sure⟩).lv = D3.lv from rfl, HLV.out]; exact Fr.grown hg6) (by rw [show (D3.setF ⟨f.blk, .slice A9 (f.b.length + l.length) c9, f.b ++ l, f.sure⟩).lv = D3.lv from rfl, HLV.out]; exact hat6)); have hd1 : w6.heap[D3.d]? = W5.heap[D3.d]? := (Fr.grown hg6).keep D3.d G5.out.at_.d_lt (by rw [← HLV.out]; intro hm; exact ((Dk.ne GF.out.at_).2.1 D3.d (by simpa using hm)).1 rfl); have hd2 := hd1.trans G5.out.at_.cell; have d2 : w6.cell? ⟨D.d, 2, none⟩ = some (.slice A7 D3.loose.length c7) := (by rw [← HDD.out, cell_of hd2 2, ← HLV.out]; rfl); have f2 : w6.frozen? ⟨D.d, 2, none⟩ = false := (by rw [← HDD.out]; exact free_of hd2 2); obtain ⟨B9, d9, hv9⟩ := Kd.R_slice ho6; rw [List.length_append, List.length_singleton] at hv9; subst hv9; clear hd1 hd2 ho6 hb6 hg6 hat6)
            go_ret
            refine ⟨rfl, D3, f, HM.out, fun h => absurd h hne.out, fun _ => ⟨.slice A9 (f.b.length + l.length) c9, .slice B9 (D3.loose.length + 1) d9, ?_⟩⟩
            rw [show D.d = D3.d from HDD.out.symm]
            exact ⟨L6.out.1, L6.out.2.1, L6.out.2.2, fun k hk => (boxes_snoc (D := D3) (l := D3.loose) (a := .grow f.blk l.length) (S := w.heap.size) rfl rfl (fun k hk => by simp [bxs] at hk) k hk).elim (fun e => GF.out.box k e) .inr⟩
end
end Go.Proofs.YthlmbgaipbjbhaaDoor.L
end
section
namespace Go.Proofs
open Go.RowKit Go.Maps Go.Sort Go.Shelf
def Tryd.keys43_ren : Go.Shelf.Ren := ⟨fun | 7 => 43 | 10 => 61 | n => n, fun | 23 => 66 | 26 => 9 | 3 => 86 | 28 => 97 | 0 => 0 | 27 => 96 | 33 => 71 | 4 => 4 | n => n, fun | n => n⟩
theorem Tryd.keys43 : Go.Proofs.SlLaysZ.n7 Tryd.prog Tryd.keys43_ren := {
  mixed := by kernel_rfl
  f7 := ⟨ "maps.Keys[map[string]*tussock/disk.file,string,*tussock/disk.file]", by decide, Tryd.func43.trans (congrArg some (by kernel_rfl))⟩
  f10 := ⟨ "maps.Keys[map[string]*tussock/disk.file,string,*tussock/disk.file]$1", by decide, Tryd.func61.trans (congrArg some (by kernel_rfl))⟩
  t0 := Tryd.underlying0
  a0 := Tryd.isAgg0
  z0 := Tryd.sizeOf0
  v0 := Tryd.zeroValue0
  t4 := Tryd.underlying4
  a4 := Tryd.isAgg4
  z4 := Tryd.sizeOf4
  v4 := Tryd.zeroValue4
  t23 := Tryd.underlying66
  a23 := Tryd.isAgg66
  z23 := Tryd.sizeOf66
  v23 := Tryd.zeroValue66
  t26 := Tryd.underlying9
  a26 := Tryd.isAgg9
  z26 := Tryd.sizeOf9
  v26 := Tryd.zeroValue9
  t27 := Tryd.underlying96
  a27 := Tryd.isAgg96
  z27 := Tryd.sizeOf96
  v27 := Tryd.zeroValue96
  t28 := Tryd.underlying97
  a28 := Tryd.isAgg97
  z28 := Tryd.sizeOf97
  v28 := Tryd.zeroValue97
  t33 := Tryd.underlying71
  a33 := Tryd.isAgg71
  z33 := Tryd.sizeOf71
  v33 := Tryd.zeroValue71 }
def Tryd.sorted42_ren : Go.Shelf.Ren := ⟨fun | 6 => 42 | 8 => 59 | 9 => 60 | 11 => 72 | 13 => 74 | 12 => 73 | 23 => 87 | 24 => 88 | 14 => 78 | 15 => 79 | 16 => 80 | 17 => 81 | 18 => 82 | 19 => 83 | 20 => 84 | 21 => 85 | 22 => 86 | 25 => 90 | 26 => 91 | 27 => 92 | 28 => 93 | 29 => 94 | 30 => 95 | 31 => 96 | n => n, fun | 26 => 9 | 28 => 97 | 24 => 34 | 0 => 0 | 3 => 3 | 37 => 119 | 48 => 101 | 50 => 122 | 4 => 4 | 40 => 136 | 39 => 135 | 45 => 141 | 5 => 5 | 9 => 9 | 51 => 146 | 55 => 150 | 57 => 152 | 58 => 153 | 33 => 71 | n => n, fun | n => n⟩
theorem Tryd.sorted42 : Go.Proofs.SlLaysZ.n6 Tryd.prog Tryd.sorted42_ren := {
  mixed := by kernel_rfl
  f6 := ⟨ "slices.Sorted[string]", by decide, Tryd.func42.trans (congrArg some (by kernel_rfl))⟩
  f8 := ⟨ "slices.Collect[string]", by decide, Tryd.func59.trans (congrArg some (by kernel_rfl))⟩
  f11 := ⟨ "slices.AppendSeq[[]string,string]", by decide, Tryd.func72.trans (congrArg some (by kernel_rfl))⟩
  t0 := Tryd.underlying0
  a0 := Tryd.isAgg0
  z0 := Tryd.sizeOf0
  v0 := Tryd.zeroValue0
  t24 := Tryd.underlying34
  a24 := Tryd.isAgg34
  z24 := Tryd.sizeOf34
  v24 := Tryd.zeroValue34
  t26 := Tryd.underlying9
  a26 := Tryd.isAgg9
  z26 := Tryd.sizeOf9
  v26 := Tryd.zeroValue9
  t28 := Tryd.underlying97
  a28 := Tryd.isAgg97
  z28 := Tryd.sizeOf97
  v28 := Tryd.zeroValue97
  i26 := by kernel_rfl }
def Tryd.sort60_ren : Go.Shelf.Ren := ⟨fun | 6 => 60 | 8 => 74 | 9 => 73 | 19 => 87 | 20 => 88 | 21 => 78 | 22 => 79 | 23 => 80 | 24 => 81 | 25 => 82 | 26 => 83 | 27 => 84 | 28 => 85 | 29 => 86 | 36 => 90 | 31 => 91 | 32 => 92 | 37 => 93 | 38 => 94 | 39 => 95 | 41 => 96 | n => n, fun | 27 => 34 | 29 => 9 | 3 => 3 | 32 => 119 | 26 => 34 | 0 => 0 | 44 => 101 | 46 => 122 | 4 => 4 | 36 => 136 | 35 => 135 | 41 => 141 | 5 => 5 | 9 => 9 | 53 => 146 | 57 => 150 | 63 => 152 | 64 => 153 | n => n, fun | n => n⟩
theorem Tryd.sort60 : Go.Proofs.SlLaysM.n6 Tryd.prog Tryd.sort60_ren := {
  mixed := by kernel_rfl
  f6 := ⟨ "slices.Sort[[]string,string]", by decide, Tryd.func60.trans (congrArg some (by kernel_rfl))⟩
  f8 := Tryd.func74.trans (congrArg some (by kernel_rfl))
  f9 := ⟨ "slices.pdqsortOrdered[string]", by decide, Tryd.func73.trans (congrArg some (by kernel_rfl))⟩
  f19 := Tryd.func87.trans (congrArg some (by kernel_rfl))
  f20 := Tryd.func88.trans (congrArg some (by kernel_rfl))
  f21 := ⟨ "slices.insertionSortOrdered[string]", by decide, Tryd.func78.trans (congrArg some (by kernel_rfl))⟩
  f22 := ⟨ "slices.heapSortOrdered[string]", by decide, Tryd.func79.trans (congrArg some (by kernel_rfl))⟩
  f23 := ⟨ "slices.breakPatternsOrdered[string]", by decide, Tryd.func80.trans (congrArg some (by kernel_rfl))⟩
  f24 := ⟨ "slices.choosePivotOrdered[string]", by decide, Tryd.func81.trans (congrArg some (by kernel_rfl))⟩
  f25 := ⟨ "slices.reverseRangeOrdered[string]", by decide, Tryd.func82.trans (congrArg some (by kernel_rfl))⟩
  f26 := ⟨ "slices.partialInsertionSortOrdered[string]", by decide, Tryd.func83.trans (congrArg some (by kernel_rfl))⟩
  f27 := ⟨ "cmp.Less[string]", by decide, Tryd.func84.trans (congrArg some (by kernel_rfl))⟩
  f28 := ⟨ "slices.partitionEqualOrdered[string]", by decide, Tryd.func85.trans (congrArg some (by kernel_rfl))⟩
  f29 := ⟨ "slices.partitionOrdered[string]", by decide, Tryd.func86.trans (congrArg some (by kernel_rfl))⟩
  f31 := Tryd.func91.trans (congrArg some (by kernel_rfl))
  f32 := Tryd.func92.trans (congrArg some (by kernel_rfl))
  f36 := ⟨ "slices.siftDownOrdered[string]", by decide, Tryd.func90.trans (congrArg some (by kernel_rfl))⟩
  f37 := ⟨ "slices.medianAdjacentOrdered[string]", by decide, Tryd.func93.trans (congrArg some (by kernel_rfl))⟩
  f38 := ⟨ "slices.medianOrdered[string]", by decide, Tryd.func94.trans (congrArg some (by kernel_rfl))⟩
  f39 := ⟨ "cmp.isNaN[string]", by decide, Tryd.func95.trans (congrArg some (by kernel_rfl))⟩
  f41 := ⟨ "slices.order2Ordered[string]", by decide, Tryd.func96.trans (congrArg some (by kernel_rfl))⟩
  t0 := Tryd.underlying0
  a0 := Tryd.isAgg0
  z0 := Tryd.sizeOf0
  v0 := Tryd.zeroValue0
  t3 := Tryd.underlying3
  a3 := Tryd.isAgg3
  z3 := Tryd.sizeOf3
  v3 := Tryd.zeroValue3
  t4 := Tryd.underlying4
  a4 := Tryd.isAgg4
  z4 := Tryd.sizeOf4
  v4 := Tryd.zeroValue4
  t5 := Tryd.underlying5
  a5 := Tryd.isAgg5
  z5 := Tryd.sizeOf5
  v5 := Tryd.zeroValue5
  t9 := Tryd.underlying9
  a9 := Tryd.isAgg9
  z9 := Tryd.sizeOf9
  v9 := Tryd.zeroValue9
  t26 := Tryd.underlying34
  a26 := Tryd.isAgg34
  z26 := Tryd.sizeOf34
  v26 := Tryd.zeroValue34
  t27 := Tryd.underlying34
  a27 := Tryd.isAgg34
  z27 := Tryd.sizeOf34
  v27 := Tryd.zeroValue34
  t29 := Tryd.underlying9
  a29 := Tryd.isAgg9
  z29 := Tryd.sizeOf9
  v29 := Tryd.zeroValue9
  t32 := Tryd.underlying119
  a32 := Tryd.isAgg119
  z32 := Tryd.sizeOf119
  v32 := Tryd.zeroValue119
  t35 := Tryd.underlying135
  a35 := Tryd.isAgg135
  z35 := Tryd.sizeOf135
  v35 := Tryd.zeroValue135
  t36 := Tryd.underlying136
  a36 := Tryd.isAgg136
  z36 := Tryd.sizeOf136
  v36 := Tryd.zeroValue136
  t41 := Tryd.underlying141
  a41 := Tryd.isAgg141
  z41 := Tryd.sizeOf141
  v41 := Tryd.zeroValue141
  t44 := Tryd.underlying101
  a44 := Tryd.isAgg101
  z44 := Tryd.sizeOf101
  v44 := Tryd.zeroValue101
  t46 := Tryd.underlying122
  a46 := Tryd.isAgg122
  z46 := Tryd.sizeOf122
  v46 := Tryd.zeroValue122
  t53 := Tryd.underlying146
  a53 := Tryd.isAgg146
  z53 := Tryd.sizeOf146
  v53 := Tryd.zeroValue146
  t57 := Tryd.underlying150
  a57 := Tryd.isAgg150
  z57 := Tryd.sizeOf150
  v57 := Tryd.zeroValue150
  t63 := Tryd.underlying152
  a63 := Tryd.isAgg152
  z63 := Tryd.sizeOf152
  v63 := Tryd.zeroValue152
  t64 := Tryd.underlying153
  a64 := Tryd.isAgg153
  z64 := Tryd.sizeOf153
  v64 := Tryd.zeroValue153 }
def Tryd.clone38_ren : Go.Shelf.Ren := ⟨fun | 5 => 38 | 7 => 58 | n => n, fun | 23 => 66 | 25 => 9 | 3 => 86 | 4 => 4 | 20 => 20 | n => n, fun | n => n⟩
theorem Tryd.clone38 : Go.Proofs.SlLaysW.n5 Tryd.prog Tryd.clone38_ren := {
  mixed := by kernel_rfl
  f5 := ⟨ "maps.Clone[map[string]*tussock/disk.file,string,*tussock/disk.file]", by decide, Tryd.func38.trans (congrArg some (by kernel_rfl))⟩
  f7 := Tryd.func58.trans (congrArg some (by kernel_rfl))
  t4 := Tryd.underlying4
  a4 := Tryd.isAgg4
  z4 := Tryd.sizeOf4
  v4 := Tryd.zeroValue4
  t20 := Tryd.underlying20
  a20 := Tryd.isAgg20
  z20 := Tryd.sizeOf20
  v20 := Tryd.zeroValue20
  t23 := Tryd.underlying66
  a23 := Tryd.isAgg66
  z23 := Tryd.sizeOf66
  v23 := Tryd.zeroValue66 }
theorem Tryd.sorts42 (m : Nat) : AnyZ.SortsIn Tryd.prog Tryd.sorted42_ren Fence.wide m :=
  ⟨fun blk off cap ss W hH hblk hsz => callsIn_wide.2 (AnyM.slices_Sort_string Tryd.sort60 blk off cap ss W hH hblk hsz),
   fun p cap W => callsIn_wide.2 (AnyM.slices_Sort_string_none Tryd.sort60 p cap W)⟩
theorem Tryd.maps_Keys_43 (mb : Option Nat) (W : World) : CallsIn Fence.wide 5 Tryd.prog 43 #[.map mb] W fun e w' => e = .returned (.func (.func 61) #[] #[.pointer (some ⟨W.heap.size, 0, none⟩)]) ∧ w' = W.alloc (.cells #[.map mb] 66) :=
  AnyZ.keys_in Tryd.keys43 Fence.wide 5 trivial rfl mb W
set_option maxHeartbeats 1000000 in
theorem Tryd.slices_Sorted_keys_42_43 {H : Type} (b nn : Nat) (D0 : DataW H) (R : Value → Option (DataW H × List MemPlace)) (w : World) (hown : w.ownsMap Tryd.prog 9 R b nn D0) (hmax : Maps.size D0 ≤ maxLen) (hbytes : Maps.size D0 * 16 ≤ 140737488355328) :
    CallsIn Fence.wide 5 Tryd.prog 42 #[.func (.func 61) #[] #[.pointer (some ⟨w.heap.size, 0, none⟩)]] (w.alloc (.cells #[.map (some b)] 66)) fun e w' => ∃ (v : Value) (ss : List (List UInt8)), e = .returned v ∧ ss.Perm (strKeys D0) ∧
      w'.ownsRow (w.alloc (.cells #[.map (some b)] 66)).heap.size 9 1 v ss.length ((ss.mergeSort (fun x y => decide (x ≤ y))).map encStr) ∧ (v = .slice none 0 0 ↔ ss = []) ∧ Below (w.alloc (.cells #[.map (some b)] 66)).heap.size (w.alloc (.cells #[.map (some b)] 66)) w' := by
  have hbl := hown.lt
  have hseq : SeqGives Fence.wide 2 Tryd.prog 61 #[.pointer (some ⟨w.heap.size, 0, none⟩)] encStr (fun ss => ss.Perm (strKeys D0)) (Maps.size D0) (w.alloc (.cells #[.map (some b)] 66)) :=
    AnyZ.keys_gives (ρ := Tryd.keys43_ren) { Tryd.keys43 with } Fence.wide _ trivial rfl (by omega) w.heap.size b nn D0 _ (by simp) (by simp) (by
      obtain ⟨es, clock, hb, Ft, hs, hD⟩ := hown
      exact ⟨es, clock, (Below.heap_alloc _ _ b hbl).trans hb, Ft, hs, hD⟩)
  exact AnyZ.sorted_in Tryd.sorted42 Fence.wide 5 trivial trivial trivial trivial rfl (by omega) (Tryd.sorts42 _) (enters_of Tryd.func60 (by kernel_rfl) rfl) 61 #[.pointer (some ⟨w.heap.size, 0, none⟩)] trivial (enters_of Tryd.func61 (by kernel_rfl) rfl) _ _ hmax hbytes _ hseq
end Go.Proofs
end
