/- The document's examples. -/
import Derived.Test.YtgcenkmekpaapaaPlay
namespace Go.Proofs.Ytgcenkmekpaapaa.L
open Go.RowKit Go.Lib Go.Maps
set_option linter.unusedVariables false
open Go.Proofs.YtgcenkmekpaapaaW.PrintWords Go.Proofs.YtgcenkmekpaapaaW.PrintLast Go.Proofs.YtgcenkmekpaapaaW.PrintMore
abbrev sA : ByteArray := ⟨#[97]⟩
abbrev sB : ByteArray := ⟨#[98]⟩
structure One (k : Nat) (D : Dk) (blk : Nat) (b : List Int) (sure : Nat) (l : List Ac) : Prop where
  d : D.d = k + 3
  dir : D.dir = fun t => if t = sA then some blk else none
  su : D.sure = fun _ => none
  fs : ∃ row, D.fs = [⟨blk, row, b, sure⟩]
  loose : ∃ b1 b2, D.loose = .make sA blk b1 b2 :: l
  room : D.room = 10
  fails : D.fails = fun _ => 0
theorem okA : nameOk sA = true := by kernel_rfl
theorem okB : nameOk sB = true := by kernel_rfl
theorem bytesC (w : World) (l : List Int) (fr : Nat × Nat) (h : l.length ≤ 9223372036854775807) : Kd.C kB (w.alloc (.cells ((l.map (Value.int .u8)).toArray) 5 fr)) (some ⟨w.heap.size, 0, none⟩) l.length l := by
  have ho := (MapKept.heap_alloc w (.cells ((l.map (Value.int .u8)).toArray) 5 fr)).1
  refine ⟨rfl, h, fun _ => ⟨_, rfl, fun j p hj => ⟨[.int .u8 p], rfl, rfl, fun i u hu => ?_⟩⟩⟩
  have hi : i = 0 := by
    cases i with
    | zero => rfl
    | succ i => simp at hu
  subst hi
  simp only [List.getElem?_cons_zero, Option.some.injEq] at hu
  subst hu
  show World.cell? _ ((⟨w.heap.size, 0, none⟩ : Addr).add (j * 1 + 0)) = _
  rw [Nat.mul_one, Nat.add_zero, add_is, Nat.zero_add]
  refine (cell_of ho j).trans ?_
  simp [List.getElem?_map, hj]
theorem bytesK {w : World} {D : Dk} (h : DkAt w D) (l : List Int) (fr : Nat × Nat) (hl : l.length ≤ 9223372036854775807) : ∀ W, Fr D.own (w.alloc (.cells ((l.map (Value.int .u8)).toArray) 5 fr)) W → Kd.C kB W (some ⟨w.heap.size, 0, none⟩) l.length l := by
  intro W hf
  have h0 := bytesC w l fr hl
  refine ⟨h0.1, h0.2.1, fun hp => ?_⟩
  obtain ⟨ad, e, hc⟩ := h0.2.2 hp
  injection e with e
  subst e
  refine ⟨_, rfl, fun j p hj => ?_⟩
  obtain ⟨c, h1, h2, h3⟩ := hc j p hj
  refine ⟨c, h1, h2, fun i u hu => ?_⟩
  have := h3 i u hu
  rw [add_is] at this ⊢
  exact (cell_keep (hf.keep w.heap.size (by simp) (fun hm => Nat.lt_irrefl _ (h.lt _ hm))) _).trans this
theorem lists_none {es : List (ByteArray × Nat)} (h : Lists (fun _ => none) es) : es = [] := by
  cases es with
  | nil => rfl
  | cons p es =>
    have := (h.is p.1 p.2 (h.short p List.mem_cons_self)).2 List.mem_cons_self
    cases this
theorem lists_one {blk : Nat} {es : List (ByteArray × Nat)} (h : Lists (fun t => if t = sA then some blk else none) es) : es = [(sA, blk)] := by
  have hall : ∀ p ∈ es, p = (sA, blk) := fun p hp => by
    have := (h.is p.1 p.2 (h.short p hp)).2 hp
    split at this
    · rename_i e; injection this with e2; exact Prod.ext e e2.symm
    · cases this
  have hin : (sA, blk) ∈ es := (h.is sA blk (name_max okA)).1 (if_pos rfl)
  match es, hall, hin, h.nodup with
  | [], _, hin, _ => cases hin
  | [p], hall, _, _ => rw [hall p List.mem_cons_self]
  | p :: q :: es, hall, _, hn =>
    rw [hall p List.mem_cons_self, hall q (by simp)] at hn
    simp at hn
section
variable {w0 w : World} {k blk N B : Nat} {D : Dk}
theorem One.len {b : List Int} {sure : Nat} {l : List Ac} (o : One k D blk b sure l) : total D.len [(sA, blk)] = b.length := by
  obtain ⟨row, hf⟩ := o.fs
  simp [total, Dk.len, hf]
theorem step1 (h : Dsk w0 w 0 0 (newD k 10)) : Calls Try.prog 9 #[P (k + 3), .string sA, .slice (some ⟨w.heap.size, 0, none⟩) 3 3] (w.alloc (.cells #[.int .u8 120, .int .u8 121, .int .u8 122] 5 (3, 4))) fun e w' => ∃ D blk, e = .returned (.int .i64 0) ∧ Dsk w0 w' 2 3 D ∧ One k D blk [120, 121, 122] 0 [.grow blk 3] := by
  have h1 := h.new ((Below.refl _ w).alloc (Nat.le_refl _) (.cells #[.int .u8 120, .int .u8 121, .int .u8 122] 5 (3, 4)))
  refine (append_st h1.at_ h1.good h1.dead (by decide) (by decide) sA (some ⟨w.heap.size, 0, none⟩) [120, 121, 122] 3 (by decide) (bytesK h.at_ [120, 121, 122] (3, 4) (by decide))).mono ?_
  rintro e w' ⟨es, D', hes, _, rfl, g, t⟩
  obtain rfl := lists_none hes
  have hc : appE (newD k 10) sA (total (newD k 10).len []) 3 = 0 := by
    unfold appE startE
    simp [okA, newD, total]
  have hc' : appE (newD k 10) sA (total (newD k 10).len []) ([120, 121, 122] : List Int).length = 0 := hc
  rw [hc'] at t ⊢
  have hd := h1.to g t.stp (N' := 2) (B' := 3) (by omega) (by show 0 + 3 ≤ 3; omega)
  rcases t with ⟨hne, _⟩ | ⟨_, _, D3, f, hm, ⟨hnil, _⟩ | ⟨_, row, lv, rfl⟩⟩
  · exact absurd rfl hne
  · cases hnil
  · rcases hm with ⟨hx, _⟩ | ⟨_, hf, _, b1, b2, v1, rfl⟩
    · cases hx
    · refine ⟨_, f.blk, rfl, hd, rfl, ?_, rfl, ⟨row, ?_⟩, ⟨b1, b2, rfl⟩, rfl, rfl⟩
      · rfl
      · rw [hf]
        simp [Dk.grown, Dk.setF, Dk.addF, Dk.count, newD]
theorem step2 (h : Dsk w0 w 2 3 D) (o : One k D blk [120, 121, 122] 0 [.grow blk 3]) : Calls Try.prog 10 #[P (k + 3), .string sA] w fun e w' => ∃ D', e = .returned (.int .i64 0) ∧ Dsk w0 w' 4 3 D' ∧ One k D' blk [120, 121, 122] 3 [] := by
  rw [← o.d]
  refine (sync_st h.at_ h.good h.dead (by decide) sA).mono ?_
  rintro e w' ⟨c, D', rfl, g, t⟩
  have hs : startE D true [sA] = (false, 0) := by
    unfold startE
    simp [okA, o.dir, o.fails]
  have hd := h.to g (t.stp h.good) (N' := 4) (B' := 3) (by omega) (by omega)
  rcases t with ⟨e1, e2, _⟩ | ⟨e1, _⟩ | ⟨_, rfl, f, hf, hdf, lv, rfl⟩
  · rw [e1, hs] at e2
    rcases e2 with e2 | e2 <;> cases e2
  · rw [hs] at e1; injection e1 with e1; cases e1
  · obtain ⟨row, hfs⟩ := o.fs
    obtain ⟨b1, b2, hl⟩ := o.loose
    rw [hfs] at hf
    obtain rfl := List.mem_singleton.1 hf
    exact ⟨_, rfl, hd, o.d, o.dir, o.su, ⟨row, by simp [Dk.setF, Dk.struckF, hfs]⟩, ⟨b1, b2, by simp [Dk.setF, Dk.struckF, hl, isOf]⟩, o.room, o.fails⟩
theorem step3 (h : Dsk w0 w 4 3 D) (o : One k D blk [120, 121, 122] 3 []) : Calls Try.prog 9 #[P (k + 3), .string sA, .slice (some ⟨w.heap.size, 0, none⟩) 2 2] (w.alloc (.cells #[.int .u8 117, .int .u8 118] 5 (2, 3))) fun e w' => ∃ D', e = .returned (.int .i64 0) ∧ Dsk w0 w' 6 5 D' ∧ One k D' blk [120, 121, 122, 117, 118] 3 [.grow blk 2] := by
  have h1 := h.new ((Below.refl _ w).alloc (Nat.le_refl _) (.cells #[.int .u8 117, .int .u8 118] 5 (2, 3)))
  rw [← o.d]
  refine (append_st h1.at_ h1.good h1.dead (by decide) (by decide) sA (some ⟨w.heap.size, 0, none⟩) [117, 118] 2 (by decide) (bytesK h.at_ [117, 118] (2, 3) (by decide))).mono ?_
  rintro e w' ⟨es, D', hes, _, rfl, g, t⟩
  rw [o.dir] at hes
  obtain rfl := lists_one hes
  have hc : appE D sA (total D.len [(sA, blk)]) ([117, 118] : List Int).length = 0 := by
    unfold appE startE
    rw [o.len, o.room, o.fails]
    simp [okA]
  rw [hc] at t ⊢
  have hd := h1.to g t.stp (N' := 6) (B' := 5) (by omega) (by show 3 + 2 ≤ 5; omega)
  obtain ⟨row0, hfs⟩ := o.fs
  obtain ⟨b1, b2, hl⟩ := o.loose
  rcases t with ⟨hne, _⟩ | ⟨_, _, D3, f, hm, ⟨hnil, _⟩ | ⟨_, row, lv, rfl⟩⟩
  · exact absurd rfl hne
  · cases hnil
  · rcases hm with ⟨_, hf, rfl⟩ | ⟨hx, _⟩
    · rw [hfs] at hf
      obtain rfl := List.mem_singleton.1 hf
      exact ⟨_, rfl, hd, o.d, o.dir, o.su, ⟨row, by simp [Dk.grown, Dk.setF, Dk.count, hfs]⟩, ⟨b1, b2, by simp [Dk.grown, Dk.setF, Dk.count, hl]⟩, o.room, o.fails⟩
    · rw [o.dir] at hx; simp at hx
theorem step4 (h : Dsk w0 w 6 5 D) (o : One k D blk [120, 121, 122, 117, 118] 3 [.grow blk 2]) : Calls Try.prog 9 #[P (k + 3), .string sB, .slice (some ⟨w.heap.size, 0, none⟩) 6 6] (w.alloc (.cells #[.int .u8 49, .int .u8 50, .int .u8 51, .int .u8 52, .int .u8 53, .int .u8 54] 5 (6, 7))) fun e w' => ∃ D', e = .returned (.int .i64 33) ∧ Dsk w0 w' 8 11 D' ∧ One k D' blk [120, 121, 122, 117, 118] 3 [.grow blk 2] := by
  have h1 := h.new ((Below.refl _ w).alloc (Nat.le_refl _) (.cells #[.int .u8 49, .int .u8 50, .int .u8 51, .int .u8 52, .int .u8 53, .int .u8 54] 5 (6, 7)))
  rw [← o.d]
  refine (append_st h1.at_ h1.good h1.dead (by decide) (by decide) sB (some ⟨w.heap.size, 0, none⟩) [49, 50, 51, 52, 53, 54] 6 (by decide) (bytesK h.at_ [49, 50, 51, 52, 53, 54] (6, 7) (by decide))).mono ?_
  rintro e w' ⟨es, D', hes, _, rfl, g, t⟩
  rw [o.dir] at hes
  obtain rfl := lists_one hes
  have hc : appE D sB (total D.len [(sA, blk)]) ([49, 50, 51, 52, 53, 54] : List Int).length = 33 := by
    unfold appE startE
    rw [o.len, o.room, o.fails]
    simp [okB]
  rw [hc] at t ⊢
  have hd := h1.to g t.stp (N' := 8) (B' := 11) (by omega) (by show 5 + 6 ≤ 11; omega)
  rcases t with ⟨_, rfl⟩ | ⟨hx, _⟩
  · exact ⟨_, rfl, hd, o.d, o.dir, o.su, o.fs, o.loose, o.room, o.fails⟩
  · cases hx
theorem crash1 (h : Dsk w0 w 8 11 D) (o : One k D blk [120, 121, 122, 117, 118] 3 [.grow blk 2]) : Calls Try.prog 14 #[P (k + 3), .int .i64 1, .int .i64 1] w fun e w' => ∃ D' f, e = .returned (P D'.d) ∧ DkAt w' D' ∧ Good 16 11 D' ∧ D'.dead = false ∧ D'.dir sA = some f.blk ∧ f ∈ D'.fs ∧ f.b = [120, 121, 122, 117] ∧ (∀ x, D'.fails x = 0) ∧ Below w.heap.size w w' ∧ (∀ j ∈ D'.own, w.heap.size ≤ j) := by
  rw [← o.d]
  refine (crash_good h.at_ h.good (by decide) (by decide) 1 1).mono ?_
  rintro e w' ⟨D', rfl, hat, hg, hc, hb, ho, _⟩
  obtain ⟨row, hfs⟩ := o.fs
  obtain ⟨b1, b2, hl⟩ := o.loose
  have hu : dirU 1 D.loose D.sure D.loose.length sA = some blk := by
    rw [hl, o.su]
    simp [dirU, Ac.app]
  obtain ⟨f', hf', hd', hb'⟩ := hc.there sA ⟨blk, row, [120, 121, 122, 117, 118], 3⟩ (by rw [hfs]; simp) hu
  refine ⟨D', f', rfl, hat, hg, live_of (by rw [hc.cut]; omega) hc.off, hd', hf', ?_, hc.fails, hb, ho⟩
  rw [hb']
  have hn : crashN 1 1 D ⟨blk, row, [120, 121, 122, 117, 118], 3⟩ = 4 := by
    unfold crashN
    rw [hl]
    have h1 : max (1 : Int) 0 = 1 := by decide
    have h2 : min (2 : Int) 1 = 1 := by decide
    simp [growU, acG, addG, h1, h2]
  rw [hn]; rfl
theorem crash2 (h : Dsk w0 w 8 11 D) (o : One k D blk [120, 121, 122, 117, 118] 3 [.grow blk 2]) {W : World} (hW : Below w.heap.size w W) : Calls Try.prog 14 #[P (k + 3), .int .i64 0, .int .i64 9] W fun e w' => ∃ D', e = .returned (P D'.d) ∧ DkAt w' D' ∧ D'.dir = (fun _ => none) ∧ D'.loose = [] ∧ Below W.heap.size W w' ∧ (∀ j ∈ D'.own, W.heap.size ≤ j) := by
  rw [← o.d]
  refine (crash_good (h.at_.new (Fr.of_below hW [])) h.good (by decide) (by decide) 0 9).mono ?_
  rintro e w' ⟨D', rfl, hat, hg, hc, hb, ho, _⟩
  obtain ⟨b1, b2, hl⟩ := o.loose
  refine ⟨D', rfl, hat, ?_, hc.loose, hb, ho⟩
  funext s
  refine hc.gone s ?_
  rw [hl, o.su]
  simp [dirU]
theorem read1 {D : Dk} (hat : DkAt w D) (hg : Good 16 11 D) (hd : D.dead = false) {f : Fl} (hdir : D.dir sA = some f.blk) (hf : f ∈ D.fs) (hb : f.b = [120, 121, 122, 117]) (hfl : ∀ x, D.fails x = 0) : Calls Try.prog 15 #[P D.d, .string sA] w fun e w' => ∃ A c, e = .returned (.tuple #[.slice A 4 c, .int .i64 0]) ∧ Kd.C kB w' A 4 [120, 121, 122, 117] ∧ Fr D.own w w' := by
  have hs : codeE D true [sA] = 0 := by
    unfold codeE startE
    simp [okA, hdir, hfl]
  refine (read_st hat hg hd (by decide) (by decide) sA).mono ?_
  rintro e w' ⟨v, l, rfl, hr, g, _, hl⟩
  obtain ⟨x, hx, hxd, rfl⟩ := hl hs
  rw [hdir] at hxd
  injection hxd with hxd
  obtain rfl := hg.uniq f hf x hx hxd
  obtain ⟨A, c, rfl⟩ := B_slice hr
  rw [hs]
  have h2 := Kd.R_reads' hr
  rw [hb] at h2 ⊢
  exact ⟨A, c, rfl, h2.2.2, g.fr⟩
theorem names0 {D : Dk} (hat : DkAt w D) (hd : D.dir = fun _ => none) : Calls Try.prog 18 #[P D.d] w fun e w' => ∃ A c, e = .returned (.slice A 0 c) ∧ Below w.heap.size w w' := by
  refine (names_calls hat [] ⟨List.nodup_nil, (fun _ h => by cases h), fun s b _ => ⟨(fun h => by rw [hd] at h; cases h), (fun h => by cases h)⟩⟩ (by decide)).mono ?_
  rintro e w' ⟨v, rfl, hr, hb⟩
  obtain ⟨A, c, rfl⟩ := Kd.R_slice hr
  have h0 : ((namesOf []).map fun b => (⟨b.toArray⟩ : ByteArray)).length = 0 := by simp [namesOf]
  rw [h0]
  exact ⟨A, c, rfl, hb⟩
theorem size1 {D : Dk} (hat : DkAt w D) {l : List Ac} (o : One k D blk [120, 121, 122, 117, 118] 3 l) : Calls Try.prog 16 #[P (k + 3), .string sA] w fun e w' => e = .returned (.int .i64 5) ∧ w' = w := by
  obtain ⟨row, hfs⟩ := o.fs
  rw [← o.d]
  exact size_some hat sA (name_max okA) ⟨blk, row, [120, 121, 122, 117, 118], 3⟩ (by rw [hfs]; simp) (by rw [o.dir]; rfl)
theorem loose2 {D : Dk} (hat : DkAt w D) (o : One k D blk [120, 121, 122, 117, 118] 3 [.grow blk 2]) : Calls Try.prog 23 #[P (k + 3)] w fun e w' => e = .returned (.int .i64 2) ∧ w' = w := by
  obtain ⟨b1, b2, hl⟩ := o.loose
  rw [← o.d]
  have h := loose_calls hat
  rw [hl] at h
  exact h
end
theorem conv_lit (w : World) (C : Array Value) (n c : Nat) : (convert 22 22 (.slice (some ⟨w.heap.size, 0, none⟩) n c)).run Try.prog (w.alloc (.cells C 5)) = .ok (.slice (some ⟨w.heap.size, 0, none⟩) n c) (w.alloc (.cells C 5 (C.size, C.size + 1))) :=
  Go.Joins.run_convert_bytes_const_at w 22 5 C n c w.heap.size rfl Try.underlying22 Try.underlying5
set_option maxHeartbeats 4000000 in
set_option maxRecDepth 100000 in
theorem shown_calls (w : World) : Calls Try.prog 7 #[] w fun e w' => e = .returned (.bool true) ∧ Below w.heap.size w w' := by
  have HNW := hid (new_dsk w w (Below.refl _ _) 10 (by omega))
  go_enter Try.func7, Try.ntmps7
  go_upto_region 2 with (go_at_call 8; refine HNW.out.mono ?_; rintro e w1 ⟨k, rfl, h1⟩; have H1 := hid h1; clear h1)
  have hdn := d_nil w1 ⟨k + 3, 0, none⟩
  clear HNW
  go_upto_region 4 with fail
  clear hdn
  have hc1 := conv_lit w1 #[.int .u8 120, .int .u8 121, .int .u8 122] 3 3
  go_upto_region 5 with (go_at_call 9; refine (step1 H1.out).mono ?_; rintro e w2 ⟨D2, blk, rfl, h2, o2⟩; have H2 := hid h2; have O2 := hid o2; clear h2 o2 H1 hc1)
  go_upto_region 6 with (go_at_call 10; refine (step2 H2.out O2.out).mono ?_; rintro e w3 ⟨D3, rfl, h3, o3⟩; have H3 := hid h3; have O3 := hid o3; clear h3 o3 H2 O2)
  have hc3 := conv_lit w3 #[.int .u8 117, .int .u8 118] 2 2
  go_upto_region 7 with (go_at_call 9; refine (step3 H3.out O3.out).mono ?_; rintro e w4 ⟨D4, rfl, h4, o4⟩; have H4 := hid h4; have O4 := hid o4; clear h4 o4 H3 O3 hc3)
  have hc4 := conv_lit w4 #[.int .u8 49, .int .u8 50, .int .u8 51, .int .u8 52, .int .u8 53, .int .u8 54] 6 6
  go_upto_region 8 with (go_at_call 9; refine (step4 H4.out O4.out).mono ?_; rintro e w5 ⟨D5, rfl, h5, o5⟩; have H5 := hid h5; have O5 := hid o5; clear h5 o5 H4 O4 hc4)
  go_upto_region 9 with (go_at_call 14; refine (crash1 H5.out O5.out).mono ?_; rintro e w6 ⟨Dx, f, rfl, x1, x2, x3, x4, x5, x6, x7, x8, x9⟩; have X1 := hid x1; have X2 := hid x2; have X3 := hid x3; have X4 := hid x4; have X5 := hid x5; have X6 := hid x6; have X7 := hid x7; have X8 := hid x8; have X9 := hid x9; clear x1 x2 x3 x4 x5 x6 x7 x8 x9)
  go_upto_region 10 with (go_at_call 14; refine (crash2 H5.out O5.out X8.out).mono ?_; rintro e w7 ⟨Dy, rfl, y1, y2, y3, y4, y5⟩; have Y1 := hid y1; have Y2 := hid y2; have Y3 := hid y3; have Y4 := hid y4; have Y5 := hid y5; clear y1 y2 y3 y4 y5)
  go_upto_region 11 with (go_at_call 15; refine (read1 (X1.out.new (Fr.of_below Y4.out [])) X2.out X3.out X4.out X5.out X6.out X7.out).mono ?_; rintro e w8 ⟨A, c, rfl, hr, hf⟩; have HR := hid hr; have HF := hid hf; clear hr hf)
  have B8 := hid (show Below w5.heap.size w5 w8 from (X8.out.trans (Y4.out.mono X8.out.size)).trans (HF.out.below (Nat.le_trans X8.out.size Y4.out.size) X9.out))
  have HD := hid (H5.out.at_.new (Fr.of_below B8.out []))
  have HY := hid (Y1.out.fr HF.out (fun j hj hm => by
    rcases hj with hj | hj
    · exact Nat.lt_irrefl _ (Nat.lt_of_lt_of_le (X1.out.lt j hm) (Y5.out j hj))
    · rw [Dk.boxes, Y3.out] at hj; simp at hj))
  have HL := hid (loose2 HD.out O5.out)
  have HS := hid (size1 HD.out O5.out)
  have HN := hid (names0 HY.out Y2.out)
  have hcv := Kd.C_string (P := Try.prog) (src := 22) (dst := 9) (e := 5) (c := c) Try.underlying22 Try.underlying5 Try.underlying9 HR.out
  have hst : strOfNums [120, 121, 122, 117] = ⟨#[120, 121, 122, 117]⟩ := by kernel_rfl
  rw [hst] at hcv
  clear hst
  have HB := hid (H5.out.below.trans (B8.out.mono H5.out.below.size))
  clear X1 X2 X3 X4 X5 X6 X7 X8 X9 Y1 Y2 Y3 Y4 Y5 HF B8 H5 O5 HD HY
  go_wp2_with (first | (go_at_call 23; refine HL.out.mono ?_; rintro e w_ ⟨rfl, rfl⟩) | (go_at_call 16; refine HS.out.mono ?_; rintro e w_ ⟨rfl, rfl⟩) | (go_at_call 18; refine HN.out.mono ?_; rintro e w9 ⟨A9, c9, rfl, hb⟩; have HB9 := hid (HB.out.trans (hb.mono HB.out.size)); clear hb))
  go_ret
  exact ⟨rfl, HB9.out⟩
end Go.Proofs.Ytgcenkmekpaapaa.L
