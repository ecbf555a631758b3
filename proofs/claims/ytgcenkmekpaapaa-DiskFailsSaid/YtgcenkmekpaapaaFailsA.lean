/- What DiskFails does to a disk, call by call. -/
import Derived.Test.YtgcenkmekpaapaaCrsA
import Derived.Test.YtgcenkmekpaapaaArgs2
namespace Go.Proofs.Ytgcenkmekpaapaa.L
open Go.RowKit Go.Lib Go.Maps
set_option linter.unusedVariables false
open Go.Proofs.YtgcenkmekpaapaaW.PrintWords Go.Proofs.YtgcenkmekpaapaaW.PrintLast Go.Proofs.YtgcenkmekpaapaaW.PrintMore
abbrev sK : ByteArray := ⟨#[107, 101, 112, 116]⟩
theorem okK : nameOk sK = true := by kernel_rfl
def onlyK (blk : Nat) : Names := fun t => if t = sK then some blk else none
structure Hold (k : Nat) (D : Dk) (blk : Nat) (b : List Int) (sure : Nat) : Prop where
  d : D.d = k + 3
  dir : D.dir = onlyK blk
  fs : ∃ row, D.fs = [⟨blk, row, b, sure⟩]
  room : D.room = 1048576
  fails : D.fails = fun _ => 0
  loose : ∀ a ∈ D.loose, isDir a = true ∨ ∃ n, a = .grow blk n
theorem lists_k {blk : Nat} {es : List (ByteArray × Nat)} (h : Lists (onlyK blk) es) : es = [(sK, blk)] := by
  have hall : ∀ p ∈ es, p = (sK, blk) := fun p hp => by
    have := (h.is p.1 p.2 (h.short p hp)).2 hp
    unfold onlyK at this
    split at this
    · rename_i e; injection this with e2; exact Prod.ext e e2.symm
    · cases this
  have hin : (sK, blk) ∈ es := (h.is sK blk (name_max okK)).1 (if_pos rfl)
  match es, hall, hin, h.nodup with
  | [], _, hin, _ => cases hin
  | [p], hall, _, _ => rw [hall p List.mem_cons_self]
  | p :: q :: es, hall, _, hn =>
    rw [hall p List.mem_cons_self, hall q (by simp)] at hn
    simp at hn
theorem nameL_k (blk : Nat) : nameL [(sK, blk)] = [sK] := by
  simp [nameL, namesOf]
section
variable {w0 w : World} {k blk N B sure : Nat} {D D' : Dk} {b : List Int}
theorem Hold.len (o : Hold k D blk b sure) : total D.len [(sK, blk)] = b.length := by
  obtain ⟨row, hf⟩ := o.fs
  simp [total, Dk.len, hf]
theorem start_ok (o : Hold k D blk b sure) (must : Bool) : startE D must [sK] = (false, 0) := by
  unfold startE
  simp [okK, o.dir, o.fails, onlyK]
theorem fails_new (h : Dsk w0 w 0 0 (newD k 1048576)) {a : Option Addr} {l : List Int} {cap : Nat} (hr : RowIs w0 a l cap) (hl : l.length ≤ 1000) :
    Calls Try.prog 9 #[P (k + 3), .string sK, .slice a l.length cap] w fun e w' => ∃ D blk, e = .returned (.int .i64 0) ∧ Dsk w0 w' 2 1000 D ∧ Hold k D blk l 0 := by
  refine (append_st h.at_ h.good h.dead (by decide) (by decide) sK a l cap (by omega) (fun W hW => (h.row hW hr).row)).mono ?_
  rintro e w' ⟨es, D', hes, _, rfl, g, t⟩
  obtain rfl := lists_none hes
  have hc : appE (newD k 1048576) sK (total (newD k 1048576).len []) l.length = 0 := by
    unfold appE startE
    have : ¬ ((1048576 : Int) < (0 : Nat) + (l.length : Int)) := by omega
    simp [okK, newD, total]
    omega
  rw [hc] at t ⊢
  have hd := h.to g t.stp (N' := 2) (B' := 1000) (by omega) (by omega)
  rcases t with ⟨hne, _⟩ | ⟨_, _, D3, f, hm, hh⟩
  · exact absurd rfl hne
  · rcases hm with ⟨hx, _⟩ | ⟨_, hf, _, b1, b2, v1, rfl⟩
    · cases hx
    · rcases hh with ⟨hnil, rfl⟩ | ⟨_, row, lv, rfl⟩
      · refine ⟨_, f.blk, rfl, hd, rfl, rfl, ⟨.slice none 0 0, ?_⟩, rfl, rfl, fun a ha => .inl ?_⟩
        · rw [hnil, hf]; rfl
        · rw [List.mem_singleton.1 ha]; rfl
      · refine ⟨_, f.blk, rfl, hd, rfl, rfl, ⟨row, ?_⟩, rfl, rfl, fun a ha => ?_⟩
        · rw [hf]
          simp [Dk.grown, Dk.setF, Dk.addF, Dk.count, newD]
        · rcases List.mem_append.1 ha with ha | ha
          · rw [List.mem_singleton.1 ha]; exact .inl rfl
          · rw [List.mem_singleton.1 ha]; exact .inr ⟨_, rfl⟩
theorem fails_sync (h : Dsk w0 w N B D) (o : Hold k D blk b sure) (hN : N < 1048576) : Calls Try.prog 10 #[P (k + 3), .string sK] w fun e w' => ∃ D', e = .returned (.int .i64 0) ∧ Dsk w0 w' (N + 2) B D' ∧ Hold k D' blk b b.length := by
  rw [← o.d]
  refine (sync_st h.at_ h.good h.dead hN sK).mono ?_
  rintro e w' ⟨c, D', rfl, g, t⟩
  have hs := start_ok o true
  have hd := h.to g (t.stp h.good) (N' := N + 2) (B' := B) (by omega) (by omega)
  rcases t with ⟨e1, e2, _⟩ | ⟨e1, _⟩ | ⟨_, rfl, f, hf, hdf, lv, rfl⟩
  · rw [e1, hs] at e2
    rcases e2 with e2 | e2 <;> cases e2
  · rw [hs] at e1; injection e1 with e1; cases e1
  · obtain ⟨row, hfs⟩ := o.fs
    rw [hfs] at hf
    obtain rfl := List.mem_singleton.1 hf
    refine ⟨_, rfl, hd, o.d, o.dir, ⟨row, by simp [Dk.setF, Dk.struckF, hfs]⟩, o.room, o.fails, fun a ha => o.loose a (List.mem_filter.1 ha).1⟩
structure Firm (k : Nat) (D : Dk) (blk : Nat) (b : List Int) (sure : Nat) : Prop where
  hold : Hold k D blk b sure
  su : D.sure = onlyK blk
  grows : ∀ a ∈ D.loose, ∃ n, a = .grow blk n
theorem fails_dir (h : Dsk w0 w N B D) (o : Hold k D blk b sure) (hN : N < 1048576) : Calls Try.prog 11 #[P (k + 3)] w fun e w' => ∃ D', e = .returned (.int .i64 0) ∧ Dsk w0 w' (N + 2) B D' ∧ Firm k D' blk b sure := by
  rw [← o.d]
  refine (syncdir_st h.at_ h.good h.dead hN).mono ?_
  rintro e w' ⟨lv, m, rfl, g⟩
  have hf : ¬ 0 < D.fails D.ops := by rw [o.fails]; show ¬ (0 : Int) < 0; omega
  have hd := h.to g (.synced (T := fun _ => True) (L := 0) lv m) (N' := N + 2) (B' := B) (by omega) (by omega)
  have he : D.synced lv m = { D with ops := D.ops + 1, lv := lv, loose := D.loose.filter (fun a => !isDir a), sm := m, sure := D.dir } := by unfold Dk.synced; rw [if_neg hf]
  rw [if_neg hf]
  rw [he] at hd
  refine ⟨_, rfl, hd, ⟨o.d, o.dir, o.fs, o.room, o.fails, fun a ha => o.loose a (List.mem_filter.1 ha).1⟩, o.dir, fun a ha => ?_⟩
  obtain ⟨h1, h2⟩ := List.mem_filter.1 ha
  rcases o.loose a h1 with h3 | h3
  · rw [h3] at h2; cases h2
  · exact h3
theorem fails_more (h : Dsk w0 w N B D) (o : Firm k D blk b sure) (hN : N < 1048576) (hB : B < 1099511627776) {a : Option Addr} {l : List Int} {cap : Nat} (hr : RowIs w0 a l cap) (hl : l.length ≤ 1000) (hb : b.length ≤ 1000000) :
    Calls Try.prog 9 #[P (k + 3), .string sK, .slice a l.length cap] w fun e w' => ∃ D', e = .returned (.int .i64 0) ∧ Dsk w0 w' (N + 2) (B + 1000) D' ∧ Firm k D' blk (b ++ l) sure := by
  rw [← o.hold.d]
  refine (append_st h.at_ h.good h.dead hN hB sK a l cap (by omega) (fun W hW => (h.row hW hr).row)).mono ?_
  rintro e w' ⟨es, D', hes, _, rfl, g, t⟩
  rw [o.hold.dir] at hes
  obtain rfl := lists_k hes
  have hc : appE D sK (total D.len [(sK, blk)]) l.length = 0 := by
    unfold appE
    rw [o.hold.len, o.hold.room, start_ok o.hold]
    simp
    omega
  rw [hc] at t ⊢
  have hd := h.to g t.stp (N' := N + 2) (B' := B + 1000) (by omega) (by omega)
  obtain ⟨row0, hfs⟩ := o.hold.fs
  rcases t with ⟨hne, _⟩ | ⟨_, _, D3, f, hm, hh⟩
  · exact absurd rfl hne
  · rcases hm with ⟨_, hf, rfl⟩ | ⟨hx, _⟩
    · rw [hfs] at hf
      obtain rfl := List.mem_singleton.1 hf
      rcases hh with ⟨hnil, rfl⟩ | ⟨_, row, lv, rfl⟩
      · exact ⟨_, rfl, hd, ⟨o.hold.d, o.hold.dir, ⟨row0, by rw [hnil, List.append_nil]; exact hfs⟩, o.hold.room, o.hold.fails, o.hold.loose⟩, o.su, o.grows⟩
      · refine ⟨_, rfl, hd, ⟨o.hold.d, o.hold.dir, ⟨row, by simp [Dk.grown, Dk.setF, Dk.count, hfs]⟩, o.hold.room, o.hold.fails, fun a ha => ?_⟩, o.su, fun a ha => ?_⟩
        · rcases List.mem_append.1 ha with ha | ha
          · exact o.hold.loose a ha
          · rw [List.mem_singleton.1 ha]; exact .inr ⟨_, rfl⟩
        · rcases List.mem_append.1 ha with ha | ha
          · exact o.grows a ha
          · rw [List.mem_singleton.1 ha]; exact ⟨_, rfl⟩
    · rw [o.hold.dir] at hx; simp [onlyK] at hx
def Dk.fail (D : Dk) : Dk := { D with n := D.n + 1, fails := fun t => if t = D.ops then D.fails D.ops + 1 else D.fails t }
theorem fail_next (g : Good N B D) : 0 < D.fail.fails D.fail.ops := by
  show 0 < (if D.ops = D.ops then D.fails D.ops + 1 else D.fails D.ops)
  rw [if_pos rfl]
  have := (g.fls D.ops).1
  omega
theorem fails_bad (h : Dsk w0 w N B D.fail) (g : Good N B D) (o : Firm k D blk b sure) (hN : N < 1048576) (one : List Int) (hone : b.take sure = one) : Calls Try.prog 10 #[P (k + 3), .string sK] w fun e w' => ∃ D' row, e = .returned (.int .i64 34) ∧ Dsk w0 w' (N + 2) B D' ∧ D'.d = k + 3 ∧ D'.dir = onlyK blk ∧ D'.sure = onlyK blk ∧ D'.fs = [⟨blk, row, one, sure⟩] ∧ D'.loose = [] := by
  have hpd : P (k + 3) = P D.fail.d := by rw [← o.hold.d]; rfl
  rw [hpd]
  refine (sync_st h.at_ h.good h.dead hN sK).mono ?_
  rintro e w' ⟨c, D', rfl, gg, t⟩
  have hs : startE D.fail true [sK] = (true, 0) := by
    have := fail_next g
    have h1 : (D.fail.dir ([sK].headD ByteArray.empty)).isNone = false := by
      show (D.dir sK).isNone = false
      rw [o.hold.dir]; simp [onlyK]
    unfold startE
    rw [h1]
    simp [okK, this]
  have hd := h.to gg (t.stp h.good) (N' := N + 2) (B' := B) (by omega) (by omega)
  rcases t with ⟨e1, e2, _⟩ | ⟨_, rfl, f, hf, hdf, lv, row, rfl⟩ | ⟨e1, _⟩
  · rw [e1, hs] at e2
    rcases e2 with e2 | e2 <;> cases e2
  · obtain ⟨row0, hfs⟩ := o.hold.fs
    have hf' : f ∈ D.fs := hf
    rw [hfs] at hf'
    obtain rfl := List.mem_singleton.1 hf'
    refine ⟨_, row, rfl, hd, o.hold.d, o.hold.dir, o.su, ?_, ?_⟩
    · show D.fs.map _ = _
      rw [hfs, hone]
      simp
    · show D.loose.filter _ = []
      rw [List.filter_eq_nil_iff]
      intro a ha
      obtain ⟨n, rfl⟩ := o.grows a ha
      simp [isOf]
  · rw [hs] at e1; injection e1 with e1; cases e1
theorem AppTo.stays {s : ByteArray} {l : List Int} {c : Int} (h : AppTo D s l c D') : D'.sure = D.sure := by
  rcases h with ⟨_, rfl⟩ | ⟨_, hn, D3, f, hm, ⟨_, rfl⟩ | ⟨_, row, lv, rfl⟩⟩
  · rfl
  · exact hm.same.2.2.2.2.2.2
  · exact hm.same.2.2.2.2.2.2
theorem SynTo.stays {s : ByteArray} {c : Int} (h : SynTo D s c D') : D'.sure = D.sure := by
  rcases h with ⟨_, _, rfl⟩ | ⟨_, _, f, hf, hd, lv, row, rfl⟩ | ⟨_, _, f, hf, hd, lv, rfl⟩ <;> rfl
theorem RenTo.stays {s t : ByteArray} {c : Int} (h : RenTo D s t c D') : D'.sure = D.sure := by
  rcases h with ⟨_, rfl⟩ | ⟨_, hne, hs, ht, b1, b2, v1, rfl⟩ <;> rfl
theorem dirU_grows {keep : Int} {l : List Ac} {d0 : Names} (h : ∀ a ∈ l, isDir a = false) : dirU keep l d0 l.length = d0 := by
  rw [dirU_take _ _ _ _ (Nat.le_refl _)]
  exact replay_grows _ _ (fun a ha => h a (List.mem_of_mem_take ha))
end
end Go.Proofs.Ytgcenkmekpaapaa.L
