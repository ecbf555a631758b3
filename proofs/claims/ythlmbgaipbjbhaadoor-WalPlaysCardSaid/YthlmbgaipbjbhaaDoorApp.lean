/- Files that come, and files that turn. Append. -/
import Derived.Test.YthlmbgaipbjbhaaDoorUsed
import Derived.Deep.RegionHeld3
section
namespace Go.Proofs.YthlmbgaipbjbhaaDoor.L
open Go.RowKit Go.Lib Go.Maps
open Go.Proofs.YthlmbgaipbjbhaaDoorW.PrintWords Go.Proofs.YthlmbgaipbjbhaaDoorW.PrintLast Go.Proofs.YthlmbgaipbjbhaaDoorW.PrintMore
theorem swap_nodup {X R R' Y : List Nat} (h : (X ++ (R ++ Y)).Nodup) (hR : R' = R ∨ R' = [] ∨ ∃ b, R' = [b] ∧ b ∉ X ++ Y) : (X ++ (R' ++ Y)).Nodup := by
  have hs : (X ++ Y).Nodup := h.sublist (List.Sublist.append (List.Sublist.refl _) (List.sublist_append_right _ _))
  rcases hR with e | e | ⟨b, e, hb⟩
  · rw [e]; exact h
  · rw [e]; exact hs
  · rw [e]
    show (X ++ b :: Y).Nodup
    rw [List.perm_middle.nodup_iff, List.nodup_cons]
    exact ⟨hb, hs⟩
def Dk.setF (D : Dk) (f : Fl) : Dk := { D with fs := D.fs.map fun g => if g.blk = f.blk then f else g }
def Dk.addF (D : Dk) (f : Fl) : Dk := { D with fs := D.fs ++ [f] }
section
variable {w w' : World} {D : Dk}
theorem fs_split (h : DkAt w D) {f : Fl} (hf : f ∈ D.fs) (f' : Fl) (e : f'.blk = f.blk) : ∃ l1 l2, D.fs = l1 ++ f :: l2 ∧ (D.setF f').fs = l1 ++ f' :: l2 := by
  obtain ⟨l1, l2, hl⟩ := List.append_of_mem hf
  have hother : ∀ g ∈ D.fs, g.blk = f.blk → g = f := fun g hg he => fl_unique h hg hf he
  have hnd : (D.fs.map (·.blk)).Nodup := by
    have hn := h.nodup
    simp only [Dk.own, List.nodup_cons] at hn
    have h2 := flat_apart (List.nodup_append.1 hn.2.2.2.2).2.1
    exact List.pairwise_map.2 (h2.imp (fun {a b} hab e => hab a.blk List.mem_cons_self (by rw [e]; exact List.mem_cons_self)))
  rw [hl, List.map_append, List.map_cons, List.nodup_append, List.nodup_cons] at hnd
  refine ⟨l1, l2, hl, ?_⟩
  show D.fs.map (fun g => if g.blk = f'.blk then f' else g) = _
  rw [hl, List.map_append, List.map_cons, if_pos e.symm]
  congr 1
  · refine (List.map_congr_left (fun g hg => ?_)).trans (List.map_id _)
    rw [if_neg (fun he => hnd.2.2 g.blk (List.mem_map_of_mem hg) f.blk List.mem_cons_self (he.trans e))]
    rfl
  · congr 1
    refine (List.map_congr_left (fun g hg => ?_)).trans (List.map_id _)
    rw [if_neg (fun he => hnd.2.1.1 (by rw [← he.trans e]; exact List.mem_map_of_mem hg))]
    rfl
theorem Goes.file (h : DkAt w D) {f f' : Fl} (hf : f ∈ D.fs) (e : f'.blk = f.blk) (hat : FlAt w' f') (g : Fr f.own w w') (hv : f'.row.ownBlock = f.row.ownBlock ∨ f'.row.ownBlock = none ∨ ∃ b, f'.row.ownBlock = some b ∧ w.heap.size ≤ b) : Goes w w' D (D.setF f') := by
  obtain ⟨l1, l2, h1, h2⟩ := fs_split h hf f' e
  obtain ⟨⟨n1, n2, n3, n4, n5, n6⟩, hl, hfo, hb⟩ := Dk.ne h
  have hff := hfo f hf
  have ho1 : D.own = ([D.d, D.dm, D.sm, D.fm] ++ D.lv.ownBlock.toList ++ l1.flatMap Fl.own ++ [f.blk]) ++ (f.row.ownBlock.toList ++ l2.flatMap Fl.own) := by
    simp [Dk.own, h1, Fl.own, List.append_assoc]
  have ho2 : (D.setF f').own = ([D.d, D.dm, D.sm, D.fm] ++ D.lv.ownBlock.toList ++ l1.flatMap Fl.own ++ [f.blk]) ++ (f'.row.ownBlock.toList ++ l2.flatMap Fl.own) := by
    show D.d :: D.dm :: D.sm :: D.fm :: (D.lv.ownBlock.toList ++ (D.setF f').fs.flatMap Fl.own) = _
    rw [h2]
    simp [Fl.own, e, List.append_assoc]
  have hsub : ∀ k ∈ (D.setF f').own, k ∈ D.own ∨ w.heap.size ≤ k := fun k hk => by
    rw [ho2] at hk
    rw [ho1]
    rcases List.mem_append.1 hk with hk | hk
    · exact .inl (List.mem_append_left _ hk)
    · rcases List.mem_append.1 hk with hk | hk
      · rcases hv with hv | hv | ⟨b, hv, hbb⟩
        · rw [hv] at hk; exact .inl (List.mem_append_right _ (List.mem_append_left _ hk))
        · rw [hv] at hk; simp at hk
        · rw [hv] at hk; simp at hk; rw [hk]; exact .inr hbb
      · exact .inl (List.mem_append_right _ (List.mem_append_right _ hk))
  have hnd : (D.setF f').own.Nodup := by
    rw [ho2]
    refine swap_nodup (R := f.row.ownBlock.toList) (by rw [← ho1]; exact h.nodup) ?_
    rcases hv with hv | hv | ⟨b, hv, hbb⟩
    · exact .inl (by rw [hv])
    · exact .inr (.inl (by rw [hv]; rfl))
    · refine .inr (.inr ⟨b, by rw [hv]; rfl, fun hm => ?_⟩)
      have : b < w.heap.size := h.lt b (by
        rw [ho1]
        rcases List.mem_append.1 hm with hm | hm
        · exact List.mem_append_left _ hm
        · exact List.mem_append_right _ (List.mem_append_right _ hm))
      omega
  have hkeep : ∀ k, k < w.heap.size → k ∉ f.own → w'.heap[k]? = w.heap[k]? := g.keep
  refine ⟨⟨(hkeep _ h.d_lt (fun hm => (hff _ hm).1 rfl)).trans h.cell, h.dirM.keep (hkeep _ h.dirM.lt (fun hm => (hff _ hm).2.1 rfl)), h.sureM.keep (hkeep _ h.sureM.lt (fun hm => (hff _ hm).2.2.1 rfl)), h.failM.keep (hkeep _ h.failM.lt (fun hm => (hff _ hm).2.2.2.1 rfl)),
    Kd.R_step h.row (fun k hk hlt => hkeep k hlt (fun hm => (hff k hm).2.2.2.2 hk)), fun x hx => ?_, fun a ha => (h.boxed a ha).keep (fun k hk hlt => hkeep k hlt ((hb k (List.mem_flatMap.2 ⟨a, ha, hk⟩)).2.2.2.2.2 f hf)), hnd, fun k hk hm => ?_⟩,
    g.wider (fun k hk => .inl (by
      simp only [Dk.own, List.mem_cons, List.mem_append, List.mem_flatMap]
      exact .inr (.inr (.inr (.inr (.inr ⟨f, hf, hk⟩)))))), hsub, fun _ hk => .inl hk⟩
  · rw [h2] at hx
    have hap : ∀ y ∈ l1 ++ l2, ∀ k ∈ y.own, k ∉ f.own := fun y hy k hk hm => by
      have hn := h.nodup
      simp only [Dk.own, List.nodup_cons] at hn
      have h3 := (List.nodup_append.1 hn.2.2.2.2).2.1
      rw [h1, List.flatMap_append, List.flatMap_cons, List.nodup_append] at h3
      rcases List.mem_append.1 hy with hy | hy
      · exact h3.2.2 k (List.mem_flatMap.2 ⟨y, hy, hk⟩) k (List.mem_append_left _ hm) rfl
      · exact (List.nodup_append.1 h3.2.1).2.2 k hm k (List.mem_flatMap.2 ⟨y, hy, hk⟩) rfl
    rcases List.mem_append.1 hx with hx | hx
    · exact (h.files x (by rw [h1]; exact List.mem_append_left _ hx)).keep (fun k hk hlt => hkeep k hlt (hap x (List.mem_append_left _ hx) k hk))
    · rcases List.mem_cons.1 hx with e2 | hx
      · rw [e2]; exact hat
      · exact (h.files x (by rw [h1]; exact List.mem_append_right _ (List.mem_cons_of_mem _ hx))).keep (fun k hk hlt => hkeep k hlt (hap x (List.mem_append_right _ hx) k hk))
  · rcases hsub k hm with e2 | e2
    · exact h.boff k hk e2
    · have := h.blt k hk
      omega
theorem Goes.add (h : DkAt w D) (g : Fr [] w w') {f : Fl} (hat : FlAt w' f) (hb : w.heap.size ≤ f.blk) (hr : f.row = .slice none 0 0) : Goes w w' D (D.addF f) := by
  have h' := h.new g
  have hrow : f.row.ownBlock = none := by rw [hr]; rfl
  have ho : (D.addF f).own = D.own ++ [f.blk] := by
    simp [Dk.addF, Dk.own, Fl.own, hrow]
  have hnin : f.blk ∉ D.own := fun hm => by have := h.lt _ hm; omega
  refine ⟨⟨h'.cell, h'.dirM, h'.sureM, h'.failM, h'.row, fun x hx => ?_, h'.boxed, ?_, fun k hk hm => ?_⟩, g.none, fun k hk => ?_, fun _ hk => .inl hk⟩
  · rcases List.mem_append.1 (show x ∈ D.fs ++ [f] from hx) with hx | hx
    · exact h'.files x hx
    · rw [List.mem_singleton.1 hx]; exact hat
  · rw [ho, List.nodup_append]
    exact ⟨h.nodup, by simp, fun a ha b hb2 e2 => hnin (by rw [← List.mem_singleton.1 hb2, ← e2]; exact ha)⟩
  · rw [ho] at hm
    rcases List.mem_append.1 hm with hm | hm
    · exact h.boff k hk hm
    · have := h.blt k hk
      rw [List.mem_singleton.1 hm] at this
      omega
  · rw [ho] at hk
    rcases List.mem_append.1 hk with hk | hk
    · exact .inl hk
    · rw [List.mem_singleton.1 hk]; exact .inr hb
end
end Go.Proofs.YthlmbgaipbjbhaaDoor.L
end
section
namespace Go.Proofs.YthlmbgaipbjbhaaDoor.L
open Go.RowKit Go.Lib Go.Maps
open Go.Proofs.YthlmbgaipbjbhaaDoorW.PrintWords Go.Proofs.YthlmbgaipbjbhaaDoorW.PrintLast Go.Proofs.YthlmbgaipbjbhaaDoorW.PrintMore
section
variable {w : World} {D : Dk}
def Mid (D : Dk) (s : ByteArray) (D3 : Dk) (f : Fl) : Prop :=
  (D.dir s = some f.blk ∧ f ∈ D.fs ∧ D3 = D.count) ∨
  (D.dir s = none ∧ f = ⟨f.blk, .slice none 0 0, [], 0⟩ ∧ (∀ g ∈ D.fs, g.blk ≠ f.blk) ∧ ∃ b1 b2 v1, D3 = { D.count.addF f with n := D.n + 1, dir := (Ac.make s f.blk b1 b2).app D.dir, lv := v1, loose := D.loose ++ [.make s f.blk b1 b2] })
def Dk.grown (D : Dk) (f : Fl) (row lv : Value) (l : List Int) : Dk := { D.setF ⟨f.blk, row, f.b ++ l, f.sure⟩ with lv := lv, loose := D.loose ++ [.grow f.blk l.length] }
theorem Lists.perm {f : Names} {es es' : List (ByteArray × Nat)} (h : Lists f es) (h' : Lists f es') : es.Perm es' := by
  have hn : ∀ {l : List (ByteArray × Nat)}, (l.map (·.1)).Nodup → l.Nodup := fun {l} hl => List.Pairwise.of_map (·.1) (fun a b hne e => hne (by rw [e])) hl
  refine (List.perm_ext_iff_of_nodup (hn h.nodup) (hn h'.nodup)).2 (fun p => ⟨fun hp => ?_, fun hp => ?_⟩)
  · exact (h'.is p.1 p.2 (h.short p hp)).1 ((h.is p.1 p.2 (h.short p hp)).2 hp)
  · exact (h.is p.1 p.2 (h'.short p hp)).1 ((h'.is p.1 p.2 (h'.short p hp)).2 hp)
theorem total_perm {g : Nat → Nat} {es es' : List (ByteArray × Nat)} (h : es.Perm es') : total g es = total g es' := (h.map _).sum_nat
theorem used_is (h : DkAt w D) (es : List (ByteArray × Nat)) (hes : Lists D.dir es) (hin : ∀ p ∈ es, ∃ f ∈ D.fs, f.blk = p.2) (hsum : total D.len es < 4611686018427387904) :
    Calls Tryd.prog 64 #[P D.d] w fun e w' => e = .returned (.int .i64 (total D.len es)) ∧ Below w.heap.size w w' := by
  obtain ⟨es', hes', hown, _⟩ := h.dirM.list
  have hp := hes.perm hes'
  rw [total_perm hp] at hsum ⊢
  exact used_calls h es' hes' hown (fun p hpm => hin p (hp.mem_iff.2 hpm)) hsum
def appE (D : Dk) (s : ByteArray) (U n : Nat) : Int := if (startE D false [s]).2 = 0 then (if 0 < n ∧ D.room < (U : Int) + (n : Int) then 33 else if (startE D false [s]).1 then 34 else 0) else (startE D false [s]).2
theorem starts_box (h : DkAt w D) (hd : D.dead = false) (h0 : 0 ≤ D.ops) (h1 : D.ops < 4611686018427387904) (must : Bool) (s : ByteArray) :
    Calls Tryd.prog 44 #[P D.d, .bool must, .slice (some ⟨w.heap.size + 1, 0, none⟩) 1 1] ((w.alloc (.cells #[.string s] 9)).alloc (.cells #[.string s] 9)) fun e w' => e = .returned (.tuple #[.bool (startE D must [s]).1, .int .i64 (startE D must [s]).2]) ∧ Goes w w' D D.count ∧ w'.heap[w.heap.size]? = some (.cells #[.string s] 9 (0, 0)) ∧ w.heap.size < w'.heap.size := by
  have h2 := starts1 (h.new (Fr.alloc [] w (.cells #[.string s] 9))) hd h0 h1 must s
  rw [World.size_alloc] at h2
  refine h2.mono ?_
  rintro e w' ⟨he, g⟩
  have hsz := g.fr.size
  rw [World.size_alloc] at hsz
  have hbox := (MapKept.heap_alloc w (.cells #[.string s] 9)).1
  refine ⟨he, ⟨g.at_, (Fr.alloc D.own w _).trans g.fr (fun _ hk => .inl hk), fun k hk => (g.own k hk).imp id (fun e => by rw [World.size_alloc] at e; omega), fun k hk => (g.box k hk).imp id (fun e => by rw [World.size_alloc] at e; omega)⟩, (g.fr.keep _ (by simp) (fun hm => Nat.lt_irrefl _ (h.lt _ hm))).trans hbox, by omega⟩
set_option maxHeartbeats 4000000 in
set_option maxRecDepth 100000 in
theorem append_dead (h : DkAt w D) (hd : D.dead = true) (s : ByteArray) (A : Option Addr) (n c : Nat) :
    Calls Tryd.prog 49 #[P D.d, .string s, .slice A n c] w fun e w' => e = .returned (.int .i64 35) ∧ Goes w w' D { D with off := true } := by
  have HS := hid (fun (W : World) (f : Fr [] w W) (A : Option Addr) (n c : Nat) => starts_dead (h.new f) hd false A n c)
  have HF := hid (fun (o1 o2 : Obj) => ((Fr.alloc [] w o1).trans (Fr.alloc [] _ o2) (fun _ hk => .inl hk) : Fr [] w _))
  clear h
  go_enter Tryd.func49, Tryd.ntmps49
  go_wp2_with (go_at_call 44; refine (HS.out _ (HF.out _ _) _ _ _).mono ?_; rintro e w1 ⟨rfl, h1, f1⟩; have G1 := hid (Goes.dead h1 ((HF.out _ _).none.trans f1 (fun _ hk => .inl hk))); clear h1 f1)
  go_ret
  exact ⟨rfl, G1.out⟩
set_option maxHeartbeats 8000000 in
set_option maxRecDepth 100000 in
theorem append_no (h : DkAt w D) (hd : D.dead = false) (h0 : 0 ≤ D.ops) (h1 : D.ops < 4611686018427387904) (s : ByteArray) (A : Option Addr) (n c : Nat) (hn : n < 4611686018427387904)
    (es : List (ByteArray × Nat)) (hes : Lists D.dir es) (hin : ∀ p ∈ es, ∃ f ∈ D.fs, f.blk = p.2) (hsum : total D.len es < 4611686018427387904) (hno : appE D s (total D.len es) n ≠ 0) :
    Calls Tryd.prog 49 #[P D.d, .string s, .slice A n c] w fun e w' => e = .returned (.int .i64 (appE D s (total D.len es) n)) ∧ Goes w w' D D.count := by
  have HS := hid (starts_box h hd h0 h1 false s)
  have HU := hid (fun (W : World) (g : Goes w W D D.count) => (show Calls Tryd.prog 64 #[P D.d] W fun e w' => e = .returned (.int .i64 (total D.len es)) ∧ Below W.heap.size W w' from
    used_is g.at_ es hes hin hsum))
  clear h
  cases hE : startE D false [s] with
  | mk fl e2 =>
    rw [hE] at HS
    have HE := hid hE
    have HNO := hid hno
    clear hE hno
    by_cases he : e2 = 0
    · subst he
      by_cases hpos : 0 < n
      · have hposz : (0 : Int) < (n : Int) := by omega
        have hz : wrap64 ((total D.len es : Int) + (n : Int)) = (total D.len es : Int) + (n : Int) := by unfold wrap64; omega
        have hz2 : IntKind.i64.wrap ((total D.len es : Int) + (n : Int)) = (total D.len es : Int) + (n : Int) := by rw [IntKind.wrap_i64]; omega
        by_cases hfull : D.room < (total D.len es : Int) + (n : Int)
        · go_enter Tryd.func49, Tryd.ntmps49
          go_wp2_with (go_at_call 44; refine HS.out.mono ?_; rintro e w1 ⟨rfl, g1, _, _⟩; have G1 := hid g1; have c3 : w1.cell? ⟨D.d, 3, none⟩ = some (.int .i64 D.room) := g1.at_.c3; clear g1)
          go_region_held3 (fun w_ => w_.cell? ⟨D.d, 3, none⟩ = some (.int .i64 D.room)) (go_keep) (first | (go_at_call 64; refine (HU.out _ (G1.out.on (Fr.refl [] w1).drew)).mono ?_; rintro e w2 ⟨rfl, hb⟩; have G2 := hid ((G1.out.on (Fr.refl [] w1).drew).on (Fr.of_below hb [])); have c32 : w2.cell? ⟨D.d, 3, none⟩ = some (.int .i64 D.room) := G2.out.at_.c3; clear hb))
          go_wp2
          go_ret
          exact ⟨by unfold appE; rw [HE.out]; simp [hpos, hfull], G2.out⟩
        · cases fl with
          | false => exact absurd (by unfold appE; rw [HE.out]; simp [hfull]) HNO.out
          | true =>
            go_enter Tryd.func49, Tryd.ntmps49
            go_wp2_with (go_at_call 44; refine HS.out.mono ?_; rintro e w1 ⟨rfl, g1, _, _⟩; have G1 := hid g1; have c3 : w1.cell? ⟨D.d, 3, none⟩ = some (.int .i64 D.room) := g1.at_.c3; clear g1)
            go_region_held3 (fun w_ => w_.cell? ⟨D.d, 3, none⟩ = some (.int .i64 D.room)) (go_keep) (first | (go_at_call 64; refine (HU.out _ (G1.out.on (Fr.refl [] w1).drew)).mono ?_; rintro e w2 ⟨rfl, hb⟩; have G2 := hid ((G1.out.on (Fr.refl [] w1).drew).on (Fr.of_below hb [])); have c32 : w2.cell? ⟨D.d, 3, none⟩ = some (.int .i64 D.room) := G2.out.at_.c3; clear hb))
            go_wp2
            go_ret
            exact ⟨by unfold appE; rw [HE.out]; simp [hfull], G2.out⟩
      · obtain rfl : n = 0 := by omega
        cases fl with
        | false => exact absurd (by unfold appE; rw [HE.out]; simp) HNO.out
        | true =>
          go_enter Tryd.func49, Tryd.ntmps49
          go_wp2_with (go_at_call 44; refine HS.out.mono ?_; rintro e w1 ⟨rfl, g1, _, _⟩; have G1 := hid g1; have c3 : w1.cell? ⟨D.d, 3, none⟩ = some (.int .i64 D.room) := g1.at_.c3; clear g1)
          go_quiet (fail)
          go_wp2
          go_ret
          exact ⟨by unfold appE; rw [HE.out]; simp, G1.out.on (Fr.of_drawn ⟨_, rfl⟩)⟩
    · have hez : ¬ e2 = 0 := he
      go_enter Tryd.func49, Tryd.ntmps49
      go_wp2_with (go_at_call 44; refine HS.out.mono ?_; rintro e w1 ⟨rfl, g1, _, _⟩; have G1 := hid g1; have c3 : w1.cell? ⟨D.d, 3, none⟩ = some (.int .i64 D.room) := g1.at_.c3; clear g1)
      go_ret
      exact ⟨by unfold appE; rw [HE.out]; simp [hez], G1.out⟩
end
end Go.Proofs.YthlmbgaipbjbhaaDoor.L
end
