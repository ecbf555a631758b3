/- Files that come, and files that turn. -/
import Derived.Test.YtgcenkmekpaapaaUsed
namespace Go.Proofs.Ytgcenkmekpaapaa.L
open Go.RowKit Go.Lib Go.Maps
open Go.Proofs.YtgcenkmekpaapaaW.PrintWords Go.Proofs.YtgcenkmekpaapaaW.PrintLast Go.Proofs.YtgcenkmekpaapaaW.PrintMore
theorem swap_nodup {X R R' Y : List Nat} (h : (X ++ (R ++ Y)).Nodup) (hR : R' = R ∨ R' = [] ∨ ∃ b, R' = [b] ∧ b ∉ X ++ Y) : (X ++ (R' ++ Y)).Nodup := by
  have hs : (X ++ Y).Nodup := h.sublist (List.Sublist.append (List.Sublist.refl _) (List.sublist_append_right _ _))
  rcases hR with e | e | ⟨b, e, hb⟩
  · rw [e]; exact h
  · rw [e]; exact hs
  · rw [e]
    show (X ++ b :: Y).Nodup
    rw [List.perm_middle.nodup_iff, List.nodup_cons]
    exact ⟨hb, hs⟩
def Dk.setF (D : Dk) (f : Fl) : Dk := { D with fs := D.fs.map fun g => if g.blk = f.blk then f else g }
def Dk.addF (D : Dk) (f : Fl) : Dk := { D with fs := D.fs ++ [f] }
section
variable {w w' : World} {D : Dk}
theorem fs_split (h : DkAt w D) {f : Fl} (hf : f ∈ D.fs) (f' : Fl) (e : f'.blk = f.blk) : ∃ l1 l2, D.fs = l1 ++ f :: l2 ∧ (D.setF f').fs = l1 ++ f' :: l2 := by
  obtain ⟨l1, l2, hl⟩ := List.append_of_mem hf
  have hother : ∀ g ∈ D.fs, g.blk = f.blk → g = f := fun g hg he => fl_unique h hg hf he
  have hnd : (D.fs.map (·.blk)).Nodup := by
    have hn := h.nodup
    simp only [Dk.own, List.nodup_cons] at hn
    have h2 := flat_apart (List.nodup_append.1 hn.2.2.2.2).2.1
    exact List.pairwise_map.2 (h2.imp (fun {a b} hab e => hab a.blk List.mem_cons_self (by rw [e]; exact List.mem_cons_self)))
  rw [hl, List.map_append, List.map_cons, List.nodup_append, List.nodup_cons] at hnd
  refine ⟨l1, l2, hl, ?_⟩
  show D.fs.map (fun g => if g.blk = f'.blk then f' else g) = _
  rw [hl, List.map_append, List.map_cons, if_pos e.symm]
  congr 1
  · refine (List.map_congr_left (fun g hg => ?_)).trans (List.map_id _)
    rw [if_neg (fun he => hnd.2.2 g.blk (List.mem_map_of_mem hg) f.blk List.mem_cons_self (he.trans e))]
    rfl
  · congr 1
    refine (List.map_congr_left (fun g hg => ?_)).trans (List.map_id _)
    rw [if_neg (fun he => hnd.2.1.1 (by rw [← he.trans e]; exact List.mem_map_of_mem hg))]
    rfl
theorem Goes.file (h : DkAt w D) {f f' : Fl} (hf : f ∈ D.fs) (e : f'.blk = f.blk) (hat : FlAt w' f') (g : Fr f.own w w') (hv : f'.row.ownBlock = f.row.ownBlock ∨ f'.row.ownBlock = none ∨ ∃ b, f'.row.ownBlock = some b ∧ w.heap.size ≤ b) : Goes w w' D (D.setF f') := by
  obtain ⟨l1, l2, h1, h2⟩ := fs_split h hf f' e
  obtain ⟨⟨n1, n2, n3, n4, n5, n6⟩, hl, hfo, hb⟩ := Dk.ne h
  have hff := hfo f hf
  have ho1 : D.own = ([D.d, D.dm, D.sm, D.fm] ++ D.lv.ownBlock.toList ++ l1.flatMap Fl.own ++ [f.blk]) ++ (f.row.ownBlock.toList ++ l2.flatMap Fl.own) := by
    simp [Dk.own, h1, Fl.own, List.append_assoc]
  have ho2 : (D.setF f').own = ([D.d, D.dm, D.sm, D.fm] ++ D.lv.ownBlock.toList ++ l1.flatMap Fl.own ++ [f.blk]) ++ (f'.row.ownBlock.toList ++ l2.flatMap Fl.own) := by
    show D.d :: D.dm :: D.sm :: D.fm :: (D.lv.ownBlock.toList ++ (D.setF f').fs.flatMap Fl.own) = _
    rw [h2]
    simp [Fl.own, e, List.append_assoc]
  have hsub : ∀ k ∈ (D.setF f').own, k ∈ D.own ∨ w.heap.size ≤ k := fun k hk => by
    rw [ho2] at hk
    rw [ho1]
    rcases List.mem_append.1 hk with hk | hk
    · exact .inl (List.mem_append_left _ hk)
    · rcases List.mem_append.1 hk with hk | hk
      · rcases hv with hv | hv | ⟨b, hv, hbb⟩
        · rw [hv] at hk; exact .inl (List.mem_append_right _ (List.mem_append_left _ hk))
        · rw [hv] at hk; simp at hk
        · rw [hv] at hk; simp at hk; rw [hk]; exact .inr hbb
      · exact .inl (List.mem_append_right _ (List.mem_append_right _ hk))
  have hnd : (D.setF f').own.Nodup := by
    rw [ho2]
    refine swap_nodup (R := f.row.ownBlock.toList) (by rw [← ho1]; exact h.nodup) ?_
    rcases hv with hv | hv | ⟨b, hv, hbb⟩
    · exact .inl (by rw [hv])
    · exact .inr (.inl (by rw [hv]; rfl))
    · refine .inr (.inr ⟨b, by rw [hv]; rfl, fun hm => ?_⟩)
      have : b < w.heap.size := h.lt b (by
        rw [ho1]
        rcases List.mem_append.1 hm with hm | hm
        · exact List.mem_append_left _ hm
        · exact List.mem_append_right _ (List.mem_append_right _ hm))
      omega
  have hkeep : ∀ k, k < w.heap.size → k ∉ f.own → w'.heap[k]? = w.heap[k]? := g.keep
  refine ⟨⟨(hkeep _ h.d_lt (fun hm => (hff _ hm).1 rfl)).trans h.cell, h.dirM.keep (hkeep _ h.dirM.lt (fun hm => (hff _ hm).2.1 rfl)), h.sureM.keep (hkeep _ h.sureM.lt (fun hm => (hff _ hm).2.2.1 rfl)), h.failM.keep (hkeep _ h.failM.lt (fun hm => (hff _ hm).2.2.2.1 rfl)),
    Kd.R_step h.row (fun k hk hlt => hkeep k hlt (fun hm => (hff k hm).2.2.2.2 hk)), fun x hx => ?_, fun a ha => (h.boxed a ha).keep (fun k hk hlt => hkeep k hlt ((hb k (List.mem_flatMap.2 ⟨a, ha, hk⟩)).2.2.2.2.2 f hf)), hnd, fun k hk hm => ?_⟩,
    g.wider (fun k hk => .inl (by
      simp only [Dk.own, List.mem_cons, List.mem_append, List.mem_flatMap]
      exact .inr (.inr (.inr (.inr (.inr ⟨f, hf, hk⟩)))))), hsub, fun _ hk => .inl hk⟩
  · rw [h2] at hx
    have hap : ∀ y ∈ l1 ++ l2, ∀ k ∈ y.own, k ∉ f.own := fun y hy k hk hm => by
      have hn := h.nodup
      simp only [Dk.own, List.nodup_cons] at hn
      have h3 := (List.nodup_append.1 hn.2.2.2.2).2.1
      rw [h1, List.flatMap_append, List.flatMap_cons, List.nodup_append] at h3
      rcases List.mem_append.1 hy with hy | hy
      · exact h3.2.2 k (List.mem_flatMap.2 ⟨y, hy, hk⟩) k (List.mem_append_left _ hm) rfl
      · exact (List.nodup_append.1 h3.2.1).2.2 k hm k (List.mem_flatMap.2 ⟨y, hy, hk⟩) rfl
    rcases List.mem_append.1 hx with hx | hx
    · exact (h.files x (by rw [h1]; exact List.mem_append_left _ hx)).keep (fun k hk hlt => hkeep k hlt (hap x (List.mem_append_left _ hx) k hk))
    · rcases List.mem_cons.1 hx with e2 | hx
      · rw [e2]; exact hat
      · exact (h.files x (by rw [h1]; exact List.mem_append_right _ (List.mem_cons_of_mem _ hx))).keep (fun k hk hlt => hkeep k hlt (hap x (List.mem_append_right _ hx) k hk))
  · rcases hsub k hm with e2 | e2
    · exact h.boff k hk e2
    · have := h.blt k hk
      omega
theorem Goes.add (h : DkAt w D) (g : Fr [] w w') {f : Fl} (hat : FlAt w' f) (hb : w.heap.size ≤ f.blk) (hr : f.row = .slice none 0 0) : Goes w w' D (D.addF f) := by
  have h' := h.new g
  have hrow : f.row.ownBlock = none := by rw [hr]; rfl
  have ho : (D.addF f).own = D.own ++ [f.blk] := by
    simp [Dk.addF, Dk.own, Fl.own, hrow]
  have hnin : f.blk ∉ D.own := fun hm => by have := h.lt _ hm; omega
  refine ⟨⟨h'.cell, h'.dirM, h'.sureM, h'.failM, h'.row, fun x hx => ?_, h'.boxed, ?_, fun k hk hm => ?_⟩, g.none, fun k hk => ?_, fun _ hk => .inl hk⟩
  · rcases List.mem_append.1 (show x ∈ D.fs ++ [f] from hx) with hx | hx
    · exact h'.files x hx
    · rw [List.mem_singleton.1 hx]; exact hat
  · rw [ho, List.nodup_append]
    exact ⟨h.nodup, by simp, fun a ha b hb2 e2 => hnin (by rw [← List.mem_singleton.1 hb2, ← e2]; exact ha)⟩
  · rw [ho] at hm
    rcases List.mem_append.1 hm with hm | hm
    · exact h.boff k hk hm
    · have := h.blt k hk
      rw [List.mem_singleton.1 hm] at this
      omega
  · rw [ho] at hk
    rcases List.mem_append.1 hk with hk | hk
    · exact .inl hk
    · rw [List.mem_singleton.1 hk]; exact .inr hb
end
end Go.Proofs.Ytgcenkmekpaapaa.L
