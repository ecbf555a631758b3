/- Crash: the files copied (what holds between the rounds). -/
import Derived.Test.YthlmbgaipbjbhaaDoorCrashB
namespace Go.Proofs.YthlmbgaipbjbhaaDoor.L
open Go.RowKit Go.Lib Go.Maps Go.ChangeMaps
open Go.Proofs.YthlmbgaipbjbhaaDoorW.PrintWords Go.Proofs.YthlmbgaipbjbhaaDoorW.PrintLast Go.Proofs.YthlmbgaipbjbhaaDoorW.PrintMore
section
variable {w w' : World} {D : Dk}
theorem ranges_move {m r n : Nat} {E : DataW Nat} {left : Lit → Bool} {cnt : Nat} (h : w.ranges Tryd.prog 9 ptrElem m r n E left cnt) (hm : w'.heap[m]? = w.heap[m]?) (hr : w'.heap[r]? = w.heap[r]?) : w'.ranges Tryd.prog 9 ptrElem m r n E left cnt := by
  obtain ⟨es, clock, since, seen, c0, h1, h2, h3, h4, h5, h6⟩ := h
  exact ⟨es, clock, since, seen, c0, hm.trans h1, h2, h3, h4, hr.trans h5, h6⟩
theorem DirAt.store {m n : Nat} {f : Names} (h : DirAt w m n f) (hn : n < maxLen) (s : ByteArray) (hs : s.size ≤ maxLen) (b : Nat) :
    ∃ w', (Instr.mapUpdate 66 (.map (some m)) (.string s) (P b)).run Tryd.prog w = .ok () w' ∧ DirAt w' m (n + 1) (fun t => if t = s then some b else f t) ∧ Fr [m] w w' := by
  obtain ⟨E, h, hf⟩ := h
  obtain ⟨w', hrun, h', hg⟩ := h.update law Tryd.underlying66 hn (keyIs hs) (val := P b) (d := .held b) (ps := []) rfl
  refine ⟨w', hrun, ⟨E.put (.string s.data.toList) (.held b), h', fun t zd hts => ?_⟩, Fr.grown hg⟩
  show _ = readOr zd (if t = s then some b else f t)
  by_cases e : t = s
  · rw [if_pos e, e, atKey_put_same h.isMap (by simp [Go.WideAt.IsKeyLit])]; rfl
  · rw [if_neg e, atKey_put_other (lit_ne e)]
    exact hf t zd hts
theorem Goes.add2 (h : DkAt w D) (g : Fr [] w w') {f : Fl} (hat : FlAt w' f) (hb : w.heap.size ≤ f.blk) (hr : ∀ k, f.row.ownBlock = some k → w.heap.size ≤ k ∧ k ≠ f.blk) : Goes w w' D (D.addF f) := by
  have h' := h.new g
  have ho : (D.addF f).own = D.own ++ f.own := by
    simp [Dk.addF, Dk.own]
  have hge : ∀ k ∈ f.own, w.heap.size ≤ k := fun k hk => by
    rcases List.mem_cons.1 hk with e | hk
    · rw [e]; exact hb
    · exact (hr k (by simpa using hk)).1
  have hnin : ∀ k ∈ f.own, k ∉ D.own := fun k hk hm => by have := h.lt _ hm; have := hge k hk; omega
  have hfn : f.own.Nodup := by
    show (f.blk :: f.row.ownBlock.toList).Nodup
    cases e : f.row.ownBlock with
    | none => simp
    | some k => simpa using fun e2 : f.blk = k => (hr k e).2 e2.symm
  refine ⟨⟨h'.cell, h'.dirM, h'.sureM, h'.failM, h'.row, fun x hx => ?_, h'.boxed, ?_, fun k hk hm => ?_⟩, g.none, fun k hk => ?_, fun _ hk => .inl hk⟩
  · rcases List.mem_append.1 (show x ∈ D.fs ++ [f] from hx) with hx | hx
    · exact h'.files x hx
    · rw [List.mem_singleton.1 hx]; exact hat
  · rw [ho, List.nodup_append]
    exact ⟨h.nodup, hfn, fun a ha b hb2 e2 => hnin b hb2 (by rw [← e2]; exact ha)⟩
  · rw [ho] at hm
    rcases List.mem_append.1 hm with hm | hm
    · exact h.boff k hk hm
    · have := h.blt k hk
      have := hge k hm
      omega
  · rw [ho] at hk
    rcases List.mem_append.1 hk with hk | hk
    · exact .inl hk
    · exact .inr (hge k hk)
def Dk.named (D : Dk) (s : ByteArray) (f : Fl) : Dk := { D with n := D.n + 1, dir := fun t => if t = s then some f.blk else D.dir t, fs := D.fs ++ [f] }
theorem copy_step (h : DkAt w D) {w2 : World} {l : List Int} {A2 : Option Addr} {c2 : Nat} (hb : Below w.heap.size w w2) (hr : Kd.R kB 5 w2 w.heap.size (fun _ => True) (.slice A2 l.length c2) l) (n : Nat) (s : ByteArray) (hs : s.size ≤ maxLen) (hn : D.n < maxLen) :
    ∃ w3, (Instr.mapUpdate 66 (.map (some D.dm)) (.string s) (P w2.heap.size)).run Tryd.prog (w2.alloc (.cells #[.slice A2 l.length c2, .int .i64 n] 92)) = .ok () w3 ∧ Goes w w3 D (D.named s ⟨w2.heap.size, .slice A2 l.length c2, l, n⟩) := by
  have hsz := hb.size
  have hown : ∀ k, (Value.slice A2 l.length c2).ownBlock = some k → w.heap.size ≤ k ∧ k < w2.heap.size := fun k hk => by
    obtain ⟨inner, ho⟩ := Kd.R_own hr
    refine ⟨?_, own_lt ho k hk⟩
    rcases ho.2 with ⟨e, _⟩ | ⟨g, cap, cur, e, hbb, _⟩
    · rw [e] at hk; cases hk
    · rw [e] at hk
      injection hk with hk
      rw [← hk]; exact hbb
  have g1 : Goes w (w2.alloc (.cells #[.slice A2 l.length c2, .int .i64 n] 92)) D (D.addF ⟨w2.heap.size, .slice A2 l.length c2, l, n⟩) := by
    refine Goes.add2 h ((Fr.of_below hb []).trans (Fr.alloc [] w2 _) (fun _ hk => .inl hk)) ⟨(MapKept.heap_alloc w2 _).1, ?_⟩ hsz (fun k hk => ⟨(hown k hk).1, by have := (hown k hk).2; show k ≠ w2.heap.size; omega⟩)
    obtain ⟨_, inner, ho, hrr⟩ := Kd.R_lower hr (Nat.zero_le _)
    have h0 : Kd.R kB 5 w2 0 (fun k => (Value.slice A2 l.length c2).ownBlock = some k) (.slice A2 l.length c2) l := ⟨fun k hk => hk, inner, ho, hrr.imp_ (fun _ _ hp => hp)⟩
    exact Kd.R_step h0 (fun k _ hk => Below.heap_alloc w2 _ k hk)
  obtain ⟨w3, hrun, hd, hf⟩ := g1.at_.dirM.store hn s hs w2.heap.size
  exact ⟨w3, hrun, g1.trans (Goes.turn_dir g1.at_ hd hf)⟩
end
def dirOf (ps : List (ByteArray × Fl)) : Names := fun s => (ps.find? (fun p => decide (p.1 = s))).map (·.2.blk)
def xD (k : Nat) (room : Int) (ps : List (ByteArray × Fl)) : Dk := { newD k room with n := ps.length, dir := dirOf ps, fs := ps.map (·.2) }
theorem dirOf_snoc {ps : List (ByteArray × Fl)} {s : ByteArray} {f : Fl} (h : s ∉ ps.map (·.1)) : dirOf (ps ++ [(s, f)]) = fun t => if t = s then some f.blk else dirOf ps t := by
  funext t
  unfold dirOf
  rw [List.find?_append]
  by_cases e : t = s
  · have : ps.find? (fun p => decide (p.1 = t)) = none := List.find?_eq_none.2 (fun p hp e2 => h (by rw [← e, ← (by simpa using e2 : p.1 = t)]; exact List.mem_map_of_mem hp))
    rw [this, if_pos e]
    simp [e]
  · rw [if_neg e]
    have : ([(s, f)] : List (ByteArray × Fl)).find? (fun p => decide (p.1 = t)) = none := List.find?_eq_none.2 (fun p hp e2 => e (by rw [← (by simpa using e2 : p.1 = t), List.mem_singleton.1 hp]))
    rw [this]
    simp
theorem xD_named {k : Nat} {room : Int} {ps : List (ByteArray × Fl)} {s : ByteArray} {f : Fl} (h : s ∉ ps.map (·.1)) : (xD k room ps).named s f = xD k room (ps ++ [(s, f)]) := by
  unfold Dk.named xD
  rw [dirOf_snoc h]
  simp
def crashN (keep torn : Int) (D : Dk) (f : Fl) : Nat := (f.sure + growU keep torn D.loose D.loose.length f.blk).toNat
def CpOf (keep torn : Int) (D : Dk) (p : ByteArray × Fl) : Prop := ∃ f ∈ D.fs, dirU keep D.loose D.sure D.loose.length p.1 = some f.blk ∧ p.2.b = f.b.take (crashN keep torn D f) ∧ p.2.sure = crashN keep torn D f
structure Copying (w wq : World) (D : Dk) (keep torn : Int) (gm sb k r0 : Nat) (es : List (ByteArray × Nat)) (left : Lit → Bool) (ps : List (ByteArray × Fl)) : Prop where
  at_ : DkAt wq (xD k D.room ps)
  own : ∀ j ∈ (xD k D.room ps).own, k ≤ j ∧ j ≠ r0
  below : Below w.heap.size w wq
  grow : GrowAt wq gm (fun b => ∃ f ∈ D.fs, f.blk = b) (growU keep torn D.loose D.loose.length)
  box : wq.heap[sb]? = some (.cells #[.map (some gm)] 84 (0, 0))
  gone : ∀ p ∈ ps, left (.string p.1.data.toList) = false
  done : ∀ e ∈ es, left (.string e.1.data.toList) = false → e.1 ∈ ps.map (·.1)
  all : ∀ p ∈ ps, CpOf keep torn D p
  nodup : (ps.map (·.1)).Nodup
  few : ps.length + (leftL left es).length = es.length
section
variable {w wq w' : World} {D : Dk} {keep torn : Int} {gm sb k r0 : Nat} {es : List (ByteArray × Nat)} {left : Lit → Bool} {ps : List (ByteArray × Fl)}
theorem Copying.fr (h : Copying w wq D keep torn gm sb k r0 es left ps) (f : Fr [r0] wq w') (hk : w.heap.size ≤ k) (hr : k ≤ r0) (hg : gm < k) (hs : sb < k) : Copying w w' D keep torn gm sb k r0 es left ps :=
  ⟨h.at_.fr f (fun j hj hm => by
    rcases hj with hj | hj
    · exact (h.own j hj).2 (List.mem_singleton.1 hm)
    · simp [xD, newD, Dk.boxes] at hj), h.own, h.below.trans (f.below h.below.size (fun j hj => by rw [List.mem_singleton.1 hj]; omega)), h.grow.keep (f.keep _ h.grow.lt (by simp; omega)), (f.keep _ (lt_of h.box) (by simp; omega)).trans h.box, h.gone, h.done, h.all, h.nodup, h.few⟩
theorem left_fewer {left : Lit → Bool} {es : List (ByteArray × Nat)} (hn : (es.map (·.1)).Nodup) {s : ByteArray} {b : Nat} (hm : (s, b) ∈ es) (hl : left (.string s.data.toList) = true) : (leftL left es).length = 1 + (leftL (fun z => left z && !z.sameKey (.string s.data.toList)) es).length := by
  have h := left_step hn hm hl (fun _ => 1)
  have h2 : ∀ l : List (ByteArray × Nat), total (fun _ => 1) l = l.length := fun l => by
    unfold total
    induction l with
    | nil => rfl
    | cons _ _ ih => rw [List.map_cons, List.sum_cons, ih, List.length_cons, Nat.add_comm]
  rw [h2, h2] at h
  exact h
theorem Copying.step (h : Copying w wq D keep torn gm sb k r0 es left ps) {s : ByteArray} {b : Nat} {f' : Fl} (g : Goes wq w' (xD k D.room ps) ((xD k D.room ps).named s f')) (hk : w.heap.size ≤ k) (hg : gm < k) (hs : sb < k) (hr0 : r0 < wq.heap.size) (hkw : k ≤ wq.heap.size)
    (hn : (es.map (·.1)).Nodup) (hm : (s, b) ∈ es) (hl : left (.string s.data.toList) = true) (hc : CpOf keep torn D (s, f')) : Copying w w' D keep torn gm sb k r0 es (fun z => left z && !z.sameKey (.string s.data.toList)) (ps ++ [(s, f')]) := by
  have hnew : s ∉ ps.map (·.1) := fun hm2 => by
    obtain ⟨p, hp, e⟩ := List.mem_map.1 hm2
    have := h.gone p hp
    rw [e, hl] at this
    cases this
  have hown := h.own
  have hfar : ∀ j, j < k → j ∉ (xD k D.room ps).own := fun j hj hm2 => by have := (hown j hm2).1; omega
  refine ⟨by rw [← xD_named hnew]; exact g.at_, fun j hj => ?_, h.below.trans (g.fr.below h.below.size (fun j hj => by have := (hown j hj).1; omega)), h.grow.keep (g.fr.keep _ h.grow.lt (hfar _ hg)), (g.fr.keep _ (lt_of h.box) (hfar _ hs)).trans h.box, fun p hp => ?_, fun e he hle => ?_, fun p hp => ?_, ?_, ?_⟩
  · rw [← xD_named hnew] at hj
    rcases g.own j hj with e | e
    · exact hown j e
    · exact ⟨by omega, by omega⟩
  · rcases List.mem_append.1 hp with hp | hp
    · show (left (.string p.1.data.toList) && _) = false
      rw [h.gone p hp]; rfl
    · rw [List.mem_singleton.1 hp]
      show (left (.string s.data.toList) && !(Lit.string s.data.toList).sameKey (.string s.data.toList)) = false
      rw [sameKey_self]; simp
  · rw [List.map_append, List.mem_append]
    by_cases e2 : e.1 = s
    · exact .inr (by rw [e2]; simp)
    · refine .inl (h.done e he ?_)
      have h2 : (left (.string e.1.data.toList) && !(Lit.string e.1.data.toList).sameKey (.string s.data.toList)) = false := hle
      rw [same_key, decide_eq_false e2] at h2
      simpa using h2
  · rcases List.mem_append.1 hp with hp | hp
    · exact h.all p hp
    · rw [List.mem_singleton.1 hp]; exact hc
  · rw [List.map_append, List.nodup_append]
    exact ⟨h.nodup, by simp, fun a ha c hc2 e => hnew (by rw [← (show c = s by simpa using hc2), ← e]; exact ha)⟩
  · have := h.few
    rw [left_fewer hn hm hl] at this
    rw [List.length_append]
    simp only [List.length_singleton]
    omega
end
end Go.Proofs.YthlmbgaipbjbhaaDoor.L
