/- What an operation does to a disk, live or dead; what it leaves of other names. Contracts by hand, in the print's own form: slices.Clone of bytes, wire.bits. -/
import Derived.Test.YthlmbgaipbjbhaaDoorFirm
import Derived.Test.YthlmbgaipbjbhaaDoorDir
import Derived.Test.YthlmbgaipbjbhaaDoorUsed
import Derived.WalkMore
section
namespace Go.Proofs.YthlmbgaipbjbhaaDoor.L
open Go.RowKit Go.Lib Go.Maps
open Go.Proofs.YthlmbgaipbjbhaaDoorW.PrintWords Go.Proofs.YthlmbgaipbjbhaaDoorW.PrintLast Go.Proofs.YthlmbgaipbjbhaaDoorW.PrintMore
set_option linter.unusedVariables false
def acT : Ac → List ByteArray
  | .make x _ _ _ => [x]
  | .move _ t _ _ => [t]
  | _ => []
structure Only (P : ByteArray → Prop) (D : Dk) : Prop where
  dir : ∀ x b, D.dir x = some b → P x
  sure : ∀ x b, D.sure x = some b → P x
  acts : ∀ a ∈ D.loose, ∀ x ∈ acT a, P x
structure Did (T : ByteArray → Prop) (k : Nat) (D D' : Dk) : Prop where
  d : D'.d = D.d
  room : D'.room = D.room
  cut : D'.cut = D.cut
  fails : D'.fails = D.fails
  lo : D.ops ≤ D'.ops
  hi : D'.ops ≤ D.ops + k
  off : D.cut < 0 → D.off = false → D'.off = false
  firm : ∀ s o, (∀ x, T x → x ≠ s) → Firm D s o → Firm D' s o
  only : ∀ P : ByteArray → Prop, (∀ x, T x → P x) → Only P D → Only P D'
section
variable {w : World} {T T' : ByteArray → Prop} {N M B L k j : Nat} {D D' D'' : Dk} {s : ByteArray}
theorem Did.refl (T : ByteArray → Prop) (D : Dk) : Did T 0 D D := ⟨rfl, rfl, rfl, rfl, Int.le_refl _, by simp, fun _ h => h, fun _ _ _ h => h, fun _ _ h => h⟩
theorem Did.trans (h : Did T k D D') (h' : Did T j D' D'') : Did T (k + j) D D'' :=
  ⟨h'.d.trans h.d, h'.room.trans h.room, h'.cut.trans h.cut, h'.fails.trans h.fails, Int.le_trans h.lo h'.lo, by have := h.hi; have := h'.hi; omega,
    fun h1 h2 => h'.off (by rw [h.cut]; exact h1) (h.off h1 h2), fun s o hs f => h'.firm s o hs (h.firm s o hs f), fun P hP o => h'.only P hP (h.only P hP o)⟩
theorem Did.wider (h : Did T k D D') (hT : ∀ x, T x → T' x) (hk : k ≤ j) : Did T' j D D' :=
  ⟨h.d, h.room, h.cut, h.fails, h.lo, by have := h.hi; omega, h.off, fun s o hs f => h.firm s o (fun x hx => hs x (hT x hx)) f, fun P hP o => h.only P (fun x hx => hP x (hT x hx)) o⟩
theorem Did.dead (T : ByteArray → Prop) (h : D.dead = true) : Did T 0 D { D with off := true } :=
  ⟨rfl, rfl, rfl, rfl, Int.le_refl _, by simp, (fun h1 h2 => by rw [live_of h1 h2] at h; cases h), fun _ _ _ f => f.off, fun _ _ o => ⟨o.dir, o.sure, o.acts⟩⟩
theorem only_snoc {P : ByteArray → Prop} {l : List Ac} {a : Ac} (h : ∀ a ∈ l, ∀ x ∈ acT a, P x) (ha : ∀ x ∈ acT a, P x) : ∀ b ∈ l ++ [a], ∀ x ∈ acT b, P x := fun b hb => by
  rcases List.mem_append.1 hb with hb | hb
  · exact h b hb
  · rw [List.mem_singleton.1 hb]; exact ha
theorem Only.mid {P : ByteArray → Prop} (o : Only P D) {D3 : Dk} {f : Fl} (hm : Mid D s D3 f) (hs : P s) : Only P D3 := by
  rcases hm with ⟨h1, h2, rfl⟩ | ⟨h1, h2, h3, b1, b2, v1, rfl⟩
  · exact ⟨o.dir, o.sure, o.acts⟩
  · refine ⟨fun x b hx => ?_, o.sure, only_snoc o.acts (fun x hx => by rw [List.mem_singleton.1 hx]; exact hs)⟩
    have hx' : (if x = s then some f.blk else D.dir x) = some b := hx
    split at hx'
    · rename_i e; rw [e]; exact hs
    · exact o.dir x b hx'
theorem Only.step {P : ByteArray → Prop} (o : Only P D) (h : Stp T L D D') (hT : ∀ x, T x → P x) : Only P D' := by
  cases h with
  | count => exact ⟨o.dir, o.sure, o.acts⟩
  | gone x b1 v1 hs hd =>
    refine ⟨fun y b hy => ?_, o.sure, only_snoc o.acts (fun y hy => by cases hy)⟩
    have hy' : (if y = x then none else D.dir y) = some b := hy
    split at hy'
    · cases hy'
    · exact o.dir y b hy'
  | move x t b1 b2 v1 hs ht hd hn hne =>
    refine ⟨fun y b hy => ?_, o.sure, only_snoc o.acts (fun y hy => by rw [List.mem_singleton.1 hy]; exact hT t ht)⟩
    have hy' : (if y = x then none else if y = t then D.dir x else D.dir y) = some b := hy
    split at hy'
    · cases hy'
    · split at hy'
      · rename_i e; rw [e]; exact hT t ht
      · exact o.dir y b hy'
  | mid x D3 f hs hn hm => exact o.mid hm (hT x hs)
  | grown x D3 f row lv l hs hn hm hl =>
    have o3 := o.mid hm (hT x hs)
    exact ⟨o3.dir, o3.sure, only_snoc o3.acts (fun y hy => by cases hy)⟩
  | strike x f row lv l n hs hf hd hn hl => exact ⟨o.dir, o.sure, fun a ha => o.acts a (List.mem_filter.1 ha).1⟩
  | synced lv m =>
    unfold Dk.synced
    split
    · exact ⟨o.sure, o.sure, fun a ha => o.acts a (List.mem_filter.1 ha).1⟩
    · exact ⟨o.dir, o.dir, fun a ha => o.acts a (List.mem_filter.1 ha).1⟩
  | failing x => exact ⟨o.dir, o.sure, o.acts⟩
theorem Stp.did (h : Stp T L D D') (g : Good N B D) (ho : D'.ops = D.ops + 1) (hf : D'.fails = D.fails) : Did T 1 D D' :=
  have hs := h.same
  ⟨hs.2.2.1, hs.2.2.2, hs.1, hf, by omega, by omega, fun _ h2 => hs.2.1.trans h2, fun s o hT f => f.step g h hT, fun P hP o => o.step h hP⟩
theorem AppTo.same {l : List Int} {c : Int} (h : AppTo D s l c D') : D'.ops = D.ops + 1 ∧ D'.fails = D.fails := by
  rcases h with ⟨_, rfl⟩ | ⟨_, hn, D3, f, hm, ⟨_, rfl⟩ | ⟨_, row, lv, rfl⟩⟩
  · exact ⟨rfl, rfl⟩
  · exact ⟨hm.same.2.2.2.2.2.1, hm.same.2.2.2.2.1⟩
  · exact ⟨hm.same.2.2.2.2.2.1, hm.same.2.2.2.2.1⟩
theorem SynTo.same {c : Int} (h : SynTo D s c D') : D'.ops = D.ops + 1 ∧ D'.fails = D.fails := by
  rcases h with ⟨_, _, rfl⟩ | ⟨_, _, f, hf, hd, lv, row, rfl⟩ | ⟨_, _, f, hf, hd, lv, rfl⟩ <;> exact ⟨rfl, rfl⟩
theorem RenTo.same {t : ByteArray} {c : Int} (h : RenTo D s t c D') : D'.ops = D.ops + 1 ∧ D'.fails = D.fails := by
  rcases h with ⟨_, rfl⟩ | ⟨_, hne, hs, ht, b1, b2, v1, rfl⟩ <;> exact ⟨rfl, rfl⟩
theorem RemTo.same {c : Int} (h : RemTo D s c D') : D'.ops = D.ops + 1 ∧ D'.fails = D.fails := by
  rcases h with ⟨_, rfl⟩ | ⟨_, hs, b1, v1, rfl⟩ <;> exact ⟨rfl, rfl⟩
theorem synced_same (lv : Value) (m : Nat) : (D.synced lv m).ops = D.ops + 1 ∧ (D.synced lv m).fails = D.fails := by
  unfold Dk.synced
  split <;> exact ⟨rfl, rfl⟩
theorem AppTo.good {l : List Int} {c : Int} (h : AppTo D s l c D') (g : Good N B D) (hb : ∀ f ∈ D.fs, D.dir s = some f.blk → f.b.length + l.length ≤ B) (hl : l.length ≤ B) : Good (N + 2) B D' := by
  rcases h with ⟨_, rfl⟩ | ⟨_, hn, D3, f, hm, ⟨_, rfl⟩ | ⟨_, row, lv, rfl⟩⟩
  · exact g.count.mono (by omega) (Nat.le_refl _)
  · exact (g.mid hm hn).1.mono (by omega) (Nat.le_refl _)
  · refine (g.mid hm hn).1.grown (g.mid hm hn).2.1 row lv l (Nat.le_refl _) ?_
    rcases hm with ⟨h1, h2, rfl⟩ | ⟨h1, h2, _⟩
    · exact hb f h2 h1
    · rw [h2]; simpa using hl
theorem short_le : ∀ (l m : List ByteArray), l.Nodup → (∀ x ∈ l, x ∈ m) → l.length ≤ m.length
  | [], _, _, _ => Nat.zero_le _
  | a :: l, m, hn, h => by
    rw [List.nodup_cons] at hn
    have ha := h a List.mem_cons_self
    have h1 := short_le l (m.filter fun x => decide (x ≠ a)) hn.2 (fun x hx => List.mem_filter.2 ⟨h x (List.mem_cons_of_mem _ hx), decide_eq_true (fun e => hn.1 (by rw [← e]; exact hx))⟩)
    have h2 : (m.filter fun x => decide (x ≠ a)).length < m.length := List.length_filter_lt_length_iff_exists.2 ⟨a, ha, by simp⟩
    rw [List.length_cons]; omega
theorem Lists.le {es : List (ByteArray × Nat)} {ns : List ByteArray} (h : Lists D.dir es) (o : Only (fun x => x ∈ ns) D) : es.length ≤ ns.length := by
  have := short_le (es.map (·.1)) ns h.nodup (fun x hx => by
    obtain ⟨p, hp, rfl⟩ := List.mem_map.1 hx
    exact o.dir p.1 p.2 ((h.is p.1 p.2 (h.short p hp)).2 hp))
  rwa [List.length_map] at this
def AppC (ns : List ByteArray) (N B : Nat) (D D' : Dk) (s : ByteArray) (l : List Int) (c : Int) : Prop :=
  (c = 35 ∧ D.dead = true ∧ D' = { D with off := true }) ∨ (c = 33 ∧ D.room < ((ns.length + 1) * B : Nat) ∧ l ≠ [] ∧ D' = D.count) ∨ (c = 34 ∧ 0 < D.fails D.ops ∧ D' = D.count) ∨ (c = 0 ∧ ∃ D3 f, Mid D s D3 f ∧ Good (N + 1) B D3 ∧ ((l = [] ∧ D' = D3) ∨ (l ≠ [] ∧ ∃ row lv, D' = D3.grown f row lv l)))
def SdC (D D' : Dk) (c : Int) : Prop := (c = 35 ∧ D.dead = true ∧ D' = { D with off := true }) ∨ ∃ lv m, D' = D.synced lv m ∧ ((c = 34 ∧ 0 < D.fails D.ops) ∨ (c = 0 ∧ ¬ 0 < D.fails D.ops))
def SyC (D : Dk) (s : ByteArray) (D' : Dk) (c : Int) : Prop := (c = 35 ∧ D.dead = true ∧ D' = { D with off := true }) ∨ SynTo D s c D'
def ReC (D D' : Dk) (s t : ByteArray) (c : Int) : Prop := (c = 35 ∧ D.dead = true ∧ D' = { D with off := true }) ∨ (c = 34 ∧ 0 < D.fails D.ops ∧ D' = D.count) ∨ (c = 0 ∧ ∃ b1 b2 v1, D' = { D with ops := D.ops + 1, n := D.n + 1, dir := (Ac.move s t b1 b2).app D.dir, lv := v1, loose := D.loose ++ [.move s t b1 b2] })
def RmC (D D' : Dk) (s : ByteArray) (c : Int) : Prop := (c = 35 ∧ D.dead = true ∧ D' = { D with off := true }) ∨ (c = 34 ∧ 0 < D.fails D.ops ∧ D' = D.count) ∨ (c = 0 ∧ D'.dir s = none)
def RdC (D D' : Dk) (b l : List Int) (c : Int) : Prop := (c = 35 ∧ D.dead = true ∧ D' = { D with off := true } ∧ l = []) ∨ (c = 34 ∧ 0 < D.fails D.ops ∧ D' = D.count ∧ l = []) ∨ (c = 0 ∧ D' = D.count ∧ l = b)
theorem Cuts.off {Q : Option (List Int) → Prop} (h : Cuts D s Q) : Cuts { D with off := true } s Q := fun keep torn => ⟨fun e => (h keep torn).1 e, fun f hf e => (h keep torn).2 f hf e⟩
theorem append_any (h : DkAt w D) (g : Good N B D) (hN : N < 1048576) (hB : B < 1099511627776) (hs : nameOk s = true) (A : Option Addr) (l : List Int) (c : Nat) (hC : ∀ W, Fr D.own w W → Kd.C kB W A l.length l)
    (hb : ∀ f ∈ D.fs, D.dir s = some f.blk → f.b.length + l.length ≤ B) (hl : l.length ≤ B) (ns : List ByteArray) (o : Only (fun x => x ∈ ns) D) :
    Calls Tryd.prog 49 #[P D.d, .string s, .slice A l.length c] w fun e w' => ∃ (c : Int) (D' : Dk), e = .returned (.int .i64 c) ∧ Goes w w' D D' ∧ Good (N + 2) B D' ∧ Did (fun x => x = s) 1 D D' ∧
      AppC ns N B D D' s l c := by
  cases hd : D.dead with
  | true =>
    refine (append_dead h hd s A l.length c).mono ?_
    rintro e w' ⟨rfl, gg⟩
    exact ⟨35, _, rfl, gg, (g.power D.cut true).mono (by omega) (Nat.le_refl _), (Did.dead _ hd).wider (fun _ hx => hx) (by omega), .inl ⟨rfl, hd, rfl⟩⟩
  | false =>
    refine (append_st h g hd hN hB s A l c (by omega) hC).mono ?_
    rintro e w' ⟨es, D', hes, hen, rfl, gg, ht⟩
    have h1 := ht.same
    refine ⟨_, D', rfl, gg, ht.good g hb hl, ht.stp.did g h1.1 h1.2, .inr ?_⟩
    have hx : startE D false [s] = (decide (0 < D.fails D.ops), 0) := by unfold startE; simp [hs]
    have hE : appE D s (total D.len es) l.length = if 0 < l.length ∧ D.room < (total D.len es : Int) + (l.length : Int) then 33 else if decide (0 < D.fails D.ops) = true then 34 else 0 := by
      unfold appE; rw [hx]; rfl
    rcases ht with ⟨hc, rfl⟩ | ⟨hc, hn, D3, f, hm, hh⟩
    · rw [hE] at hc ⊢
      split at hc
      · rename_i hr
        rw [if_pos hr]
        refine .inl ⟨rfl, ?_, (fun e => by rw [e] at hr; exact absurd hr.1 (by simp)), rfl⟩
        have h2 := total_le g h hes
        have h3 := Nat.mul_le_mul_right B (hes.le o)
        have h4 : (ns.length + 1) * B = ns.length * B + B := Nat.succ_mul _ _
        rw [h4]
        have := hr.2
        omega
      · rename_i hr
        rw [if_neg hr]
        split at hc
        · rename_i hf
          rw [if_pos hf]
          exact .inr (.inl ⟨rfl, of_decide_eq_true hf, rfl⟩)
        · exact absurd rfl hc
    · rw [hc]
      exact .inr (.inr ⟨rfl, D3, f, hm, (g.mid hm hn).1, hh⟩)
theorem sync_any (h : DkAt w D) (g : Good N B D) (hN : N < 1048576) (s : ByteArray) :
    Calls Tryd.prog 51 #[P D.d, .string s] w fun e w' => ∃ (c : Int) (D' : Dk), e = .returned (.int .i64 c) ∧ Goes w w' D D' ∧ Good (N + 2) B D' ∧ Did (fun x => x = s) 1 D D' ∧ SyC D s D' c := by
  cases hd : D.dead with
  | true =>
    refine (sync_dead h hd s).mono ?_
    rintro e w' ⟨rfl, gg⟩
    exact ⟨35, _, rfl, gg, (g.power D.cut true).mono (by omega) (Nat.le_refl _), (Did.dead _ hd).wider (fun _ hx => hx) (by omega), .inl ⟨rfl, hd, rfl⟩⟩
  | false =>
    refine (sync_st h g hd hN s).mono ?_
    rintro e w' ⟨c, D', rfl, gg, ht⟩
    have h1 := ht.same
    exact ⟨c, D', rfl, gg, (ht.stp g).good g, (ht.stp g).did g h1.1 h1.2, .inr ht⟩
theorem syncdir_any (h : DkAt w D) (g : Good N B D) (hN : N < 1048576) :
    Calls Tryd.prog 50 #[P D.d] w fun e w' => ∃ (c : Int) (D' : Dk), e = .returned (.int .i64 c) ∧ Goes w w' D D' ∧ Good (N + 2) B D' ∧ Did (fun _ => False) 1 D D' ∧ SdC D D' c := by
  cases hd : D.dead with
  | true =>
    refine (syncdir_dead h hd).mono ?_
    rintro e w' ⟨rfl, gg⟩
    exact ⟨35, _, rfl, gg, (g.power D.cut true).mono (by omega) (Nat.le_refl _), (Did.dead _ hd).wider (fun _ hx => hx) (by omega), .inl ⟨rfl, hd, rfl⟩⟩
  | false =>
    refine (syncdir_st h g hd hN).mono ?_
    rintro e w' ⟨lv, m, rfl, gg⟩
    have h1 := synced_same (D := D) lv m
    refine ⟨_, _, rfl, gg, (g.synced lv m).mono (by omega) (Nat.le_refl _), (Stp.synced (L := 0) lv m).did g h1.1 h1.2, .inr ⟨lv, m, rfl, ?_⟩⟩
    by_cases hf : 0 < D.fails D.ops
    · rw [if_pos hf]; exact .inl ⟨rfl, hf⟩
    · rw [if_neg hf]; exact .inr ⟨rfl, hf⟩
theorem code_there (hs : nameOk s = true) (hd : (D.dir s).isSome = true) : codeE D true [s] = if 0 < D.fails D.ops then 34 else 0 := by
  obtain ⟨b, hb⟩ := Option.isSome_iff_exists.1 hd
  unfold codeE startE
  simp [hs, hb]
theorem code_two {t : ByteArray} (hs : nameOk s = true) (ht : nameOk t = true) (hd : (D.dir s).isSome = true) : codeE D true [s, t] = if 0 < D.fails D.ops then 34 else 0 := by
  obtain ⟨b, hb⟩ := Option.isSome_iff_exists.1 hd
  unfold codeE startE
  simp [hs, ht, hb]
theorem rename_any (h : DkAt w D) (g : Good N B D) (hN : N < 1048576) (s t : ByteArray) (hs : nameOk s = true) (ht : nameOk t = true) (hi : (D.dir s).isSome = true) (hne : s ≠ t) :
    Calls Tryd.prog 57 #[P D.d, .string s, .string t] w fun e w' => ∃ (c : Int) (D' : Dk), e = .returned (.int .i64 c) ∧ Goes w w' D D' ∧ Good (N + 2) B D' ∧ Did (fun x => x = s ∨ x = t) 1 D D' ∧
      ReC D D' s t c := by
  cases hd : D.dead with
  | true =>
    refine (rename_dead h hd s t).mono ?_
    rintro e w' ⟨rfl, gg⟩
    exact ⟨35, _, rfl, gg, (g.power D.cut true).mono (by omega) (Nat.le_refl _), (Did.dead _ hd).wider (fun _ hx => hx) (by omega), .inl ⟨rfl, hd, rfl⟩⟩
  | false =>
    refine (rename_st h g hd hN s t).mono ?_
    rintro e w' ⟨D', rfl, gg, hr⟩
    have h1 := hr.same
    refine ⟨_, D', rfl, gg, hr.stp.good g, hr.stp.did g h1.1 h1.2, .inr ?_⟩
    have hc := code_two (D := D) hs ht hi
    rcases hr with ⟨e | e, rfl⟩ | ⟨e, _, _, _, b1, b2, v1, rfl⟩
    · rw [hc] at e ⊢
      split at e
      · rename_i hf; rw [if_pos hf]; exact .inl ⟨rfl, hf, rfl⟩
      · exact absurd rfl e
    · exact absurd e hne
    · exact .inr ⟨e, b1, b2, v1, rfl⟩
theorem remove_any (h : DkAt w D) (g : Good N B D) (hN : N < 1048576) (s : ByteArray) (hs : nameOk s = true) (hi : (D.dir s).isSome = true) :
    Calls Tryd.prog 56 #[P D.d, .string s] w fun e w' => ∃ (c : Int) (D' : Dk), e = .returned (.int .i64 c) ∧ Goes w w' D D' ∧ Good (N + 2) B D' ∧ Did (fun x => x = s) 1 D D' ∧
      RmC D D' s c := by
  cases hd : D.dead with
  | true =>
    refine (remove_dead h hd s).mono ?_
    rintro e w' ⟨rfl, gg⟩
    exact ⟨35, _, rfl, gg, (g.power D.cut true).mono (by omega) (Nat.le_refl _), (Did.dead _ hd).wider (fun _ hx => hx) (by omega), .inl ⟨rfl, hd, rfl⟩⟩
  | false =>
    refine (remove_st h g hd hN s).mono ?_
    rintro e w' ⟨D', rfl, gg, hr⟩
    have h1 := hr.same
    refine ⟨_, D', rfl, gg, hr.stp.good g, hr.stp.did g h1.1 h1.2, .inr ?_⟩
    have hc := code_there (D := D) hs hi
    rcases hr with ⟨e, rfl⟩ | ⟨e, _, b1, v1, rfl⟩
    · rw [hc] at e ⊢
      split at e
      · rename_i hf; rw [if_pos hf]; exact .inl ⟨rfl, hf, rfl⟩
      · exact absurd rfl e
    · exact .inr ⟨e, if_pos rfl⟩
theorem read_any (h : DkAt w D) (g : Good N B D) (hN : N < 1048576) (hB : B ≤ 140737488355327) (s : ByteArray) (hs : nameOk s = true) (f : Fl) (hf : f ∈ D.fs) (hi : D.dir s = some f.blk) :
    Calls Tryd.prog 31 #[P D.d, .string s] w fun e w' => ∃ (c : Int) (D' : Dk) (v : Value) (l : List Int), e = .returned (.tuple #[v, .int .i64 c]) ∧ Kd.R kB 5 w' w.heap.size (fun _ => True) v l ∧ Goes w w' D D' ∧ Good (N + 2) B D' ∧ Did (fun _ => False) 1 D D' ∧
      RdC D D' f.b l c := by
  cases hd : D.dead with
  | true =>
    refine (read_dead h hd s).mono ?_
    rintro e w' ⟨rfl, gg⟩
    exact ⟨35, _, _, [], rfl, Kd.R_nil _ _ _ _ _, gg, (g.power D.cut true).mono (by omega) (Nat.le_refl _), (Did.dead _ hd).wider (fun _ hx => hx) (by omega), .inl ⟨rfl, hd, rfl, rfl⟩⟩
  | false =>
    refine (read_st h g hd hN hB s).mono ?_
    rintro e w' ⟨v, l, rfl, hr, gg, k1, k2⟩
    refine ⟨_, _, v, l, rfl, hr, gg, g.count.mono (by omega) (Nat.le_refl _), (Stp.count (T := fun _ => False) (L := 0)).did g rfl rfl, .inr ?_⟩
    have hc := code_there (D := D) hs (by rw [hi]; rfl)
    by_cases hfl : 0 < D.fails D.ops
    · rw [if_pos hfl] at hc
      rw [hc]
      exact .inl ⟨rfl, hfl, rfl, k1 (by rw [hc]; decide)⟩
    · rw [if_neg hfl] at hc
      obtain ⟨x, hx, hxd, rfl⟩ := k2 hc
      rw [hi] at hxd
      injection hxd with hxd
      obtain rfl := g.uniq x hx f hf hxd.symm
      rw [hc]
      exact .inr ⟨rfl, rfl, rfl⟩
end
end Go.Proofs.YthlmbgaipbjbhaaDoor.L
end
section
namespace Go.Proofs.YthlmbgaipbjbhaaDoor.L
open Go.RowKit Go.Lib Go.Maps
open Go.Proofs.YthlmbgaipbjbhaaDoorW.PrintWords Go.Proofs.YthlmbgaipbjbhaaDoorW.PrintLast Go.Proofs.YthlmbgaipbjbhaaDoorW.PrintMore
set_option maxHeartbeats 4000000 in
set_option maxRecDepth 100000 in
theorem clone_none (w : World) (c : Nat) :
    Calls Tryd.prog 40 #[.slice none 0 c] w fun e w' => e = .returned (.slice none 0 0) ∧ w' = w := by
  have hq : (binOp .eql 33 (.slice none 0 c) (.slice none 0 0)).run Tryd.prog w = .ok (.bool true) w := run_eql_slice_nil w 33 5 none 0 c 0 0 Tryd.underlying33
  go_enter Tryd.func40, Tryd.ntmps40
  go_wp2
  go_ret
  exact ⟨rfl, rfl⟩
end Go.Proofs.YthlmbgaipbjbhaaDoor.L
namespace Go.Proofs.YthlmbgaipbjbhaaDoor.P
open Go.RowKit Go.Lib Go.Proofs.YthlmbgaipbjbhaaDoor.L
open Go.Proofs.YthlmbgaipbjbhaaDoorW.PrintWords Go.Proofs.YthlmbgaipbjbhaaDoorW.PrintLast Go.Proofs.YthlmbgaipbjbhaaDoorW.PrintMore
set_option linter.unusedVariables false
def slices_Clone_byte_byte.f (l0 : List Int) : Option (List Int) := if l0.length ≤ 140737488355327 then some l0 else none
theorem slices_Clone_byte_byte.calls (A0 : Option Addr) (c0 : Nat) (l0 : List Int) (r : List Int) (w : World) (hr0 : Kd.C (Kd.int .u8) w A0 l0.length l0) (hc0 : l0.length ≤ c0) (h : slices_Clone_byte_byte.f l0 = some r) :
    Calls Tryd.prog 40 #[.slice A0 l0.length c0] w fun e w' => ∃ v : Value, e = .returned v ∧ Kd.R (Kd.int .u8) 5 w' w.heap.size (fun _ => True) v r ∧ Below w.heap.size w w' := by
  unfold slices_Clone_byte_byte.f at h
  split at h
  · rename_i hl
    obtain rfl := Option.some.inj h
    cases A0 with
    | none =>
      have h0 : l0 = [] := by
        rcases l0 with _ | ⟨a, r⟩
        · rfl
        · obtain ⟨_, _, h2, _⟩ := lies_B hr0 (Nat.succ_pos _)
          cases h2
      subst h0
      refine (clone_none w c0).mono ?_
      rintro e w' ⟨rfl, rfl⟩
      exact ⟨_, rfl, Kd.R_nil _ _ _ _ _, Below.refl _ _⟩
    | some a => exact clone_some w a c0 l0 hr0 hl
  · cases h
def unv : List Int → Option (Nat × Nat)
  | [] => none
  | c :: r => if c < 128 then some (c.toNat, 1) else (unv r).map fun p => (128 * p.1 + (c - 128).toNat, p.2 + 1)
theorem unv_uv (u : Nat) (rest : List Int) : unv (uv u ++ rest) = some (u, (uv u).length) := by
  induction u using uv.induct with
  | case1 u h =>
    rw [uv_lt h]
    show (if ((u : Int)) < 128 then some ((u : Int).toNat, 1) else _) = _
    rw [if_pos (by omega)]; rfl
  | case2 u h ih =>
    rw [uv_ge h]
    show (if ((u % 128 + 128 : Nat) : Int) < 128 then _ else (unv (uv (u / 128) ++ rest)).map _) = _
    rw [if_neg (by omega), ih]
    show some (128 * (u / 128) + (((u % 128 + 128 : Nat) : Int) - 128).toNat, _) = _
    rw [show 128 * (u / 128) + (((u % 128 + 128 : Nat) : Int) - 128).toNat = u by omega]
    rfl
def isB (x : Int) : Bool := decide (0 ≤ x) && decide (x < 256)
theorem isB_of {l : List Int} (h : byteL l) : l.all isB = true := List.all_eq_true.2 fun x hx => by
  have := h x hx
  simp [isB, this]
theorem orv (a y m : Nat) (ha : a < 2 ^ m) (hm : m ≤ 64) (hx : y * 2 ^ m < 18446744073709551616) (hy : y < 256) : bits BinOp.or IntKind.u64 (a : Int) (IntKind.u64.wrap (IntKind.u64.wrap (y : Int) * 2 ^ m)) = ((a + 2 ^ m * y : Nat) : Int) := by
  have e1 : IntKind.u64.wrap (y : Int) = (y : Int) := by rw [IntKind.wrap_u64]; omega
  have e2 : ((y : Int) * 2 ^ m) = ((y * 2 ^ m : Nat) : Int) := by rw [Int.natCast_mul, Int.natCast_pow]; rfl
  rw [e1, e2]
  have e3 : IntKind.u64.wrap ((y * 2 ^ m : Nat) : Int) = ((y * 2 ^ m : Nat) : Int) := by rw [IntKind.wrap_u64]; omega
  have e4 : ((2 : Int) ^ m) = ((2 ^ m : Nat) : Int) := by rw [Int.natCast_pow]; rfl
  have e5 : 2 ^ m ≤ 2 ^ 64 := Nat.pow_le_pow_right (by decide) hm
  rw [e3, bits_join_low .u64 64 (by decide) wraps_u64 m (a : Int) _ (by omega) (by rw [e4]; omega) (by omega) (by omega) (by rw [e4, ← Int.natCast_emod, Nat.mul_mod_left]; rfl) (by omega)]
  rw [Nat.mul_comm]; omega
theorem and127 (y : Int) (h0 : 0 ≤ y) (h1 : y < 256) : bits BinOp.and IntKind.u8 y 127 = y % 128 := u8_and127 y h0 h1
def wire_bits.f (l : List Int) : Option (Int × Int) := match unv l with
  | some (u, k) => if u < 4611686018427387904 ∧ k ≤ 9 ∧ l.all isB = true then some ((u : Int), (k : Int)) else none
  | none => none
theorem unv_le : ∀ (l : List Int) {u k : Nat}, unv l = some (u, k) → 1 ≤ k ∧ k ≤ l.length
  | [], _, _, h => by cases h
  | c :: r, u, k, h => by
    unfold unv at h
    split at h
    · injection h with h; injection h with _ h
      subst h
      simp
    · obtain ⟨p, hp, he⟩ := Option.map_eq_some_iff.1 h
      have := unv_le r (u := p.1) (k := p.2) hp
      injection he with _ he
      subst he
      simp only [List.length_cons]
      omega
set_option maxHeartbeats 4000000 in
set_option maxRecDepth 100000 in
theorem wire_bits.calls (A0 : Option Addr) (c0 : Nat) (l0 : List Int) (r1 : Int) (r2 : Int) (w : World) (hr0 : Kd.C (Kd.int .u8) w A0 l0.length l0) (hc0 : l0.length ≤ c0) (h : wire_bits.f l0 = some (r1, r2)) :
    Calls Tryd.prog 63 #[.slice A0 l0.length c0] w fun e w' => e = .returned (.tuple #[.int .u64 r1, .int .i64 r2]) ∧ Drawn0 w w' := by
  unfold wire_bits.f at h
  cases hv : unv l0 with
  | none => rw [hv] at h; cases h
  | some p =>
    obtain ⟨u, k⟩ := p
    rw [hv] at h
    simp only at h
    split at h
    · rename_i hb
      have h2 := Option.some.inj h
      injection h2 with h3 h4
      subst h3; subst h4
      obtain ⟨hu, hk, hall0⟩ := hb
      have hall : ∀ x ∈ l0, 0 ≤ x ∧ x < 256 := fun x hx => by
        have := List.all_eq_true.1 hall0 x hx
        simpa [isB] using this
      clear hall0
      have hkl := unv_le l0 hv
      obtain ⟨b, o, rfl, hbw, hcell⟩ := lies_B hr0 (by omega)
      have HC := hid hcell
      have HB := hid hr0
      clear h hr0 hcell
      go_enter Tryd.func63, Tryd.ntmps63
      go_wp2
      go_step3
      go_wp2
      go_step3
      go_wp2
      generalize hn : l0.length = n at *
      go_loopg [4, 5, 6, 7, 10] n (fun gg s4 s5 _ _ s10 wr => ∃ (kk a u' k' : Nat), kk < k ∧ kk ≤ n ∧ n - kk ≤ gg ∧ a < 2 ^ (7 * kk) ∧ s4 = .int .u64 a ∧ s5 = .int .i64 0 ∧ s10 = .int .i64 kk ∧ w = wr ∧ Hid (unv (l0.drop kk) = some (u', k')) ∧ u = a + 2 ^ (7 * kk) * u' ∧ k = kk + k')
      case atStart => exact ⟨0, 0, u, k, by omega, Nat.zero_le _, by omega, by decide, rfl, rfl, rfl, rfl, hid hv, by simp, by simp⟩
      case round =>
        obtain ⟨kk, a, u', k', hkk, hkn, hg, ha, rfl, rfl, rfl, rfl, HU, hue, hke⟩ := hrel
        have hlt : kk < n := by omega
        have hltz : (kk : Int) < (n : Int) := by omega
        have hcl := HC.out kk (by omega)
        have hd : l0.drop kk = l0.getD kk 0 :: l0.drop (kk + 1) := by
          rw [List.drop_eq_getElem_cons (by omega), List.getD_eq_getElem?_getD, List.getElem?_eq_getElem (by omega)]; rfl
        have HA1 := HU.out
        rw [hd] at HA1
        have hy2 : 0 ≤ l0.getD kk 0 ∧ l0.getD kk 0 < 256 := hall (l0.getD kk 0) (by rw [List.getD_eq_getElem?_getD, List.getElem?_eq_getElem (by omega)]; exact List.getElem_mem _)
        clear HU hd
        generalize l0.getD kk 0 = y at hcl HA1 hy2
        have hyb : 0 ≤ y ∧ y < 256 := hy2
        obtain ⟨z, rfl⟩ := Int.eq_ofNat_of_zero_le hyb.1
        have hz : z < 256 := by omega
        have hp : 2 ^ (7 * kk) * u' < 4611686018427387904 := by omega
        have n9 : ((kk : Int) == 9) = false := by simp; omega
        have hgt : ¬ (9 : Int) < (kk : Int) := by omega
        by_cases hy : z < 128
        · have hq : u' = z ∧ k' = 1 := by
            unfold unv at HA1
            rw [if_pos (by omega)] at HA1
            injection HA1 with HA1; injection HA1 with h1 h2
            exact ⟨by rw [← h1]; rfl, h2.symm⟩
          obtain ⟨rfl, rfl⟩ := hq
          have hyz : ((u' : Int)) < 128 := by omega
          have eo := orv a u' (7 * kk) ha (by omega) (by rw [Nat.mul_comm]; omega) hz
          have eo2 := eo
          rw [show IntKind.u64.wrap (u' : Int) = (u' : Int) by rw [IntKind.wrap_u64]; omega] at eo2
          rw [← hue] at eo eo2
          have HK := hid hke
          clear HA1 hp hue hy2 hke
          go_wp2
          go_ret2
          exact ⟨by rw [HK.out]; rfl, Drawn0.refl _⟩
        · have hq : ∃ p, unv (l0.drop (kk + 1)) = some p ∧ u' = 128 * p.1 + (z - 128) ∧ k' = p.2 + 1 := by
            unfold unv at HA1
            rw [if_neg (by omega)] at HA1
            obtain ⟨p, h1, h2⟩ := Option.map_eq_some_iff.1 HA1
            injection h2 with h2 h3
            exact ⟨p, h1, by rw [← h2]; omega, h3.symm⟩
          obtain ⟨⟨u2, k2⟩, hq1, hq2, hq3⟩ := hq
          simp only at hq2 hq3
          have hk2 := unv_le _ hq1
          have hyz : ¬ ((z : Int)) < 128 := by omega
          have ea : bits BinOp.and IntKind.u8 (z : Int) 127 = ((z % 128 : Nat) : Int) := by rw [and127 _ (by omega) (by omega)]; omega
          have hm : z % 128 = z - 128 := by omega
          have hm2 : z % 128 < 128 := by omega
          have hpw : 2 ^ (7 * (kk + 1)) = 2 ^ (7 * kk) * 128 := by rw [Nat.mul_add, Nat.pow_add]
          have hsm : 2 ^ (7 * kk) * (z % 128) ≤ 2 ^ (7 * kk) * u' := Nat.mul_le_mul_left _ (by omega)
          have eo := orv a (z % 128) (7 * kk) ha (by omega) (by rw [Nat.mul_comm]; omega) (by omega)
          have hlt2 : a + 2 ^ (7 * kk) * (z % 128) < 2 ^ (7 * (kk + 1)) := by
            have : 2 ^ (7 * kk) * (z % 128) ≤ 2 ^ (7 * kk) * 127 := Nat.mul_le_mul_left _ (by omega)
            rw [hpw]; omega
          have hu2 : u = (a + 2 ^ (7 * kk) * (z % 128)) + 2 ^ (7 * (kk + 1)) * u2 := by
            rw [hue, hq2, hpw, hm, Nat.mul_add, Nat.mul_assoc]; omega
          have HQ := hid hq1
          generalize a + 2 ^ (7 * kk) * (z % 128) = a2 at eo hlt2 hu2
          generalize z % 128 = zz at *
          have hzz : zz < 128 := hm2
          clear hm hm2
          have eo2 := eo
          rw [show IntKind.u64.wrap (zz : Int) = (zz : Int) by rw [IntKind.wrap_u64]; omega] at eo2
          clear HA1 hp hq1 hpw hsm hq2 hue hy2
          go_wp2
          go_roundg (n - (kk + 1))
          case measure => omega
          case rel => exact ⟨kk + 1, a2, u2, k2, by omega, by omega, by omega, hlt2, rfl, rfl, by go_num, rfl, HQ, hu2, by omega⟩
    · cases h
end Go.Proofs.YthlmbgaipbjbhaaDoor.P
end
