/- A cache as its calls see it; Get. -/
import Derived.Test.YtbiejjncjgapmaaCache
namespace Go.Proofs.Ytbiejjncjgapmaa.L
open Go.RowKit Go.Lib
def findI (os : List Item) (s : ByteArray) : Option Item := os.find? (fun x => decide (x.key = s))
def outI (os : List Item) (s : ByteArray) : List Item := os.filter (fun x => decide (x.key ≠ s))
theorem find_key {os : List Item} {s : ByteArray} {x : Item} (h : findI os s = some x) : x ∈ os ∧ x.key = s := by
  unfold findI at h
  exact ⟨List.mem_of_find?_eq_some h, by simpa using List.find?_some h⟩
theorem find_split {os : List Item} {s : ByteArray} {x : Item} (h : findI os s = some x) (hn : (os.map (·.key)).Nodup) : ∃ xs ys, os = xs ++ x :: ys ∧ outI os s = xs ++ ys := by
  obtain ⟨hx, hk⟩ := find_key h
  obtain ⟨xs, ys, rfl⟩ := List.append_of_mem hx
  refine ⟨xs, ys, rfl, ?_⟩
  rw [List.map_append, List.map_cons, List.nodup_append, List.nodup_cons] at hn
  unfold outI
  rw [List.filter_append, List.filter_cons_of_neg (by simp [hk])]
  congr 1
  · rw [List.filter_eq_self]
    intro y hy
    simp only [ne_eq, decide_eq_true_eq]
    intro e
    exact hn.2.2 y.key (List.mem_map_of_mem hy) x.key List.mem_cons_self (e.trans hk.symm)
  · rw [List.filter_eq_self]
    intro y hy
    simp only [ne_eq, decide_eq_true_eq]
    intro e
    exact hn.2.1.1 (by rw [hk, ← e]; exact List.mem_map_of_mem hy)
theorem out_none {os : List Item} {s : ByteArray} (h : findI os s = none) : outI os s = os := by
  unfold findI at h
  unfold outI
  rw [List.filter_eq_self]
  intro y hy
  have := List.find?_eq_none.1 h y hy
  simpa using this
theorem find_out (os : List Item) (s t : ByteArray) : findI (outI os s) t = if t = s then none else findI os t := by
  unfold findI outI
  induction os with
  | nil => simp
  | cons x r ih =>
    by_cases h1 : x.key = s
    · rw [List.filter_cons_of_neg (by simp [h1]), ih]
      by_cases h2 : t = s
      · rw [if_pos h2, if_pos h2]
      · rw [if_neg h2, if_neg h2, List.find?_cons_of_neg (by simp [h1]; exact fun e => h2 e.symm)]
    · rw [List.filter_cons_of_pos (by simp [h1])]
      by_cases h2 : x.key = t
      · rw [List.find?_cons_of_pos (by simp [h2]), if_neg (fun e => h1 (h2.trans e)), List.find?_cons_of_pos (by simp [h2])]
      · rw [List.find?_cons_of_neg (by simp [h2]), ih, List.find?_cons_of_neg (by simp [h2])]
theorem find_cons (x : Item) (os : List Item) (t : ByteArray) : findI (x :: os) t = if t = x.key then some x else findI os t := by
  unfold findI
  by_cases h : x.key = t
  · rw [List.find?_cons_of_pos (by simp [h]), if_pos h.symm]
  · rw [List.find?_cons_of_neg (by simp [h]), if_neg (fun e => h e.symm)]
structure Half (w : World) (c m : Nat) (is os : List Item) (bud byt : Int) : Prop where
  link : ∃ nx pv, Lies w c m is nx pv bud byt ∧ Linked nx pv (c :: os.map (·.blk) ++ [c])
  sub : ∀ x ∈ os, x ∈ is
  nd : (c :: os.map (·.blk)).Nodup
def keyed (os : List Item) (s : ByteArray) : Option Nat := (findI os s).map (·.blk)
structure CacheAt (w : World) (c m : Nat) (is os : List Item) (bud byt : Int) (n : Nat) : Prop where
  half : Half w c m is os bud byt
  keys : (os.map (·.key)).Nodup
  map : MapAt w m n (keyed os)
  short : ∀ x ∈ os, x.key.size ≤ maxLen
section
variable {w : World} {c m : Nat} {is os : List Item} {bud byt : Int} {n : Nat}
theorem Half.lies (h : Half w c m is os bud byt) : ∃ nx pv, Lies w c m is nx pv bud byt := by
  obtain ⟨nx, pv, h, _⟩ := h.link
  exact ⟨nx, pv, h⟩
theorem Half.fr {w' : World} {own : List Nat} (h : Half w c m is os bud byt) (f : Fr own w w') (hd : ∀ k ∈ blks c is, k ∉ own) : Half w' c m is os bud byt := by
  obtain ⟨nx, pv, hl, hr⟩ := h.link
  exact ⟨⟨nx, pv, hl.fr f hd, hr⟩, h.sub, h.nd⟩
theorem CacheAt.off (h : CacheAt w c m is os bud byt n) : ∀ k ∈ blks c is, k ≠ m := by
  obtain ⟨nx, pv, hl⟩ := h.half.lies
  intro k hk
  obtain ⟨A, t, hb, _⟩ := hl.obj hk
  exact (h.map.noCells hb).symm
theorem CacheAt.fr {w' : World} {own : List Nat} (h : CacheAt w c m is os bud byt n) (f : Fr own w w') (hd : ∀ k ∈ m :: blks c is, k ∉ own) : CacheAt w' c m is os bud byt n :=
  ⟨h.half.fr f (fun k hk => hd k (List.mem_cons_of_mem _ hk)), h.keys, h.map.keep (f.keep m h.map.lt (hd m List.mem_cons_self)), h.short⟩
theorem loose_half (x : Item) (xs ys : List Item) (h : Half w c m is (xs ++ x :: ys) bud byt) :
    Calls Try.prog 28 #[P c, P x.blk] w fun e w' => e = .returned (.tuple #[]) ∧ Half w' c m is (xs ++ ys) bud byt ∧ Fr (blks c is) w w' := by
  obtain ⟨nx, pv, hl, hr⟩ := h.link
  have hnd := h.nd
  rw [List.map_append, List.map_cons] at hr hnd
  obtain ⟨r1, r2, r3⟩ := ring_out c x.blk _ _ hr hnd
  have hsub : ∀ k, k ∈ c :: xs.map (·.blk) ∨ k ∈ ys.map (·.blk) ++ [c] → k ∈ blks c is := by
    rintro k (hk | hk)
    · rcases List.mem_cons.1 hk with e | hk
      · rw [e]; exact List.mem_cons_self
      · obtain ⟨y, hy, e⟩ := List.mem_map.1 hk
        exact List.mem_cons_of_mem _ (List.mem_map.2 ⟨y, h.sub y (List.mem_append_left _ hy), e⟩)
    · rcases List.mem_append.1 hk with hk | hk
      · obtain ⟨y, hy, e⟩ := List.mem_map.1 hk
        exact List.mem_cons_of_mem _ (List.mem_map.2 ⟨y, h.sub y (List.mem_append_right _ (List.mem_cons_of_mem _ hy)), e⟩)
      · rw [List.mem_singleton.1 hk]; exact List.mem_cons_self
  refine (loose_calls hl (List.mem_cons_of_mem _ (List.mem_map_of_mem (h.sub x (by simp)))) (hsub _ (.inl r2)) (hsub _ (.inr r3))).mono ?_
  rintro e w' ⟨he, hl', hf⟩
  refine ⟨he, ⟨⟨_, _, hl', by rw [List.map_append]; exact r1⟩, fun y hy => h.sub y ?_, ?_⟩, hf⟩
  · rcases List.mem_append.1 hy with hy | hy
    · exact List.mem_append_left _ hy
    · exact List.mem_append_right _ (List.mem_cons_of_mem _ hy)
  · rw [List.map_append]
    refine hnd.sublist ?_
    exact List.Sublist.cons_cons _ (List.Sublist.append (List.Sublist.refl _) (List.sublist_cons_self _ _))
theorem use_half (x : Item) (h : Half w c m is os bud byt) (hx : x ∈ is) (hn : x.blk ∉ os.map (·.blk)) :
    Calls Try.prog 23 #[P c, P x.blk] w fun e w' => e = .returned (.tuple #[]) ∧ Half w' c m is (x :: os) bud byt ∧ Fr (blks c is) w w' := by
  obtain ⟨nx, pv, hl, hr⟩ := h.link
  have hxc : x.blk ∉ c :: os.map (·.blk) := by
    intro hm
    rcases List.mem_cons.1 hm with e | hm
    · exact hl.ne hx e.symm
    · exact hn hm
  obtain ⟨r1, r2⟩ := ring_in c x.blk _ hr h.nd hxc
  have hq : nx c ∈ blks c is := by
    rcases List.mem_append.1 r2 with hk | hk
    · obtain ⟨y, hy, e⟩ := List.mem_map.1 hk
      exact List.mem_cons_of_mem _ (List.mem_map.2 ⟨y, h.sub y hy, e⟩)
    · rw [List.mem_singleton.1 hk]; exact List.mem_cons_self
  refine (use_calls hl (List.mem_cons_of_mem _ (List.mem_map_of_mem hx)) hq).mono ?_
  rintro e w' ⟨he, hl', hf⟩
  refine ⟨he, ⟨⟨_, _, hl', r1⟩, fun y hy => ?_, ?_⟩, hf⟩
  · rcases List.mem_cons.1 hy with e | hy
    · rw [e]; exact hx
    · exact h.sub y hy
  · rw [List.map_cons, List.nodup_cons, List.nodup_cons]
    have h0 := List.nodup_cons.1 h.nd
    refine ⟨fun hm => ?_, hn, h0.2⟩
    rcases List.mem_cons.1 hm with e | hm
    · exact hl.ne hx e
    · exact h0.1 hm
def getI (os : List Item) (s : ByteArray) : List Item := match findI os s with
  | some x => x :: outI os s
  | none => os
def getV (os : List Item) (s : ByteArray) : ByteArray × Bool := match findI os s with
  | some x => (x.val, true)
  | none => (⟨#[]⟩, false)
set_option maxRecDepth 100000 in
theorem get_calls (h : CacheAt w c m is os bud byt n) (s : ByteArray) (hs : s.size ≤ maxLen) :
    Calls Try.prog 14 #[P c, .string s] w fun e w' => e = .returned (.tuple #[.string (getV os s).1, .bool (getV os s).2]) ∧ CacheAt w' c m is (getI os s) bud byt n ∧ Fr (blks c is) w w' := by
  obtain ⟨nx, pv, hl⟩ := h.half.lies
  have c4 := hl.items
  clear hl
  have hlook := h.map.look hs
  unfold getI getV
  have ek : keyed os s = (findI os s).map (·.blk) := rfl
  cases hf : findI os s with
  | none =>
    have e2 : ptrOf (keyed os s) = .pointer none := by rw [ek, hf]; rfl
    rw [e2] at hlook
    have HH := hid h
    clear h hf ek e2
    go_enter Try.func14, Try.ntmps14
    go_wp2
    go_ret2
    exact ⟨rfl, HH.out, Fr.refl _ _⟩
  | some x =>
    have e2 : ptrOf (keyed os s) = P x.blk := by rw [ek, hf]; rfl
    rw [e2] at hlook
    obtain ⟨xs, ys, hos, hout⟩ := find_split hf h.keys
    obtain ⟨hxo, hxk⟩ := find_key hf
    have hxi := h.half.sub x hxo
    have hh := h.half
    rw [hos] at hh
    have hnd := hh.nd
    have hnot : x.blk ∉ (xs ++ ys).map (·.blk) := by
      rw [List.map_append, List.map_cons, List.nodup_cons, List.nodup_append] at hnd
      rw [List.map_append]
      intro hm
      rcases List.mem_append.1 hm with hm | hm
      · exact hnd.2.2.2 _ hm _ List.mem_cons_self rfl
      · exact (List.nodup_cons.1 hnd.2.2.1).1 hm
    have HL := hid (loose_half x xs ys hh)
    have HU := hid (fun W (hW : Half W c m is (xs ++ ys) bud byt) => use_half x hW hxi hnot)
    have HE := hid (fun W (f1 : Fr (blks c is) w W) (hW : Half W c m is (x :: (xs ++ ys)) bud byt) => (show CacheAt W c m is (x :: outI os s) bud byt n from
      ⟨by rw [hout]; exact hW, by
        rw [List.map_cons, List.nodup_cons]
        refine ⟨fun hm => ?_, ?_⟩
        · obtain ⟨y, hy, e⟩ := List.mem_map.1 hm
          have := (List.mem_filter.1 hy).2
          simp only [ne_eq, decide_eq_true_eq] at this
          exact this (e.trans hxk)
        · exact h.keys.sublist (List.Sublist.map _ List.filter_sublist),
       by
        have h1 := h.map.keep (f1.keep m h.map.lt (fun hm => h.off m hm rfl))
        have e : keyed (x :: outI os s) = keyed os := by
          funext t
          unfold keyed
          rw [find_cons, find_out]
          by_cases et : t = s
          · rw [if_pos (et.trans hxk.symm), et, hf]
          · rw [if_neg (fun e => et (e.trans hxk)), if_neg et]
        rw [e]; exact h1,
       fun y hy => by
        rcases List.mem_cons.1 hy with e | hy
        · rw [e]; exact h.short x hxo
        · exact h.short y (List.mem_filter.1 hy).1⟩))
    clear h hf ek e2 hh hnd hnot hos hout hxk hxo
    go_enter Try.func14, Try.ntmps14
    go_wp2_with (first | (go_at_call 28; refine HL.out.mono ?_; rintro e w1 ⟨rfl, hh1, ff1⟩; have HH1 := hid hh1; have FF1 := hid ff1; clear hh1 ff1) | (go_at_call 23; refine (HU.out _ HH1.out).mono ?_; rintro e w2 ⟨rfl, hh2, ff2⟩; obtain ⟨nx2, pv2, hl2⟩ := hh2.lies; have v2 := hl2.val hxi; clear hl2; have FF2 := hid (FF1.out.trans ff2 (fun _ hk => .inl hk)); have HH2 := hid hh2; clear ff2 hh2))
    go_ret2
    exact ⟨rfl, HE.out _ FF2.out HH2.out, FF2.out⟩
end
end Go.Proofs.Ytbiejjncjgapmaa.L
