/- Put. -/
import Derived.Test.YtbiejjncjgapmaaDrop
import Derived.Test.YtbiejjncjgapmaaKeys
namespace Go.Proofs.Ytbiejjncjgapmaa.L
open Go.RowKit Go.Lib
open Go.Proofs.YtbiejjncjgapmaaW.PrintWords Go.Proofs.YtbiejjncjgapmaaW.PrintLast Go.Proofs.YtbiejjncjgapmaaW.PrintMore
def evR (bud : Int) : List Item → List Item × List ByteArray
  | [] => ([], [])
  | x :: r => if (weightI (x :: r) : Int) > bud then ((evR bud r).1, x.key :: (evR bud r).2) else (x :: r, [])
theorem weight_append (a b : List Item) : weightI (a ++ b) = weightI a + weightI b := by
  unfold weightI
  rw [List.map_append, List.sum_append]
theorem weight_cons (x : Item) (r : List Item) : weightI (x :: r) = heft x + weightI r := by
  unfold weightI
  rw [List.map_cons, List.sum_cons]
theorem weight_reverse (a : List Item) : weightI a.reverse = weightI a := by
  unfold weightI
  rw [List.map_reverse, List.sum_reverse]
theorem weight_filter (a : List Item) (s : ByteArray) : weightI (outI a s) ≤ weightI a := by
  unfold outI
  induction a with
  | nil => exact Nat.le_refl _
  | cons x r ih =>
    by_cases h : x.key = s
    · rw [List.filter_cons_of_neg (by simp [h]), weight_cons]; omega
    · rw [List.filter_cons_of_pos (by simp [h]), weight_cons, weight_cons]; omega
theorem out_last (xs : List Item) (x : Item) (h : ((xs ++ [x]).map (·.key)).Nodup) : outI (xs ++ [x]) x.key = xs := by
  unfold outI
  rw [List.filter_append, List.filter_cons_of_neg (by simp), List.filter_nil, List.append_nil, List.filter_eq_self]
  intro y hy
  simp only [ne_eq, decide_eq_true_eq]
  rw [List.map_append, List.nodup_append] at h
  exact fun e => h.2.2 y.key (List.mem_map_of_mem hy) x.key (by simp) e
theorem Fr.grown {w w' : World} {row : Option Nat} (h : w.grownBy w' row) : Fr row.toList w w' :=
  ⟨h.os, h.tape, h.output, h.size, fun k hk hn => h.block k hk (fun e => hn (by rw [← e]; simp))⟩
theorem Fr.alloc (own : List Nat) (w : World) (o : Obj) : Fr own w (w.alloc o) := Fr.of_below ((Below.refl _ w).alloc (Nat.le_refl _) o) own
section
variable {w : World} {c m : Nat} {is os : List Item} {bud byt : Int} {n : Nat}
theorem use_half_new (h : Half w c m is os bud byt) (x : Item) {v2 v3 : Value} (hb : w.heap[x.blk]? = some (.cells #[.string x.key, .string x.val, v2, v3] 48 (0, 0))) (hn : x.blk ∉ blks c is) :
    Calls Try.prog 23 #[P c, P x.blk] w fun e w' => e = .returned (.tuple #[]) ∧ Half w' c m (x :: is) (x :: os) bud byt ∧ Fr (blks c (x :: is)) w w' := by
  obtain ⟨nx, pv, hl, hr⟩ := h.link
  have hsub : ∀ k ∈ os.map (·.blk), k ∈ is.map (·.blk) := fun k hk => by
    obtain ⟨y, hy, e⟩ := List.mem_map.1 hk
    exact List.mem_map.2 ⟨y, h.sub y hy, e⟩
  have hxc : x.blk ∉ c :: os.map (·.blk) := by
    intro hm
    rcases List.mem_cons.1 hm with e | hm
    · exact hn (by rw [e]; exact List.mem_cons_self)
    · exact hn (List.mem_cons_of_mem _ (hsub _ hm))
  obtain ⟨r1, r2⟩ := ring_in c x.blk _ hr h.nd hxc
  have hq : nx c ∈ blks c is := by
    rcases List.mem_append.1 r2 with hk | hk
    · exact List.mem_cons_of_mem _ (hsub _ hk)
    · rw [List.mem_singleton.1 hk]; exact List.mem_cons_self
  refine (use_new hl x hb hn hq).mono ?_
  rintro e w' ⟨he, hl', hf⟩
  refine ⟨he, ⟨⟨_, _, hl', r1⟩, fun y hy => ?_, ?_⟩, hf⟩
  · rcases List.mem_cons.1 hy with e | hy
    · rw [e]; exact List.mem_cons_self
    · exact List.mem_cons_of_mem _ (h.sub y hy)
  · rw [List.map_cons, List.nodup_cons, List.nodup_cons]
    have h0 := List.nodup_cons.1 h.nd
    refine ⟨fun hm => ?_, fun hm => hxc (List.mem_cons_of_mem _ hm), h0.2⟩
    rcases List.mem_cons.1 hm with e | hm
    · exact hxc (by rw [e]; exact List.mem_cons_self)
    · exact h0.1 hm
set_option maxHeartbeats 4000000 in
set_option maxRecDepth 100000 in
theorem put_big (h : CacheAt w c m is os bud byt n) (key val : ByteArray) (hk : key.size < 1152921504606846976) (hv : val.size < 1152921504606846976) (hb : bud < (key.size : Int) + (val.size : Int)) :
    Calls Try.prog 11 #[P c, .string key, .string val] w fun e w' => e = .returned (.tuple #[.slice none 0 0, .int .i64 70]) ∧ w' = w := by
  obtain ⟨nx, pv, hl⟩ := h.half.lies
  have c5 := hl.budget
  clear hl h
  have hz : wrap64 ((key.size : Int) + (val.size : Int)) = (key.size : Int) + (val.size : Int) := by unfold wrap64; omega
  have hz2 : key.size + val.size ≤ 9223372036854775807 := by omega
  go_enter Try.func11, Try.ntmps11
  go_wp2
  go_ret2
  exact ⟨rfl, rfl⟩
theorem CacheAt.same {w' : World} (h : CacheAt w c m is os bud byt n) (e : w'.heap = w.heap) : CacheAt w' c m is os bud byt n := by
  obtain ⟨nx, pv, hl, hr⟩ := h.half.link
  exact ⟨⟨⟨nx, pv, hl.alike e, hr⟩, h.half.sub, h.half.nd⟩, h.keys, h.map.keep (by rw [e]), h.short⟩
theorem CacheAt.lt (h : CacheAt w c m is os bud byt n) : ∀ k ∈ m :: blks c is, k < w.heap.size := fun k hk => by
  rcases List.mem_cons.1 hk with e | hk
  · rw [e]; exact h.map.lt
  · obtain ⟨nx, pv, hl⟩ := h.half.lies
    exact hl.lt k hk
theorem drop_one (h : CacheAt w c m is os bud (weightI os) n) (hw : weightI os < 4611686018427387904) (key : ByteArray) (hk : key.size ≤ maxLen) :
    Calls Try.prog 16 #[P c, .slice (some ⟨w.heap.size, 0, none⟩) 1 1] (w.alloc (.cells #[.string key] 9)) fun e w' => (∃ z : Nat, e = .returned (.int .i64 z)) ∧ CacheAt w' c m is (outI os key) bud (weightI (outI os key)) n ∧ Fr (m :: blks c is) w w' := by
  have hlt : ∀ k ∈ m :: blks c is, k < w.heap.size := fun k hk => by
    rcases List.mem_cons.1 hk with e | hk
    · rw [e]; exact h.map.lt
    · obtain ⟨nx, pv, hl⟩ := h.half.lies
      exact hl.lt k hk
  have h1 := h.fr (Fr.alloc [] w (.cells #[.string key] 9)) (fun k _ hm => by simp at hm)
  refine (drop_calls h1 hw [key] (some ⟨w.heap.size, 0, none⟩) 1 (fun k hk' => by rw [List.mem_singleton.1 hk']; exact hk) (by simp) (fun _ => ⟨w.heap.size, 0, rfl, by simp, fun hm => Nat.lt_irrefl _ (hlt _ hm), fun j hj => ?_⟩)).mono ?_
  · obtain rfl : j = 0 := by simpa using hj
    exact (cell_of (MapKept.heap_alloc w (.cells #[.string key] 9)).1 0).trans rfl
  · rintro e w' ⟨he, hc, hf⟩
    exact ⟨⟨_, he⟩, hc, (Fr.alloc _ w _).trans hf (fun _ hk => .inl hk)⟩
theorem eldest_half (xs : List Item) (x : Item) (h : Half w c m is (xs ++ [x]) bud byt) :
    Calls Try.prog 24 #[P c] w fun e w' => e = .returned (P x.blk) ∧ w' = w := by
  obtain ⟨nx, pv, hl, hr⟩ := h.link
  have e : pv c = x.blk := by
    rw [List.map_append] at hr
    exact ring_last c x.blk _ hr
  rw [← e]
  exact eldest_calls hl
theorem CacheAt.laid {w1 w2 w3 : World} {key val : ByteArray} {b : Nat} (h : CacheAt w c m is (outI os key) bud byt n) (hk : key.size ≤ maxLen) (hm : MapAt w1 m (n + 1) (fun t => if t = key then some b else keyed (outI os key) t))
    (ho : (∀ k, k = m → w2.heap[k]? = w1.heap[k]?)) (hh : Half w2 c m (⟨b, key, val⟩ :: is) (⟨b, key, val⟩ :: outI os key) bud byt) (z : Int) (e3 : w3 = w2.setCell ⟨c, 6, none⟩ (.int .i64 z)) : CacheAt w3 c m (⟨b, key, val⟩ :: is) (⟨b, key, val⟩ :: outI os key) bud z (n + 1) := by
  have hmap : MapAt w2 m (n + 1) (keyed (⟨b, key, val⟩ :: outI os key)) := by
    have e : keyed (⟨b, key, val⟩ :: outI os key) = fun t => if t = key then some b else keyed (outI os key) t := by
      funext t
      unfold keyed
      rw [find_cons]
      show Option.map _ (if t = key then _ else _) = _
      split <;> rfl
    rw [e]
    exact hm.keep (ho m rfl)
  have h2 : CacheAt w2 c m (⟨b, key, val⟩ :: is) (⟨b, key, val⟩ :: outI os key) bud byt (n + 1) := by
    refine ⟨hh, ?_, hmap, fun y hy => ?_⟩
    · rw [List.map_cons, List.nodup_cons]
      refine ⟨fun hmem => ?_, h.keys⟩
      obtain ⟨y, hy, e⟩ := List.mem_map.1 hmem
      have := (List.mem_filter.1 hy).2
      simp only [ne_eq, decide_eq_true_eq] at this
      exact this e
    · rcases List.mem_cons.1 hy with e | hy
      · rw [e]; exact hk
      · exact h.short y hy
  have h3 := h2.set_bytes z
  rw [e3]
  exact h3.same rfl
set_option maxHeartbeats 4000000 in
set_option maxRecDepth 100000 in
theorem put_fits (h : CacheAt w c m is os bud (weightI os) n) (hw : weightI os < 2305843009213693952) (hbud : 0 ≤ bud) (hn : n + 1 < maxLen) (hos : os.length < 4294967295) (key val : ByteArray) (hk : key.size < 1152921504606846976) (hkm : key.size ≤ maxLen) (hv : val.size < 1152921504606846976) (hb : ¬ bud < (key.size : Int) + (val.size : Int)) :
    Calls Try.prog 11 #[P c, .string key, .string val] w fun e w' => ∃ (v : Value) (b : Nat), e = .returned (.tuple #[v, .int .i64 0]) ∧ w.heap.size ≤ b ∧ Kd.R Kd.string 9 w' w.heap.size (fun k => k ∉ m :: blks c (⟨b, key, val⟩ :: is)) v (evR bud (⟨b, key, val⟩ :: outI os key).reverse).2 ∧
      CacheAt w' c m (⟨b, key, val⟩ :: is) (evR bud (⟨b, key, val⟩ :: outI os key).reverse).1.reverse bud (weightI (evR bud (⟨b, key, val⟩ :: outI os key).reverse).1.reverse) (n + 1) ∧ Fr (m :: blks c is) w w' := by
  obtain ⟨nx, pv, hl⟩ := h.half.lies
  have c5 := hl.budget
  clear hl
  have hz : wrap64 ((key.size : Int) + (val.size : Int)) = (key.size : Int) + (val.size : Int) := by unfold wrap64; omega
  have hz2 : key.size + val.size ≤ 9223372036854775807 := by omega
  have HD := hid (drop_one h (by omega) key hkm)
  have HH := hid h
  have hwl : weightI (outI os key) ≤ weightI os := weight_filter os key
  clear h
  have HO := hid (fun (W : World) (hW : CacheAt W c m is (outI os key) bud (weightI (outI os key)) n) => (show let o := Obj.cells #[.string key, .string val, .pointer none, .pointer none] 48; (W.alloc o).cell? ⟨c, 4, none⟩ = some (.map (some m)) ∧ MapAt (W.alloc o) m n (keyed (outI os key)) ∧ Half (W.alloc o) c m is (outI os key) bud (weightI (outI os key)) ∧ (W.alloc o).heap[W.heap.size]? = some o ∧ W.heap.size ∉ blks c is ∧ W.heap.size ≠ m from by
    intro o
    have h1 := hW.fr (Fr.alloc [] W o) (fun k _ hm => by simp at hm)
    obtain ⟨nx1, pv1, hl1⟩ := h1.half.lies
    obtain ⟨nx0, pv0, hl0⟩ := hW.half.lies
    exact ⟨hl1.items, h1.map, h1.half, (MapKept.heap_alloc W o).1, fun hm => Nat.lt_irrefl _ (hl0.lt _ hm), fun e => by have := hW.map.lt; omega⟩))
  go_enter Try.func11, Try.ntmps11
  go_wp2_with (first | (go_at_call 16; refine HD.out.mono ?_; rintro e w1 ⟨⟨z, rfl⟩, hc1, hf1⟩; have C1 := hid hc1; have F1 := hid hf1; have O1 := hid (HO.out w1 hc1); have x1 := O1.out.1; clear hc1 hf1) | (at_mapUpdate; refine wpList_lay _ rfl _ _ _ rfl rfl O1.out.2.1 (by omega) key w1.heap.size rfl rfl hkm ?_; intro w2 hm2 ht2; have M2 := hid hm2; have T2 := hid (Fr.turned ht2 (List.mem_singleton.2 rfl) : Fr [m] _ w2); have H2 := hid (O1.out.2.2.1.fr T2.out (fun k hk hm => (C1.out.off k hk) (List.mem_singleton.1 hm))); have B2 := hid ((T2.out.keep w1.heap.size (by simp) (fun hm => O1.out.2.2.2.2.2 (List.mem_singleton.1 hm))).trans O1.out.2.2.2.1); clear hm2 ht2) | (go_at_call 23; refine (use_half_new H2.out ⟨w1.heap.size, key, val⟩ B2.out O1.out.2.2.2.2.1).mono ?_; rintro e w3 ⟨rfl, hh3, ff3⟩; have H3 := hid hh3; have F3 := hid ff3; have y1 : w3.cell? ⟨c, 6, none⟩ = some (.int .i64 (weightI (outI os key))) := (by obtain ⟨nx3, pv3, hl3⟩ := hh3.lies; exact hl3.bytes); have y2 : w3.frozen? ⟨c, 6, none⟩ = false := (by obtain ⟨nx3, pv3, hl3⟩ := hh3.lies; exact hl3.free List.mem_cons_self 6); clear hh3 ff3))
  have hx : heft ⟨w1.heap.size, key, val⟩ = key.size + val.size := rfl
  have hwz : ((weightI (outI os key) : Nat) : Int) + ((key.size : Int) + (val.size : Int)) = ((weightI (⟨w1.heap.size, key, val⟩ :: outI os key) : Nat) : Int) := by rw [weight_cons, hx]; omega
  have hlw : w.heap.size ≤ w1.heap.size := F1.out.size
  have hmx : m ∉ blks c (⟨w1.heap.size, key, val⟩ :: is) := by
    intro hm
    rcases List.mem_cons.1 hm with e | hm
    · exact C1.out.off c List.mem_cons_self e.symm
    · rcases List.mem_cons.1 hm with e | hm
      · exact O1.out.2.2.2.2.2 e.symm
      · exact C1.out.off m (List.mem_cons_of_mem _ hm) rfl
  have C4 := C1.out.laid hkm M2.out (fun k hk => by rw [hk]; exact F3.out.keep m M2.out.lt hmx) H3.out (weightI (⟨w1.heap.size, key, val⟩ :: outI os key)) rfl
  have F4 : Fr (m :: blks c is) w (w3.setCell ⟨c, 6, none⟩ (.int .i64 (weightI (⟨w1.heap.size, key, val⟩ :: outI os key)))) :=
    (((F1.out.trans (Fr.alloc [] w1 _) (fun k hk => by simp at hk)).trans T2.out (fun k hk => .inl (by rw [List.mem_singleton.1 hk]; exact List.mem_cons_self))).trans F3.out (fun k hk => by
      rcases List.mem_cons.1 hk with e | hk
      · rw [e]; exact .inl (List.mem_cons_of_mem _ List.mem_cons_self)
      · rcases List.mem_cons.1 hk with e | hk
        · rw [e]; exact .inr hlw
        · exact .inl (List.mem_cons_of_mem _ (List.mem_cons_of_mem _ hk)))).trans (Fr.set _ _ _ (List.mem_singleton.2 rfl) : Fr [c] w3 _) (fun k hk => .inl (by rw [List.mem_singleton.1 hk]; exact List.mem_cons_of_mem _ List.mem_cons_self))
  rw [hwz]
  have hlo : (outI os key).length ≤ os.length := List.length_filter_le _ _
  have hwo : weightI (⟨w1.heap.size, key, val⟩ :: outI os key) < 4611686018427387904 := by rw [weight_cons, hx]; omega
  generalize w3.setCell ⟨c, 6, none⟩ (.int .i64 (weightI (⟨w1.heap.size, key, val⟩ :: outI os key))) = w4 at C4 F4 ⊢
  have hR0 := hid (Kd.R_nil Kd.string 9 w4 w.heap.size (fun k => k ∉ m :: blks c (⟨w1.heap.size, key, val⟩ :: is)))
  have hlo' : (⟨w1.heap.size, key, val⟩ :: outI os key : List Item).length < 4294967296 := by rw [List.length_cons]; omega
  have hC4 := hid C4
  have hF4 := hid F4
  clear C4 F4 F3 H3 B2 H2 T2 M2 x1 O1 C1 HO HD HH y1 y2 c5 hwl hz hz2 hwz hmx hw hk hkm hv hb hx hlo hos F1
  have hs1 := hid (fun k (hk : k ∈ m :: blks c (⟨w1.heap.size, key, val⟩ :: is)) => (show k ∈ m :: blks c is ∨ w.heap.size ≤ k from by
    rcases List.mem_cons.1 hk with e | hk
    · rw [e]; exact .inl List.mem_cons_self
    · rcases List.mem_cons.1 hk with e | hk
      · rw [e]; exact .inl (List.mem_cons_of_mem _ List.mem_cons_self)
      · rcases List.mem_cons.1 hk with e | hk
        · rw [e]; exact .inr hlw
        · exact .inl (List.mem_cons_of_mem _ (List.mem_cons_of_mem _ hk))))
  generalize ho0 : (⟨w1.heap.size, key, val⟩ :: outI os key : List Item) = o0 at *
  generalize hi1 : (⟨w1.heap.size, key, val⟩ :: is : List Item) = is1 at *
  go_loopg [9] o0.length (fun gg s9 wr => ∃ (o : List Item) (acc : List ByteArray), o.length ≤ gg ∧ acc.length + o.length < 4294967296 ∧ Hid (CacheAt wr c m is1 o bud (weightI o) (n + 1)) ∧ Hid (weightI o < 4611686018427387904) ∧ Hid (Kd.R Kd.string 9 wr w.heap.size (fun k => k ∉ m :: blks c is1) s9 acc) ∧ Hid (Fr (m :: blks c is) w wr) ∧ Hid ((evR bud o.reverse).1 = (evR bud o0.reverse).1 ∧ acc ++ (evR bud o.reverse).2 = (evR bud o0.reverse).2))
  case atStart => exact ⟨o0, [], Nat.le_refl _, by simpa using hlo', hC4, hid hwo, hR0, hF4, hid ⟨rfl, rfl⟩⟩
  case round =>
    clear hC4 hF4 hR0 hwo
    obtain ⟨o, acc, hg, hal, HC, HW, HR, HF, HE⟩ := hrel
    obtain ⟨A, c1, hv⟩ := Kd.R_slice HR.out
    subst hv
    obtain ⟨nx, pv, hl⟩ := HC.out.half.lies
    have z5 := hl.budget
    have z6 := hl.bytes
    clear hl
    by_cases hgt : bud < (weightI o : Int)
    · obtain ⟨xs, e, rfl⟩ : ∃ xs e, o = xs ++ [e] := by
        rcases List.eq_nil_or_concat o with h0 | ⟨xs, e, h0⟩
        · rw [h0] at hgt
          simp [weightI] at hgt
          omega
        · exact ⟨xs, e, by rw [h0, List.concat_eq_append]⟩
      go_wp2
      go_region
      all_goals (
        have C5 := hid (HC.out.same (w' := wr.drew) rfl)
        have F5 := hid HF.out.drew
        have R5 := hid (Kd.R_drew HR.out)
        clear HC HF HR z5 z6
        generalize wr.drew = wd at C5 F5 R5 ⊢
        have hei : e ∈ is1 := C5.out.half.sub e (by simp)
        have hek : e.key.size ≤ maxLen := C5.out.short e (by simp)
        have hol : outI (xs ++ [e]) e.key = xs := out_last xs e C5.out.keys
        have hnew := hid (fun k (hk : wd.heap.size ≤ k) => (show k ∉ m :: blks c is1 from fun hm => by have := C5.out.lt k hm; omega))
        have k5 : wd.cell? ⟨e.blk, 0, none⟩ = some (.string e.key) := by
          obtain ⟨nx, pv, hl⟩ := C5.out.half.lies
          exact hl.key hei
        have hbw : w.heap.size ≤ wd.heap.size := F5.out.size
        have hln : (xs ++ [e]).length = xs.length + 1 := by simp
        rw [hln] at hg hal
        have E5 := HE.out
        have hrv : (xs ++ [e]).reverse = e :: xs.reverse := by simp
        have hwr : weightI (e :: xs.reverse) = weightI (xs ++ [e]) := by rw [← hrv, weight_reverse]
        rw [hrv, evR, if_pos (by rw [hwr]; exact hgt)] at E5
        have E6 := hid E5
        have hwx : weightI xs < 4611686018427387904 := by have := HW.out; rw [weight_append] at this; omega
        clear E5 HE hrv hwr hln
        go_wp2_with (first | (go_at_call 24; (first | refine (eldest_half xs e C6.out.half).mono ?_ | refine (eldest_half xs e C5.out.half).mono ?_); rintro e_ w_ ⟨rfl, hww⟩; have hww2 := hww.symm; subst hww2) | ((with_reducible refine gate_builtin (b := .append) (xs := #[.tmp 64, .tmp 72]) rfl ?_); (try (refine gate_guard (by rfl) ?_; dsimp only)); at_builtin; refine Kd.R_append Kd.string (w0 := wd) w.heap.size rfl (.tmp 64) (.tmp 72) 28 9 (.string ⟨#[]⟩) 16 rfl Try.underlying28 info9 rfl (by decide) (by omega) (.slice A acc.length c1) acc e.key [.string e.key] (fun k => k ∉ m :: blks c is1) (fun _ => False) rfl rfl ?aP (fun _ hk => hk.elim) hnew.out ?aO ?aB ?aS ?aL ?_; (case aP => exact rfl); (case aO => exact R5.out); (case aB => exact Below.refl _ _); (case aS => exact hbw); (case aL => omega); intro v1 w1 ho hb hg1 hat; have R6 := hid ho; have C6 := hid (C5.out.fr (Fr.grown hg1) (fun k hk hm => R5.out.1 k (by simpa using hm) hk)); have F6 := hid (F5.out.trans (Fr.grown hg1) (fun k hk => .inr (Kd.R_base R5.out k (by simpa using hk)))); have k6 : w1.cell? ⟨e.blk, 0, none⟩ = some (.string e.key) := (by obtain ⟨nx, pv, hl⟩ := C6.out.half.lies; exact hl.key hei); clear ho hb hg1 hat) | (go_at_call 16; refine (drop_one C6.out HW.out e.key hek).mono ?_; rintro e_ w2 ⟨⟨z2, rfl⟩, hc2, hf2⟩; have C7 := hid hc2; have F7 := hid (F6.out.trans hf2 hs1.out); have R7 := hid (Kd.R_step R6.out (fun k hok hlt => hf2.keep k hlt hok)); clear hc2 hf2))
        go_roundg xs.length
        case measure => omega
        case rel => exact ⟨xs, acc ++ [e.key], Nat.le_refl _, by rw [List.length_append, List.length_singleton]; omega, by have := C7.out; rw [hol] at this; exact this, hid hwx, R7, F7, hid ⟨E6.out.1, by rw [List.append_assoc]; exact E6.out.2⟩⟩)
    · have hE := HE.out
      have hev : evR bud o.reverse = (o.reverse, []) := by
        cases hrv : o.reverse with
        | nil => rfl
        | cons x r =>
          rw [evR, if_neg]
          rw [← hrv, weight_reverse]; exact hgt
      rw [hev] at hE
      simp only [List.append_nil] at hE
      go_wp2
      go_region
      all_goals (
        go_wp2
        go_ret2
        refine ⟨_, w1.heap.size, rfl, hlw, ?_, ?_, HF.out.drew⟩
        · rw [ho0, hi1, ← hE.2]
          exact Kd.R_drew HR.out
        · rw [ho0, hi1, ← hE.1]
          show CacheAt _ c m is1 o.reverse.reverse bud (weightI o.reverse.reverse) (n + 1)
          rw [List.reverse_reverse]
          exact HC.out.same rfl)
end
end Go.Proofs.Ytbiejjncjgapmaa.L
