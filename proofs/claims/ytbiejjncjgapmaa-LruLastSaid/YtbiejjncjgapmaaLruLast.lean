/- LruLast, walked. -/
import Derived.Test.YtbiejjncjgapmaaNote
import Derived.Test.YtbiejjncjgapmaaUsed
import Derived.StillTailTactics
import Derived.Deep.DeepCutAuto
namespace Go.Proofs.Ytbiejjncjgapmaa.L
open Go.RowKit Go.Lib Go.Proofs.Ytbiejjncjgapmaa.P
open Go.Proofs.YtbiejjncjgapmaaW.PrintWords Go.Proofs.YtbiejjncjgapmaaW.PrintLast Go.Proofs.YtbiejjncjgapmaaW.PrintMore
attribute [local go_sem] max2_int
def maxZ (b : Int) : Int := if b < 0 then 0 else b
theorem new_any (w : World) (b : Int) :
    Calls Try.prog 8 #[.int .i64 b] w fun e w' => ∃ c : Nat, e = .returned (P c) ∧ w.heap.size ≤ c ∧ ∃ m : Nat, w.heap.size ≤ m ∧ CacheAt w' c m [] [] (maxZ b) (weightI []) 0 ∧ Below w.heap.size w w' := by
  by_cases h : b < 0
  · have e : maxZ b = 0 := if_pos h
    rw [e]; exact new_neg w b h
  · have e : maxZ b = b := if_neg h
    rw [e]; exact new_pos w b (by omega)
theorem st_start {w W : World} {c m : Nat} {bud : Int} (h : CacheAt W c m [] [] bud (weightI []) 0) (hb : Below w.heap.size w W) (hc : w.heap.size ≤ c) (hm : w.heap.size ≤ m) :
    St w (W.alloc (.map #[] 0)) c m W.heap.size [] [] bud 0 0 (fun _ => 0) := by
  have hlt := h.lt
  refine ⟨h.fr (Fr.alloc [] W _) (fun k _ hm => by simp at hm), LastAt.made W, fun hmm => Nat.lt_irrefl _ (hlt _ hmm), fun k hk => ?_, hb.alloc hb.size _⟩
  rcases List.mem_cons.1 hk with e | hk
  · rw [e]; exact hb.size
  · rcases List.mem_cons.1 hk with e | hk
    · rw [e]; exact hm
    · rw [show k = c by simpa [blks] using hk]; exact hc
theorem lies_at {w : World} {A : Option Addr} {l : List ByteArray} (hr : Kd.C Kd.string w A l.length l) (h0 : 0 < l.length) :
    ∃ b o, A = some ⟨b, o, none⟩ ∧ b < w.heap.size ∧ ∀ j, j < l.length → w.cell? ⟨b, o + j, none⟩ = some (.string (l.getD j ByteArray.empty)) := by
  obtain ⟨ad, rfl, hcell⟩ := (Kd.reads_of_C (d := ByteArray.empty) hr).2.2 h0
  have h00 := hcell 0 h0
  have e0 : ad.add 0 = ad := by simp [Addr.add]
  rw [e0] at h00
  obtain ⟨b, o, rfl, hb⟩ := spot_of h00
  refine ⟨b, o, rfl, hb, fun j hj => ?_⟩
  have := hcell j hj
  rw [add_is] at this
  exact this
theorem ow_more {M m c : Nat} {x : Item} {is : List Item} : ∀ k ∈ ow M m c (x :: is), k ∈ ow M m c is ∨ k = x.blk := by
  intro k hk
  unfold ow blks at *
  simp only [List.mem_cons, List.map_cons] at hk ⊢
  rcases hk with h | h | h | h | h
  · exact .inl (.inl h)
  · exact .inl (.inr (.inl h))
  · exact .inl (.inr (.inr (.inl h)))
  · exact .inr h
  · exact .inl (.inr (.inr (.inr h)))
theorem ev_count (bud : Int) : ∀ l : List Item, (evR bud l).2.length ≤ l.length := by
  intro l
  induction l with
  | nil => exact Nat.le_refl _
  | cons x r ih =>
    rw [evR]
    split
    · rw [List.length_cons, List.length_cons]; omega
    · exact Nat.zero_le _
theorem drop_find {os : List Item} {ks : List ByteArray} {x : Item} : x ∈ dropI os ks → x ∈ os := by
  induction ks generalizing os with
  | nil => exact id
  | cons k r ih => exact fun h => (List.mem_filter.1 (ih h)).1
theorem weight_get {os : List Item} (s : ByteArray) (hn : (os.map (·.key)).Nodup) : weightI (getI os s) = weightI os := by
  unfold getI
  cases hx : findI os s with
  | none => rfl
  | some x =>
    show weightI (x :: outI os s) = _
    rw [weight_cons, weight_out hx hn]; omega
theorem length_get {os : List Item} (s : ByteArray) (hn : (os.map (·.key)).Nodup) : (getI os s).length = os.length := by
  unfold getI
  cases hx : findI os s with
  | none => rfl
  | some x =>
    obtain ⟨xs, ys, h1, h2⟩ := find_split hx hn
    show (x :: outI os s).length = _
    rw [h2, h1]; simp; omega
theorem told_ne {vals : Nat → ByteArray} {done : Nat} {os : List Item} {f : ByteArray → Int} (h : Tells vals done os f) {x : Item} (hx : x ∈ os) : ∃ j : Nat, f x.key = (j : Int) + 1 := by
  cases hf : findI os x.key with
  | none =>
    have := List.find?_eq_none.1 hf x hx
    simp at this
  | some y =>
    obtain ⟨j, _, h2, _⟩ := h.some_ hf
    exact ⟨j, by rw [h2]; omega⟩
theorem drawn_fr {own : List Nat} {w w' : World} (h : Drawn0 w w') : Fr own w w' := by
  obtain ⟨q, rfl⟩ := h
  exact Fr.of_below (pw_below_drewN (Below.refl _ _) q) own
theorem st_drawn {w0 w w' : World} {c m M B : Nat} {is os : List Item} {bud : Int} {n nn : Nat} {f : ByteArray → Int} {q : Op} (h : St w0 w c m M is os bud n nn f) (hx : Box w B (ow M m c is) q) (hd : Drawn0 w w') : St w0 w' c m M is os bud n nn f ∧ Box w' B (ow M m c is) q :=
  ⟨h.keep (drawn_fr hd : Fr [] w w') (fun k _ hm => by simp at hm) (fun k hm => by simp at hm), hx.fr (drawn_fr hd) (fun k hk => .inl hk)⟩
theorem st_box {w0 w w' : World} {c m M : Nat} {is os : List Item} {bud : Int} {n nn : Nat} {f : ByteArray → Int} {q : Op} (h : St w0 w c m M is os bud n nn f) (hd : Drawn0 (w.alloc (boxObj q)) w') : St w0 w' c m M is os bud n nn f ∧ Box w' w.heap.size (ow M m c is) q := by
  have h1 : St w0 (w.alloc (boxObj q)) c m M is os bud n nn f := h.keep (Fr.alloc [] w _) (fun k _ hm => by simp at hm) (fun k hm => by simp at hm)
  have hx : Box (w.alloc (boxObj q)) w.heap.size (ow M m c is) q := ⟨(MapKept.heap_alloc w _).1, fun hm => Nat.lt_irrefl _ (h.lt _ hm)⟩
  exact st_drawn h1 hx hd
set_option maxHeartbeats 8000000 in
set_option maxRecDepth 100000 in
theorem last_calls (budget : Int) (A : Option Addr) (n cap : Nat) (Q : Nat → Op) (w : World) (hn : n ≤ 9223372036854775807)
    (hA : 0 < n → ∃ b o, A = some ⟨b, o, none⟩ ∧ b < w.heap.size ∧ ∀ i, i < n → OpAt w b o i (Q i))
    (hQ : ∀ i, i < n → OpIs w (Q i) ∧ (Q i).key.size ≤ 140737488351232 ∧ (Q i).val.size ≤ 140737488351232 ∧ (Q i).keys.length ≤ 8796093021952) :
    Calls Try.prog 4 #[.int .i64 budget, .slice A n cap] w fun e w' => e = .returned (.bool true) ∧ Below w.heap.size w w' := by
  have HA := hid hA
  have HQ := hid hQ
  clear hA hQ
  have hmm := @run_makeMap Try.prog
  have hb0 : 0 ≤ maxZ budget := by unfold maxZ; split <;> omega
  have hbm := hid (show maxZ budget = if budget < 0 then 0 else budget from rfl)
  go_enter Try.func4, Try.ntmps4
  go_wp2_with (first | (go_at_call 6; refine (shown_calls _).mono ?_; rintro e w1 ⟨rfl, hb⟩; have B1 := hid hb; clear hb) | (go_at_call 8; refine (new_any w1 budget).mono ?_; rintro e w2 ⟨c, rfl, hc, m, hm, hh, hb⟩; have S0 := hid (st_start hh (B1.out.trans (hb.mono B1.out.size)) (Nat.le_trans B1.out.size hc) (Nat.le_trans B1.out.size hm)); clear hc hm hh hb))
  generalize hbud : maxZ budget = bud at *
  generalize hM : w2.heap.size = M at *
  generalize hw3 : w2.alloc (.map #[] 0) = w3 at *
  go_loopg [8] n (fun gg s8 wr => ∃ (kk n1 nn : Nat) (is os : List Item) (f : ByteArray → Int), kk ≤ n ∧ n - kk ≤ gg ∧ s8 = .int .i64 kk ∧ kk ≤ 150 ∧ os.length ≤ kk ∧ n1 ≤ kk ∧ nn ≤ kk * 17592186044416 ∧ Hid (St w wr c m M is os bud n1 nn f) ∧ Hid (Tells (fun j => (Q j).val) kk os f) ∧ Hid ((weightI os : Int) ≤ bud) ∧ Hid (weightI os ≤ kk * 281474976710656))
  case atStart => exact ⟨0, 0, 0, [], [], fun _ => 0, Nat.zero_le _, by omega, rfl, by omega, Nat.le_refl _, Nat.le_refl _, by omega, S0, hid Tells.start, hid (by simpa [weightI] using hb0), hid (by simp [weightI])⟩
  case round =>
    clear S0
    obtain ⟨kk, n1, nn, is, os, f, hkk, hg, rfl, hk150, hol, hn1, hnn, HS, HT, HW, HV⟩ := hrel
    by_cases hlt : kk < n
    · have hltz : (kk : Int) < (n : Int) := by omega
      by_cases h150 : kk < 150
      · have h150z : (kk : Int) < 150 := by omega
        obtain ⟨b, o, rfl, hb, hcells⟩ := HA.out (by omega)
        have hop := hcells kk hlt
        obtain ⟨hq, hqk, hqv, hqn⟩ := HQ.out kk hlt
        have hvk : (fun j => (Q j).val) kk = (Q kk).val := rfl
        have d0 := (HS.out.below.cell (p := ⟨b, o + kk * 4, none⟩) hb).trans hop.c0
        have d1 := (HS.out.below.cell (p := ⟨b, o + kk * 4 + 1, none⟩) hb).trans hop.c1
        have d2 := (HS.out.below.cell (p := ⟨b, o + kk * 4 + 2, none⟩) hb).trans hop.c2
        have d3 := (HS.out.below.cell (p := ⟨b, o + kk * 4 + 3, none⟩) hb).trans hop.c3
        clear hop hcells
        generalize hqe : Q kk = q at hq hqk hqv hqn d0 d1 d2 d3
        obtain ⟨r, hr⟩ := pick_is q.kind
        have HP := hid (fun W => tussocklaw07_pick.calls q.kind 7 r W hr)
        clear hr
        have hnn1 : nn + 8796093022208 ≤ (kk + 1) * 17592186044416 := by omega
        have hv1 : weightI os + 281474976702464 ≤ (kk + 1) * 281474976710656 := by have := HV.out; omega
        have hv2 : weightI os < 2305843009213693952 := by have := HV.out; omega
        have hnn2 : nn < 2815000000000000 := by omega
        go_upto_if 46 with (go_at_call 10; refine (HP.out _).mono ?_; rintro e w_ ⟨rfl, hww⟩; have S1 := hid (st_box HS.out hww).1; have X1 := hid (st_box HS.out hww).2; clear hww)
        generalize hB : wr.heap.size = B at *
        go_cut [10, 11, 12, 13] (fun v10 v11 v12 v13 wc => ∃ (n2 nn2 : Nat) (is2 os2 : List Item) (f2 : ByteArray → Int), os2.length ≤ kk + 1 ∧ n2 ≤ kk + 1 ∧ nn2 ≤ (kk + 1) * 17592186044416 ∧ Hid (St w wc c m M is2 os2 bud n2 nn2 f2) ∧ Hid (Box wc B (ow M m c is2) q) ∧ Hid (Tells (fun j => (Q j).val) (kk + 1) os2 f2) ∧ Hid ((weightI os2 : Int) ≤ bud) ∧ Hid (weightI os2 ≤ (kk + 1) * 281474976710656))
        case first =>
          by_cases r4 : r < 4
          · have b1 := X1.out.c1
            have b2 := X1.out.c2
            have hkm : q.key.size ≤ maxLen := by unfold maxLen; omega
            have hwt := HV.out
            by_cases hbig : bud < (q.key.size : Int) + (q.val.size : Int)
            · have HB := hid (put_big S1.out.cache q.key q.val (by omega) (by omega) hbig)
              go_wp2_with (go_at_call 11; refine HB.out.mono ?_; rintro e w5 ⟨rfl, hww⟩; have hww2 := hww.symm; subst hww2)
              go_loopg [12] 0 (fun gg s12 wx => s12 = .int .i64 0 ∧ Hid (St w wx c m M is os bud n1 nn f) ∧ Hid (Box wx B (ow M m c is) q))
              case atStart => exact ⟨rfl, S1, X1⟩
              case round =>
                obtain ⟨rfl, S5, X5⟩ := hrel
                go_wp2
                go_meet
                case rel => exact ⟨n1, nn, is, os, f, Nat.le_succ_of_le hol, Nat.le_succ_of_le hn1, Nat.le_trans (Nat.le_add_right _ _) hnn1, S5, X5, hid (HT.out.mono (Nat.le_succ _)), HW, hid (Nat.le_trans (Nat.le_add_right _ _) hv1)⟩
            · have HPt := hid (st_put S1.out hv2 hb0 (by unfold maxLen; omega) (by omega) q.key q.val (by omega) hkm (by omega) hbig)
              go_wp2_with (first | (go_at_call 11; refine HPt.out.mono ?_; rintro e w5 ⟨A5, c5, b5, gone, rfl, hb5, hc5, hg5, hr5, hs5, hf5⟩; have G5 := hid hg5; have R5 := hid hr5; have S5 := hid hs5; have X5 := hid (X1.out.fr hf5 (own' := ow M m c (⟨b5, q.key, q.val⟩ :: is)) (fun k hk => (ow_more k hk).imp id (fun e => by rw [e]; exact hb5))); have b15 := X5.out.c1; clear hr5 hs5 hg5) | (at_mapUpdate; refine wpList_note _ rfl _ _ _ rfl rfl S5.out.last (by unfold maxLen; omega) q.key _ rfl rfl hkm (WalkArith.wf_i64 (by omega)) ?_; intro w6 hm6 ht6; have N6 := hid (st_note S5.out hm6 ht6); clear hm6 ht6))
              have S6 := hid N6.out.1
              have X6 := hid (X5.out.fr N6.out.2 (fun k hk => .inl hk))
              have R6 := hid (Kd.R_step R5.out (fun k hok hlt => N6.out.2.keep k hlt hok))
              have ek : ((kk + 1 : Nat) : Int) = (kk : Int) + 1 := by omega
              have T6 := hid (HT.out.put ⟨b5, q.key, q.val⟩ (show (Q kk).val = q.val by rw [hqe]))
              have hkeys5 : ((⟨b5, q.key, q.val⟩ :: outI os q.key : List Item).map (·.key)).Nodup := by
                rw [List.map_cons, List.nodup_cons]
                refine ⟨fun hm => ?_, keys_out S1.out.cache.keys⟩
                obtain ⟨y, hy, e⟩ := List.mem_map.1 hm
                have := (List.mem_filter.1 hy).2
                simp only [ne_eq, decide_eq_true_eq] at this
                exact this e
              have hgo := (ev_gone bud (⟨b5, q.key, q.val⟩ :: outI os q.key).reverse (by rw [List.reverse_reverse]; exact hkeys5)).2
              rw [← G5.out, List.reverse_reverse] at hgo
              have hsh5 : ∀ y ∈ (⟨b5, q.key, q.val⟩ :: outI os q.key : List Item), y.key.size ≤ maxLen := fun y hy => by
                rcases List.mem_cons.1 hy with e | hy
                · rw [e]; exact hkm
                · exact S1.out.cache.short y (List.mem_filter.1 hy).1
              have HGO := hid hgo
              have HSH := hid hsh5
              have hwf5 := S5.out.cache
              have hwl5 : (weightI (dropI (⟨b5, q.key, q.val⟩ :: outI os q.key) gone) : Int) ≤ bud := by
                have hg0 := (ev_gone bud (⟨b5, q.key, q.val⟩ :: outI os q.key).reverse (by rw [List.reverse_reverse]; exact hkeys5)).1
                rw [← G5.out, List.reverse_reverse] at hg0
                rw [← hg0, weight_reverse]
                exact ev_weight bud hb0 _
              have hwl6 : weightI (dropI (⟨b5, q.key, q.val⟩ :: outI os q.key) gone) ≤ (kk + 1) * 281474976710656 := by
                have h1 := drop_weight gone (⟨b5, q.key, q.val⟩ :: outI os q.key)
                have h2 := weight_filter os q.key
                rw [weight_cons] at h1
                have h3 : heft ⟨b5, q.key, q.val⟩ ≤ 281474976702464 := by show q.key.size + q.val.size ≤ _; omega
                exact Nat.le_trans h1 (Nat.le_trans (by omega) hv1)
              have hdl : (dropI (⟨b5, q.key, q.val⟩ :: outI os q.key) gone).length ≤ kk + 1 := by
                have h1 := drop_length gone (⟨b5, q.key, q.val⟩ :: outI os q.key)
                have h2 : (outI os q.key).length ≤ os.length := List.length_filter_le _ _
                rw [List.length_cons] at h1
                omega
              have hgl : gone.length ≤ 151 := by
                have h0 := ev_count bud (⟨b5, q.key, q.val⟩ :: outI os q.key).reverse
                rw [← G5.out, List.length_reverse, List.length_cons] at h0
                have h2 : (outI os q.key).length ≤ os.length := List.length_filter_le _ _
                omega
              have HDL := hid (And.intro hdl (And.intro hwl5 hwl6))
              clear hgo hsh5 hwf5 hwl5 hwl6 hdl hkeys5 N6 R5 X5 S5 b15
              generalize ho0 : (⟨b5, q.key, q.val⟩ :: outI os q.key : List Item) = o0 at T6 HGO HSH HDL S6
              generalize hi0 : (⟨b5, q.key, q.val⟩ :: is : List Item) = is2 at S6 X6 R6
              generalize hf0 : (fun t => if t = q.key then ((kk : Int) + 1) else f t) = f0 at S6
              have T7 : Hid (Tells (fun j => (Q j).val) (kk + 1) o0 f0) := hid (by have := T6.out; rw [← hf0, ← ek]; exact this)
              generalize hO2 : dropI o0 gone = O2 at S6 HDL
              clear T6 ek hf0
              go_loopg [12] gone.length (fun gg s12 wx => ∃ (jj : Nat) (f3 : ByteArray → Int), jj ≤ gone.length ∧ gone.length - jj ≤ gg ∧ s12 = .int .i64 jj ∧ Hid (St w wx c m M is2 O2 bud (n1 + 1) (nn + 1 + jj) f3) ∧ Hid (Box wx B (ow M m c is2) q) ∧ Hid (Kd.R Kd.string 9 wx w_.heap.size (fun k => k ∉ ow M m c is2) (.slice A5 gone.length c5) gone) ∧ Hid (Tells (fun j => (Q j).val) (kk + 1) (dropI o0 (gone.take jj)) f3))
              case atStart => exact ⟨0, f0, Nat.zero_le _, by omega, rfl, S6, X6, R6, T7⟩
              case round =>
                clear S6 X6 R6 T7
                obtain ⟨jj, f3, hjj, hgj, rfl, S7, X7, R7, T7⟩ := hrel
                by_cases hlj : jj < gone.length
                · have hljz : (jj : Int) < (gone.length : Int) := by omega
                  obtain ⟨gb, go_, rfl, hgb, hgc⟩ := lies_at (Kd.R_reads' R7.out).2.2 (by omega)
                  have g1 := hgc jj hlj
                  have hgd : gone.getD jj ByteArray.empty = gone[jj] := by rw [List.getD_eq_getElem?_getD, List.getElem?_eq_getElem hlj]; rfl
                  rw [hgd] at g1
                  have hsome := HGO.out jj hlj
                  have htk : gone.take (jj + 1) = gone.take jj ++ [gone[jj]] := List.take_succ_eq_append_getElem hlj
                  generalize gone[jj] = g at g1 hsome htk
                  obtain ⟨x, hx⟩ := Option.isSome_iff_exists.1 hsome
                  have hgm : g.size ≤ maxLen := by
                    have hk := find_key hx
                    rw [← hk.2]
                    exact HSH.out x (drop_find hk.1)
                  have hlook := S7.out.last.look hgm
                  obtain ⟨j0, _, hfg, _⟩ := T7.out.some_ hx
                  rw [hfg] at hlook
                  have T8 := hid (show Tells (fun j => (Q j).val) (kk + 1) (dropI o0 (gone.take (jj + 1))) (fun t => if t = g then 0 else f3 t) by rw [htk, drop_snoc]; exact T7.out.out g)
                  have hne : (((j0 + 1 : Nat) : Int) == 0) = false := by rw [beq_eq_false_iff_ne]; omega
                  have hne2 : (((j0 + 1 : Nat) : Int) = 0) = False := eq_false (by omega)
                  clear hgc hsome htk hx hfg hgd
                  go_wp2_with (at_mapUpdate; refine wpList_note _ rfl _ _ _ rfl rfl S7.out.last (by unfold maxLen; omega) g 0 rfl rfl hgm (by decide) ?_; intro w8 hm8 ht8; have N8 := hid (st_note S7.out hm8 ht8); clear hm8 ht8)
                  go_roundg (gone.length - (jj + 1))
                  case measure => omega
                  case rel => exact ⟨jj + 1, _, by omega, by omega, by go_num, N8.out.1, hid (X7.out.fr N8.out.2 (fun k hk => .inl hk)), hid (Kd.R_step R7.out (fun k hok hlt => N8.out.2.keep k hlt hok)), T8⟩
                · have hljz : ¬ (jj : Int) < (gone.length : Int) := by omega
                  have hje : jj = gone.length := by omega
                  have T8 := T7.out
                  rw [hje, List.take_length, hO2] at T8
                  have T9 := hid T8
                  clear T8 T7
                  go_wp2
                  go_meet
                  case rel => exact ⟨n1 + 1, nn + 1 + jj, is2, O2, f3, HDL.out.1, by omega, Nat.le_trans (by omega) hnn1, S7, X7, T9, hid HDL.out.2.1, hid HDL.out.2.2⟩
          · have b0 := X1.out.c0
            by_cases r6 : r = 6
            · subst r6
              have hwd : weightI os < 4611686018427387904 := by omega
              go_wp2_with (first | (go_at_call 10; refine (HP.out _).mono ?_; rintro e w4 ⟨rfl, hww⟩; have S4 := hid (st_drawn S1.out X1.out hww).1; have X4 := hid (st_drawn S1.out X1.out hww).2; have b43 := X4.out.c3; clear hww) | (go_at_call 16; refine (st_drop S4.out hwd hq (by omega)).mono ?_; rintro e w5 ⟨⟨z5, rfl⟩, hs5, hf5⟩; have S5 := hid hs5; have X5 := hid (X4.out.fr hf5 (fun k hk => .inl hk)); clear hs5 hf5))
              have T5 := hid (HT.out.mono (Nat.le_succ kk))
              have hdw := drop_weight q.keys os
              have hdl := drop_length q.keys os
              have HDL := hid (show (weightI (dropI os q.keys) : Int) ≤ bud ∧ weightI (dropI os q.keys) ≤ (kk + 1) * 281474976710656 ∧ (dropI os q.keys).length ≤ kk + 1 from ⟨by have := HW.out; omega, Nat.le_trans hdw (Nat.le_trans (Nat.le_add_right _ _) hv1), Nat.le_trans hdl (Nat.le_succ_of_le hol)⟩)
              generalize hO2 : dropI os q.keys = O2 at S5 HDL
              clear hdw hdl X4 S4 b43
              go_loopg [13] q.keys.length (fun gg s13 wx => ∃ (jj : Nat) (f3 : ByteArray → Int), jj ≤ q.keys.length ∧ q.keys.length - jj ≤ gg ∧ s13 = .int .i64 jj ∧ Hid (St w wx c m M is O2 bud n1 (nn + jj) f3) ∧ Hid (Box wx B (ow M m c is) q) ∧ Hid (Tells (fun j => (Q j).val) (kk + 1) (dropI os (q.keys.take jj)) f3))
              case atStart => exact ⟨0, f, Nat.zero_le _, by omega, rfl, S5, X5, T5⟩
              case round =>
                clear S5 X5 T5
                obtain ⟨jj, f3, hjj, hgj, rfl, S7, X7, T7⟩ := hrel
                have b73 := X7.out.c3
                by_cases hlj : jj < q.keys.length
                · have hljz : (jj : Int) < (q.keys.length : Int) := by omega
                  obtain ⟨kb, ko, hat, hkb, hkc⟩ := hq.row (by intro h0; rw [h0] at hlj; simp at hlj)
                  rw [hat] at b73
                  clear hat
                  have g1 := (S7.out.below.cell (p := ⟨kb, ko + jj, none⟩) hkb).trans (hkc jj hlj)
                  have hgd : q.keys.getD jj ByteArray.empty = q.keys[jj] := by rw [List.getD_eq_getElem?_getD, List.getElem?_eq_getElem hlj]; rfl
                  rw [hgd] at g1
                  have htk : q.keys.take (jj + 1) = q.keys.take jj ++ [q.keys[jj]] := List.take_succ_eq_append_getElem hlj
                  have hgm : q.keys[jj].size ≤ maxLen := hq.short _ (List.getElem_mem hlj)
                  generalize q.keys[jj] = g at g1 htk hgm
                  have T8 := hid (show Tells (fun j => (Q j).val) (kk + 1) (dropI os (q.keys.take (jj + 1))) (fun t => if t = g then 0 else f3 t) by rw [htk, drop_snoc]; exact T7.out.out g)
                  clear hkc htk hgd
                  go_wp2_with (at_mapUpdate; refine wpList_note _ rfl _ _ _ rfl rfl S7.out.last (by unfold maxLen; omega) g 0 rfl rfl hgm (by decide) ?_; intro w8 hm8 ht8; have N8 := hid (st_note S7.out hm8 ht8); clear hm8 ht8)
                  go_roundg (q.keys.length - (jj + 1))
                  case measure => omega
                  case rel => exact ⟨jj + 1, _, by omega, by omega, by go_num, N8.out.1, hid (X7.out.fr N8.out.2 (fun k hk => .inl hk)), T8⟩
                · have hljz : ¬ (jj : Int) < (q.keys.length : Int) := by omega
                  have hje : jj = q.keys.length := by omega
                  have T8 := T7.out
                  rw [hje, List.take_length, hO2] at T8
                  have T9 := hid T8
                  clear T8 T7
                  go_wp2
                  go_meet
                  case rel => exact ⟨n1, nn + jj, is, O2, f3, HDL.out.2.2, Nat.le_succ_of_le hn1, Nat.le_trans (by omega) hnn1, S7, X7, T9, hid HDL.out.1, hid HDL.out.2.1⟩
            · go_wp2_with (go_at_call 10; refine (HP.out _).mono ?_; rintro e w4 ⟨rfl, hww⟩; have S4 := hid (st_drawn S1.out X1.out hww).1; have X4 := hid (st_drawn S1.out X1.out hww).2; have b43 := X4.out.c3; clear hww)
              go_meet
              case rel => exact ⟨n1, nn, is, os, f, Nat.le_succ_of_le hol, Nat.le_succ_of_le hn1, Nat.le_trans (Nat.le_add_right _ _) hnn1, S4, X4, hid (HT.out.mono (Nat.le_succ _)), HW, hid (Nat.le_trans (Nat.le_add_right _ _) hv1)⟩
        case rest =>
          clear S1 X1 HS HT HW HV HP hnn1 hv1 hv2 hnn2
          obtain ⟨n2, nn2, is2, os2, f2, hol2, hn2, hnnb, S2, X2, T2, W2, V2⟩ := hcut
          have e1 := X2.out.c1
          have hkm : q.key.size ≤ maxLen := by unfold maxLen; omega
          have HGt := hid (st_get S2.out q.key hkm)
          have T3 := hid (T2.out.get q.key)
          have hwg := weight_get q.key S2.out.cache.keys
          have hlg := length_get q.key S2.out.cache.keys
          have HWB := hid (show (budget < 0 → ¬ (0 : Int) < (weightI (getI os2 q.key) : Int)) ∧ (¬ budget < 0 → ¬ budget < (weightI (getI os2 q.key) : Int)) by
            rw [hwg]
            have h1 := W2.out
            have h2 := hbm.out
            constructor
            · intro h
              rw [if_pos h] at h2; omega
            · intro h
              rw [if_neg h] at h2; omega)
          have HV2 := hid (show weightI (getI os2 q.key) ≤ (kk + 1) * 281474976710656 by rw [hwg]; exact V2.out)
          have HW2 := hid (show (weightI (getI os2 q.key) : Int) ≤ bud by rw [hwg]; exact W2.out)
          clear hwg
          have HF := hid (show (findI os2 q.key = none ∧ getV os2 q.key = (⟨#[]⟩, false) ∧ f2 q.key = 0) ∨ ∃ (j : Nat), j < n ∧ getV os2 q.key = ((Q j).val, true) ∧ f2 q.key = (j : Int) + 1 by
            cases hx : findI os2 q.key with
            | none => exact .inl ⟨rfl, by unfold getV; rw [hx], T2.out.none_ hx⟩
            | some x =>
              obtain ⟨j, h1, h2, h3⟩ := T2.out.some_ hx
              exact .inr ⟨j, by omega, by unfold getV; rw [hx]; exact congrArg (fun v => (v, true)) (Eq.symm h3), by rw [h2]; omega⟩)
          clear T2 W2 V2
          generalize hO3 : getI os2 q.key = O3 at HGt T3 hlg HWB HV2 HW2
          have hl3 : O3.length ≤ kk + 1 := by omega
          generalize hgv : getV os2 q.key = gv at HGt HF
          generalize hfv : f2 q.key = fv at HF
          have hlk : ∀ W, LastAt W M nn2 f2 → (Instr.lookup 43 (.map (some M)) (.string q.key) false).run Try.prog W = .ok (.int .i64 fv) W := fun W h => by rw [← hfv]; exact h.look hkm
          have HLK := hid hlk
          clear hlk hfv hgv hlg hO3
          obtain ⟨hwb1, hwb2⟩ := HWB.out
          rcases HF.out with ⟨_, rfl, rfl⟩ | ⟨j, hjn, rfl, rfl⟩
          · by_cases hneg : budget < 0
            · have hw0 := hwb1 hneg
              clear hwb1 hwb2
              go_wp2_with (first | (go_at_call 14; refine HGt.out.mono ?_; rintro e w5 ⟨rfl, hs5, hf5⟩; have S5 := hid hs5; have X5 := hid (X2.out.fr hf5 (fun k hk => .inl hk)); have e15 := X5.out.c1; have hl5 := HLK.out _ S5.out.last; clear hs5 hf5) | (go_at_call 18; refine (st_bytes S5.out).mono ?_; rintro e w_ ⟨rfl, hww⟩; have hww2 := hww.symm; subst hww2) | (go_at_call 20; refine (st_keys S5.out (by omega)).mono ?_; rintro e w9 ⟨A9, c9, rfl, hc9, hr9, hs9, hf9⟩; have S9 := hid hs9; have R9 := hid (show Kd.C Kd.string w9 A9 (O3.map (·.key)).length (O3.map (·.key)) by rw [List.length_map]; exact hr9); clear hr9 hs9 hf9))
              go_loopg [18] O3.length (fun gg s18 wx => ∃ jj : Nat, jj ≤ O3.length ∧ O3.length - jj ≤ gg ∧ s18 = .int .i64 jj ∧ Hid (St w wx c m M is2 O3 bud n2 nn2 f2) ∧ Hid (Kd.C Kd.string wx A9 (O3.map (·.key)).length (O3.map (·.key))))
              case atStart => exact ⟨0, Nat.zero_le _, by omega, rfl, S9, R9⟩
              case round =>
                clear S9 R9
                obtain ⟨jj, hjj, hgj, rfl, S8, R8⟩ := hrel
                by_cases hlj : jj < O3.length
                · have hljz : (jj : Int) < (O3.length : Int) := by omega
                  obtain ⟨gb, go_, rfl, hgb, hgc⟩ := lies_at R8.out (by rw [List.length_map]; omega)
                  have hgj : ∀ i, (hi : i < O3.length) → (O3.map (·.key)).getD i ByteArray.empty = O3[i].key := fun i hi => by
                    rw [List.getD_eq_getElem?_getD, List.getElem?_map, List.getElem?_eq_getElem hi]; rfl
                  have g1 := hgc jj (by rw [List.length_map]; exact hlj)
                  have g0 := hgc 0 (by rw [List.length_map]; omega)
                  rw [hgj jj hlj] at g1
                  rw [hgj 0 (by omega), Nat.add_zero] at g0
                  have hmem : O3[jj] ∈ O3 := List.getElem_mem hlj
                  obtain ⟨jt, hjt⟩ := told_ne T3.out hmem
                  have hsz := S8.out.cache.short _ hmem
                  have hlook : ∀ nq, (Instr.lookup 43 (.map (some M)) (.string O3[jj].key) false).run Try.prog (wr.drewN nq) = .ok (.int .i64 ((jt : Int) + 1)) (wr.drewN nq) := fun nq => by
                    rw [← hjt]
                    exact (S8.out.last.keep (w' := wr.drewN nq) rfl).look hsz
                  have hnd : 0 < jj → O3[jj].key ≠ O3[0].key := fun h0 e => by
                    have hn := S8.out.cache.keys
                    have := List.getElem_inj (h₀ := by rw [List.length_map]; exact hlj) (h₁ := by rw [List.length_map]; omega) hn |>.1 (show (O3.map (·.key))[jj]'(by rw [List.length_map]; exact hlj) = (O3.map (·.key))[0]'(by rw [List.length_map]; omega) by rw [List.getElem_map, List.getElem_map]; exact e)
                    omega
                  have hne : (((jt : Int) + 1) == 0) = false := by rw [beq_eq_false_iff_ne]; omega
                  have hne2 : (((jt : Int) + 1) = 0) = False := eq_false (by omega)
                  clear hgc hgj hjt hmem
                  generalize O3[jj].key = g at g1 hlook hnd hsz
                  generalize O3[0].key = g00 at g0 hnd
                  by_cases hj0 : (0 : Int) < (jj : Int)
                  · have hgg : (g.toList == g00.toList) = false := beq_eq_false_iff_ne.2 (fun e => hnd (by omega) (toList_inj e))
                    have hgg2 : (g.toList = g00.toList) = False := eq_false (fun e => hnd (by omega) (toList_inj e))
                    have hj0n : 0 < jj := by omega
                    have hj0t : (0 < jj) = True := eq_true hj0n
                    have hj0u : ((0 : Int) < (jj : Int)) = True := eq_true hj0
                    clear hnd
                    go_wp2
                    go_quiet (fail)
                    go_wp2
                    go_roundg (O3.length - (jj + 1))
                    case measure => omega
                    case rel => exact ⟨jj + 1, by omega, by omega, by go_num, hid (S8.out.keep (Fr.of_below (pw_below_drewN (Below.refl _ _) _) []) (fun k _ hm => by simp at hm) (fun k hm => by simp at hm)), hid (Kd.C_drewN R8.out _)⟩
                  · have hj0n : (0 < jj) = False := eq_false (by omega)
                    have hj0u : ((0 : Int) < (jj : Int)) = False := eq_false hj0
                    have hj0d : decide ((0 : Int) < (jj : Int)) = false := decide_eq_false hj0
                    have hj0e : decide (0 < jj) = false := decide_eq_false (by omega)
                    clear hnd
                    go_wp2
                    go_quiet (fail)
                    go_wp2
                    go_roundg (O3.length - (jj + 1))
                    case measure => omega
                    case rel => exact ⟨jj + 1, by omega, by omega, by go_num, hid (S8.out.keep (Fr.of_below (pw_below_drewN (Below.refl _ _) _) []) (fun k _ hm => by simp at hm) (fun k hm => by simp at hm)), hid (Kd.C_drewN R8.out _)⟩
                · have hljz : ¬ (jj : Int) < (O3.length : Int) := by omega
                  go_wp2
                  go_roundg (n - (kk + 1))
                  case measure => omega
                  case rel => exact ⟨kk + 1, n2, nn2, is2, O3, f2, by omega, by omega, by go_num, by omega, hl3, hn2, hnnb, S8, T3, HW2, HV2⟩
            · have hw0 := hwb2 hneg
              clear hwb1 hwb2
              go_wp2_with (first | (go_at_call 14; refine HGt.out.mono ?_; rintro e w5 ⟨rfl, hs5, hf5⟩; have S5 := hid hs5; have X5 := hid (X2.out.fr hf5 (fun k hk => .inl hk)); have e15 := X5.out.c1; have hl5 := HLK.out _ S5.out.last; clear hs5 hf5) | (go_at_call 18; refine (st_bytes S5.out).mono ?_; rintro e w_ ⟨rfl, hww⟩; have hww2 := hww.symm; subst hww2) | (go_at_call 20; refine (st_keys S5.out (by omega)).mono ?_; rintro e w9 ⟨A9, c9, rfl, hc9, hr9, hs9, hf9⟩; have S9 := hid hs9; have R9 := hid (show Kd.C Kd.string w9 A9 (O3.map (·.key)).length (O3.map (·.key)) by rw [List.length_map]; exact hr9); clear hr9 hs9 hf9))
              go_loopg [18] O3.length (fun gg s18 wx => ∃ jj : Nat, jj ≤ O3.length ∧ O3.length - jj ≤ gg ∧ s18 = .int .i64 jj ∧ Hid (St w wx c m M is2 O3 bud n2 nn2 f2) ∧ Hid (Kd.C Kd.string wx A9 (O3.map (·.key)).length (O3.map (·.key))))
              case atStart => exact ⟨0, Nat.zero_le _, by omega, rfl, S9, R9⟩
              case round =>
                clear S9 R9
                obtain ⟨jj, hjj, hgj, rfl, S8, R8⟩ := hrel
                by_cases hlj : jj < O3.length
                · have hljz : (jj : Int) < (O3.length : Int) := by omega
                  obtain ⟨gb, go_, rfl, hgb, hgc⟩ := lies_at R8.out (by rw [List.length_map]; omega)
                  have hgj : ∀ i, (hi : i < O3.length) → (O3.map (·.key)).getD i ByteArray.empty = O3[i].key := fun i hi => by
                    rw [List.getD_eq_getElem?_getD, List.getElem?_map, List.getElem?_eq_getElem hi]; rfl
                  have g1 := hgc jj (by rw [List.length_map]; exact hlj)
                  have g0 := hgc 0 (by rw [List.length_map]; omega)
                  rw [hgj jj hlj] at g1
                  rw [hgj 0 (by omega), Nat.add_zero] at g0
                  have hmem : O3[jj] ∈ O3 := List.getElem_mem hlj
                  obtain ⟨jt, hjt⟩ := told_ne T3.out hmem
                  have hsz := S8.out.cache.short _ hmem
                  have hlook : ∀ nq, (Instr.lookup 43 (.map (some M)) (.string O3[jj].key) false).run Try.prog (wr.drewN nq) = .ok (.int .i64 ((jt : Int) + 1)) (wr.drewN nq) := fun nq => by
                    rw [← hjt]
                    exact (S8.out.last.keep (w' := wr.drewN nq) rfl).look hsz
                  have hnd : 0 < jj → O3[jj].key ≠ O3[0].key := fun h0 e => by
                    have hn := S8.out.cache.keys
                    have := List.getElem_inj (h₀ := by rw [List.length_map]; exact hlj) (h₁ := by rw [List.length_map]; omega) hn |>.1 (show (O3.map (·.key))[jj]'(by rw [List.length_map]; exact hlj) = (O3.map (·.key))[0]'(by rw [List.length_map]; omega) by rw [List.getElem_map, List.getElem_map]; exact e)
                    omega
                  have hne : (((jt : Int) + 1) == 0) = false := by rw [beq_eq_false_iff_ne]; omega
                  have hne2 : (((jt : Int) + 1) = 0) = False := eq_false (by omega)
                  clear hgc hgj hjt hmem
                  generalize O3[jj].key = g at g1 hlook hnd hsz
                  generalize O3[0].key = g00 at g0 hnd
                  by_cases hj0 : (0 : Int) < (jj : Int)
                  · have hgg : (g.toList == g00.toList) = false := beq_eq_false_iff_ne.2 (fun e => hnd (by omega) (toList_inj e))
                    have hgg2 : (g.toList = g00.toList) = False := eq_false (fun e => hnd (by omega) (toList_inj e))
                    have hj0n : 0 < jj := by omega
                    have hj0t : (0 < jj) = True := eq_true hj0n
                    have hj0u : ((0 : Int) < (jj : Int)) = True := eq_true hj0
                    clear hnd
                    go_wp2
                    go_quiet (fail)
                    go_wp2
                    go_roundg (O3.length - (jj + 1))
                    case measure => omega
                    case rel => exact ⟨jj + 1, by omega, by omega, by go_num, hid (S8.out.keep (Fr.of_below (pw_below_drewN (Below.refl _ _) _) []) (fun k _ hm => by simp at hm) (fun k hm => by simp at hm)), hid (Kd.C_drewN R8.out _)⟩
                  · have hj0n : (0 < jj) = False := eq_false (by omega)
                    have hj0u : ((0 : Int) < (jj : Int)) = False := eq_false hj0
                    have hj0d : decide ((0 : Int) < (jj : Int)) = false := decide_eq_false hj0
                    have hj0e : decide (0 < jj) = false := decide_eq_false (by omega)
                    clear hnd
                    go_wp2
                    go_quiet (fail)
                    go_wp2
                    go_roundg (O3.length - (jj + 1))
                    case measure => omega
                    case rel => exact ⟨jj + 1, by omega, by omega, by go_num, hid (S8.out.keep (Fr.of_below (pw_below_drewN (Below.refl _ _) _) []) (fun k _ hm => by simp at hm) (fun k hm => by simp at hm)), hid (Kd.C_drewN R8.out _)⟩
                · have hljz : ¬ (jj : Int) < (O3.length : Int) := by omega
                  go_wp2
                  go_roundg (n - (kk + 1))
                  case measure => omega
                  case rel => exact ⟨kk + 1, n2, nn2, is2, O3, f2, by omega, by omega, by go_num, by omega, hl3, hn2, hnnb, S8, T3, HW2, HV2⟩
          · have hjz : (j : Int) < (n : Int) := by omega
            have j2 : w.cell? ⟨b, o + j * 4 + 2, none⟩ = some (.string (Q j).val) := by
              obtain ⟨b_, o_, hbo, _, hcl⟩ := HA.out (by omega)
              have e1 : b = b_ ∧ o = o_ := by simpa using hbo
              rw [e1.1, e1.2]
              exact (hcl j hjn).c2
            by_cases hneg : budget < 0
            · have hw0 := hwb1 hneg
              clear hwb1 hwb2
              go_wp2_with (first | (go_at_call 14; refine HGt.out.mono ?_; rintro e w5 ⟨rfl, hs5, hf5⟩; have S5 := hid hs5; have X5 := hid (X2.out.fr hf5 (fun k hk => .inl hk)); have e15 := X5.out.c1; have hl5 := HLK.out _ S5.out.last; have j5 := (S5.out.below.cell (p := ⟨b, o + j * 4 + 2, none⟩) hb).trans j2; clear hs5 hf5) | (go_at_call 18; refine (st_bytes S5.out).mono ?_; rintro e w_ ⟨rfl, hww⟩; have hww2 := hww.symm; subst hww2) | (go_at_call 20; refine (st_keys S5.out (by omega)).mono ?_; rintro e w9 ⟨A9, c9, rfl, hc9, hr9, hs9, hf9⟩; have S9 := hid hs9; have R9 := hid (show Kd.C Kd.string w9 A9 (O3.map (·.key)).length (O3.map (·.key)) by rw [List.length_map]; exact hr9); clear hr9 hs9 hf9))
              go_loopg [18] O3.length (fun gg s18 wx => ∃ jj : Nat, jj ≤ O3.length ∧ O3.length - jj ≤ gg ∧ s18 = .int .i64 jj ∧ Hid (St w wx c m M is2 O3 bud n2 nn2 f2) ∧ Hid (Kd.C Kd.string wx A9 (O3.map (·.key)).length (O3.map (·.key))))
              case atStart => exact ⟨0, Nat.zero_le _, by omega, rfl, S9, R9⟩
              case round =>
                clear S9 R9
                obtain ⟨jj, hjj, hgj, rfl, S8, R8⟩ := hrel
                by_cases hlj : jj < O3.length
                · have hljz : (jj : Int) < (O3.length : Int) := by omega
                  obtain ⟨gb, go_, rfl, hgb, hgc⟩ := lies_at R8.out (by rw [List.length_map]; omega)
                  have hgj : ∀ i, (hi : i < O3.length) → (O3.map (·.key)).getD i ByteArray.empty = O3[i].key := fun i hi => by
                    rw [List.getD_eq_getElem?_getD, List.getElem?_map, List.getElem?_eq_getElem hi]; rfl
                  have g1 := hgc jj (by rw [List.length_map]; exact hlj)
                  have g0 := hgc 0 (by rw [List.length_map]; omega)
                  rw [hgj jj hlj] at g1
                  rw [hgj 0 (by omega), Nat.add_zero] at g0
                  have hmem : O3[jj] ∈ O3 := List.getElem_mem hlj
                  obtain ⟨jt, hjt⟩ := told_ne T3.out hmem
                  have hsz := S8.out.cache.short _ hmem
                  have hlook : ∀ nq, (Instr.lookup 43 (.map (some M)) (.string O3[jj].key) false).run Try.prog (wr.drewN nq) = .ok (.int .i64 ((jt : Int) + 1)) (wr.drewN nq) := fun nq => by
                    rw [← hjt]
                    exact (S8.out.last.keep (w' := wr.drewN nq) rfl).look hsz
                  have hnd : 0 < jj → O3[jj].key ≠ O3[0].key := fun h0 e => by
                    have hn := S8.out.cache.keys
                    have := List.getElem_inj (h₀ := by rw [List.length_map]; exact hlj) (h₁ := by rw [List.length_map]; omega) hn |>.1 (show (O3.map (·.key))[jj]'(by rw [List.length_map]; exact hlj) = (O3.map (·.key))[0]'(by rw [List.length_map]; omega) by rw [List.getElem_map, List.getElem_map]; exact e)
                    omega
                  have hne : (((jt : Int) + 1) == 0) = false := by rw [beq_eq_false_iff_ne]; omega
                  have hne2 : (((jt : Int) + 1) = 0) = False := eq_false (by omega)
                  clear hgc hgj hjt hmem
                  generalize O3[jj].key = g at g1 hlook hnd hsz
                  generalize O3[0].key = g00 at g0 hnd
                  by_cases hj0 : (0 : Int) < (jj : Int)
                  · have hgg : (g.toList == g00.toList) = false := beq_eq_false_iff_ne.2 (fun e => hnd (by omega) (toList_inj e))
                    have hgg2 : (g.toList = g00.toList) = False := eq_false (fun e => hnd (by omega) (toList_inj e))
                    have hj0n : 0 < jj := by omega
                    have hj0t : (0 < jj) = True := eq_true hj0n
                    have hj0u : ((0 : Int) < (jj : Int)) = True := eq_true hj0
                    clear hnd
                    go_wp2
                    go_quiet (fail)
                    go_wp2
                    go_roundg (O3.length - (jj + 1))
                    case measure => omega
                    case rel => exact ⟨jj + 1, by omega, by omega, by go_num, hid (S8.out.keep (Fr.of_below (pw_below_drewN (Below.refl _ _) _) []) (fun k _ hm => by simp at hm) (fun k hm => by simp at hm)), hid (Kd.C_drewN R8.out _)⟩
                  · have hj0n : (0 < jj) = False := eq_false (by omega)
                    have hj0u : ((0 : Int) < (jj : Int)) = False := eq_false hj0
                    have hj0d : decide ((0 : Int) < (jj : Int)) = false := decide_eq_false hj0
                    have hj0e : decide (0 < jj) = false := decide_eq_false (by omega)
                    clear hnd
                    go_wp2
                    go_quiet (fail)
                    go_wp2
                    go_roundg (O3.length - (jj + 1))
                    case measure => omega
                    case rel => exact ⟨jj + 1, by omega, by omega, by go_num, hid (S8.out.keep (Fr.of_below (pw_below_drewN (Below.refl _ _) _) []) (fun k _ hm => by simp at hm) (fun k hm => by simp at hm)), hid (Kd.C_drewN R8.out _)⟩
                · have hljz : ¬ (jj : Int) < (O3.length : Int) := by omega
                  go_wp2
                  go_roundg (n - (kk + 1))
                  case measure => omega
                  case rel => exact ⟨kk + 1, n2, nn2, is2, O3, f2, by omega, by omega, by go_num, by omega, hl3, hn2, hnnb, S8, T3, HW2, HV2⟩
            · have hw0 := hwb2 hneg
              clear hwb1 hwb2
              go_wp2_with (first | (go_at_call 14; refine HGt.out.mono ?_; rintro e w5 ⟨rfl, hs5, hf5⟩; have S5 := hid hs5; have X5 := hid (X2.out.fr hf5 (fun k hk => .inl hk)); have e15 := X5.out.c1; have hl5 := HLK.out _ S5.out.last; have j5 := (S5.out.below.cell (p := ⟨b, o + j * 4 + 2, none⟩) hb).trans j2; clear hs5 hf5) | (go_at_call 18; refine (st_bytes S5.out).mono ?_; rintro e w_ ⟨rfl, hww⟩; have hww2 := hww.symm; subst hww2) | (go_at_call 20; refine (st_keys S5.out (by omega)).mono ?_; rintro e w9 ⟨A9, c9, rfl, hc9, hr9, hs9, hf9⟩; have S9 := hid hs9; have R9 := hid (show Kd.C Kd.string w9 A9 (O3.map (·.key)).length (O3.map (·.key)) by rw [List.length_map]; exact hr9); clear hr9 hs9 hf9))
              go_loopg [18] O3.length (fun gg s18 wx => ∃ jj : Nat, jj ≤ O3.length ∧ O3.length - jj ≤ gg ∧ s18 = .int .i64 jj ∧ Hid (St w wx c m M is2 O3 bud n2 nn2 f2) ∧ Hid (Kd.C Kd.string wx A9 (O3.map (·.key)).length (O3.map (·.key))))
              case atStart => exact ⟨0, Nat.zero_le _, by omega, rfl, S9, R9⟩
              case round =>
                clear S9 R9
                obtain ⟨jj, hjj, hgj, rfl, S8, R8⟩ := hrel
                by_cases hlj : jj < O3.length
                · have hljz : (jj : Int) < (O3.length : Int) := by omega
                  obtain ⟨gb, go_, rfl, hgb, hgc⟩ := lies_at R8.out (by rw [List.length_map]; omega)
                  have hgj : ∀ i, (hi : i < O3.length) → (O3.map (·.key)).getD i ByteArray.empty = O3[i].key := fun i hi => by
                    rw [List.getD_eq_getElem?_getD, List.getElem?_map, List.getElem?_eq_getElem hi]; rfl
                  have g1 := hgc jj (by rw [List.length_map]; exact hlj)
                  have g0 := hgc 0 (by rw [List.length_map]; omega)
                  rw [hgj jj hlj] at g1
                  rw [hgj 0 (by omega), Nat.add_zero] at g0
                  have hmem : O3[jj] ∈ O3 := List.getElem_mem hlj
                  obtain ⟨jt, hjt⟩ := told_ne T3.out hmem
                  have hsz := S8.out.cache.short _ hmem
                  have hlook : ∀ nq, (Instr.lookup 43 (.map (some M)) (.string O3[jj].key) false).run Try.prog (wr.drewN nq) = .ok (.int .i64 ((jt : Int) + 1)) (wr.drewN nq) := fun nq => by
                    rw [← hjt]
                    exact (S8.out.last.keep (w' := wr.drewN nq) rfl).look hsz
                  have hnd : 0 < jj → O3[jj].key ≠ O3[0].key := fun h0 e => by
                    have hn := S8.out.cache.keys
                    have := List.getElem_inj (h₀ := by rw [List.length_map]; exact hlj) (h₁ := by rw [List.length_map]; omega) hn |>.1 (show (O3.map (·.key))[jj]'(by rw [List.length_map]; exact hlj) = (O3.map (·.key))[0]'(by rw [List.length_map]; omega) by rw [List.getElem_map, List.getElem_map]; exact e)
                    omega
                  have hne : (((jt : Int) + 1) == 0) = false := by rw [beq_eq_false_iff_ne]; omega
                  have hne2 : (((jt : Int) + 1) = 0) = False := eq_false (by omega)
                  clear hgc hgj hjt hmem
                  generalize O3[jj].key = g at g1 hlook hnd hsz
                  generalize O3[0].key = g00 at g0 hnd
                  by_cases hj0 : (0 : Int) < (jj : Int)
                  · have hgg : (g.toList == g00.toList) = false := beq_eq_false_iff_ne.2 (fun e => hnd (by omega) (toList_inj e))
                    have hgg2 : (g.toList = g00.toList) = False := eq_false (fun e => hnd (by omega) (toList_inj e))
                    have hj0n : 0 < jj := by omega
                    have hj0t : (0 < jj) = True := eq_true hj0n
                    have hj0u : ((0 : Int) < (jj : Int)) = True := eq_true hj0
                    clear hnd
                    go_wp2
                    go_quiet (fail)
                    go_wp2
                    go_roundg (O3.length - (jj + 1))
                    case measure => omega
                    case rel => exact ⟨jj + 1, by omega, by omega, by go_num, hid (S8.out.keep (Fr.of_below (pw_below_drewN (Below.refl _ _) _) []) (fun k _ hm => by simp at hm) (fun k hm => by simp at hm)), hid (Kd.C_drewN R8.out _)⟩
                  · have hj0n : (0 < jj) = False := eq_false (by omega)
                    have hj0u : ((0 : Int) < (jj : Int)) = False := eq_false hj0
                    have hj0d : decide ((0 : Int) < (jj : Int)) = false := decide_eq_false hj0
                    have hj0e : decide (0 < jj) = false := decide_eq_false (by omega)
                    clear hnd
                    go_wp2
                    go_quiet (fail)
                    go_wp2
                    go_roundg (O3.length - (jj + 1))
                    case measure => omega
                    case rel => exact ⟨jj + 1, by omega, by omega, by go_num, hid (S8.out.keep (Fr.of_below (pw_below_drewN (Below.refl _ _) _) []) (fun k _ hm => by simp at hm) (fun k hm => by simp at hm)), hid (Kd.C_drewN R8.out _)⟩
                · have hljz : ¬ (jj : Int) < (O3.length : Int) := by omega
                  go_wp2
                  go_roundg (n - (kk + 1))
                  case measure => omega
                  case rel => exact ⟨kk + 1, n2, nn2, is2, O3, f2, by omega, by omega, by go_num, by omega, hl3, hn2, hnnb, S8, T3, HW2, HV2⟩
      · have h150z : ¬ (kk : Int) < 150 := by omega
        go_wp2
        go_ret
        exact ⟨rfl, HS.out.below⟩
    · have hltz : ¬ (kk : Int) < (n : Int) := by omega
      go_wp2
      go_ret
      exact ⟨rfl, HS.out.below⟩
end Go.Proofs.Ytbiejjncjgapmaa.L
