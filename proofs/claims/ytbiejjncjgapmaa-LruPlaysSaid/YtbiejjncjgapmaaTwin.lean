/- The cache beside the reference's: what each call leaves of both. -/
import Derived.Test.YtbiejjncjgapmaaRefF
import Derived.Test.YtbiejjncjgapmaaNote
import Derived.Test.YtbiejjncjgapmaaShown
namespace Go.Proofs.Ytbiejjncjgapmaa.L
open Go.RowKit Go.Lib Go.Proofs.Ytbiejjncjgapmaa.P
open Go.Proofs.YtbiejjncjgapmaaW.PrintWords Go.Proofs.YtbiejjncjgapmaaW.PrintLast Go.Proofs.YtbiejjncjgapmaaW.PrintMore
def ow2 (r m c : Nat) (is : List Item) : List Nat := r :: m :: blks c is
structure Tw (w0 w : World) (c m : Nat) (is os ot : List Item) (bud : Int) (n r : Nat) (v : Value) : Prop where
  cache : CacheAt w c m is os bud (weightI os) n
  ref : RefAt w r v ot bud
  apart : ∀ k, (k = r ∨ v.ownBlock = some k) → k ∉ m :: blks c is
  base : ∀ k ∈ m :: blks c is, w0.heap.size ≤ k
  rbase : ∀ k, (k = r ∨ v.ownBlock = some k) → w0.heap.size ≤ k
  below : Below w0.heap.size w0 w
section
variable {w0 w : World} {c m B : Nat} {is os ot : List Item} {bud : Int} {n r : Nat} {v : Value} {q : Op}
theorem Tw.lt (h : Tw w0 w c m is os ot bud n r v) : ∀ k ∈ ow2 r m c is, k < w.heap.size := fun k hk => by
  rcases List.mem_cons.1 hk with e | hk
  · rw [e]; exact h.ref.lt
  · exact h.cache.lt k hk
theorem Tw.keep {w' : World} {own : List Nat} (h : Tw w0 w c m is os ot bud n r v) (g : Fr own w w') (hd : ∀ k ∈ m :: blks c is, k ∉ own) (hr : ∀ k, (k = r ∨ v.ownBlock = some k) → k ∉ own) (hb : ∀ k ∈ own, w0.heap.size ≤ k) : Tw w0 w' c m is os ot bud n r v :=
  ⟨h.cache.fr g hd, h.ref.fr g (hr r (.inl rfl)) (fun k hk => hr k (.inr hk)), h.apart, h.base, h.rbase, h.below.trans (g.below h.below.size hb)⟩
theorem Tw.new {w' : World} (h : Tw w0 w c m is os ot bud n r v) (g : Fr [] w w') : Tw w0 w' c m is os ot bud n r v :=
  h.keep g (fun k _ hm => by simp at hm) (fun k _ hm => by simp at hm) (fun k hm => by simp at hm)
theorem Tw.cacheStep {w' : World} {is' os' : List Item} {n' : Nat} (h : Tw w0 w c m is os ot bud n r v) (hc : CacheAt w' c m is' os' bud (weightI os') n') (g : Fr (m :: blks c is) w w') (hi : ∀ k ∈ blks c is', k ∈ blks c is ∨ w.heap.size ≤ k) : Tw w0 w' c m is' os' ot bud n' r v := by
  have hs := h.below.size
  have hsub : ∀ k ∈ m :: blks c is', k ∈ m :: blks c is ∨ w.heap.size ≤ k := fun k hk => by
    rcases List.mem_cons.1 hk with e | hk
    · rw [e]; exact .inl List.mem_cons_self
    · exact (hi k hk).imp (List.mem_cons_of_mem _) id
  refine ⟨hc, h.ref.fr g (h.apart r (.inl rfl)) (fun k hk => h.apart k (.inr hk)), fun k hk hm => ?_, fun k hk => ?_, h.rbase, h.below.trans (g.below hs h.base)⟩
  · rcases hsub k hm with e | e
    · exact h.apart k hk e
    · have : k < w.heap.size := by
        rcases hk with e1 | e1
        · rw [e1]; exact h.ref.lt
        · exact h.ref.row_lt k e1
      omega
  · rcases hsub k hk with e | e
    · exact h.base k e
    · omega
theorem Tw.refStep {w' : World} {ot' : List Item} {v' : Value} (h : Tw w0 w c m is os ot bud n r v) (hr : RefAt w' r v' ot' bud) (g : Fr [r] w w') (hn : Newer w v v') : Tw w0 w' c m is os ot' bud n r v' := by
  have hs := h.below.size
  refine ⟨h.cache.fr g (fun k hk hm => h.apart r (.inl rfl) (by rw [← List.mem_singleton.1 hm]; exact hk)), hr, fun k hk hm => ?_, h.base, fun k hk => ?_, h.below.trans (g.below hs (fun k hk => by rw [List.mem_singleton.1 hk]; exact h.rbase r (.inl rfl)))⟩
  · rcases hk with e | e
    · exact h.apart k (.inl e) hm
    · rcases hn k e with e | e
      · exact h.apart k (.inr e) hm
      · have := h.cache.lt k hm
        omega
  · rcases hk with e | e
    · exact h.rbase k (.inl e)
    · rcases hn k e with e | e
      · exact h.rbase k (.inr e)
      · omega
theorem Fr.wide2 {w w' : World} (h : Fr (m :: blks c is) w w') : Fr (ow2 r m c is) w w' := h.wider (fun _ hk => .inl (List.mem_cons_of_mem _ hk))
theorem Fr.wide1 {w w' : World} (h : Fr [r] w w') : Fr (ow2 r m c is) w w' := h.wider (fun _ hk => .inl (by rw [List.mem_singleton.1 hk]; exact List.mem_cons_self))
theorem ow2_more {x : Item} : ∀ k ∈ ow2 r m c (x :: is), k ∈ ow2 r m c is ∨ k = x.blk := by
  intro k hk
  unfold ow2 blks at *
  simp only [List.mem_cons, List.map_cons] at hk ⊢
  rcases hk with h | h | h | h | h
  · exact .inl (.inl h)
  · exact .inl (.inr (.inl h))
  · exact .inl (.inr (.inr (.inl h)))
  · exact .inr h
  · exact .inl (.inr (.inr (.inr h)))
theorem weight_got (s : ByteArray) (hn : (os.map (·.key)).Nodup) : weightI (getI os s) = weightI os := by
  unfold getI
  cases hx : findI os s with
  | none => rfl
  | some x =>
    show weightI (x :: outI os s) = _
    rw [weight_cons, weight_out hx hn]; omega
theorem tw_get (h : Tw w0 w c m is os ot bud n r v) (s : ByteArray) (hs : s.size ≤ maxLen) :
    Calls Try.prog 14 #[P c, .string s] w fun e w' => e = .returned (.tuple #[.string (getV os s).1, .bool (getV os s).2]) ∧ Tw w0 w' c m is (getI os s) ot bud n r v ∧ Fr (ow2 r m c is) w w' := by
  refine (get_calls h.cache s hs).mono ?_
  rintro e w' ⟨he, hh, hf⟩
  rw [← weight_got s h.cache.keys] at hh
  have g : Fr (m :: blks c is) w w' := hf.wider (fun k hk => .inl (List.mem_cons_of_mem _ hk))
  exact ⟨he, h.cacheStep hh g (fun k hk => .inl hk), g.wide2⟩
theorem tw_rget {os' : List Item} (h : Tw w0 w c m is os' os bud n r v) (hn : (os.map (·.key)).Nodup) (hl : os.length < 4294967295) (s : ByteArray) :
    Calls Try.prog 15 #[P r, .string s] w fun e w' => e = .returned (.tuple #[.string (getV os s).1, .bool (getV os s).2]) ∧ ∃ v', Tw w0 w' c m is os' (getI os s) bud n r v' ∧ Fr (ow2 r m c is) w w' := by
  refine (ref_get h.ref hn hl s).mono ?_
  rintro e w' ⟨he, v', hh, hf, hw⟩
  exact ⟨he, v', h.refStep hh hf hw, hf.wide1⟩
theorem tw_drop (h : Tw w0 w c m is os ot bud n r v) (hw : weightI os < 4611686018427387904) (hq : OpIs w0 q) (hlen : q.keys.length < 4611686018427387904) :
    Calls Try.prog 16 #[P c, .slice q.at_ q.keys.length q.cap] w fun e w' => e = .returned (.int .i64 (dropN os q.keys)) ∧ Tw w0 w' c m is (dropI os q.keys) ot bud n r v ∧ Fr (ow2 r m c is) w w' := by
  refine (drop_calls h.cache hw q.keys q.at_ q.cap hq.short hlen (fun hne => ?_)).mono ?_
  · obtain ⟨kb, ko, e, hb, hc⟩ := hq.row hne
    refine ⟨kb, ko, e, Nat.lt_of_lt_of_le hb h.below.size, fun hm => ?_, fun j hj => (h.below.cell (p := ⟨kb, ko + j, none⟩) hb).trans (hc j hj)⟩
    have := h.base kb hm
    omega
  · rintro e w' ⟨he, hc, hf⟩
    exact ⟨he, h.cacheStep hc hf (fun k hk => .inl hk), hf.wide2⟩
theorem tw_rdrop {os' : List Item} (h : Tw w0 w c m is os' os bud n r v) (hn : (os.map (·.key)).Nodup) (hl : os.length < 4294967295) (hq : OpIs w0 q) (hlen : q.keys.length < 4611686018427387904) :
    Calls Try.prog 17 #[P r, .slice q.at_ q.keys.length q.cap] w fun e w' => e = .returned (.int .i64 (dropN os q.keys)) ∧ ∃ v', Tw w0 w' c m is os' (dropI os q.keys) bud n r v' ∧ Fr (ow2 r m c is) w w' := by
  refine (ref_drop h.ref hn (by omega) q.keys q.at_ q.cap hlen (fun hne => ?_)).mono ?_
  · obtain ⟨kb, ko, e, hb, hc⟩ := hq.row hne
    refine ⟨kb, ko, e, Nat.lt_of_lt_of_le hb h.below.size, fun hm => ?_, fun j hj => (h.below.cell (p := ⟨kb, ko + j, none⟩) hb).trans (hc j hj)⟩
    have := h.rbase r (.inl rfl)
    omega
  · rintro e w' ⟨he, v', hc, hf, hw⟩
    exact ⟨he, v', h.refStep hc hf hw, hf.wide1⟩
theorem tw_put (h : Tw w0 w c m is os ot bud n r v) (hw : weightI os < 2305843009213693952) (hbud : 0 ≤ bud) (hn : n + 1 < maxLen) (hos : os.length < 4294967295) (key val : ByteArray) (hk : key.size < 1152921504606846976) (hkm : key.size ≤ maxLen) (hv : val.size < 1152921504606846976) (hb : ¬ bud < (key.size : Int) + (val.size : Int)) :
    Calls Try.prog 11 #[P c, .string key, .string val] w fun e w' => ∃ (A : Option Addr) (c1 b : Nat) (gone : List ByteArray), e = .returned (.tuple #[.slice A gone.length c1, .int .i64 0]) ∧ w.heap.size ≤ b ∧ gone.length ≤ c1 ∧
      gone = (evR bud (⟨b, key, val⟩ :: outI os key).reverse).2 ∧ Kd.R Kd.string 9 w' w.heap.size (fun k => k ≠ r) (.slice A gone.length c1) gone ∧
      Tw w0 w' c m (⟨b, key, val⟩ :: is) (evR bud (⟨b, key, val⟩ :: outI os key).reverse).1.reverse ot bud (n + 1) r v ∧ Fr (ow2 r m c is) w w' := by
  refine (put_fits h.cache hw hbud hn hos key val hk hkm hv hb).mono ?_
  rintro e w' ⟨u, b, he, hwb, hr, hh, hf⟩
  obtain ⟨A, c1, hu⟩ := Kd.R_slice hr
  subst hu
  refine ⟨A, c1, b, _, he, hwb, (Kd.R_reads' hr).2.1, rfl, Kd.R_mono (Kd.R_bound hr) (fun k hk => ?_), h.cacheStep hh hf (fun k hk => ?_), hf.wide2⟩
  · have h1 := h.ref.lt
    have h2 := hk.2.1
    omega
  · rcases List.mem_cons.1 hk with e | hk
    · rw [e]; exact .inl List.mem_cons_self
    · rcases List.mem_cons.1 hk with e | hk
      · rw [e]; exact .inr hwb
      · exact .inl (List.mem_cons_of_mem _ hk)
theorem tw_rput {os' : List Item} (h : Tw w0 w c m is os' os bud n r v) (hno : (os.map (·.key)).Nodup) (hw : weightI os < 2305843009213693952) (hbud : 0 ≤ bud) (hos : os.length < 4294967294) (key val : ByteArray) (hk : key.size < 1152921504606846976) (hv : val.size < 1152921504606846976) (hb : ¬ bud < (key.size : Int) + (val.size : Int)) (b : Nat) {gone : List ByteArray} (hgo : gone = (evR bud (⟨b, key, val⟩ :: outI os key).reverse).2) :
    Calls Try.prog 12 #[P r, .string key, .string val] w fun e w' => ∃ (A : Option Addr) (c1 : Nat), e = .returned (.tuple #[.slice A gone.length c1, .int .i64 0]) ∧ gone.length ≤ c1 ∧
      Kd.C Kd.string w' A gone.length gone ∧ (∃ v', Tw w0 w' c m is os' (evR bud (⟨b, key, val⟩ :: outI os key).reverse).1.reverse bud n r v') ∧ Fr [r] w w' := by
  subst hgo
  refine (ref_put h.ref hno hw hbud hos key val hk hv hb b).mono ?_
  rintro e w' ⟨u, he, hr, v', hh, hf, hwn⟩
  obtain ⟨A, c1, hu⟩ := Kd.R_slice hr
  subst hu
  have h3 := Kd.R_reads' hr
  exact ⟨A, c1, he, h3.2.1, h3.2.2, ⟨v', h.refStep hh hf hwn⟩, hf⟩
theorem tw_keys (h : Tw w0 w c m is os ot bud n r v) (hlen : os.length < 4294967296) :
    Calls Try.prog 20 #[P c] w fun e w' => ∃ (A : Option Addr) (c1 : Nat), e = .returned (.slice A os.length c1) ∧ os.length ≤ c1 ∧ Kd.C Kd.string w' A os.length (os.map (·.key)) ∧ Tw w0 w' c m is os ot bud n r v ∧ Below w.heap.size w w' := by
  refine (keys_calls h.cache.half hlen).mono ?_
  rintro e w' ⟨u, he, hr, hb⟩
  obtain ⟨A, c1, hu⟩ := Kd.R_slice hr
  subst hu
  have h3 := Kd.R_reads' hr
  have hl : (os.map (·.key)).length = os.length := List.length_map _
  rw [hl] at he h3
  exact ⟨A, c1, he, h3.2.1, h3.2.2, h.new (Fr.of_below hb []), hb⟩
theorem tw_rkeys (h : Tw w0 w c m is os ot bud n r v) (hlen : ot.length < 4294967296) :
    Calls Try.prog 21 #[P r] w fun e w' => ∃ (A : Option Addr) (c1 : Nat), e = .returned (.slice A ot.length c1) ∧ ot.length ≤ c1 ∧ Kd.C Kd.string w' A ot.length (ot.map (·.key)) ∧ Tw w0 w' c m is os ot bud n r v ∧ Below w.heap.size w w' := by
  refine (ref_keys h.ref hlen).mono ?_
  rintro e w' ⟨u, he, hr, hb⟩
  obtain ⟨A, c1, hu⟩ := Kd.R_slice hr
  subst hu
  have h3 := Kd.R_reads' hr
  have hl : (ot.map (·.key)).length = ot.length := List.length_map _
  rw [hl] at he h3
  exact ⟨A, c1, he, h3.2.1, h3.2.2, h.new (Fr.of_below hb []), hb⟩
theorem tw_bytes (h : Tw w0 w c m is os ot bud n r v) : Calls Try.prog 18 #[P c] w fun e w' => e = .returned (.int .i64 (weightI os)) ∧ w' = w := by
  obtain ⟨nx, pv, hl⟩ := h.cache.half.lies
  exact bytes_calls hl
theorem tw_rbytes (h : Tw w0 w c m is os ot bud n r v) (hw : weightI ot < 4611686018427387904) : Calls Try.prog 19 #[P r] w fun e w' => e = .returned (.int .i64 (weightI ot)) ∧ Tw w0 w' c m is os ot bud n r v := by
  refine (ref_bytes h.ref hw).mono ?_
  rintro e w' ⟨he, hd⟩
  exact ⟨he, h.new (drawn_of hd)⟩
theorem same_both {A A' : Option Addr} {c0 c1 : Nat} {l : List ByteArray} (hl : l.length < 4611686018427387904) (h0 : Kd.C Kd.string w A l.length l) (hc0 : l.length ≤ c0) (h1 : Kd.C Kd.string w A' l.length l) (hc1 : l.length ≤ c1) :
    Calls Try.prog 13 #[.slice A l.length c0, .slice A' l.length c1] w fun e w' => e = .returned (.bool true) ∧ Fr [] w w' :=
  (tussocklaw07_same.calls _ A c0 l A' c1 l true w h0 hc0 h1 hc1 (same_self l hl)).mono fun _ _ hh => ⟨hh.1, drawn_of hh.2⟩
theorem same_keys {A A' : Option Addr} {c0 c1 : Nat} (hl : os.length < 4294967296) (h0 : Kd.C Kd.string w A os.length (os.map (·.key))) (hc0 : os.length ≤ c0) (h1 : Kd.C Kd.string w A' os.length (os.map (·.key))) (hc1 : os.length ≤ c1) :
    Calls Try.prog 13 #[.slice A os.length c0, .slice A' os.length c1] w fun e w' => e = .returned (.bool true) ∧ Fr [] w w' := by
  have e : (os.map (·.key)).length = os.length := List.length_map _
  rw [← e] at h0 hc0 h1 hc1 ⊢
  exact same_both (by omega) h0 hc0 h1 hc1
theorem tw_box {w' : World} (h : Tw w0 w c m is os ot bud n r v) (hd : Drawn0 (w.alloc (boxObj q)) w') : Tw w0 w' c m is os ot bud n r v ∧ Box w' w.heap.size (ow2 r m c is) q := by
  have h1 : Tw w0 (w.alloc (boxObj q)) c m is os ot bud n r v := h.new (Fr.alloc [] w _)
  have hx : Box (w.alloc (boxObj q)) w.heap.size (ow2 r m c is) q := ⟨(MapKept.heap_alloc w _).1, fun hm => Nat.lt_irrefl _ (h.lt _ hm)⟩
  exact ⟨h1.new (drawn_of hd), hx.fr (drawn_of hd : Fr (ow2 r m c is) _ _) (fun k hk => .inl hk)⟩
theorem new_both (w : World) (b : Int) :
    Calls Try.prog 8 #[.int .i64 b] w fun e w' => ∃ c : Nat, e = .returned (P c) ∧ w.heap.size ≤ c ∧ ∃ m : Nat, w.heap.size ≤ m ∧ CacheAt w' c m [] [] (maxZ b) (weightI []) 0 ∧ Below w.heap.size w w' := by
  by_cases h : b < 0
  · have e : maxZ b = 0 := if_pos h
    rw [e]; exact new_neg w b h
  · have e : maxZ b = b := if_neg h
    rw [e]; exact new_pos w b (by omega)
theorem tw_start {w1 w2 : World} (h1 : CacheAt w1 c m [] [] bud (weightI []) 0) (hb1 : Below w.heap.size w w1) (hc : w.heap.size ≤ c) (hm : w.heap.size ≤ m) (h2 : RefAt w2 w1.heap.size (.slice none 0 0) [] bud) (hb2 : Below w1.heap.size w1 w2) : Tw w w2 c m [] [] [] bud 0 w1.heap.size (.slice none 0 0) := by
  have hs := hb1.size
  have hx : ∀ k, (k = w1.heap.size ∨ (Value.slice none 0 0).ownBlock = some k) → k = w1.heap.size := fun k hk => by
    rcases hk with e | e
    · exact e
    · simp [Value.ownBlock] at e
  refine ⟨h1.fr (Fr.of_below hb2 []) (fun k _ hm => by simp at hm), h2, fun k hk hm => ?_, fun k hk => ?_, fun k hk => by rw [hx k hk]; exact hs, hb1.trans (hb2.mono hs)⟩
  · have := h1.lt k hm
    rw [hx k hk] at this
    omega
  · rcases List.mem_cons.1 hk with e | hk
    · rw [e]; exact hm
    · rw [show k = c by simpa [blks] using hk]; exact hc
theorem ev_len (bud : Int) : ∀ l : List Item, (evR bud l).2.length ≤ l.length ∧ (evR bud l).1.length ≤ l.length := by
  intro l
  induction l with
  | nil => exact ⟨Nat.le_refl _, Nat.le_refl _⟩
  | cons x r ih =>
    rw [evR]
    split
    · exact ⟨by show (evR bud r).2.length + 1 ≤ r.length + 1; omega, by show (evR bud r).1.length ≤ r.length + 1; omega⟩
    · exact ⟨Nat.zero_le _, Nat.le_refl _⟩
theorem ev_less (bud : Int) : ∀ l : List Item, weightI (evR bud l).1 ≤ weightI l := by
  intro l
  induction l with
  | nil => exact Nat.le_refl _
  | cons x r ih =>
    rw [evR]
    split
    · have := weight_cons x r
      show weightI (evR bud r).1 ≤ _
      omega
    · exact Nat.le_refl _
theorem len_got (s : ByteArray) (hn : (os.map (·.key)).Nodup) : (getI os s).length = os.length := by
  unfold getI
  cases hx : findI os s with
  | none => rfl
  | some x =>
    obtain ⟨xs, ys, h1, h2⟩ := find_split hx hn
    show (x :: outI os s).length = _
    rw [h2, h1]; simp; omega
end
end Go.Proofs.Ytbiejjncjgapmaa.L
