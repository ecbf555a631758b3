/- The cache beside LruLast's notes: what each call and each note leaves. -/
import Derived.Test.YtbiejjncjgapmaaMade
import Derived.Test.YtbiejjncjgapmaaLast
import Derived.Test.YtbiejjncjgapmaaTells
import Derived.Test.YtbiejjncjgapmaaOps
namespace Go.Proofs.Ytbiejjncjgapmaa.L
open Go.RowKit Go.Lib Go.Proofs.Ytbiejjncjgapmaa.P
open Go.Proofs.YtbiejjncjgapmaaW.PrintWords Go.Proofs.YtbiejjncjgapmaaW.PrintLast Go.Proofs.YtbiejjncjgapmaaW.PrintMore
def ow (M m c : Nat) (is : List Item) : List Nat := M :: m :: blks c is
structure St (w0 w : World) (c m M : Nat) (is os : List Item) (bud : Int) (n nn : Nat) (f : ByteArray → Int) : Prop where
  cache : CacheAt w c m is os bud (weightI os) n
  last : LastAt w M nn f
  off : M ∉ m :: blks c is
  base : ∀ k ∈ ow M m c is, w0.heap.size ≤ k
  below : Below w0.heap.size w0 w
def boxObj (q : Op) : Obj := .cells #[.int .i64 q.kind, .string q.key, .string q.val, .slice q.at_ q.keys.length q.cap] 30 (0, 0)
structure Box (w : World) (B : Nat) (own : List Nat) (q : Op) : Prop where
  cell : w.heap[B]? = some (boxObj q)
  off : B ∉ own
section
variable {w0 w : World} {c m M B : Nat} {is os : List Item} {bud : Int} {n nn : Nat} {f : ByteArray → Int} {q : Op}
theorem Box.lt {own : List Nat} (h : Box w B own q) : B < w.heap.size := (Array.getElem?_eq_some_iff.1 h.cell).1
theorem Box.fr {own own' : List Nat} {w' : World} (h : Box w B own q) (f : Fr own w w') (hs : ∀ k ∈ own', k ∈ own ∨ w.heap.size ≤ k) : Box w' B own' q :=
  ⟨(f.keep B h.lt h.off).trans h.cell, fun hm => (hs B hm).elim h.off (fun e => by have := h.lt; omega)⟩
theorem Box.c0 {own : List Nat} (h : Box w B own q) : w.cell? ⟨B, 0, none⟩ = some (.int .i64 q.kind) := (cell_of h.cell 0).trans rfl
theorem Box.c1 {own : List Nat} (h : Box w B own q) : w.cell? ⟨B, 1, none⟩ = some (.string q.key) := (cell_of h.cell 1).trans rfl
theorem Box.c2 {own : List Nat} (h : Box w B own q) : w.cell? ⟨B, 2, none⟩ = some (.string q.val) := (cell_of h.cell 2).trans rfl
theorem Box.c3 {own : List Nat} (h : Box w B own q) : w.cell? ⟨B, 3, none⟩ = some (.slice q.at_ q.keys.length q.cap) := (cell_of h.cell 3).trans rfl
theorem Fr.more {w w' : World} (h : Fr (m :: blks c is) w w') : Fr (ow M m c is) w w' := h.wider (fun _ hk => .inl (List.mem_cons_of_mem _ hk))
theorem St.lt (h : St w0 w c m M is os bud n nn f) : ∀ k ∈ ow M m c is, k < w.heap.size := fun k hk => by
  rcases List.mem_cons.1 hk with e | hk
  · rw [e]; exact h.last.lt
  · exact h.cache.lt k hk
theorem St.keep {w' : World} {own : List Nat} (h : St w0 w c m M is os bud n nn f) (g : Fr own w w') (hd : ∀ k ∈ ow M m c is, k ∉ own) (hb : ∀ k ∈ own, w0.heap.size ≤ k) : St w0 w' c m M is os bud n nn f :=
  ⟨h.cache.fr g (fun k hk => hd k (List.mem_cons_of_mem _ hk)), h.last.keep (g.keep M h.last.lt (hd M List.mem_cons_self)), h.off, h.base, h.below.trans (g.below h.below.size hb)⟩
theorem St.of {w' : World} {is' os' : List Item} {n' : Nat} (h : St w0 w c m M is os bud n nn f) (hc : CacheAt w' c m is' os' bud (weightI os') n') (g : Fr (m :: blks c is) w w') (hi : ∀ k ∈ blks c is', k ∈ blks c is ∨ w.heap.size ≤ k) : St w0 w' c m M is' os' bud n' nn f := by
  have hs := h.below.size
  have hlt := h.last.lt
  refine ⟨hc, h.last.keep (g.keep M hlt h.off), fun hm => ?_, fun k hk => ?_, h.below.trans (g.below hs (fun k hk => h.base k (List.mem_cons_of_mem _ hk)))⟩
  · rcases List.mem_cons.1 hm with e | hm
    · exact h.off (by rw [e]; exact List.mem_cons_self)
    · rcases hi M hm with e | e
      · exact h.off (List.mem_cons_of_mem _ e)
      · omega
  · rcases List.mem_cons.1 hk with e | hk
    · rw [e]; exact h.base M List.mem_cons_self
    · rcases List.mem_cons.1 hk with e | hk
      · rw [e]; exact h.base m (List.mem_cons_of_mem _ List.mem_cons_self)
      · rcases hi k hk with e | e
        · exact h.base k (List.mem_cons_of_mem _ (List.mem_cons_of_mem _ e))
        · omega
theorem st_note {w' : World} {b : Int} {s : ByteArray} (h : St w0 w c m M is os bud n nn f) (hm : LastAt w' M (nn + 1) (fun t => if t = s then b else f t)) (ht : w.mapTurned w' M) : St w0 w' c m M is os bud n (nn + 1) (fun t => if t = s then b else f t) ∧ Fr (ow M m c is) w w' := by
  have g : Fr [M] w w' := Fr.turned ht (List.mem_singleton.2 rfl)
  refine ⟨⟨h.cache.fr g (fun k hk hmm => h.off (by rw [← List.mem_singleton.1 hmm]; exact hk)), hm, h.off, h.base, h.below.trans (g.below h.below.size (fun k hk => by rw [List.mem_singleton.1 hk]; exact h.base M List.mem_cons_self))⟩, g.wider (fun k hk => .inl (by rw [List.mem_singleton.1 hk]; exact List.mem_cons_self))⟩
theorem st_get (h : St w0 w c m M is os bud n nn f) (s : ByteArray) (hs : s.size ≤ maxLen) :
    Calls Try.prog 14 #[P c, .string s] w fun e w' => e = .returned (.tuple #[.string (getV os s).1, .bool (getV os s).2]) ∧ St w0 w' c m M is (getI os s) bud n nn f ∧ Fr (ow M m c is) w w' := by
  refine (get_calls h.cache s hs).mono ?_
  rintro e w' ⟨he, hh, hf⟩
  have hw : weightI (getI os s) = weightI os := by
    unfold getI
    cases hx : findI os s with
    | none => rfl
    | some x =>
      show weightI (x :: outI os s) = _
      rw [weight_cons, weight_out hx h.cache.keys]; omega
  rw [← hw] at hh
  have g : Fr (m :: blks c is) w w' := hf.wider (fun k hk => .inl (List.mem_cons_of_mem _ hk))
  exact ⟨he, h.of hh g (fun k hk => .inl hk), g.more⟩
theorem st_drop (h : St w0 w c m M is os bud n nn f) (hw : weightI os < 4611686018427387904) (hq : OpIs w0 q) (hlen : q.keys.length < 4611686018427387904) :
    Calls Try.prog 16 #[P c, .slice q.at_ q.keys.length q.cap] w fun e w' => (∃ z : Nat, e = .returned (.int .i64 z)) ∧ St w0 w' c m M is (dropI os q.keys) bud n nn f ∧ Fr (ow M m c is) w w' := by
  refine (drop_calls h.cache hw q.keys q.at_ q.cap hq.short hlen (fun hne => ?_)).mono ?_
  · obtain ⟨kb, ko, e, hb, hc⟩ := hq.row hne
    refine ⟨kb, ko, e, Nat.lt_of_lt_of_le hb h.below.size, fun hm => ?_, fun j hj => (h.below.cell (p := ⟨kb, ko + j, none⟩) hb).trans (hc j hj)⟩
    have := h.base kb (List.mem_cons_of_mem _ hm)
    omega
  · rintro e w' ⟨he, hc, hf⟩
    exact ⟨⟨_, he⟩, h.of hc hf (fun k hk => .inl hk), hf.more⟩
theorem st_put (h : St w0 w c m M is os bud n nn f) (hw : weightI os < 2305843009213693952) (hbud : 0 ≤ bud) (hn : n + 1 < maxLen) (hos : os.length < 4294967295) (key val : ByteArray) (hk : key.size < 1152921504606846976) (hkm : key.size ≤ maxLen) (hv : val.size < 1152921504606846976) (hb : ¬ bud < (key.size : Int) + (val.size : Int)) :
    Calls Try.prog 11 #[P c, .string key, .string val] w fun e w' => ∃ (A : Option Addr) (c1 b : Nat) (gone : List ByteArray), e = .returned (.tuple #[.slice A gone.length c1, .int .i64 0]) ∧ w.heap.size ≤ b ∧ gone.length ≤ c1 ∧
      gone = (evR bud (⟨b, key, val⟩ :: outI os key).reverse).2 ∧ Kd.R Kd.string 9 w' w.heap.size (fun k => k ∉ ow M m c (⟨b, key, val⟩ :: is)) (.slice A gone.length c1) gone ∧
      St w0 w' c m M (⟨b, key, val⟩ :: is) (dropI (⟨b, key, val⟩ :: outI os key) gone) bud (n + 1) nn f ∧ Fr (ow M m c is) w w' := by
  refine (put_fits h.cache hw hbud hn hos key val hk hkm hv hb).mono ?_
  rintro e w' ⟨v, b, he, hwb, hr, hh, hf⟩
  obtain ⟨A, c1, hv⟩ := Kd.R_slice hr
  subst hv
  have hkeys : ((⟨b, key, val⟩ :: outI os key).map (·.key)).Nodup := by
    rw [List.map_cons, List.nodup_cons]
    refine ⟨fun hm => ?_, keys_out h.cache.keys⟩
    obtain ⟨y, hy, e⟩ := List.mem_map.1 hm
    have := (List.mem_filter.1 hy).2
    simp only [ne_eq, decide_eq_true_eq] at this
    exact this e
  have hg := (ev_gone bud (⟨b, key, val⟩ :: outI os key).reverse (by rw [List.reverse_reverse]; exact hkeys)).1
  rw [List.reverse_reverse] at hg
  rw [hg] at hh
  refine ⟨A, c1, b, _, he, hwb, (Kd.R_reads' hr).2.1, rfl, Kd.R_mono (Kd.R_bound hr) (fun k hk => ?_), h.of hh hf (fun k hk => ?_), hf.more⟩
  · intro hm
    rcases List.mem_cons.1 hm with e | hm
    · have h1 := h.last.lt
      have h2 := hk.2.1
      omega
    · exact hk.1 hm
  · rcases List.mem_cons.1 hk with e | hk
    · rw [e]; exact .inl List.mem_cons_self
    · rcases List.mem_cons.1 hk with e | hk
      · rw [e]; exact .inr hwb
      · exact .inl (List.mem_cons_of_mem _ hk)
theorem st_keys (h : St w0 w c m M is os bud n nn f) (hlen : os.length < 4294967296) :
    Calls Try.prog 20 #[P c] w fun e w' => ∃ (A : Option Addr) (c1 : Nat), e = .returned (.slice A os.length c1) ∧ os.length ≤ c1 ∧ Kd.C Kd.string w' A os.length (os.map (·.key)) ∧ St w0 w' c m M is os bud n nn f ∧ Fr (ow M m c is) w w' := by
  refine (keys_calls h.cache.half hlen).mono ?_
  rintro e w' ⟨v, he, hr, hb⟩
  obtain ⟨A, c1, hv⟩ := Kd.R_slice hr
  subst hv
  have h3 := Kd.R_reads' hr
  have hl : (os.map (·.key)).length = os.length := List.length_map _
  rw [hl] at he h3
  have g : Fr [] w w' := Fr.of_below hb []
  exact ⟨A, c1, he, h3.2.1, h3.2.2, h.keep g (fun k _ hm => by simp at hm) (fun k hm => by simp at hm), g.wider (fun k hm => by simp at hm)⟩
theorem st_bytes (h : St w0 w c m M is os bud n nn f) : Calls Try.prog 18 #[P c] w fun e w' => e = .returned (.int .i64 (weightI os)) ∧ w' = w := by
  obtain ⟨nx, pv, hl⟩ := h.cache.half.lies
  exact bytes_calls hl
end
theorem pick_is (k : Int) : ∃ r, tussocklaw07_pick.f k 7 = some r := by
  unfold tussocklaw07_pick.f
  split
  · exact ⟨_, if_neg (by decide)⟩
  · exact ⟨_, if_neg (by decide)⟩
end Go.Proofs.Ytbiejjncjgapmaa.L
