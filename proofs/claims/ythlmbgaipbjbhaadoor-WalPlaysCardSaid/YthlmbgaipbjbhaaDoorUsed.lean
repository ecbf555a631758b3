/- slices.Clone of bytes; Read. What a directory has, as a list; how many bytes all files have. -/
import Derived.Test.YthlmbgaipbjbhaaDoorRen
import Derived.Lib.SliceRun
import Derived.Maps.RangeWalk
import Derived.Sort.KeysCollected
section
namespace Go.Proofs.YthlmbgaipbjbhaaDoor.L
open Go.RowKit Go.Lib Go.Maps
open Go.Proofs.YthlmbgaipbjbhaaDoorW.PrintWords Go.Proofs.YthlmbgaipbjbhaaDoorW.PrintLast Go.Proofs.YthlmbgaipbjbhaaDoorW.PrintMore
theorem info5 : (Tryd.prog.info? 5).map (fun i => (i.zero, i.size, i.bytes)) = some (some (.int .u8 0), 1, 1) := by kernel_rfl
abbrev kB : Kd Int := Kd.int .u8
set_option maxHeartbeats 4000000 in
set_option maxRecDepth 100000 in
theorem clone_nil (w : World) (n c : Nat) (h : n = 0) (hc : c = 0) :
    Calls Tryd.prog 40 #[.slice none n c] w fun e w' => e = .returned (.slice none 0 0) ∧ w' = w := by
  subst h
  subst hc
  have hq : (binOp .eql 33 (.slice none 0 0) (.slice none 0 0)).run Tryd.prog w = .ok (.bool true) w := run_eql_slice_nil w 33 5 none 0 0 0 0 Tryd.underlying33
  go_enter Tryd.func40, Tryd.ntmps40
  go_wp2
  go_ret
  exact ⟨rfl, rfl⟩
set_option maxHeartbeats 4000000 in
set_option maxRecDepth 100000 in
theorem clone_some (w : World) (ad : Addr) (c : Nat) (l : List Int) (hC : Kd.C kB w (some ad) l.length l) (hl : l.length ≤ 140737488355327) :
    Calls Tryd.prog 40 #[.slice (some ad) l.length c] w fun e w' => ∃ v, e = .returned v ∧ Kd.R kB 5 w' w.heap.size (fun _ => True) v l ∧ Below w.heap.size w w' := by
  have HC := hid hC
  have H0 := hid (show Kd.R kB 5 (w.alloc (.cells #[] 5)) w.heap.size (fun _ => True) (.slice (some ⟨w.heap.size, 0, none⟩) 0 0) [] from
    ⟨fun _ _ => trivial, [], World.ownsRow_lit (base := w.heap.size) (e := 5) (size := 1) w #[] 0 (Nat.le_refl _) (by decide) rfl, ⟨rfl, fun j p hj => by simp at hj⟩⟩)
  clear hC
  have hq : (binOp .eql 33 (.slice (some ad) l.length c) (.slice none 0 0)).run Tryd.prog w = .ok (.bool false) w := run_eql_slice_nil w 33 5 (some ad) l.length c 0 0 Tryd.underlying33
  go_enter Tryd.func40, Tryd.ntmps40
  go_wp2_with ((with_reducible refine gate_builtin (b := .append) (xs := #[.tmp 5, .tmp 6]) rfl ?_); at_builtin; refine Kd.R_append_rows kB (w0 := w) w.heap.size rfl (.tmp 5) (.tmp 6) 33 5 (.int .u8 0) 1 rfl Tryd.underlying33 info5 rfl (by decide) (by omega) (.slice (some ⟨w.heap.size, 0, none⟩) 0 0) [] l _ _ _ (fun _ => True) (fun _ => False) rfl rfl ?aO ?aR (fun _ _ h => h) (fun _ h => h.elim) (fun _ _ => trivial) ?aB ?aS ?aL ?_; (case aO => exact H0.out); (case aR => exact Kd.C_alloc HC.out _); (case aB => exact (Below.refl _ w).alloc (Nat.le_refl _) _); (case aS => simp only [World.size_alloc]; omega); (case aL => show (0 + _) * 1 ≤ _; omega); intro v1 w1 hr1 hb1 hg1 hat1; rw [List.nil_append] at hr1; have R1 := hid hr1; have B1 := hid hb1; clear hr1 hb1 hg1 hat1)
  go_ret
  exact ⟨v1, rfl, R1.out, B1.out⟩
theorem clone_calls {w : World} {v : Value} {l : List Int} {base : Nat} {ok : Nat → Prop} (h : Kd.R kB 5 w base ok v l) (hl : l.length ≤ 140737488355327) :
    Calls Tryd.prog 40 #[v] w fun e w' => ∃ u, e = .returned u ∧ Kd.R kB 5 w' w.heap.size (fun _ => True) u l ∧ Below w.heap.size w w' := by
  obtain ⟨inner, ho⟩ := Kd.R_own h
  obtain ⟨A, c, rfl, hlc, hC⟩ := Kd.R_reads h
  cases A with
  | none =>
    have hz : l.length = 0 ∧ c = 0 := by
      rcases ho.2 with ⟨e, _⟩ | ⟨g, cap, cur, e, _⟩
      · injection e with _ e1 e2
        exact ⟨e1, e2⟩
      · cases e
    refine (clone_nil w l.length c hz.1 hz.2).mono ?_
    rintro e w' ⟨rfl, rfl⟩
    obtain rfl := List.eq_nil_of_length_eq_zero hz.1
    exact ⟨_, rfl, Kd.R_nil _ _ _ _ _, Below.refl _ _⟩
  | some ad => exact clone_some w ad c l hC hl
section
variable {w : World} {D : Dk}
set_option maxHeartbeats 4000000 in
set_option maxRecDepth 100000 in
theorem read_dead (h : DkAt w D) (hd : D.dead = true) (s : ByteArray) :
    Calls Tryd.prog 31 #[P D.d, .string s] w fun e w' => e = .returned (.tuple #[.slice none 0 0, .int .i64 35]) ∧ Goes w w' D { D with off := true } := by
  have HS := hid (fun (W : World) (f : Fr [] w W) (A : Option Addr) (n c : Nat) => starts_dead (h.new f) hd true A n c)
  have HF := hid (fun (o1 : Obj) => (Fr.alloc [] w o1 : Fr [] w _))
  clear h
  go_enter Tryd.func31, Tryd.ntmps31
  go_wp2_with (go_at_call 44; refine (HS.out _ (HF.out _) _ _ _).mono ?_; rintro e w1 ⟨rfl, h1, f1⟩; have G1 := hid (Goes.dead h1 ((HF.out _).none.trans f1 (fun _ hk => .inl hk))); clear h1 f1)
  go_ret2
  exact ⟨rfl, G1.out⟩
theorem starts1 (h : DkAt w D) (hd : D.dead = false) (h0 : 0 ≤ D.ops) (h1 : D.ops < 4611686018427387904) (must : Bool) (s : ByteArray) :
    Calls Tryd.prog 44 #[P D.d, .bool must, .slice (some ⟨w.heap.size, 0, none⟩) 1 1] (w.alloc (.cells #[.string s] 9)) fun e w' => e = .returned (.tuple #[.bool (startE D must [s]).1, .int .i64 (startE D must [s]).2]) ∧ Goes w w' D D.count := by
  refine (starts_live (h.new (Fr.alloc [] w (.cells #[.string s] 9))) hd h0 h1 must [s] (some ⟨w.heap.size, 0, none⟩) 1 (by simp) (fun _ => ⟨w.heap.size, 0, rfl, by simp, fun e => by have := h.d_lt; omega, fun j hj => ?_⟩) (fun _ => by simp)).mono ?_
  · obtain rfl : j = 0 := by simpa using hj
    exact (cell_of (MapKept.heap_alloc w (.cells #[.string s] 9)).1 0).trans rfl
  · rintro e w' ⟨he, h1, f1⟩
    exact ⟨he, Goes.count h1 ((Fr.alloc [D.d] w _).trans f1 (fun _ hk => .inl hk))⟩
set_option maxHeartbeats 4000000 in
set_option maxRecDepth 100000 in
theorem read_live (h : DkAt w D) (hd : D.dead = false) (h0 : 0 ≤ D.ops) (h1 : D.ops < 4611686018427387904) (s : ByteArray) (hin : ∀ fb, D.dir s = some fb → ∃ f ∈ D.fs, f.blk = fb ∧ f.b.length ≤ 140737488355327) :
    Calls Tryd.prog 31 #[P D.d, .string s] w fun e w' => (codeE D true [s] ≠ 0 → e = .returned (.tuple #[.slice none 0 0, .int .i64 (codeE D true [s])]) ∧ Goes w w' D D.count) ∧
      (codeE D true [s] = 0 → ∃ f ∈ D.fs, D.dir s = some f.blk ∧ ∃ v, e = .returned (.tuple #[v, .int .i64 0]) ∧ Kd.R kB 5 w' w.heap.size (fun _ => True) v f.b ∧ Goes w w' D D.count) := by
  have HS := hid (starts1 h hd h0 h1 true s)
  have HIN := hid hin
  clear h hin
  cases hE : startE D true [s] with
  | mk fl e2 =>
    rw [hE] at HS
    have HE := hid hE
    clear hE
    by_cases he : e2 = 0
    · subst he
      cases fl with
      | true =>
        go_enter Tryd.func31, Tryd.ntmps31
        go_wp2_with (go_at_call 44; refine HS.out.mono ?_; rintro e w1 ⟨rfl, g1⟩; have G1 := hid g1; clear g1)
        go_ret2
        have hc : codeE D true [s] = 34 := by unfold codeE; rw [HE.out]; rfl
        exact ⟨fun _ => ⟨by rw [hc]; rfl, G1.out⟩, fun h => by rw [hc] at h; cases h⟩
      | false =>
        have hc := hid (show codeE D true [s] = 0 from by unfold codeE; rw [HE.out]; rfl)
        have hok := startE_name HE.out
        obtain ⟨fb, hfb⟩ := Option.isSome_iff_exists.1 (hok.2.1 rfl)
        obtain ⟨f, hf, rfl, hfl⟩ := HIN.out fb hfb
        have hs : s.size ≤ maxLen := by have := name_short hok.1; unfold maxLen; omega
        have HFB := hid (And.intro hf hfb)
        clear hok hf hfb
        go_enter Tryd.func31, Tryd.ntmps31
        go_wp2_with (first
          | (go_at_call 44; refine HS.out.mono ?_; rintro e w1 ⟨rfl, g1⟩; have G1 := hid g1; have c0 : w1.cell? ⟨D.d, 0, none⟩ = some (.map (some D.dm)) := g1.at_.c0; have el : (Instr.lookup 66 (.map (some D.dm)) (.string s) false).run Tryd.prog w1 = .ok (P f.blk) w1 := (by have := g1.at_.dirM.look hs; rw [show (D.count).dir s = some f.blk from HFB.out.2] at this; exact this); have FA := hid (g1.at_.files f HFB.out.1); have k0 := FA.out.c0; clear g1)
          | (go_at_call 40; refine (clone_calls FA.out.bytes hfl).mono ?_; rintro e w2 ⟨u, rfl, hr, hb⟩; have R2 := hid (Kd.R_lower hr G1.out.fr.size); have G2 := hid (G1.out.on (Fr.of_below hb [])); clear hr hb))
        go_ret2
        exact ⟨fun h => absurd hc.out h, fun _ => ⟨f, HFB.out.1, HFB.out.2, u, rfl, R2.out, G2.out⟩⟩
    · have hez : ¬ e2 = 0 := he
      go_enter Tryd.func31, Tryd.ntmps31
      go_wp2_with (go_at_call 44; refine HS.out.mono ?_; rintro e w1 ⟨rfl, g1⟩; have G1 := hid g1; clear g1)
      go_ret2
      have hc : codeE D true [s] = e2 := by unfold codeE; rw [HE.out]; simp [hez]
      exact ⟨fun _ => ⟨by rw [hc]; rfl, G1.out⟩, fun h => by rw [hc] at h; exact absurd h hez⟩
end
end Go.Proofs.YthlmbgaipbjbhaaDoor.L
end
section
namespace Go.Proofs.YthlmbgaipbjbhaaDoor.L
open Go.RowKit Go.Lib Go.Maps
open Go.Proofs.YthlmbgaipbjbhaaDoorW.PrintWords Go.Proofs.YthlmbgaipbjbhaaDoorW.PrintLast Go.Proofs.YthlmbgaipbjbhaaDoorW.PrintMore
def encE (p : ByteArray × Nat) : Lit × DataW Nat := (.string p.1.data.toList, .held p.2)
structure Lists (f : Names) (es : List (ByteArray × Nat)) : Prop where
  nodup : (es.map (·.1)).Nodup
  short : ∀ p ∈ es, p.1.size ≤ maxLen
  is : ∀ s b, s.size ≤ maxLen → (f s = some b ↔ (s, b) ∈ es)
theorem atKey_mem {l : List (Lit × DataW Nat)} (hp : l.Pairwise (fun p q => p.1 ≠ q.1)) {p : Lit × DataW Nat} (hm : p ∈ l) (hk : p.1.sameKey p.1 = true) (zd : DataW Nat) : (DataW.map l).atKey p.1 zd = p.2 := by
  cases hf : l.find? (fun q => q.1.sameKey p.1) with
  | none =>
    have := List.find?_eq_none.1 hf p hm
    exact absurd hk this
  | some q =>
    have hq := List.find?_some hf
    have hqm := List.mem_of_find?_eq_some hf
    have he : q.1 = p.1 := WideAt.sameKey_eq hq
    have : q = p := by
      by_cases hne : q = p
      · exact hne
      · obtain ⟨i, hi, rfl⟩ := List.mem_iff_getElem.1 hqm
        obtain ⟨j, hj, rfl⟩ := List.mem_iff_getElem.1 hm
        have hij : i ≠ j := fun e => hne (by subst e; rfl)
        rcases Nat.lt_or_gt_of_ne hij with h | h
        · exact absurd he (List.pairwise_iff_getElem.1 hp i j hi hj h)
        · exact absurd he.symm (List.pairwise_iff_getElem.1 hp j i hj hi h)
    simp only [DataW.atKey, hf, this]
theorem sameKey_self (x : List UInt8) : (Lit.string x).sameKey (.string x) = true := by simp [Lit.sameKey]
section
variable {w : World} {m n : Nat} {f : Names}
theorem DirAt.list (h : DirAt w m n f) : ∃ es, Lists f es ∧ w.ownsMap Tryd.prog 9 ptrElem m n (.map (es.map encE)) ∧ es.length ≤ n := by
  obtain ⟨D, hown, hf⟩ := h
  have hsz := hown.size_le
  obtain ⟨l, rfl, hpw⟩ := hown.tidy law
  obtain ⟨l', hl', hko⟩ := hown.keysOf
  obtain rfl : l = l' := by injection hl'
  have hkey : ∀ p ∈ l, ∃ x : List UInt8, p.1 = .string x ∧ x.length ≤ maxLen := fun p hp => by
    obtain ⟨v, hv⟩ := hko p hp
    obtain ⟨x, _, hx, hxl⟩ := Maps.keyOf_str Tryd.underlying9 hv
    exact ⟨x, hx, hxl⟩
  have hheld : ∀ p ∈ l, ∃ (s : ByteArray) (b : Nat), p = encE (s, b) ∧ s.size ≤ maxLen ∧ f s = some b := fun p hp => by
    obtain ⟨x, hx, hxl⟩ := hkey p hp
    have hs : (⟨x.toArray⟩ : ByteArray).data.toList = x := by simp
    have hsl : (⟨x.toArray⟩ : ByteArray).size ≤ maxLen := by show x.toArray.size ≤ _; simpa using hxl
    have ha : ∀ zd, readOr zd (f ⟨x.toArray⟩) = p.2 := fun zd => by
      rw [← hf ⟨x.toArray⟩ zd hsl, hs, ← hx]
      exact atKey_mem hpw hp (by rw [hx]; exact sameKey_self x) zd
    cases hfx : f ⟨x.toArray⟩ with
    | none =>
      rw [hfx] at ha
      have h1 : DataW.nil = p.2 := ha .nil
      have h2 : DataW.held 0 = p.2 := ha (.held 0)
      rw [← h1] at h2
      cases h2
    | some b =>
      rw [hfx] at ha
      refine ⟨⟨x.toArray⟩, b, ?_, hsl, hfx⟩
      have h1 : DataW.held b = p.2 := ha .nil
      unfold encE
      rw [hs, ← hx, h1]
  have hex : ∃ es : List (ByteArray × Nat), l = es.map encE ∧ ∀ q ∈ es, q.1.size ≤ maxLen ∧ f q.1 = some q.2 := by
    clear hf hown hpw hl' hko hkey hsz
    induction l with
    | nil => exact ⟨[], rfl, fun q hq => by simp at hq⟩
    | cons p r ih =>
      obtain ⟨es, he, h2⟩ := ih (fun q hq => hheld q (List.mem_cons_of_mem _ hq))
      obtain ⟨s, b, hp, h3, h4⟩ := hheld p List.mem_cons_self
      refine ⟨(s, b) :: es, by rw [List.map_cons, hp, he], fun q hq => ?_⟩
      rcases List.mem_cons.1 hq with e | hq
      · rw [e]; exact ⟨h3, h4⟩
      · exact h2 q hq
  obtain ⟨es, rfl, hes⟩ := hex
  refine ⟨es, ⟨?_, fun p hp => (hes p hp).1, fun s b hs => ⟨fun hfs => ?_, fun hm => (hes _ hm).2⟩⟩, hown, by simpa [Maps.size] using hsz⟩
  · refine List.pairwise_map.2 ((List.pairwise_map.1 hpw).imp (fun {p q} hne e => hne ?_))
    show Lit.string p.1.data.toList = .string q.1.data.toList
    rw [e]
  · have h1 := hf s .nil hs
    rw [hfs] at h1
    have h2 : has (.map (es.map encE)) (.string s.data.toList) = true := by
      cases hh : has (.map (es.map encE)) (.string s.data.toList) with
      | true => rfl
      | false =>
        rw [atKey_of_not_has hh] at h1
        cases h1
    rw [has_eq, List.any_eq_true] at h2
    obtain ⟨p, hp, hps⟩ := h2
    obtain ⟨q, hq, rfl⟩ := List.mem_map.1 hp
    have he : Lit.string q.1.data.toList = .string s.data.toList := WideAt.sameKey_eq hps
    have hqs : q.1 = s := by
      injection he with he
      cases hq1 : q.1
      cases s
      rw [hq1] at he
      simp at he
      rw [he]
    have := (hes q hq).2
    rw [hqs, hfs] at this
    injection this with this
    have hqe : q = (s, b) := Prod.ext hqs this.symm
    rw [← hqe]; exact hq
end
def Dk.len (D : Dk) (b : Nat) : Nat := match D.fs.find? (fun f => decide (f.blk = b)) with
  | some f => f.b.length
  | none => 0
def total (g : Nat → Nat) (es : List (ByteArray × Nat)) : Nat := (es.map fun p => g p.2).sum
theorem flat_apart {α β : Type} {g : α → List β} : ∀ {l : List α}, (l.flatMap g).Nodup → l.Pairwise (fun a b => ∀ x ∈ g a, x ∉ g b)
  | [], _ => List.Pairwise.nil
  | a :: r, h => by
    rw [List.flatMap_cons, List.nodup_append] at h
    exact List.pairwise_cons.2 ⟨fun b hb x hx hxb => h.2.2 x hx x (List.mem_flatMap.2 ⟨b, hb, hxb⟩) rfl, flat_apart h.2.1⟩
theorem fl_unique {w : World} {D : Dk} (h : DkAt w D) {f f' : Fl} (hf : f ∈ D.fs) (hf' : f' ∈ D.fs) (e : f.blk = f'.blk) : f = f' := by
  have hnd := h.nodup
  simp only [Dk.own, List.nodup_cons] at hnd
  have h2 := (List.nodup_append.1 hnd.2.2.2.2).2.1
  have h3 := flat_apart h2
  by_cases hne : f = f'
  · exact hne
  · obtain ⟨i, hi, rfl⟩ := List.mem_iff_getElem.1 hf
    obtain ⟨j, hj, rfl⟩ := List.mem_iff_getElem.1 hf'
    have hij : i ≠ j := fun e => hne (by subst e; rfl)
    rcases Nat.lt_or_gt_of_ne hij with hlt | hlt
    · exact absurd (by rw [e]; exact List.mem_cons_self) (List.pairwise_iff_getElem.1 h3 i j hi hj hlt D.fs[i].blk List.mem_cons_self)
    · exact absurd (by rw [← e]; exact List.mem_cons_self) (List.pairwise_iff_getElem.1 h3 j i hj hi hlt D.fs[j].blk List.mem_cons_self)
theorem len_is {w : World} {D : Dk} (h : DkAt w D) {f : Fl} (hf : f ∈ D.fs) : D.len f.blk = f.b.length := by
  unfold Dk.len
  cases hx : D.fs.find? (fun g => decide (g.blk = f.blk)) with
  | none => exact absurd (decide_eq_true rfl) (List.find?_eq_none.1 hx f hf)
  | some g =>
    have h1 := List.find?_some hx
    simp only [decide_eq_true_eq] at h1
    rw [fl_unique h (List.mem_of_find?_eq_some hx) hf h1]
def leftL (left : Lit → Bool) (es : List (ByteArray × Nat)) : List (ByteArray × Nat) := es.filter fun p => left (.string p.1.data.toList)
theorem left_all {es : List (ByteArray × Nat)} : leftL (Maps.has (.map (es.map encE))) es = es := by
  unfold leftL
  rw [List.filter_eq_self]
  intro p hp
  rw [has_eq, List.any_eq_true]
  exact ⟨encE p, List.mem_map_of_mem hp, sameKey_self _⟩
theorem left_none {left : Lit → Bool} {es : List (ByteArray × Nat)} (h : ∀ kl, left kl = false) : leftL left es = [] := by
  unfold leftL
  rw [List.filter_eq_nil_iff]
  intro p _
  rw [h]
  simp
theorem same_key {s t : ByteArray} : (Lit.string s.data.toList).sameKey (.string t.data.toList) = decide (s = t) := by
  by_cases e : s = t
  · rw [e, sameKey_self]; simp
  · rw [sameKey_ne (lit_ne e)]; simp [e]
theorem left_step {left : Lit → Bool} {es : List (ByteArray × Nat)} (hn : (es.map (·.1)).Nodup) {s : ByteArray} {b : Nat} (hm : (s, b) ∈ es) (hl : left (.string s.data.toList) = true) (g : Nat → Nat) :
    total g (leftL left es) = g b + total g (leftL (fun z => left z && !z.sameKey (.string s.data.toList)) es) := by
  induction es with
  | nil => simp at hm
  | cons p r ih =>
    obtain ⟨hp, hr⟩ := List.nodup_cons.1 (show (p.1 :: r.map (·.1)).Nodup from hn)
    by_cases he : p = (s, b)
    · subst he
      have hrest : leftL (fun z => left z && !z.sameKey (.string s.data.toList)) r = leftL left r := by
        unfold leftL
        refine List.filter_congr (fun q hq => ?_)
        have hne : q.1 ≠ s := fun e => hp (by rw [← e]; exact List.mem_map_of_mem (f := (·.1)) hq)
        show (left (.string q.1.data.toList) && !(Lit.string q.1.data.toList).sameKey (.string s.data.toList)) = left (.string q.1.data.toList)
        rw [same_key, decide_eq_false hne]
        simp
      have e1 : leftL left ((s, b) :: r) = (s, b) :: leftL left r := by unfold leftL; rw [List.filter_cons_of_pos (by simpa using hl)]
      have e2 : leftL (fun z => left z && !z.sameKey (.string s.data.toList)) ((s, b) :: r) = leftL left r := by
        rw [← hrest]
        unfold leftL
        rw [List.filter_cons_of_neg (by simp [same_key])]
      rw [e1, e2]
      unfold total
      rw [List.map_cons, List.sum_cons]
    · have hmr : (s, b) ∈ r := by
        rcases List.mem_cons.1 hm with e | e
        · exact absurd e.symm he
        · exact e
      have hne : p.1 ≠ s := fun e => hp (by rw [e]; exact List.mem_map.2 ⟨(s, b), hmr, rfl⟩)
      have hi := ih hr hmr
      have hk : (left (.string p.1.data.toList) && !(Lit.string p.1.data.toList).sameKey (.string s.data.toList)) = left (.string p.1.data.toList) := by rw [same_key, decide_eq_false hne]; simp
      cases hlp : left (.string p.1.data.toList) with
      | true =>
        have e1 : leftL left (p :: r) = p :: leftL left r := by unfold leftL; rw [List.filter_cons_of_pos (by simpa using hlp)]
        have e2 : leftL (fun z => left z && !z.sameKey (.string s.data.toList)) (p :: r) = p :: leftL (fun z => left z && !z.sameKey (.string s.data.toList)) r := by
          unfold leftL
          exact List.filter_cons_of_pos (p := fun p : ByteArray × Nat => (left (.string p.1.data.toList) && !(Lit.string p.1.data.toList).sameKey (.string s.data.toList))) (hk.trans hlp)
        rw [e1, e2]
        unfold total at hi ⊢
        rw [List.map_cons, List.sum_cons, List.map_cons, List.sum_cons]
        omega
      | false =>
        have e1 : leftL left (p :: r) = leftL left r := by unfold leftL; rw [List.filter_cons_of_neg (by rw [hlp]; simp)]
        have e2 : leftL (fun z => left z && !z.sameKey (.string s.data.toList)) (p :: r) = leftL (fun z => left z && !z.sameKey (.string s.data.toList)) r := by
          unfold leftL
          exact List.filter_cons_of_neg (p := fun p : ByteArray × Nat => (left (.string p.1.data.toList) && !(Lit.string p.1.data.toList).sameKey (.string s.data.toList))) (by
            show ¬ (left (.string p.1.data.toList) && !(Lit.string p.1.data.toList).sameKey (.string s.data.toList)) = true
            rw [hk, hlp]; simp)
        rw [e1, e2]
        exact hi
theorem ptr_inv {v : Value} {y : DataW Nat × List MemPlace} (h : ptrElem v = some y) : ∃ c, v = ptrOf c := by
  unfold ptrElem at h
  split at h
  · exact ⟨none, rfl⟩
  · exact ⟨some _, rfl⟩
  · cases h
theorem atKey_list {es : List (ByteArray × Nat)} (hn : (es.map (·.1)).Nodup) {s : ByteArray} {b : Nat} (hm : (s, b) ∈ es) (zd : DataW Nat) : (DataW.map (es.map encE)).atKey (.string s.data.toList) zd = .held b := by
  have hp : (es.map encE).Pairwise (fun p q => p.1 ≠ q.1) := List.pairwise_map.2 ((List.pairwise_map.1 hn).imp (fun hne e => hne (by
    have : Lit.string _ = Lit.string _ := e
    injection this with this
    cases h1 : (Prod.fst _ : ByteArray)
    cases h2 : (Prod.fst _ : ByteArray)
    rw [h1, h2] at this
    simp at this
    rw [this])))
  exact atKey_mem hp (List.mem_map_of_mem hm : encE (s, b) ∈ es.map encE) (sameKey_self _) zd
section
variable {w : World} {D : Dk}
set_option maxHeartbeats 4000000 in
set_option maxRecDepth 100000 in
theorem used_calls (h : DkAt w D) (es : List (ByteArray × Nat)) (hes : Lists D.dir es) (hown : w.ownsMap Tryd.prog 9 ptrElem D.dm D.n (.map (es.map encE))) (hin : ∀ p ∈ es, ∃ f ∈ D.fs, f.blk = p.2) (hsum : total D.len es < 4611686018427387904) :
    Calls Tryd.prog 64 #[P D.d] w fun e w' => e = .returned (.int .i64 (total D.len es)) ∧ Below w.heap.size w w' := by
  have c0 := h.c0
  have HH := hid h
  have HE := hid hes
  have HI := hid hin
  have HO := hid hown
  clear h hes hin hown
  go_enter Tryd.func64, Tryd.ntmps64
  go_wp2_with (at_range; refine wpList_range_own _ rfl _ 66 rfl 9 86 law Tryd.underlying66 ptrElem D.dm D.n (.map (es.map encE)) rfl HO.out ?_; intro w0 hrg0 hg0 hs0; have RG := hid hrg0; have G0 := hid (⟨hg0.os, hg0.tape, hg0.output, hg0.size, fun k hk => hg0.block k hk (by simp)⟩ : Below w.heap.size w w0); clear hrg0 hg0 hs0)
  go_frame
  go_loopg [3] (Maps.size (.map (es.map encE) : DataW Nat)) (fun gg s3 wr => ∃ (left : Lit → Bool) (cnt k : Nat), cnt ≤ gg ∧ s3 = .int .i64 k ∧ k + total D.len (leftL left es) = total D.len es ∧ Hid (wr.ranges Tryd.prog 9 ptrElem D.dm w.heap.size D.n (.map (es.map encE)) left cnt) ∧ Hid (Below w.heap.size w wr))
  case atStart => exact ⟨_, _, 0, Nat.le_refl _, rfl, by rw [left_all]; omega, RG, G0⟩
  case round =>
    clear RG G0
    obtain ⟨left, cnt, k, hcg, rfl, hk, HR, HB⟩ := hrel
    go_wp2_with (at_next; refine wpList_next_ranges _ rfl _ rfl 9 law ptrElem Value.string ptrOf (fun key kl hkk => by obtain ⟨x, hx, _⟩ := Maps.keyOf_str Tryd.underlying9 hkk; exact ⟨_, hx⟩) (fun v y hv => ptr_inv hv) D.dm w.heap.size D.n _ _ _ rfl HR.out ?_ ?_)
    · intro hc0 hl0
      have hz := left_none (es := es) hl0
      rw [hz] at hk
      have hk2 : k = total D.len es := by simpa [total] using hk
      subst hk2
      clear hk hz hl0
      go_wp2
      go_ret
      exact ⟨rfl, HB.out⟩
    · intro x c kl y yp w1 cnt1 hkey hlk hv hat hrg1 hlt hg1 hs1 hen
      obtain ⟨b, rfl, hmem, hkl⟩ : ∃ b, c = some b ∧ (x, b) ∈ es ∧ kl = .string x.data.toList := by
        have hsz : x.size ≤ maxLen ∧ kl = .string x.data.toList := by
          obtain ⟨z, hz, hz2, hz3⟩ := Maps.keyOf_str Tryd.underlying9 hkey
          simp only [encStr] at hz
          injection hz with hz
          subst hz
          exact ⟨by show z.toArray.size ≤ _; simpa using hz3, by rw [hz2]⟩
        obtain ⟨hh, hkl⟩ := hsz
        have hhas : Maps.has (.map (es.map encE)) kl = true := Maps.has_true_of_atKey hat
        rw [hkl, has_eq, List.any_eq_true] at hhas
        obtain ⟨q, hq, hqs⟩ := hhas
        obtain ⟨⟨s, b⟩, hp, rfl⟩ := List.mem_map.1 hq
        have he : s = x := by
          have h1 : (Lit.string s.data.toList).sameKey (.string x.data.toList) = true := hqs
          rw [same_key] at h1
          simpa using h1
        subst he
        have hy := hat .nil
        rw [hkl, atKey_list HE.out.nodup hp] at hy
        refine ⟨b, ?_, hp, hkl⟩
        cases c with
        | none => simp [ptrElem, ptrOf] at hv; rw [← hv.1] at hy; cases hy
        | some b2 =>
          simp [ptrElem, ptrOf] at hv
          rw [← hv.1] at hy
          simp at hy
          rw [hy]
      subst hkl
      obtain ⟨f, hf, hfb⟩ := HI.out _ hmem
      simp only at hfb
      subst hfb
      have hstep := left_step HE.out.nodup hmem hlk D.len
      rw [len_is HH.out hf] at hstep
      have B1 := hid (HB.out.grown hg1 HB.out.size (fun j hj => by cases hj; exact Nat.le_refl _))
      have FA := hid (((HH.out.new (Fr.of_below B1.out [])).files f hf))
      obtain ⟨A, c2, hrow⟩ := Kd.R_slice FA.out.bytes
      have k0 : w1.cell? ⟨f.blk, 0, none⟩ = some (.slice A f.b.length c2) := by rw [← hrow]; exact FA.out.c0
      have R1 := hid hrg1
      have hen2 : (Instr.entry (.pointer (some ⟨w.heap.size, 0, none⟩))).run Tryd.prog w1 = .ok (.tuple #[.string x, P f.blk]) w1 := hen
      have hkz : wrap64 ((k : Int) + (f.b.length : Int)) = ((k + f.b.length : Nat) : Int) := by unfold wrap64; omega
      clear hrow hrg1 hg1 hs1 hen hat hkey hv
      go_wp2
      go_roundg cnt1
      case measure => omega
      case rel => exact ⟨_, cnt1, k + f.b.length, Nat.le_refl _, by go_num, by omega, R1, B1⟩
end
end Go.Proofs.YthlmbgaipbjbhaaDoor.L
end
