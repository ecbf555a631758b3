/- slices.Clone of bytes; Read. -/
import Derived.Test.YtgcenkmekpaapaaRen
import Derived.Lib.SliceRun
namespace Go.Proofs.Ytgcenkmekpaapaa.L
open Go.RowKit Go.Lib Go.Maps
open Go.Proofs.YtgcenkmekpaapaaW.PrintWords Go.Proofs.YtgcenkmekpaapaaW.PrintLast Go.Proofs.YtgcenkmekpaapaaW.PrintMore
theorem info5 : (Try.prog.info? 5).map (fun i => (i.zero, i.size, i.bytes)) = some (some (.int .u8 0), 1, 1) := by kernel_rfl
abbrev kB : Kd Int := Kd.int .u8
set_option maxHeartbeats 4000000 in
set_option maxRecDepth 100000 in
theorem clone_nil (w : World) (n c : Nat) (h : n = 0) (hc : c = 0) :
    Calls Try.prog 35 #[.slice none n c] w fun e w' => e = .returned (.slice none 0 0) ∧ w' = w := by
  subst h
  subst hc
  have hq : (binOp .eql 22 (.slice none 0 0) (.slice none 0 0)).run Try.prog w = .ok (.bool true) w := run_eql_slice_nil w 22 5 none 0 0 0 0 Try.underlying22
  go_enter Try.func35, Try.ntmps35
  go_wp2
  go_ret
  exact ⟨rfl, rfl⟩
set_option maxHeartbeats 4000000 in
set_option maxRecDepth 100000 in
theorem clone_some (w : World) (ad : Addr) (c : Nat) (l : List Int) (hC : Kd.C kB w (some ad) l.length l) (hl : l.length ≤ 140737488355327) :
    Calls Try.prog 35 #[.slice (some ad) l.length c] w fun e w' => ∃ v, e = .returned v ∧ Kd.R kB 5 w' w.heap.size (fun _ => True) v l ∧ Below w.heap.size w w' := by
  have HC := hid hC
  have H0 := hid (show Kd.R kB 5 (w.alloc (.cells #[] 5)) w.heap.size (fun _ => True) (.slice (some ⟨w.heap.size, 0, none⟩) 0 0) [] from
    ⟨fun _ _ => trivial, [], World.ownsRow_lit (base := w.heap.size) (e := 5) (size := 1) w #[] 0 (Nat.le_refl _) (by decide) rfl, ⟨rfl, fun j p hj => by simp at hj⟩⟩)
  clear hC
  have hq : (binOp .eql 22 (.slice (some ad) l.length c) (.slice none 0 0)).run Try.prog w = .ok (.bool false) w := run_eql_slice_nil w 22 5 (some ad) l.length c 0 0 Try.underlying22
  go_enter Try.func35, Try.ntmps35
  go_wp2_with ((with_reducible refine gate_builtin (b := .append) (xs := #[.tmp 5, .tmp 6]) rfl ?_); at_builtin; refine Kd.R_append_rows kB (w0 := w) w.heap.size rfl (.tmp 5) (.tmp 6) 22 5 (.int .u8 0) 1 rfl Try.underlying22 info5 rfl (by decide) (by omega) (.slice (some ⟨w.heap.size, 0, none⟩) 0 0) [] l _ _ _ (fun _ => True) (fun _ => False) rfl rfl ?aO ?aR (fun _ _ h => h) (fun _ h => h.elim) (fun _ _ => trivial) ?aB ?aS ?aL ?_; (case aO => exact H0.out); (case aR => exact Kd.C_alloc HC.out _); (case aB => exact (Below.refl _ w).alloc (Nat.le_refl _) _); (case aS => simp only [World.size_alloc]; omega); (case aL => show (0 + _) * 1 ≤ _; omega); intro v1 w1 hr1 hb1 hg1 hat1; rw [List.nil_append] at hr1; have R1 := hid hr1; have B1 := hid hb1; clear hr1 hb1 hg1 hat1)
  go_ret
  exact ⟨v1, rfl, R1.out, B1.out⟩
theorem clone_calls {w : World} {v : Value} {l : List Int} {base : Nat} {ok : Nat → Prop} (h : Kd.R kB 5 w base ok v l) (hl : l.length ≤ 140737488355327) :
    Calls Try.prog 35 #[v] w fun e w' => ∃ u, e = .returned u ∧ Kd.R kB 5 w' w.heap.size (fun _ => True) u l ∧ Below w.heap.size w w' := by
  obtain ⟨inner, ho⟩ := Kd.R_own h
  obtain ⟨A, c, rfl, hlc, hC⟩ := Kd.R_reads h
  cases A with
  | none =>
    have hz : l.length = 0 ∧ c = 0 := by
      rcases ho.2 with ⟨e, _⟩ | ⟨g, cap, cur, e, _⟩
      · injection e with _ e1 e2
        exact ⟨e1, e2⟩
      · cases e
    refine (clone_nil w l.length c hz.1 hz.2).mono ?_
    rintro e w' ⟨rfl, rfl⟩
    obtain rfl := List.eq_nil_of_length_eq_zero hz.1
    exact ⟨_, rfl, Kd.R_nil _ _ _ _ _, Below.refl _ _⟩
  | some ad => exact clone_some w ad c l hC hl
section
variable {w : World} {D : Dk}
theorem starts1 (h : DkAt w D) (hd : D.dead = false) (h0 : 0 ≤ D.ops) (h1 : D.ops < 4611686018427387904) (must : Bool) (s : ByteArray) :
    Calls Try.prog 26 #[P D.d, .bool must, .slice (some ⟨w.heap.size, 0, none⟩) 1 1] (w.alloc (.cells #[.string s] 9)) fun e w' => e = .returned (.tuple #[.bool (startE D must [s]).1, .int .i64 (startE D must [s]).2]) ∧ Goes w w' D D.count := by
  refine (starts_live (h.new (Fr.alloc [] w (.cells #[.string s] 9))) hd h0 h1 must [s] (some ⟨w.heap.size, 0, none⟩) 1 (by simp) (fun _ => ⟨w.heap.size, 0, rfl, by simp, fun e => by have := h.d_lt; omega, fun j hj => ?_⟩) (fun _ => by simp)).mono ?_
  · obtain rfl : j = 0 := by simpa using hj
    exact (cell_of (MapKept.heap_alloc w (.cells #[.string s] 9)).1 0).trans rfl
  · rintro e w' ⟨he, h1, f1⟩
    exact ⟨he, Goes.count h1 ((Fr.alloc [D.d] w _).trans f1 (fun _ hk => .inl hk))⟩
set_option maxHeartbeats 4000000 in
set_option maxRecDepth 100000 in
theorem read_live (h : DkAt w D) (hd : D.dead = false) (h0 : 0 ≤ D.ops) (h1 : D.ops < 4611686018427387904) (s : ByteArray) (hin : ∀ fb, D.dir s = some fb → ∃ f ∈ D.fs, f.blk = fb ∧ f.b.length ≤ 140737488355327) :
    Calls Try.prog 15 #[P D.d, .string s] w fun e w' => (codeE D true [s] ≠ 0 → e = .returned (.tuple #[.slice none 0 0, .int .i64 (codeE D true [s])]) ∧ Goes w w' D D.count) ∧
      (codeE D true [s] = 0 → ∃ f ∈ D.fs, D.dir s = some f.blk ∧ ∃ v, e = .returned (.tuple #[v, .int .i64 0]) ∧ Kd.R kB 5 w' w.heap.size (fun _ => True) v f.b ∧ Goes w w' D D.count) := by
  have HS := hid (starts1 h hd h0 h1 true s)
  have HIN := hid hin
  clear h hin
  cases hE : startE D true [s] with
  | mk fl e2 =>
    rw [hE] at HS
    have HE := hid hE
    clear hE
    by_cases he : e2 = 0
    · subst he
      cases fl with
      | true =>
        go_enter Try.func15, Try.ntmps15
        go_wp2_with (go_at_call 26; refine HS.out.mono ?_; rintro e w1 ⟨rfl, g1⟩; have G1 := hid g1; clear g1)
        go_ret2
        have hc : codeE D true [s] = 34 := by unfold codeE; rw [HE.out]; rfl
        exact ⟨fun _ => ⟨by rw [hc]; rfl, G1.out⟩, fun h => by rw [hc] at h; cases h⟩
      | false =>
        have hc := hid (show codeE D true [s] = 0 from by unfold codeE; rw [HE.out]; rfl)
        have hok := startE_name HE.out
        obtain ⟨fb, hfb⟩ := Option.isSome_iff_exists.1 (hok.2.1 rfl)
        obtain ⟨f, hf, rfl, hfl⟩ := HIN.out fb hfb
        have hs : s.size ≤ maxLen := by have := name_short hok.1; unfold maxLen; omega
        have HFB := hid (And.intro hf hfb)
        clear hok hf hfb
        go_enter Try.func15, Try.ntmps15
        go_wp2_with (first
          | (go_at_call 26; refine HS.out.mono ?_; rintro e w1 ⟨rfl, g1⟩; have G1 := hid g1; have c0 : w1.cell? ⟨D.d, 0, none⟩ = some (.map (some D.dm)) := g1.at_.c0; have el : (Instr.lookup 54 (.map (some D.dm)) (.string s) false).run Try.prog w1 = .ok (P f.blk) w1 := (by have := g1.at_.dirM.look hs; rw [show (D.count).dir s = some f.blk from HFB.out.2] at this; exact this); have FA := hid (g1.at_.files f HFB.out.1); have k0 := FA.out.c0; clear g1)
          | (go_at_call 35; refine (clone_calls FA.out.bytes hfl).mono ?_; rintro e w2 ⟨u, rfl, hr, hb⟩; have R2 := hid (Kd.R_lower hr G1.out.fr.size); have G2 := hid (G1.out.on (Fr.of_below hb [])); clear hr hb))
        go_ret2
        exact ⟨fun h => absurd hc.out h, fun _ => ⟨f, HFB.out.1, HFB.out.2, u, rfl, R2.out, G2.out⟩⟩
    · have hez : ¬ e2 = 0 := he
      go_enter Try.func15, Try.ntmps15
      go_wp2_with (go_at_call 26; refine HS.out.mono ?_; rintro e w1 ⟨rfl, g1⟩; have G1 := hid g1; clear g1)
      go_ret2
      have hc : codeE D true [s] = e2 := by unfold codeE; rw [HE.out]; simp [hez]
      exact ⟨fun _ => ⟨by rw [hc]; rfl, G1.out⟩, fun h => by rw [hc] at h; exact absurd h hez⟩
end
end Go.Proofs.Ytgcenkmekpaapaa.L
