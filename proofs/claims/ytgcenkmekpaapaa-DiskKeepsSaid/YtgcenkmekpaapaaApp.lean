/- Append. -/
import Derived.Test.YtgcenkmekpaapaaFile
import Derived.Deep.RegionHeld3
namespace Go.Proofs.Ytgcenkmekpaapaa.L
open Go.RowKit Go.Lib Go.Maps
open Go.Proofs.YtgcenkmekpaapaaW.PrintWords Go.Proofs.YtgcenkmekpaapaaW.PrintLast Go.Proofs.YtgcenkmekpaapaaW.PrintMore
section
variable {w : World} {D : Dk}
def Mid (D : Dk) (s : ByteArray) (D3 : Dk) (f : Fl) : Prop :=
  (D.dir s = some f.blk ∧ f ∈ D.fs ∧ D3 = D.count) ∨
  (D.dir s = none ∧ f = ⟨f.blk, .slice none 0 0, [], 0⟩ ∧ (∀ g ∈ D.fs, g.blk ≠ f.blk) ∧ ∃ b1 b2 v1, D3 = { D.count.addF f with n := D.n + 1, dir := (Ac.make s f.blk b1 b2).app D.dir, lv := v1, loose := D.loose ++ [.make s f.blk b1 b2] })
def Dk.grown (D : Dk) (f : Fl) (row lv : Value) (l : List Int) : Dk := { D.setF ⟨f.blk, row, f.b ++ l, f.sure⟩ with lv := lv, loose := D.loose ++ [.grow f.blk l.length] }
theorem Lists.perm {f : Names} {es es' : List (ByteArray × Nat)} (h : Lists f es) (h' : Lists f es') : es.Perm es' := by
  have hn : ∀ {l : List (ByteArray × Nat)}, (l.map (·.1)).Nodup → l.Nodup := fun {l} hl => List.Pairwise.of_map (·.1) (fun a b hne e => hne (by rw [e])) hl
  refine (List.perm_ext_iff_of_nodup (hn h.nodup) (hn h'.nodup)).2 (fun p => ⟨fun hp => ?_, fun hp => ?_⟩)
  · exact (h'.is p.1 p.2 (h.short p hp)).1 ((h.is p.1 p.2 (h.short p hp)).2 hp)
  · exact (h.is p.1 p.2 (h'.short p hp)).1 ((h'.is p.1 p.2 (h'.short p hp)).2 hp)
theorem total_perm {g : Nat → Nat} {es es' : List (ByteArray × Nat)} (h : es.Perm es') : total g es = total g es' := (h.map _).sum_nat
theorem used_is (h : DkAt w D) (es : List (ByteArray × Nat)) (hes : Lists D.dir es) (hin : ∀ p ∈ es, ∃ f ∈ D.fs, f.blk = p.2) (hsum : total D.len es < 4611686018427387904) :
    Calls Try.prog 27 #[P D.d] w fun e w' => e = .returned (.int .i64 (total D.len es)) ∧ Below w.heap.size w w' := by
  obtain ⟨es', hes', hown, _⟩ := h.dirM.list
  have hp := hes.perm hes'
  rw [total_perm hp] at hsum ⊢
  exact used_calls h es' hes' hown (fun p hpm => hin p (hp.mem_iff.2 hpm)) hsum
def appE (D : Dk) (s : ByteArray) (U n : Nat) : Int := if (startE D false [s]).2 = 0 then (if 0 < n ∧ D.room < (U : Int) + (n : Int) then 33 else if (startE D false [s]).1 then 34 else 0) else (startE D false [s]).2
theorem starts_box (h : DkAt w D) (hd : D.dead = false) (h0 : 0 ≤ D.ops) (h1 : D.ops < 4611686018427387904) (must : Bool) (s : ByteArray) :
    Calls Try.prog 26 #[P D.d, .bool must, .slice (some ⟨w.heap.size + 1, 0, none⟩) 1 1] ((w.alloc (.cells #[.string s] 9)).alloc (.cells #[.string s] 9)) fun e w' => e = .returned (.tuple #[.bool (startE D must [s]).1, .int .i64 (startE D must [s]).2]) ∧ Goes w w' D D.count ∧ w'.heap[w.heap.size]? = some (.cells #[.string s] 9 (0, 0)) ∧ w.heap.size < w'.heap.size := by
  have h2 := starts1 (h.new (Fr.alloc [] w (.cells #[.string s] 9))) hd h0 h1 must s
  rw [World.size_alloc] at h2
  refine h2.mono ?_
  rintro e w' ⟨he, g⟩
  have hsz := g.fr.size
  rw [World.size_alloc] at hsz
  have hbox := (MapKept.heap_alloc w (.cells #[.string s] 9)).1
  refine ⟨he, ⟨g.at_, (Fr.alloc D.own w _).trans g.fr (fun _ hk => .inl hk), fun k hk => (g.own k hk).imp id (fun e => by rw [World.size_alloc] at e; omega), fun k hk => (g.box k hk).imp id (fun e => by rw [World.size_alloc] at e; omega)⟩, (g.fr.keep _ (by simp) (fun hm => Nat.lt_irrefl _ (h.lt _ hm))).trans hbox, by omega⟩
set_option maxHeartbeats 8000000 in
set_option maxRecDepth 100000 in
theorem append_no (h : DkAt w D) (hd : D.dead = false) (h0 : 0 ≤ D.ops) (h1 : D.ops < 4611686018427387904) (s : ByteArray) (A : Option Addr) (n c : Nat) (hn : n < 4611686018427387904)
    (es : List (ByteArray × Nat)) (hes : Lists D.dir es) (hin : ∀ p ∈ es, ∃ f ∈ D.fs, f.blk = p.2) (hsum : total D.len es < 4611686018427387904) (hno : appE D s (total D.len es) n ≠ 0) :
    Calls Try.prog 9 #[P D.d, .string s, .slice A n c] w fun e w' => e = .returned (.int .i64 (appE D s (total D.len es) n)) ∧ Goes w w' D D.count := by
  have HS := hid (starts_box h hd h0 h1 false s)
  have HU := hid (fun (W : World) (g : Goes w W D D.count) => (show Calls Try.prog 27 #[P D.d] W fun e w' => e = .returned (.int .i64 (total D.len es)) ∧ Below W.heap.size W w' from
    used_is g.at_ es hes hin hsum))
  clear h
  cases hE : startE D false [s] with
  | mk fl e2 =>
    rw [hE] at HS
    have HE := hid hE
    have HNO := hid hno
    clear hE hno
    by_cases he : e2 = 0
    · subst he
      by_cases hpos : 0 < n
      · have hposz : (0 : Int) < (n : Int) := by omega
        have hz : wrap64 ((total D.len es : Int) + (n : Int)) = (total D.len es : Int) + (n : Int) := by unfold wrap64; omega
        have hz2 : IntKind.i64.wrap ((total D.len es : Int) + (n : Int)) = (total D.len es : Int) + (n : Int) := by rw [IntKind.wrap_i64]; omega
        by_cases hfull : D.room < (total D.len es : Int) + (n : Int)
        · go_enter Try.func9, Try.ntmps9
          go_wp2_with (go_at_call 26; refine HS.out.mono ?_; rintro e w1 ⟨rfl, g1, _, _⟩; have G1 := hid g1; have c3 : w1.cell? ⟨D.d, 3, none⟩ = some (.int .i64 D.room) := g1.at_.c3; clear g1)
          go_region_held3 (fun w_ => w_.cell? ⟨D.d, 3, none⟩ = some (.int .i64 D.room)) (go_keep) (first | (go_at_call 27; refine (HU.out _ (G1.out.on (Fr.refl [] w1).drew)).mono ?_; rintro e w2 ⟨rfl, hb⟩; have G2 := hid ((G1.out.on (Fr.refl [] w1).drew).on (Fr.of_below hb [])); have c32 : w2.cell? ⟨D.d, 3, none⟩ = some (.int .i64 D.room) := G2.out.at_.c3; clear hb))
          go_wp2
          go_ret
          exact ⟨by unfold appE; rw [HE.out]; simp [hpos, hfull], G2.out⟩
        · cases fl with
          | false => exact absurd (by unfold appE; rw [HE.out]; simp [hfull]) HNO.out
          | true =>
            go_enter Try.func9, Try.ntmps9
            go_wp2_with (go_at_call 26; refine HS.out.mono ?_; rintro e w1 ⟨rfl, g1, _, _⟩; have G1 := hid g1; have c3 : w1.cell? ⟨D.d, 3, none⟩ = some (.int .i64 D.room) := g1.at_.c3; clear g1)
            go_region_held3 (fun w_ => w_.cell? ⟨D.d, 3, none⟩ = some (.int .i64 D.room)) (go_keep) (first | (go_at_call 27; refine (HU.out _ (G1.out.on (Fr.refl [] w1).drew)).mono ?_; rintro e w2 ⟨rfl, hb⟩; have G2 := hid ((G1.out.on (Fr.refl [] w1).drew).on (Fr.of_below hb [])); have c32 : w2.cell? ⟨D.d, 3, none⟩ = some (.int .i64 D.room) := G2.out.at_.c3; clear hb))
            go_wp2
            go_ret
            exact ⟨by unfold appE; rw [HE.out]; simp [hfull], G2.out⟩
      · obtain rfl : n = 0 := by omega
        cases fl with
        | false => exact absurd (by unfold appE; rw [HE.out]; simp) HNO.out
        | true =>
          go_enter Try.func9, Try.ntmps9
          go_wp2_with (go_at_call 26; refine HS.out.mono ?_; rintro e w1 ⟨rfl, g1, _, _⟩; have G1 := hid g1; have c3 : w1.cell? ⟨D.d, 3, none⟩ = some (.int .i64 D.room) := g1.at_.c3; clear g1)
          go_quiet (fail)
          go_wp2
          go_ret
          exact ⟨by unfold appE; rw [HE.out]; simp, G1.out.on (Fr.of_drawn ⟨_, rfl⟩)⟩
    · have hez : ¬ e2 = 0 := he
      go_enter Try.func9, Try.ntmps9
      go_wp2_with (go_at_call 26; refine HS.out.mono ?_; rintro e w1 ⟨rfl, g1, _, _⟩; have G1 := hid g1; have c3 : w1.cell? ⟨D.d, 3, none⟩ = some (.int .i64 D.room) := g1.at_.c3; clear g1)
      go_ret
      exact ⟨by unfold appE; rw [HE.out]; simp [hez], G1.out⟩
end
end Go.Proofs.Ytgcenkmekpaapaa.L
