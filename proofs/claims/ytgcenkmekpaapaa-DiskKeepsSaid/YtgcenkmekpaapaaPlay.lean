/- pick, named, and a disk behind a script. -/
import Derived.Test.YtgcenkmekpaapaaArgs
import Derived.Deep.RegionHeld3
import Derived.Deep.QuietTactic
import Derived.BigQuiet
namespace Go.Proofs.Ytgcenkmekpaapaa.L
open Go.RowKit Go.Lib Go.Maps
open Go.Proofs.YtgcenkmekpaapaaW.PrintWords Go.Proofs.YtgcenkmekpaapaaW.PrintLast Go.Proofs.YtgcenkmekpaapaaW.PrintMore
theorem wf_bd {x : Int} (h : (Lit.int .i64 x).wf = true) : -9223372036854775808 ≤ x ∧ x ≤ 9223372036854775807 := by
  simp [Lit.wf, IntKind.min, IntKind.max, IntKind.signed, IntKind.bits] at h
  omega
def pickI (c n : Int) : Int := (if c < 0 then -(c + 1) else c) % n
theorem pick_bd (c n : Int) (hn : 0 < n) : 0 ≤ pickI c n ∧ pickI c n < n := ⟨Int.emod_nonneg _ (by omega), Int.emod_lt_of_pos _ hn⟩
set_option maxHeartbeats 1000000 in
theorem pick_calls (c n : Int) (hc : (Lit.int .i64 c).wf = true) (hn : 0 < n) (w : World) :
    Calls Try.prog 22 #[.int .i64 c, .int .i64 n] w fun e w' => e = .returned (.int .i64 (pickI c n)) ∧ w' = w := by
  obtain ⟨h1, h2⟩ := wf_bd hc
  clear hc
  by_cases h : c < 0
  · obtain ⟨r, hr⟩ : ∃ r, r = pickI c n := ⟨_, rfl⟩
    rw [← hr]
    have hp : pickI c n = (-(c + 1)) % n := by unfold pickI; rw [if_pos h]
    have hz : wrap64 (-(c + 1)) = -(c + 1) := by unfold wrap64; omega
    have HR := hid (hr.trans hp)
    clear hr hp
    go_enter Try.func22, Try.ntmps22
    go_wp2
    go_ret
    refine ⟨congrArg (fun z => Ending.returned (.int .i64 z)) ?_, rfl⟩
    show -((c + 1).tmod n) = r
    rw [HR.out, ← Int.neg_tmod, Int.tmod_eq_emod_of_nonneg (by omega)]
  · obtain ⟨r, hr⟩ : ∃ r, r = pickI c n := ⟨_, rfl⟩
    rw [← hr]
    have hp : pickI c n = c % n := by unfold pickI; rw [if_neg h]
    have HR := hid (hr.trans hp)
    have h0 : 0 ≤ c := by omega
    clear hr hp
    go_enter Try.func22, Try.ntmps22
    go_wp2
    go_ret
    refine ⟨congrArg (fun z => Ending.returned (.int .i64 z)) ?_, rfl⟩
    show c % n = r
    rw [HR.out]
def four : Nat → ByteArray
  | 0 => ⟨#[97]⟩
  | 1 => ⟨#[98]⟩
  | 2 => ⟨#[99]⟩
  | _ => ⟨#[108, 111, 110, 103, 45, 110, 97, 109, 101, 126]⟩
theorem four_at (w : World) (v : Int) (hv : v = 0 ∨ v = 1 ∨ v = 2 ∨ v = 3) :
    (Instr.index 79 (.agg #[.string ⟨#[97]⟩, .string ⟨#[98]⟩, .string ⟨#[99]⟩, .string ⟨#[108, 111, 110, 103, 45, 110, 97, 109, 101, 126]⟩]) (.int .i64 v)).run Try.prog w = .ok (.string (four v.toNat)) w := by
  rcases hv with rfl | rfl | rfl | rfl <;> kernel_rfl
def namedI (s : ByteArray) (c : Int) : ByteArray := if c.tmod 5 = 0 then s else four (pickI c 4).toNat
set_option maxHeartbeats 1000000 in
set_option maxRecDepth 100000 in
theorem named_calls (s : ByteArray) (c : Int) (hc : (Lit.int .i64 c).wf = true) (w : World) :
    Calls Try.prog 21 #[.string s, .int .i64 c] w fun e w' => e = .returned (.string (namedI s c)) ∧ w' = w := by
  obtain ⟨r, hr⟩ : ∃ r, r = namedI s c := ⟨_, rfl⟩
  rw [← hr]
  by_cases h : c.tmod 5 = 0
  · have HR := hid (show r = s by rw [hr]; exact if_pos h)
    clear hr
    go_enter Try.func21, Try.ntmps21
    go_wp2
    go_ret
    exact ⟨congrArg (fun z => Ending.returned (.string z)) HR.out.symm, rfl⟩
  · have hp : namedI s c = four (pickI c 4).toNat := if_neg h
    have HP := hid (fun W => pick_calls c 4 hc (by omega) W)
    have hb := pick_bd c 4 (by omega)
    obtain ⟨v, hv⟩ : ∃ v, v = pickI c 4 := ⟨_, rfl⟩
    rw [← hv] at hp hb HP
    have HR := hid (hr.trans hp)
    clear hr hp hv hc
    have hx := fun w => four_at w v (by omega)
    obtain ⟨t, ht⟩ : ∃ t, t = four v.toNat := ⟨_, rfl⟩
    rw [← ht] at hx HR
    clear hb ht
    go_enter Try.func21, Try.ntmps21
    go_wp2_with (go_at_call 22; refine (HP.out _).mono ?_; rintro e w_ ⟨rfl, rfl⟩)
    go_ret
    exact ⟨congrArg (fun z => Ending.returned (.string z)) HR.out.symm, rfl⟩
structure Dsk (w0 wr : World) (N B : Nat) (D : Dk) : Prop where
  at_ : DkAt wr D
  good : Good N B D
  below : Below w0.heap.size w0 wr
  own : ∀ j ∈ D.own, w0.heap.size ≤ j
  cut : D.cut < 0
  off : D.off = false
section
variable {w0 w w' : World} {N B L : Nat} {D D' : Dk} {T : ByteArray → Prop}
theorem Dsk.dead (h : Dsk w0 w N B D) : D.dead = false := live_of h.cut h.off
theorem Dsk.step (h : Dsk w0 w N B D) (g : Goes w w' D D') (s : Stp T L D D') : Dsk w0 w' (N + 2) (B + L) D' :=
  ⟨g.at_, s.good h.good, h.below.trans (g.fr.below h.below.size h.own), fun j hj => (g.own j hj).elim (h.own j) (fun e => Nat.le_trans h.below.size e), (s.live h.cut h.off).1, (s.live h.cut h.off).2⟩
theorem Dsk.new (h : Dsk w0 w N B D) (hb : Below w.heap.size w w') : Dsk w0 w' N B D :=
  ⟨h.at_.new (Fr.of_below hb []), h.good, h.below.trans (hb.mono h.below.size), h.own, h.cut, h.off⟩
theorem Dsk.mono (h : Dsk w0 w N B D) {N' B' : Nat} (hN : N ≤ N') (hB : B ≤ B') : Dsk w0 w N' B' D := ⟨h.at_, h.good.mono hN hB, h.below, h.own, h.cut, h.off⟩
theorem Dsk.to (h : Dsk w0 w N B D) (g : Goes w w' D D') (s : Stp T L D D') {N' B' : Nat} (hN : N + 2 ≤ N') (hB : B + L ≤ B') : Dsk w0 w' N' B' D' := (h.step g s).mono hN hB
theorem Dsk.row (h : Dsk w0 w N B D) {W : World} (f : Fr D.own w W) {a : Option Addr} {l : List Int} {cap : Nat} (hr : RowIs w0 a l cap) : RowIs W a l cap :=
  hr.keep (h.below.trans (f.below h.below.size h.own))
end
theorem new_dsk (w w0 : World) (hb : Below w0.heap.size w0 w) (room : Int) (hr : 0 ≤ room) :
    Calls Try.prog 8 #[.int .i64 room] w fun e w' => ∃ k : Nat, e = .returned (.tuple #[P (k + 3), .int .i64 0]) ∧ Dsk w0 w' 0 0 (newD k room) := by
  refine (new_calls room hr w).mono ?_
  rintro e w' ⟨rfl, hd, hb2⟩
  refine ⟨_, rfl, hd, Good.fresh _ _ _ _ hr, hb.trans (hb2.mono hb.size), fun j hj => ?_, by show (-1 : Int) < 0; omega, rfl⟩
  have := hb.size
  simp only [newD, Dk.own, List.mem_cons, Value.ownBlock] at hj
  simp at hj
  omega
end Go.Proofs.Ytgcenkmekpaapaa.L
